import Derived.Test.YtiknkhbngadaeaaGreatNStampPacketb
namespace Go.Vm
open Go Go.RowKit
abbrev wI (k:IntKind) (n:Int):Int:=IntKind.wrap k n
abbrev Xjp (k:IntKind) (a b:Int):Int:=IntKind.wrap k (BitVec.ofInt k.bits a &&& BitVec.ofInt k.bits b).toNat
abbrev XsB (k:IntKind) (a b:Int):Int:=IntKind.wrap k (BitVec.ofInt k.bits a ||| BitVec.ofInt k.bits b).toNat
abbrev XiD (k:IntKind) (a b:Int):Int:=IntKind.wrap k (BitVec.ofInt k.bits a &&& ~~~ BitVec.ofInt k.bits b).toNat
def XaE {α:Type} (b:Bool) (x:Option α):Option α:=match b with|true=>x|false=>none
theorem XaE.elim {α:Type} {b:Bool} {x:Option α} {r:α} (h:XaE b x=some r):b=true∧x=some r:=by cases b;cases h;exact ⟨rfl,h⟩
theorem XaE.mk {α:Type} {b:Bool} {x:Option α} (h:b=true):XaE b x=x:=by subst h;rfl
theorem Xai.elim {α β:Type} {x:Option α} {F:α→Option β} {r:β} (h:x.bind F=some r):∃ a,x=some a∧F a=some r:=by cases x with|none=>cases h|some a=>exact ⟨a,rfl,h⟩
def FUEL:Nat:=2^64
def iter {σ ρ:Type} (f:σ→Option (Sum σ ρ)):Nat→σ→Option ρ
 | 0,_=>none
 | n+1,s=>match f s with
   | none=>none
   | some (.inl s')=>iter f n s'
   | some (.inr r)=>some r
theorem XbY {σ ρ:Type} {P:Program} {f base:Nat} {R:Value→Hp→Nat→Prop} {step:σ→Option (Sum σ ρ)} {head:σ→VM} {C:ρ→Prop}
 (h:∀ s o,step s=some o→Sum.elim (fun s'=>XaK P f base (head s') R) C o→XaK P f base (head s) R) :
 ∀ n s r,iter step n s=some r→C r→XaK P f base (head s) R
 | 0,_,_,e,_=>by cases e
 | n+1,s,r,e,hc=>by
   rw [iter] at e
   split at e
   ·cases e
   ·rename_i s' hs
    exact h s _ hs (XbY h n s' r e hc)
   ·rename_i r' hs
    cases e
    exact h s _ hs hc
def vI (k:IntKind) (xs:List Int):List Value:=xs.map (Value.int k)
def vB (xs:List Bool):List Value:=xs.map Value.bool
def vS (xs:List (List UInt8)):List Value:=xs.map fun s=>Value.string ⟨⟨s⟩⟩
def bI (l:List UInt8):List Int:=l.map fun b=>(b.toNat:Int)
def iB (xs:List Int):List UInt8:=xs.map fun n=>UInt8.ofNat n.toNat
@[simp] theorem vI_len (k:IntKind) (xs:List Int):(vI k xs).length=xs.length:=List.length_map _
@[simp] theorem vB_len (xs:List Bool):(vB xs).length=xs.length:=List.length_map _
@[simp] theorem vS_len (xs:List (List UInt8)):(vS xs).length=xs.length:=List.length_map _
@[simp] theorem bI_len (l:List UInt8):(bI l).length=l.length:=List.length_map _
@[simp] theorem iB_len (l:List Int):(iB l).length=l.length:=List.length_map _
theorem Xhu (k:IntKind) (xs:List Int):Xbt.flatL (vI k xs)=true:=XkO (fun _=>rfl) xs
theorem Xoo (xs:List Bool):Xbt.flatL (vB xs)=true:=XkO (fun _=>rfl) xs
theorem Xoz (xs:List (List UInt8)):Xbt.flatL (vS xs)=true:=XkO (fun _=>rfl) xs
theorem XhN (k:IntKind):∀ (xs:List Int),(vI k xs).all Xf8=true
 | []=>rfl
 | _::xs=>by simp only [vI,List.map_cons,List.all_cons,Xf8,Bool.true_and];exact XhN k xs
theorem XkR:∀ (xs:List Bool),(vB xs).all Xf8=true
 | []=>rfl
 | _::xs=>by simp only [vB,List.map_cons,List.all_cons,Xf8,Bool.true_and];exact XkR xs
theorem Xkg:∀ (xs:List (List UInt8)),(vS xs).all Xf8=true
 | []=>rfl
 | _::xs=>by simp only [vS,List.map_cons,List.all_cons,Xf8,Bool.true_and];exact Xkg xs
theorem XfR (l:List UInt8):ofBytes l=vI .u8 (bI l):=by simp [ofBytes,vI,bI,List.map_map]
theorem Xlk:∀ (xs:List Int),XeI (vI .u8 xs)=some (iB xs)
 | []=>rfl
 | x::xs=>by simp only [vI,List.map_cons,XeI];rw [show XeI (xs.map (Value.int .u8))=_ from Xlk xs];rfl
theorem XHz (k:IntKind) (xs:List Int) (i:Nat) (x:Int):(vI k xs).set i (.int k x)=vI k (xs.set i x):=by simp [vI,List.map_set]
theorem Xls (k:IntKind) (xs:List Int) (n:Nat):(vI k xs).drop n=vI k (xs.drop n):=by simp [vI,List.map_drop]
theorem Xlz (k:IntKind) (xs:List Int) (n:Nat):(vI k xs).take n=vI k (xs.take n):=by simp [vI,List.map_take]
theorem Xoe (xs:List (List UInt8)) (n:Nat):(vS xs).drop n=vS (xs.drop n):=by simp [vS,List.map_drop]
theorem Xop (xs:List (List UInt8)) (n:Nat):(vS xs).take n=vS (xs.take n):=by simp [vS,List.map_take]
theorem XAb (k:IntKind) (xs ys:List Int):vI k xs++vI k ys=vI k (xs++ys):=by simp [vI]
theorem br.h {α:Type} {b b':Bool} {X Y:Option α} {r:α} {p q:Prop} (h:cond b' X Y=some r) (e:b=b') (k1:b'=true→X=some r→p) (k2:b'=false→Y=some r→q):br b p q:=by
 subst e;cases b;exact k2 rfl h;exact k1 rfl h
theorem rd.I {k:IntKind} {xs:List Int} {o i:Nat} {x:Int} {K:Value→Prop} (hx:xs[i]?=some x) (e:o=i) (h:Xgt (.int k x) K):rd (vI k xs) o K:=by
 subst e;exact rd.intro (v:=.int k x) (by simp [vI,hx]) h
theorem rd.B {xs:List Bool} {o i:Nat} {x:Bool} {K:Value→Prop} (hx:xs[i]?=some x) (e:o=i) (h:Xgt (.bool x) K):rd (vB xs) o K:=by
 subst e;exact rd.intro (v:=.bool x) (by simp [vB,hx]) h
theorem rd.S {xs:List (List UInt8)} {o i:Nat} {x:List UInt8} {K:Value→Prop} (hx:xs[i]?=some x) (e:o=i) (h:Xgt (.string ⟨⟨x⟩⟩) K):rd (vS xs) o K:=by
 subst e;exact rd.intro (v:=.string ⟨⟨x⟩⟩) (by simp [vS,hx]) h
theorem XDl {k:IntKind} {xs:List Int} {o i:Nat} {x:Int} (hb:decide (i<xs.length)=true) (e:o=i):(decide ((XaP (.int k x)).length=1∧o+1≤(vI k xs).length)&&(XaP (.int k x)).all Xf8)=true:=by
 subst e;have:=of_decide_eq_true hb;simp [XaP,Value.cells,Xf8];omega
theorem XH0 {k:IntKind} {xs:List Int} {o i:Nat} {x:Int} {K:List Value→Prop} (e:o=i) (h:K (vI k (xs.set i x))):∃ cs',setAt (vI k xs) o (XaP (.int k x))=cs'∧K cs':=
 ⟨_,by subst e;exact XHz k xs o x,h⟩
theorem XKj {k:IntKind} {n:Nat} {z:Int} {K:List Value→Prop} (h:K (vI k (List.replicate n z))):∃ cs',(List.replicate n [Value.int k z]).flatten=cs'∧K cs':=
 ⟨_,by simp [vI,List.flatten_replicate_singleton],h⟩
theorem XLy {l:List UInt8} {K:List Value→Prop} (h:K (vI .u8 (bI l))):∃ cs',ofBytes l=cs'∧K cs':=⟨_,XfR l,h⟩
theorem XKN {xs:List Int} {o n:Nat} {K:List UInt8→Prop} (h:K (iB ((xs.drop o).take n))):∃ bs,XeI (((vI .u8 xs).drop o).take n)=some bs∧K bs:=
 ⟨_,by rw [Xls,Xlz];exact Xlk _,h⟩
theorem XCI {l:List Value} {bs:List UInt8} {K:List UInt8→Prop} (e:XeI l=some bs) (h:K bs):∃ bs,XeI l=some bs∧K bs:=⟨_,e,h⟩
theorem XCy {k:IntKind} {new:List Value} {m:Nat} {ys:List Int} {K:List Value→Nat→Prop} (e:new=vI k ys) (em:m=ys.length) (h:K (vI k ys) ys.length):∃ cs' n',new=cs'∧m=n'∧K cs' n':=⟨_,_,e,em,h⟩
theorem XIb {k:IntKind} {new:List Value} {xs:List Int} {o c n m:Nat} {ys:List Int} {K:List Value→Nat→Prop} (e:new=vI k ys) (h0:o=0) (hc:c=xs.length) (hn:n+m=(xs++ys).length) (h:K (vI k (xs++ys)) (xs++ys).length) :
 ∃ cs' n',((vI k xs).drop o).take c++new=cs'∧n+m=n'∧K cs' n':=
 ⟨_,_,by subst h0;rw [List.drop_zero,List.take_of_length_le (by simp [hc]),e,XAb],hn,h⟩
def vT {α:Type} (f:α→List Value) (xs:List α):List Value:=xs.flatMap f
section
variable {α:Type} {f:α→List Value} {c:Nat}
theorem XfL (hf:∀ x,(f x).length=c) (xs:List α):(vT f xs).length=xs.length*c:=by
 induction xs with
 | nil=>simp [vT]
 | cons x xs ih=>
   have:vT f (x::xs)=f x++vT f xs:=rfl
   rw [this,List.length_append,hf,ih,List.length_cons,Nat.succ_mul];omega
theorem Xmp (hf:∀ x,Xbt.flatL (f x)=true) (xs:List α):Xbt.flatL (vT f xs)=true:=by
 have app:∀ a b:List Value,Xbt.flatL a=true→Xbt.flatL b=true→Xbt.flatL (a++b)=true:=by
  intro a b ha hb
  induction a with
  | nil=>exact hb
  | cons v a ih=>simp only [Xbt.flatL,Bool.and_eq_true,List.cons_append] at ha ⊢;exact ⟨ha.1,ih ha.2⟩
 induction xs with
 | nil=>rfl
 | cons x xs ih=>exact app _ _ (hf x) ih
theorem XlD (hf:∀ x,(f x).all Xf8=true) (xs:List α):(vT f xs).all Xf8=true:=by
 induction xs with
 | nil=>rfl
 | cons x xs ih=>have:vT f (x::xs)=f x++vT f xs:=rfl;rw [this,List.all_append,hf,ih];rfl
theorem XI4 (xs ys:List α):vT f xs++vT f ys=vT f (xs++ys):=by simp [vT]
theorem Xeo (hf:∀ x,(f x).length=c) (xs:List α) (n:Nat):(vT f xs).drop (n*c)=vT f (xs.drop n):=by
 induction xs generalizing n with
 | nil=>simp [vT]
 | cons x xs ih=>
   cases n with
   | zero=>simp
   | succ n=>
     have:vT f (x::xs)=f x++vT f xs:=rfl
     rw [this,List.drop_succ_cons,Nat.succ_mul,Nat.add_comm,List.drop_append,hf,List.drop_eq_nil_of_le (by rw [hf];omega),List.nil_append,show c+n*c - c=n*c by omega,ih]
theorem Xem (hf:∀ x,(f x).length=c) (xs:List α) (n:Nat):(vT f xs).take (n*c)=vT f (xs.take n):=by
 induction xs generalizing n with
 | nil=>simp [vT]
 | cons x xs ih=>
   cases n with
   | zero=>simp [vT]
   | succ n=>
     have:vT f (x::xs)=f x++vT f xs:=rfl
     have h2:vT f ((x::xs).take (n+1))=f x++vT f (xs.take n):=rfl
     rw [this,h2,Nat.succ_mul,Nat.add_comm,List.take_append,hf,List.take_of_length_le (by rw [hf];omega),show c+n*c - c=n*c by omega,ih]
theorem XJI (hf:∀ x,(f x).length=c) {xs:List α} {i j:Nat} {x:α} (hx:xs[i]?=some x) (hj:j<c):(vT f xs)[i*c+j]?=(f x)[j]?:=by
 induction xs generalizing i with
 | nil=>simp at hx
 | cons y xs ih=>
   have:vT f (y::xs)=f y++vT f xs:=rfl
   rw [this]
   cases i with
   | zero=>
     simp at hx;subst hx
     rw [Nat.zero_mul,Nat.zero_add,List.getElem?_append_left (by rw [hf];exact hj)]
   | succ i=>
     rw [List.getElem?_append_right (by rw [hf,Nat.succ_mul];omega),hf,show (i+1)*c+j - c=i*c+j by rw [Nat.succ_mul];omega]
     exact ih (by simpa using hx)
theorem rd.T (hf:∀ x,(f x).length=c) {xs:List α} {o i j:Nat} {x:α} {v:Value} {K:Value→Prop} (hx:xs[i]?=some x) (e:o=i*c+j) (hj:j<c) (hv:(f x)[j]?=some v) (h:Xgt v K):rd (vT f xs) o K:=by
 subst e;exact rd.intro (by rw [XJI hf hx hj];exact hv) h
theorem Xzx (hf:∀ x,(f x).length=c) {new:List Value} {xs:List α} {o k n m:Nat} {ys:List α} {K:List Value→Nat→Prop} (e:new=vT f ys) (h0:o=0) (hc:k=xs.length*c) (hn:n+m=(xs++ys).length) (h:K (vT f (xs++ys)) (xs++ys).length) :
 ∃ cs' n',((vT f xs).drop o).take k++new=cs'∧n+m=n'∧K cs' n':=
 ⟨_,_,by subst h0;rw [List.drop_zero,List.take_of_length_le (by rw [XfL hf,hc];omega),e,XI4],hn,h⟩
end
theorem Xaw {s:Xbu} {vals aqs:List Value} {os:List (Option Xbj)} {h h1 h2:Hp} {top n m t':Nat} {ws:List Wd} {r:Xcw} {v':Value} (e1:Xcy h 0 s.modes vals=some (aqs,os)) (ew:Xiz h s.modes vals=ws) {cw:List (Option (List Value))} (ec:XaH os=cw) (e2:s.run aqs cw=some r) (e3:apartB ws=true)
 (hn:r.new.length=n) (hm:XjG ws=m) (ht:top+n+m=t') (e4:XcA h (Xtb top n ws) ws r.wr=some h1) (e5:Xhi h1 (Xtb top n ws) top r.new=some h2) (e6:Xdz (Xtb top n ws) r.v=some v'):XgC s vals h top=some (v',XhW h2 (top+n) m,t'):=by
 subst hn hm ht ec
 simp only [XgC,e1,e2,ew,e3,e4,e5,e6]
theorem Xbg {h:Hp} {k:Nat}:Xcy h k [] []=some ([],[]):=rfl
theorem Xau {h:Hp} {k k':Nat} {m:Md} {ms:List Md} {v a:Value} {vs aqs:List Value} {os os':List (Option Xbj)} (e:XcW h k m v=some (a,os)) (hk:k+os.length=k') (t:Xcy h k' ms vs=some (aqs,os')):Xcy h k (m::ms) (v::vs)=some (a::aqs,os++os'):=by
 subst hk
 simp only [Xcy,e,t]
theorem ra_sl {h:Hp} {k b o n m sz sz':Nat} {ob:Xbj} {cs cs':List Value} (ho:Xav h b=some ob) (hc:ob.cs=some cs) (hs:sz=sz') (en:n=m) (hle:o+n*sz≤cs.length) (e:(cs.drop o).take (n*sz)=cs') (hf:Xbt.flatL cs'=true) :
 XcW h k (.sl sz) (.slice (some ⟨b,o,none⟩) n sz')=some (.slice (some ⟨k,0,none⟩) m sz,[some (.row false cs')]):=by
 subst hs en e
 simp only [XcW,ho,hc,hle,hf,↓reduceIte]
theorem XpE {h:Hp} {b o n i m sz kk:Nat} {k:IntKind} {own:Bool} {xs:List Int} (ho:Xav h b=some (.row own (vI k xs))) (hs:sz=1) (e0:o=i) (en:n=m) (hle:i+m≤xs.length):XcW h kk (.sl 1) (.slice (some ⟨b,o,none⟩) n sz)=some (.slice (some ⟨kk,0,none⟩) m 1,[some (.row false (vI k ((xs.drop i).take m)))]):=by
 subst hs e0 en
 exact ra_sl ho rfl rfl rfl (by simp;omega) (by rw [Xls,Xlz,Nat.mul_one]) (Xhu _ _)
theorem XoJ {h:Hp} {b o n sz kk:Nat} {k:IntKind} {own:Bool} {xs:List Int} (ho:Xav h b=some (.row own (vI k xs))) (hs:sz=1) (e0:o=0) (en:n=xs.length):XcW h kk (.sl 1) (.slice (some ⟨b,o,none⟩) n sz)=some (.slice (some ⟨kk,0,none⟩) xs.length 1,[some (.row false (vI k xs))]):=by
 have:=XpE (kk:=kk) (i:=0) (m:=xs.length) ho hs e0 en (by omega)
 simpa using this
theorem XKu {h:Hp} {k:Nat} {ps:List Path} {bs:List PR} {v v' w:Value} {l:List (Option Xbj)} (e0:Xfi h v ps []=bs) (e1:Xdz (Xs6 k bs) v=some v') (e2:Xfu h (Xs6 k bs) (fun s=>Xj2 k s ps bs) 0 ps bs=some l) (e3:Xrh v' (Xj2 k none ps bs)=w):XcW h k (.tr ps) v=some (w,l):=by
 subst e0 e3
 simp only [XcW,e1,e2]
theorem XA0 {h:Hp} {s:Nat→Option Nat} {pat:Option Nat→List (Nat×Value)} {i:Nat}:Xfu h s pat i [] []=some []:=rfl
theorem XKC {h:Hp} {s:Nat→Option Nat} {pat:Option Nat→List (Nat×Value)} {i b:Nat} {p:Path} {ps:List Path} {bs:List PR} {l:List (Option Xbj)} {ob:Xbj} {cs cs' cs'':List Value} (e1:Xav h b=some ob) (e2:(cond (isW p.kind) ob.wcs ob.cs)=some cs) (e3:Xdz.renL s cs=some cs') (e4:Xm7 cs' (pat (some i))=cs'')
 (t:Xfu h s pat (i+1) ps bs=some l):Xfu h s pat i (p::ps) (.hit b::bs)=some (some (mkObj p.kind cs'')::l):=by
 subst e4
 simp only [Xfu,e1,e2,e3,t]
def skipW:Wd→Bool
 | .no|.emp _|.win _ _ _ false|.blk _ false=>true
 | _=>false
theorem Xbf {h:Hp} {s:Nat→Option Nat}:XcA h s [] []=some h:=rfl
theorem XnV {h h':Hp} {s:Nat→Option Nat} {x:Wd} {ws:List Wd} {c:Option (List Value)} {cs:List (Option (List Value))} (hx:skipW x=true) (t:XcA h s ws cs=some h'):XcA h s (x::ws) (c::cs)=some h':=by
 cases x with
 | win b o n w=>cases w<;>first|(simp only [XcA];exact t)|cases hx
 | blk b w=>cases w<;>first|(simp only [XcA];exact t)|cases hx
 | _=>simp only [XcA];exact t
theorem XbD {h h':Hp} {s:Nat→Option Nat} {b off n:Nat} {ws:List Wd} {c c' x y:List Value} {cs:List (Option (List Value))} {ob ob':Xbj} (e1:Xav h b=some ob) (e2:ob.wcs=some x) (e3:Xdz.renL s c=some c') (e4:c'.length=n∧off+n≤x.length) (e5:setAt x off c'=y) (e6:ob.wr y=some ob') (t:XcA (Xee h b ob') s ws cs=some h') :
 XcA h s (.win b off n true::ws) (some c::cs)=some h':=by
 subst e5
 simp only [XcA,e1,e2,e3,e6,if_pos e4];exact t
theorem XB0 {h h':Hp} {s:Nat→Option Nat} {b:Nat} {ws:List Wd} {c c' x:List Value} {cs:List (Option (List Value))} {ob ob':Xbj} (e1:Xav h b=some ob) (e2:ob.wcs=some x) (e3:Xdz.renL s c=some c') (e6:ob.wr c'=some ob') (t:XcA (Xee h b ob') s ws cs=some h') :
 XcA h s (.blk b true::ws) (some c::cs)=some h':=by
 simp only [XcA,e1,e2,e3,e6];exact t
theorem Xbc {h:Hp} {s:Nat→Option Nat} {top:Nat}:Xhi h s top []=some h:=rfl
theorem Xhw {h h':Hp} {s:Nat→Option Nat} {top:Nat} {c c':List Value} {cs:List (List Value)} (e:Xdz.renL s c=some c') (t:Xhi (Xee h top (.row true c')) s (top+1) cs=some h'):Xhi h s top (c::cs)=some h':=by
 simp only [Xhi,e];exact t
theorem rn_I {s:Nat→Option Nat} {k:IntKind} {xs:List Int}:Xdz.renL s (vI k xs)=some (vI k xs):=Xek _ _ (Xhu _ _)
theorem Xqm {s:Nat→Option Nat} {α:Type} {f:α→List Value} (hfl:∀ x,Xbt.flatL (f x)=true) {xs:List α}:Xdz.renL s (vT f xs)=some (vT f xs):=Xek _ _ (Xmp hfl _)
def XGq (n:Nat) (wr:List (Option (List Value))):List Nat→Prop
 | []=>True
 | j::js=>(n≤j∨wr[j]?=some none)∧XGq n wr js
theorem Xrj {n:Nat} {wr:List (Option (List Value))}:∀ {js:List Nat},XGq n wr js→∀ j∈js,n≤j∨wr[j]?=some none
 | [],_,j,h=>by cases h
 | k::js,h,j,hj=>by
   rcases List.mem_cons.1 hj with rfl|hj
   ·exact h.1
   ·exact Xrj h.2 j hj
theorem Res.of {n:Nat} {r:Xcw} {v':Value} {H':Hp} (js:List Nat) (e1:Xdz (Xse js n) r.v=some v') (e2:XqV H' (Xse js n) js r.new) (e3:js.Nodup) (e4:XGq n r.wr js) (e5:Xwz H' (Xse js n) 0 r.wr):Res n r v' H':=
 ⟨⟨js,e1,e2,e3,Xrj e4,e5⟩⟩
theorem Xix {H:Hp} {j:Nat} {c:List Value} (h:Xav H j=some (.row true c)):Has H j c:=.inl h
theorem XbW {H:Hp} {j:Nat} {c:List Value} (h:Xav H j=some (.cells c)):Has H j c:=.inr (.inl h)
abbrev Dec:=List Value→List (Option (List Value))→Option Xcw
def dV {α:Type} (un:Value→Option α) (K:α→Dec):Dec:=fun vs cs=>match vs with
 | v::vs'=>match un v with
   | some x=>K x vs' cs
   | none=>none
 | []=>none
theorem XaX {α:Type} {un:Value→Option α} {K:α→Dec} {v:Value} {vs:List Value} {cs:List (Option (List Value))} {x:α} (h:un v=some x):dV un K (v::vs) cs=K x vs cs:=by simp only [dV,h]
theorem dV.elim {α:Type} {un:Value→Option α} {K:α→Dec} {vs:List Value} {cs:List (Option (List Value))} {r:Xcw} (h:dV un K vs cs=some r):∃ v vs' x,vs=v::vs'∧un v=some x∧K x vs' cs=some r:=by
 unfold dV at h
 split at h<;>try (cases h;done)
 split at h<;>try (cases h;done)
 exact ⟨_,_,_,rfl,by assumption,h⟩
def dSl {α:Type} (k sz:Nat) (un:List Value→Option (List α)) (K:List α→Dec):Dec:=fun vs cs=>match vs,cs with
 | .slice (some ⟨k',0,none⟩) n sz'::vs',some c::cs'=>match un c with
   | some xs=>if k'=k∧sz'=sz∧n=xs.length then K xs vs' cs' else none
   | none=>none
 | _,_=>none
theorem Xtv {α:Type} {k sz:Nat} {un:List Value→Option (List α)} {K:List α→Dec} {vs:List Value} {c:List Value} {cs:List (Option (List Value))} {xs:List α} (h:un c=some xs):dSl k sz un K (.slice (some ⟨k,0,none⟩) xs.length sz::vs) (some c::cs)=K xs vs cs:=by simp [dSl,h]
theorem dSl.elim {α:Type} {k sz:Nat} {un:List Value→Option (List α)} {K:List α→Dec} {vs:List Value} {cs:List (Option (List Value))} {r:Xcw} (h:dSl k sz un K vs cs=some r):∃ c vs' cs' xs,vs=.slice (some ⟨k,0,none⟩) xs.length sz::vs'∧cs=some c::cs'∧un c=some xs∧K xs vs' cs'=some r:=by
 unfold dSl at h
 split at h<;>try (cases h;done)
 split at h<;>try (cases h;done)
 split at h<;>try (cases h;done)
 rename_i hc
 obtain ⟨rfl,rfl,rfl⟩:=hc
 exact ⟨_,_,_,_,rfl,rfl,by assumption,h⟩
def dTr {α:Type} (n:Nat) (un:Value→List (Option (List Value))→Option α) (K:α→Dec):Dec:=fun vs cs=>match vs with
 | v::vs'=>match un v (cs.take n) with
   | some x=>K x vs' (cs.drop n)
   | none=>none
 | []=>none
theorem XHm {α:Type} {n:Nat} {un:Value→List (Option (List Value))→Option α} {K:α→Dec} {v:Value} {vs:List Value} {cs cs1 cs2:List (Option (List Value))} {x:α} (h1:cs.take n=cs1) (h2:cs.drop n=cs2) (h:un v cs1=some x):dTr n un K (v::vs) cs=K x vs cs2:=by
 subst h1 h2;simp only [dTr,h]
theorem dTr.elim {α:Type} {n:Nat} {un:Value→List (Option (List Value))→Option α} {K:α→Dec} {vs:List Value} {cs:List (Option (List Value))} {r:Xcw} (h:dTr n un K vs cs=some r):∃ v vs' cs1 cs2 x,vs=v::vs'∧cs=cs1++cs2∧un v cs1=some x∧K x vs' cs2=some r:=by
 unfold dTr at h
 split at h<;>try (cases h;done)
 split at h<;>try (cases h;done)
 exact ⟨_,_,_,_,_,rfl,(List.take_append_drop n cs).symm,by assumption,h⟩
def dPt {α:Type} (k:Nat) (un:List Value→Option α) (K:α→Dec):Dec:=fun vs cs=>match vs,cs with
 | .pointer (some ⟨k',0,none⟩)::vs',some c::cs'=>match un c with
   | some x=>if k'=k then K x vs' cs' else none
   | none=>none
 | _,_=>none
theorem Xkt {α:Type} {k:Nat} {un:List Value→Option α} {K:α→Dec} {vs:List Value} {c:List Value} {cs:List (Option (List Value))} {x:α} (h:un c=some x):dPt k un K (.pointer (some ⟨k,0,none⟩)::vs) (some c::cs)=K x vs cs:=by simp [dPt,h]
theorem dPt.elim {α:Type} {k:Nat} {un:List Value→Option α} {K:α→Dec} {vs:List Value} {cs:List (Option (List Value))} {r:Xcw} (h:dPt k un K vs cs=some r):∃ c vs' cs' x,vs=.pointer (some ⟨k,0,none⟩)::vs'∧cs=some c::cs'∧un c=some x∧K x vs' cs'=some r:=by
 unfold dPt at h
 split at h<;>try (cases h;done)
 split at h<;>try (cases h;done)
 split at h<;>try (cases h;done)
 rename_i hc
 subst hc
 exact ⟨_,_,_,_,rfl,rfl,by assumption,h⟩
def dNo:Nat→Dec→Dec
 | 0,K=>K
 | n+1,K=>fun vs cs=>match cs with
   | none::cs'=>dNo n K vs cs'
   | _=>none
theorem dNo.elim {K:Dec} {vs:List Value} {r:Xcw}:∀ {n:Nat} {cs:List (Option (List Value))},dNo n K vs cs=some r→∃ cs',cs=List.replicate n none++cs'∧K vs cs'=some r
 | 0,cs,h=>⟨cs,rfl,h⟩
 | n+1,cs,h=>by
   simp only [dNo] at h
   split at h<;>try (cases h;done)
   obtain ⟨cs',rfl,h2⟩:=dNo.elim h
   exact ⟨cs',rfl,h2⟩
def dNl (n:Nat) (K:Dec):Dec:=fun vs cs=>match vs with
 | .pointer none::vs'=>dNo n K vs' cs
 | _=>none
theorem dNl.elim {n:Nat} {K:Dec} {vs:List Value} {cs:List (Option (List Value))} {r:Xcw} (h:dNl n K vs cs=some r):∃ vs' cs',vs=.pointer none::vs'∧cs=List.replicate n none++cs'∧K vs' cs'=some r:=by
 unfold dNl at h
 split at h<;>try (cases h;done)
 obtain ⟨cs',rfl,h2⟩:=dNo.elim h
 exact ⟨_,cs',rfl,rfl,h2⟩
def Xdd (r:Option Xcw):Dec:=fun vs cs=>match vs,cs with
 | [],[]=>r
 | _,_=>none
theorem Xdd.elim {o:Option Xcw} {vs:List Value} {cs:List (Option (List Value))} {r:Xcw} (h:Xdd o vs cs=some r):vs=[]∧cs=[]∧o=some r:=by
 unfold Xdd at h
 split at h<;>try (cases h;done)
 exact ⟨rfl,rfl,h⟩
def orD (a b:Dec):Dec:=fun vs cs=>match a vs cs with
 | some r=>some r
 | none=>b vs cs
theorem orD.elim {a b:Dec} {vs:List Value} {cs:List (Option (List Value))} {r:Xcw} (h:orD a b vs cs=some r):a vs cs=some r∨b vs cs=some r:=by
 unfold orD at h
 split at h
 ·cases h;left;assumption
 ·exact .inr h
def ofG {α:Type} (o:Option α) (f:α→Xcw):Option Xcw:=match o with
 | some x=>some (f x)
 | none=>none
theorem Xa3 {α:Type} {o:Option α} {f:α→Xcw} {x:α} (h:o=some x):ofG o f=some (f x):=by subst h;rfl
theorem ofG.elim {α:Type} {o:Option α} {f:α→Xcw} {r:Xcw} (h:ofG o f=some r):∃ x,o=some x∧f x=r:=by
 cases o with
 | none=>cases h
 | some x=>exact ⟨x,rfl,by cases h;rfl⟩
def asS:Value→Option (List UInt8)|.string s=>some s.data.toList|_=>none
theorem XbM (v:Value) (x:List UInt8) (h:asS v=some x):v=.string ⟨⟨x⟩⟩:=by cases v<;>simp [asS] at h;subst h;rfl
theorem Xtf (k:IntKind) (xs:List Int):unL (asI k) (vI k xs)=some xs:=Xul (fun x=>by simp [asI]) xs
theorem Xwg {k:IntKind} {cs:List Value} {xs:List Int} (h:unL (asI k) cs=some xs):cs=vI k xs:=XzT (XbF k) h
end Go.Vm
namespace Go.Vm
open Go Go.RowKit
end Go.Vm
namespace Go.Vm
open Go Go.RowKit
theorem st_I {k:IntKind} {xs:List Int} {o i:Nat} {x:Int} {K:List Value→Prop} (hb:decide (i<xs.length)=true) (e:o=i) (h:K (vI k (xs.set i x))) :
 req (decide ((XaP (.int k x)).length=1∧o+1≤(vI k xs).length)&&(XaP (.int k x)).all Xf8) (∃ cs',setAt (vI k xs) o (XaP (.int k x))=cs'∧K cs'):=req.intro (XDl hb e) (XH0 e h)
end Go.Vm
namespace Go.Vm
theorem br.h2 {α:Type} {b b':Bool} {X Y:Option α} {r:α} {p q:Prop} (h:cond b' X Y=some r) (e:b=b') (k2:b'=false→Y=some r→q) (k1:b'=true→X=some r→p):br b p q:=br.h h e k1 k2
end Go.Vm
namespace Go.Vm
open Go Go.RowKit
theorem VR.ofNil {ρ:Ren} {s:Nat} {rv:Value} (h:VR ρ (.slice none 0 s) rv) (j sz:Nat):VR ρ (.slice (some ⟨j,0,none⟩) 0 sz) rv:=by
 cases h;exact .slice0 none
theorem XaK.nilT {P:Program} {f base fn nt s:Nat} {e:Env} {todo:List Xd7} {ds:List Nat} {ret:Bool} {rd:Option Nat} {up:List Xbh} {H:Hp} {top:Nat} {R:Value→Hp→Nat→Prop} (t sz:Nat)
 (h:XaK P f base ⟨⟨fn,nt,Xee e t (.slice (some ⟨top,0,none⟩) 0 sz),todo,ds,ret,rd⟩,up,Xee H top (.row true []),top+1⟩ R) (he:Xav e t=some (.slice none 0 s):=by rfl) :
 XaK P f base ⟨⟨fn,nt,e,todo,ds,ret,rd⟩,up,H,top⟩ R:=by
 refine ⟨fun w0 U ρ rf rfs w cs hr=>?_⟩
 have hx:=Ext.upd (l:=⟨0,0,0⟩) hr.heap.XlQ
 have hcur:FrR P (upd ρ top ⟨0,0,0⟩) ⟨fn,nt,Xee e t (.slice (some ⟨top,0,none⟩) 0 sz),todo,ds,ret,rd⟩ rf:=
  { hr.cur.mono hx with
    env:=fun i v hv=>by
     rw [XaT] at hv
     split at hv
     ·rename_i hi;subst hi;cases hv
      obtain ⟨v',a,b⟩:=hr.cur.env t _ he
      exact ⟨v',a,(VR.ofNil b _ _).mono hx⟩
     ·exact (hr.cur.env.mono hx) i v hv }
 obtain ⟨ρ',rv,fr',w',v,H',top',h1,h2,h3,h4,h5,h6,h7⟩:=h.get w0 U _ rf rfs w cs ⟨hcur,hr.up.mono (fun _ _ x=>x.mono hx),XhZ hr.heap⟩
 exact ⟨ρ',rv,fr',w',v,H',top',h1,h2,h3,h4,h5,fun i l hi hl=>h6 i l hi (hx _ _ hl),h7⟩
theorem XaK.nilC {P:Program} {f base s:Nat} {fr:Xbh} {up:List Xbh} {H:Hp} {top:Nat} {R:Value→Hp→Nat→Prop} (b i sz:Nat) {cs:List Value}
 (h:XaK P f base ⟨fr,up,Xee (Xee H b (.cells (cs.set i (.slice (some ⟨top,0,none⟩) 0 sz)))) top (.row true []),top+1⟩ R) (hb:Xav H b=some (.cells cs):=by rfl) (hi:cs[i]?=some (.slice none 0 s):=by rfl) :
 XaK P f base ⟨fr,up,H,top⟩ R:=by
 refine ⟨fun w0 U ρ rf rfs w cs' hr=>?_⟩
 have hx:=Ext.upd (l:=⟨0,0,0⟩) hr.heap.XlQ
 have hp:HpR P w0 (.of U) ρ (Xee H b (.cells (cs.set i (.slice (some ⟨top,0,none⟩) 0 sz)))) top w:=
  { hr.heap with
    obj:=fun j o ho=>by
     rw [XaT] at ho
     split at ho
     ·rename_i hj;subst hj;cases ho
      obtain ⟨l,hl,hc,hw⟩:=hr.heap.obj b _ hb
      refine ⟨l,hl,?_,fun _=>hw rfl⟩
      obtain ⟨g1,g2,g3⟩:=(hc:Xa4 ρ w l true cs)
      refine ⟨by simpa using g1,fun k v hv=>?_,g3⟩
      rw [List.getElem?_set] at hv
      split at hv
      ·rename_i hk;subst hk
       split at hv
       ·cases hv
        obtain ⟨v',a,b'⟩:=g2 i _ hi
        exact ⟨v',a,VR.ofNil b' _ _⟩
       ·cases hv
      ·exact g2 k v hv
     ·exact hr.heap.obj j o ho
    dis:=fun j k oj ok lj lk hjk hj hk hlj hlk hw=>by
     have key:∀ j o,Xav (Xee H b (.cells (cs.set i (.slice (some ⟨top,0,none⟩) 0 sz)))) j=some o→∃ o',Xav H j=some o'∧(writable o=true→writable o'=true):=fun j o ho=>by
      rw [XaT] at ho
      split at ho
      ·rename_i hj;subst hj;exact ⟨_,hb,fun _=>rfl⟩
      ·exact ⟨o,ho,id⟩
     obtain ⟨oj',a1,a2⟩:=key j oj hj
     obtain ⟨ok',b1,_⟩:=key k ok hk
     exact hr.heap.dis j k oj' ok' lj lk hjk a1 b1 hlj hlk (a2 hw) }
 obtain ⟨ρ',rv,fr',w',v,H',top',h1,h2,h3,h4,h5,h6,h7⟩:=h.get w0 U _ rf rfs w cs' ⟨hr.cur.mono hx,hr.up.mono (fun _ _ x=>x.mono hx),XhZ hp⟩
 exact ⟨ρ',rv,fr',w',v,H',top',h1,h2,h3,h4,h5,fun i l hi hl=>h6 i l hi (hx _ _ hl),h7⟩
mutual
inductive Nv (j:Nat):Value→Value→Prop
 | same (v):Nv j v v
 | nil (s sz):Nv j (.slice none 0 s) (.slice (some ⟨j,0,none⟩) 0 sz)
 | tup {a b:List Value} (h:NvL j a b):Nv j (.tuple ⟨a⟩) (.tuple ⟨b⟩)
 | agg {a b:List Value} (h:NvL j a b):Nv j (.agg ⟨a⟩) (.agg ⟨b⟩)
inductive NvL (j:Nat):List Value→List Value→Prop
 | nil:NvL j [] []
 | cons {v v':Value} {l l':List Value} (h:Nv j v v') (t:NvL j l l'):NvL j (v::l) (v'::l')
end
mutual
theorem Nv.vr {j:Nat} {ρ:Ren}:∀ {v v':Value},Nv j v v'→∀ {rv:Value},VR ρ v rv→VR ρ v' rv
 | _,_,.same v,_,h=>h
 | _,_,.nil s sz,_,h=>VR.ofNil h _ _
 | _,_,.tup hl,_,h=>by cases h with|tuple ht=>exact .tuple (NvL.vr hl ht)
 | _,_,.agg hl,_,h=>by cases h with|agg ht=>exact .agg (NvL.vr hl ht)
theorem NvL.vr {j:Nat} {ρ:Ren}:∀ {l l':List Value},NvL j l l'→∀ {rl:List Value},VRL ρ l rl→VRL ρ l' rl
 | _,_,.nil,_,h=>h
 | _,_,.cons hv ht,_,h=>by cases h with|cons a b=>exact .cons (Nv.vr hv a) (NvL.vr ht b)
end
end Go.Vm
namespace Go.Vm
theorem Xvt {A B C D:Prop} [Decidable (A∧B∧C∧D)] {p q:Bool} (a:A) (b:B) (c:C) (d:D) (e:p=true) (g:q=true):(decide (A∧B∧C∧D)&&p&&q)=true:=by
 rw [decide_eq_true ⟨a,b,c,d⟩,e,g];rfl
end Go.Vm
namespace Go.Vm
open Go Go.RowKit
def Xql (o:Xbj) (K:Xbj→Prop):Prop:=
 match o with
 | .cells cs=>XlH cs fun cs=>K (.cells cs)
 | .row own cs=>XlH cs fun cs=>K (.row own cs)
 | .ty t cs=>K (.ty t cs)
 | .siter s p=>K (.siter s p)
 | .loop l=>K (.loop l)
 | .marks=>K .marks
theorem XsP (o:Xbj) (K:Xbj→Prop):Xql o K=K o:=by
 cases o<;>simp only [Xql,XiS]
def Xj5 (bs:List Nat) (h:Hp) (K:Hp→Prop):Prop:=
 match h with
 | []=>K []
 | (i,o)::l=>cond (XzA i bs) (Xql o fun o=>Xj5 bs l fun l=>K ((i,o)::l)) (Xvm o fun o=>Xj5 bs l fun l=>K ((i,o)::l))
theorem Xlv (bs:List Nat):∀ (h:Hp) (K:Hp→Prop),Xj5 bs h K=K h
 | [],K=>rfl
 | (i,o)::l,K=>by
   rw [Xj5]
   cases XzA i bs
   ·rw [cond_false,Xpk,Xlv bs l]
   ·rw [cond_true,XsP,Xlv bs l]
theorem XaJ.Xbe {s:Xbu} {vals:List Value} {h:Hp} {top:Nat} {K:Value→Hp→Nat→Prop} {v:Value} {h':Hp} {top':Nat} (bs:List Nat) (e:XgC s vals h top=some (v,h',top')) (k:Xgt v fun v=>Xj5 bs h' fun h'=>K v h' top'):XaJ s vals h top K:=
 XaJ.intro e (by simpa only [XfG,Xlv] using k)
end Go.Vm
namespace Go.Vm
open Go Go.RowKit
inductive Xs4:Value→Hp→Nat→Value→Hp→Nat→Prop
 | refl (v:Value) (H:Hp) (t:Nat):Xs4 v H t v H t
 | val {v v' v2:Value} {H H2:Hp} {t t2:Nat} (h:Nv t v v') (k:Xs4 v' (Xee H t (.row true [])) (t+1) v2 H2 t2):Xs4 v H t v2 H2 t2
 | cell {v v2:Value} {H H2:Hp} {t t2 s:Nat} (b i sz:Nat) {cs:List Value} (hb:Xav H b=some (.cells cs)) (hi:cs[i]?=some (.slice none 0 s)) (k:Xs4 v (Xee (Xee H b (.cells (cs.set i (.slice (some ⟨t,0,none⟩) 0 sz)))) t (.row true [])) (t+1) v2 H2 t2):Xs4 v H t v2 H2 t2
theorem XFJ {P:Program} {w0:World} {U:UG} {ρ:Ren} {H:Hp} {top s:Nat} {w:World} (h:HpR P w0 U ρ H top w) {b i:Nat} (sz:Nat) {cs:List Value} (hb:Xav H b=some (.cells cs)) (hi:cs[i]?=some (.slice none 0 s)):HpR P w0 U ρ (Xee H b (.cells (cs.set i (.slice (some ⟨top,0,none⟩) 0 sz)))) top w:=
 { h with
   obj:=fun j o ho=>by
    rw [XaT] at ho
    split at ho
    ·rename_i hj;subst hj;cases ho
     obtain ⟨l,hl,hc,hw⟩:=h.obj b _ hb
     refine ⟨l,hl,?_,fun _=>hw rfl⟩
     obtain ⟨g1,g2,g3⟩:=(hc:Xa4 ρ w l true cs)
     refine ⟨by simpa using g1,fun k v hv=>?_,g3⟩
     rw [List.getElem?_set] at hv
     split at hv
     ·rename_i hk;subst hk
      split at hv
      ·cases hv
       obtain ⟨v',a,b'⟩:=g2 i _ hi
       exact ⟨v',a,VR.ofNil b' _ _⟩
      ·cases hv
     ·exact g2 k v hv
    ·exact h.obj j o ho
   dis:=fun j k oj ok lj lk hjk hj hk hlj hlk hw=>by
    have key:∀ j o,Xav (Xee H b (.cells (cs.set i (.slice (some ⟨top,0,none⟩) 0 sz)))) j=some o→∃ o',Xav H j=some o'∧(writable o=true→writable o'=true):=fun j o ho=>by
     rw [XaT] at ho
     split at ho
     ·rename_i hj;subst hj;exact ⟨_,hb,fun _=>rfl⟩
     ·exact ⟨o,ho,id⟩
    obtain ⟨oj',a1,a2⟩:=key j oj hj
    obtain ⟨ok',b1,_⟩:=key k ok hk
    exact h.dis j k oj' ok' lj lk hjk a1 b1 hlj hlk (a2 hw) }
theorem Xs4.ok {P:Program} {w0:World} {U:Nat→Nat→Prop} {v v2 rv:Value} {H H2:Hp} {t t2:Nat} (k:Xs4 v H t v2 H2 t2):∀ {ρ:Ren} {w:World},VR ρ v rv→HpR P w0 (.of U) ρ H t w→∃ ρ',Ext ρ ρ'∧VR ρ' v2 rv∧HpR P w0 (.of U) ρ' H2 t2 w:=by
 induction k with
 | refl=>intro ρ w h1 h2;exact ⟨ρ,Ext.refl ρ,h1,h2⟩
 | val h k ih=>
   intro ρ w h1 h2
   have hx:=Ext.upd (l:=⟨0,0,0⟩) h2.XlQ
   obtain ⟨ρ',e1,e2,e3⟩:=ih ((h.vr h1).mono hx) (XhZ h2)
   exact ⟨ρ',hx.trans e1,e2,e3⟩
 | cell b i sz hb hi k ih=>
   intro ρ w h1 h2
   have hx:=Ext.upd (l:=⟨0,0,0⟩) h2.XlQ
   obtain ⟨ρ',e1,e2,e3⟩:=ih (h1.mono hx) (XhZ (XFJ h2 sz hb hi))
   exact ⟨ρ',hx.trans e1,e2,e3⟩
theorem XaK.nilW {P:Program} {f base:Nat} {vm:VM} {R:Value→Hp→Prop} (h:XaK P f base vm (fun v H t=>∃ v' H' t',Xs4 v H t v' H' t'∧R v' H')):XaK P f base vm (fun v H _=>R v H):=by
 refine ⟨fun w0 U ρ rf rfs w cs hr=>?_⟩
 obtain ⟨ρ',rv,fr',w',v,H',top',h1,h2,h3,h4,h5,h6,v2,H2,t2,hk,h7⟩:=h.get w0 U ρ rf rfs w cs hr
 obtain ⟨ρ2,e1,e2,e3⟩:=hk.ok h4 h5
 exact ⟨ρ2,rv,fr',w',v2,H2,t2,h1,h2,h3,e2,e3,fun i l hi hl=>e1 _ _ (h6 i l hi hl),h7⟩
end Go.Vm
namespace Go.Vm
end Go.Vm
namespace Go.Vm
open Go Go.RowKit
@[simp] theorem XDT (l:List UInt8):(ofBytes l).length=l.length:=by simp [ofBytes]
theorem pk_us {xs:List Int} {n:Nat} {K:List UInt8→Prop} (h:K (iB xs)) (hn:xs.length≤n:=by first|exact Nat.le_refl _|omega|(simp;done)|(simp;omega)):∃ bs,XeI ((vI .u8 xs).take n)=some bs∧K bs:=
 ⟨_,by rw [List.take_of_length_le (by simpa using hn)];exact Xlk _,h⟩
theorem XJO {A B C D:Prop} [Decidable (A∧B∧C∧D)] (a:A) (b:B) (c:C) (d:D):decide (A∧B∧C∧D)=true:=decide_eq_true ⟨a,b,c,d⟩
theorem Xxf {A B C D:Prop} [Decidable (A∧B∧C∧D)] (a:A) (b:B) (c:C) (d:D):decide (A∧B∧C∧D)=true:=decide_eq_true ⟨a,b,c,d⟩
theorem XCM {A B C D E:Prop} [Decidable (A∧B∧C∧D∧E)] {p q:Bool} (a:A) (b:B) (c:C) (d:D) (e:E) (f:p=true) (g:q=true):(decide (A∧B∧C∧D∧E)&&p&&q)=true:=by
 rw [decide_eq_true ⟨a,b,c,d,e⟩,f,g];rfl
theorem XH4 {new:List Value} {xs:List Int} {n m:Nat} {ys:List Int} {K:List Value→Nat→Prop} (e:new=vI .u8 ys) (hc:n=xs.length) (hn:n+m=(xs++ys).length) (h:K (vI .u8 (xs++ys)) (xs++ys).length) :
 ∃ cs' n',(vI .u8 xs).take n++new=cs'∧n+m=n'∧K cs' n':=
 ⟨_,_,by rw [List.take_of_length_le (by simp [hc]),e,XAb],hn,h⟩
def un1 {α:Type} (un:Value→Option α):List Value→Option α
 | [v]=>un v
 | _=>none
theorem XAd {α:Type} {un:Value→Option α} {g:α→Value} (h:∀ v x,un v=some x→v=g x) {cs:List Value} {x:α} (e:un1 un cs=some x):cs=[g x]:=by
 unfold un1 at e
 split at e
 ·rw [h _ _ e]
 ·cases e
theorem XJy {α:Type} {un:Value→Option α} {v:Value} {x:α} (h:un v=some x):un1 un [v]=some x:=h
theorem Xcv (k:IntKind) {n:Int}:asI k (.int k n)=some n:=by simp [asI]
theorem XcI {s:List UInt8}:asS (.string ⟨⟨s⟩⟩)=some s:=rfl
def XCB (i:Nat) (a b:Dec):Dec:=fun vs cs=>match vs[i]? with
 | some (.pointer none)=>b vs cs
 | _=>a vs cs
theorem XCB.elim {i:Nat} {a b:Dec} {vs:List Value} {cs:List (Option (List Value))} {r:Xcw} (h:XCB i a b vs cs=some r):a vs cs=some r∨b vs cs=some r:=by
 unfold XCB at h
 split at h
 ·exact .inr h
 ·exact .inl h
theorem Xhe {H:Hp} {s:Nat→Option Nat}:XqV H s [] []:=trivial
theorem Xsc {H:Hp} {s:Nat→Option Nat} {j:Nat} {js:List Nat} {c c':List Value} {cs:List (List Value)} (e:Xdz.renL s c=some c') (h:Has H j c') (t:XqV H s js cs):XqV H s (j::js) (c::cs):=⟨⟨_,e,h⟩,t⟩
theorem Xhc {n:Nat} {wr:List (Option (List Value))}:XGq n wr []:=trivial
theorem Xsq {n j:Nat} {wr:List (Option (List Value))} {js:List Nat} (h:n≤j) (t:XGq n wr js):XGq n wr (j::js):=⟨.inl h,t⟩
theorem Xhb {H:Hp} {s:Nat→Option Nat} {k:Nat}:Xwz H s k []:=trivial
theorem XGA {H:Hp} {s:Nat→Option Nat} {k:Nat} {l:List (Option (List Value))} (t:Xwz H s (k+1) l):Xwz H s k (none::l):=t
theorem XlM {H:Hp} {s:Nat→Option Nat} {k:Nat} {c c':List Value} {l:List (Option (List Value))} (e:Xdz.renL s c=some c') (h:Has H k c') (t:Xwz H s (k+1) l):Xwz H s k (some c::l):=⟨⟨_,e,h⟩,t⟩
theorem Res.flat {n:Nat} {r:Xcw} {v':Value} {H':Hp} {b:Bool} (e:r.v=.bool b) (_:r.new=[]) (h:Res n r v' H'):v'=.bool b:=by
 obtain ⟨js,h1,h2,-⟩:=h.ex
 rw [e] at h1
 cases h1;rfl
theorem XaJ.q {s:Xbu} {vals:List Value} {h:Hp} {top:Nat} {K:Value→Hp→Nat→Prop} {r:Xcw} {v':Value} (e1:Xcy h 0 s.modes vals=some (vals,[])) (ew:Xiz h s.modes vals=[]) (e2:s.run vals []=some r) (hn:r.new=[]) (hw:r.wr=[]) (e6:Xdz (Xtb top 0 []) r.v=some v')
 (k:Xgt v' fun v=>Xj5 [] h fun h'=>K v h' top):XaJ s vals h top K:=by
 refine XaJ.Xbe [] (Xaw (n:=0) (m:=0) (t':=top) e1 ew rfl e2 rfl (by rw [hn];rfl) rfl rfl (by rw [hw];exact Xbf) (by rw [hn];exact Xbc) e6) k
theorem Xdw {α:Type} {o:Option α} {f:α→Xcw} {vs:List Value} {cs:List (Option (List Value))} {r:Xcw} (h:Xdd (ofG o f) vs cs=some r):vs=[]∧cs=[]∧∃ x,o=some x∧f x=r:=by
 obtain ⟨a,b,c⟩:=Xdd.elim h
 exact ⟨a,b,ofG.elim c⟩
theorem Res.z {n:Nat} {r:Xcw} {v':Value} {H':Hp} (e1:Xdz (Xse [] n) r.v=some v') (e2:r.new=[]) (e3:r.wr=[]):Res n r v' H':=
 Res.of [] e1 (by rw [e2];exact Xhe) (by decide) Xhc (by rw [e3];exact Xhb)
theorem XaJ.p {s:Xbu} {vals:List Value} {h:Hp} {top:Nat} {K:Value→Hp→Nat→Prop} {r:Xcw} {v':Value} (e2:s.run vals []=some r)
 (k:Xgt v' fun v=>Xj5 [] h fun h'=>K v h' top) (e1:Xcy h 0 s.modes vals=some (vals,[]):=by exact rfl) (ew:Xiz h s.modes vals=[]:=by exact rfl) (hn:r.new=[]:=by exact rfl) (hw:r.wr=[]:=by exact rfl) (e6:Xdz (Xtb top 0 []) r.v=some v':=by exact rfl):XaJ s vals h top K:=XaJ.q e1 ew e2 hn hw e6 k
theorem Res.y {n:Nat} {r:Xcw} {v':Value} {H':Hp} (e1:Xdz (Xse [] n) r.v=some v':=by exact rfl) (e2:r.new=[]:=by exact rfl) (e3:r.wr=[]:=by exact rfl):Res n r v' H':=Res.z e1 e2 e3
end Go.Vm
namespace Go.Vm
open Go Go.RowKit
section
variable {α:Type} {f:α→List Value} {c:Nat}
end
end Go.Vm
namespace Go.Vm
end Go.Vm
namespace Go.Vm
open Go
theorem XcC {n:Int} (h1:-9223372036854775808≤n) (h2:n<9223372036854775808):wI .i64 n=n:=by
 show IntKind.wrap .i64 n=n;rw [IntKind.wrap_i64];omega
theorem XpZ {n:Int} (h1:0≤n) (h2:n<18446744073709551616):wI .u64 n=n:=by
 show IntKind.wrap .u64 n=n
 simp only [IntKind.wrap,IntKind.bits,IntKind.signed];simp;omega
theorem Xpv {n:Int} (h1:0≤n) (h2:n<4294967296):wI .u32 n=n:=by
 show IntKind.wrap .u32 n=n
 simp only [IntKind.wrap,IntKind.bits,IntKind.signed];simp;omega
theorem wU8 {n:Int} (h1:0≤n) (h2:n<256):wI .u8 n=n:=by
 show IntKind.wrap .u8 n=n
 simp only [IntKind.wrap,IntKind.bits,IntKind.signed];simp;omega
theorem XE4 (n:Int):wI .u32 n=n%4294967296:=by
 show IntKind.wrap .u32 n=_
 simp only [IntKind.wrap,IntKind.bits,IntKind.signed];simp
theorem Xy8 (n:Int):wI .u16 n=n%65536:=by
 show IntKind.wrap .u16 n=_
 simp only [IntKind.wrap,IntKind.bits,IntKind.signed];simp
theorem wU8m (n:Int):wI .u8 n=n%256:=by
 show IntKind.wrap .u8 n=_
 simp only [IntKind.wrap,IntKind.bits,IntKind.signed];simp
theorem XE9 {n:Nat} (h:n<18446744073709551616):(BitVec.ofInt 64 (n:Int)).toNat=n:=by
 rw [BitVec.toNat_ofInt];omega
theorem XJR {a b:Nat} (ha:a<9223372036854775808) (hb:b<9223372036854775808):Xjp .i64 (a:Int) (b:Int)=((a &&& b:Nat):Int):=by
 have h:a &&& b≤a:=Nat.and_le_left
 show IntKind.wrap .i64 _=_
 rw [show IntKind.bits .i64=64 from rfl,BitVec.toNat_and,XE9 (by omega),XE9 (by omega)]
 exact XcC (by omega) (by omega)
theorem XII {a b:Nat} (ha:a<9223372036854775808) (hb:b<9223372036854775808):XsB .i64 (a:Int) (b:Int)=((a ||| b:Nat):Int):=by
 have h:a ||| b<2^63:=Nat.or_lt_two_pow (by omega) (by omega)
 show IntKind.wrap .i64 _=_
 rw [show IntKind.bits .i64=64 from rfl,BitVec.toNat_or,XE9 (by omega),XE9 (by omega)]
 exact XcC (by omega) (by omega)
theorem XGX {a b:Nat} (ha:a<18446744073709551616) (hb:b<18446744073709551616):XsB .u64 (a:Int) (b:Int)=((a ||| b:Nat):Int):=by
 have h:a ||| b<2^64:=Nat.or_lt_two_pow (by omega) (by omega)
 show IntKind.wrap .u64 _=_
 rw [show IntKind.bits .u64=64 from rfl,BitVec.toNat_or,XE9 (by omega),XE9 (by omega)]
 exact XpZ (by omega) (by omega)
theorem Xyp (a k:Nat):a &&& (2^k - 1)=a%2^k:=Nat.and_two_pow_sub_one_eq_mod a k
theorem Xtg {a b k:Nat} (hb:b<2^k):(a*2^k) ||| b=a*2^k+b:=by
 rw [Nat.mul_comm];exact (Nat.two_pow_add_eq_or_of_lt hb a).symm
theorem Xg7 (k:Nat) {a m:Int} (hm:m=2^k - 1) (hk:k≤62) (h0:0≤a) (h1:a<9223372036854775808):Xjp .i64 a m=a%2^k:=by
 obtain ⟨n,rfl⟩:=Int.eq_ofNat_of_zero_le h0
 have hp:2^k≤2^62:=Nat.pow_le_pow_right (by decide) hk
 have hp1:1≤2^k:=Nat.one_le_two_pow
 have:m=((2^k - 1:Nat):Int):=by rw [hm];push_cast [hp1];rfl
 rw [this,XJR (by omega) (by omega),Xyp];push_cast;rfl
theorem XnL (k:Nat) {a b:Int} (h0:0≤a) (h1:a*2^k<9223372036854775808) (hb0:0≤b) (hb:b<2^k) (hb1:b<9223372036854775808):XsB .i64 (a*2^k) b=a*2^k+b:=by
 obtain ⟨n,rfl⟩:=Int.eq_ofNat_of_zero_le h0
 obtain ⟨m,rfl⟩:=Int.eq_ofNat_of_zero_le hb0
 have e:((n:Int)*2^k)=((n*2^k:Nat):Int):=by push_cast;rfl
 rw [e] at h1 ⊢
 rw [XII (by omega) (by omega),Xtg (by exact_mod_cast hb)];push_cast;rfl
theorem Xsj (k:Nat) {a b:Int} (h0:0≤a) (h1:a*2^k<18446744073709551616) (hb0:0≤b) (hb:b<2^k) (hb1:b<18446744073709551616):XsB .u64 (a*2^k) b=a*2^k+b:=by
 obtain ⟨n,rfl⟩:=Int.eq_ofNat_of_zero_le h0
 obtain ⟨m,rfl⟩:=Int.eq_ofNat_of_zero_le hb0
 have e:((n:Int)*2^k)=((n*2^k:Nat):Int):=by push_cast;rfl
 rw [e] at h1 ⊢
 rw [XGX (by omega) (by omega),Xtg (by exact_mod_cast hb)];push_cast;rfl
theorem Xpb (a:Int) (k:Nat):a.fdiv (2^k)=a/2^k:=Int.fdiv_eq_ediv_of_nonneg a (Int.le_of_lt (Int.pow_pos (by decide)))
theorem XaL {α:Type} {p:Prop} [Decidable p] {x:Option α} (h:p):XaE (decide p) x=x:=XaE.mk (decide_eq_true h)
theorem XaZ {α:Type} {p:Prop} [Decidable p] {x y:α} (h:p):cond (decide p) x y=x:=by rw [decide_eq_true h,cond_true]
theorem XaO {α:Type} {p:Prop} [Decidable p] {x y:α} (h:¬ p):cond (decide p) x y=y:=by rw [decide_eq_false h,cond_false]
theorem Xxb {α:Type} {p:Prop} [Decidable p] {x y:α}:cond (decide p) x y=if p then x else y:=by
 by_cases h:p<;>simp [h]
theorem iter_eq {σ ρ:Type} {step:σ→Option (Sum σ ρ)} (F:σ→ρ) (P:σ→Prop) (μ:σ→Nat)
 (h:∀ s,P s→step s=some (.inr (F s))∨∃ s',step s=some (.inl s')∧P s'∧μ s'<μ s∧F s'=F s):∀ n s,P s→μ s<n→iter step n s=some (F s)
 | 0,s,hp,hn=>by omega
 | n+1,s,hp,hn=>by
   rw [iter]
   rcases h s hp with e|⟨s',e,hp',hm,hf⟩
   ·rw [e]
   ·rw [e];exact hf▸iter_eq F P μ h n s' hp' (by omega)
theorem Xer:FUEL=18446744073709551616:=rfl
end Go.Vm
namespace Go.Vm.Code
open Go Go.Vm Go.Proofs
def τ0:Operand:=.tmp 0
def τ1:Operand:=.tmp 1
def τ2:Operand:=.tmp 2
def τ3:Operand:=.tmp 3
def τ4:Operand:=.tmp 4
def τ5:Operand:=.tmp 5
def τ6:Operand:=.tmp 6
def τ7:Operand:=.tmp 7
def τ8:Operand:=.tmp 8
def τ9:Operand:=.tmp 9
def Xb9:Operand:=.tmp 10
def Xb5:Operand:=.tmp 11
def XcP:Operand:=.tmp 12
def XcS:Operand:=.tmp 13
def Xde:Operand:=.tmp 14
def Xdb:Operand:=.tmp 15
def Xdh:Operand:=.tmp 16
def Xdc:Operand:=.tmp 17
def XdK:Operand:=.tmp 18
def Xdx:Operand:=.tmp 19
def Xd2:Operand:=.tmp 20
def Xd5:Operand:=.tmp 21
def Xej:Operand:=.tmp 22
def XeC:Operand:=.tmp 23
def Xei:Operand:=.tmp 24
def XeM:Operand:=.tmp 25
def Xef:Operand:=.tmp 26
def XeJ:Operand:=.tmp 27
def XeD:Operand:=.tmp 28
def XeN:Operand:=.tmp 29
def Xfh:Operand:=.tmp 30
def Xe3:Operand:=.tmp 31
def Xfl:Operand:=.tmp 32
def Xfn:Operand:=.tmp 33
def Xfz:Operand:=.tmp 34
def Xfp:Operand:=.tmp 35
def XfI:Operand:=.tmp 36
def Xfo:Operand:=.tmp 37
def XgG:Operand:=.tmp 38
def XgF:Operand:=.tmp 39
def Xhr:Operand:=.tmp 40
def Xhg:Operand:=.tmp 41
def Xhh:Operand:=.tmp 42
def Xhm:Operand:=.tmp 43
def XhF:Operand:=.tmp 44
def XhB:Operand:=.tmp 45
def Xh6:Operand:=.tmp 46
def XhQ:Operand:=.tmp 47
def XiA:Operand:=.tmp 48
def Xiu:Operand:=.tmp 49
def XiC:Operand:=.tmp 50
def XiB:Operand:=.tmp 51
def XjH:Operand:=.tmp 52
def XjR:Operand:=.tmp 53
def Xk3:Operand:=.tmp 54
def Xk2:Operand:=.tmp 55
def Xlu:Operand:=.tmp 56
def XkE:Operand:=.tmp 57
def Xk0:Operand:=.tmp 58
def Xln:Operand:=.tmp 59
def Xl3:Operand:=.tmp 60
def Xl0:Operand:=.tmp 61
def Xm6:Operand:=.tmp 62
def Xox:Operand:=.tmp 63
def XoH:Operand:=.tmp 64
def XoP:Operand:=.tmp 65
def XpY:Operand:=.tmp 66
def XoO:Operand:=.tmp 67
def XpR:Operand:=.tmp 68
def XpT:Operand:=.tmp 69
def Xrl:Operand:=.tmp 70
def Xrf:Operand:=.tmp 71
def Xq4:Operand:=.tmp 72
def Xsz:Operand:=.tmp 73
def Xv1:Operand:=.tmp 74
def XtS:Operand:=.tmp 75
def Xws:Operand:=.tmp 76
def XtD:Operand:=.tmp 77
def XwG:Operand:=.tmp 78
def XxJ:Operand:=.tmp 79
def XwF:Operand:=.tmp 80
def Xx2:Operand:=.tmp 81
def XBY:Operand:=.tmp 82
def XwA:Operand:=.tmp 83
def XBu:Operand:=.tmp 84
def XEO:Operand:=.tmp 85
def XFb:Operand:=.tmp 86
def XDJ:Operand:=.tmp 87
def XDu:Operand:=.tmp 88
def XAr:Operand:=.tmp 89
def XGg:Operand:=.tmp 90
def XCX:Operand:=.tmp 91
def XC9:Operand:=.tmp 92
def XC2:Operand:=.tmp 93
def XDh:Operand:=.tmp 94
def XGm:Operand:=.tmp 95
def XDG:Operand:=.tmp 96
def XGp:Operand:=.tmp 97
def τ98:Operand:=.tmp 98
def τ99:Operand:=.tmp 99
def XD1:Operand:=.tmp 100
def XFK:Operand:=.tmp 101
def XJz:Operand:=.tmp 102
def XG6:Operand:=.tmp 103
def XLs:Operand:=.tmp 104
def XLc:Operand:=.tmp 105
def XHM:Operand:=.tmp 106
def XLp:Operand:=.tmp 107
def XHV:Operand:=.tmp 108
def XJD:Operand:=.tmp 109
def XJm:Operand:=.tmp 110
def XyD:Operand:=.tmp 111
def XLK:Operand:=.tmp 112
def XGR:Operand:=.tmp 113
def XIZ:Operand:=.tmp 114
def XI2:Operand:=.tmp 115
def XKZ:Operand:=.tmp 116
def XHw:Operand:=.tmp 117
def XLH:Operand:=.tmp 118
def XIV:Operand:=.tmp 119
def XI8:Operand:=.tmp 120
def XIr:Operand:=.tmp 121
def XKb:Operand:=.tmp 122
def XLI:Operand:=.tmp 123
def XJa:Operand:=.tmp 124
def XGY:Operand:=.tmp 125
def XLE:Operand:=.tmp 126
def XIC:Operand:=.tmp 127
def XLB:Operand:=.tmp 128
def XIf:Operand:=.tmp 129
def XIv:Operand:=.tmp 130
def XIo:Operand:=.tmp 131
def XJJ:Operand:=.tmp 132
def XGS:Operand:=.tmp 133
def XKf:Operand:=.tmp 134
def XKc:Operand:=.tmp 135
def XJ5:Operand:=.tmp 136
def XLt:Operand:=.tmp 137
def XKS:Operand:=.tmp 138
def XLh:Operand:=.tmp 139
def XHl:Operand:=.tmp 140
def XHs:Operand:=.tmp 141
def XDW:Operand:=.tmp 142
def XF5:Operand:=.tmp 143
def XIs:Operand:=.tmp 144
def XK6:Operand:=.tmp 145
def XIa:Operand:=.tmp 146
def XHa:Operand:=.tmp 147
def XKI:Operand:=.tmp 148
def XHX:Operand:=.tmp 149
def XHn:Operand:=.tmp 150
def XK0:Operand:=.tmp 151
def XIc:Operand:=.tmp 152
def XLL:Operand:=.tmp 153
def XIQ:Operand:=.tmp 154
def XHf:Operand:=.tmp 155
def XDf:Operand:=.tmp 156
def XGQ:Operand:=.tmp 157
def XHP:Operand:=.tmp 158
def XIB:Operand:=.tmp 159
def XHJ:Operand:=.tmp 160
def XFL:Operand:=.tmp 161
def τ162:Operand:=.tmp 162
def τ163:Operand:=.tmp 163
def τ164:Operand:=.tmp 164
def τ165:Operand:=.tmp 165
def τ166:Operand:=.tmp 166
def τ167:Operand:=.tmp 167
def τ168:Operand:=.tmp 168
def τ169:Operand:=.tmp 169
def τ170:Operand:=.tmp 170
def τ171:Operand:=.tmp 171
def τ172:Operand:=.tmp 172
def τ173:Operand:=.tmp 173
def τ174:Operand:=.tmp 174
def τ175:Operand:=.tmp 175
def τ176:Operand:=.tmp 176
def τ177:Operand:=.tmp 177
def τ178:Operand:=.tmp 178
def τ179:Operand:=.tmp 179
def τ180:Operand:=.tmp 180
def τ181:Operand:=.tmp 181
def τ182:Operand:=.tmp 182
def τ183:Operand:=.tmp 183
def τ184:Operand:=.tmp 184
def τ185:Operand:=.tmp 185
def τ186:Operand:=.tmp 186
def τ187:Operand:=.tmp 187
def τ188:Operand:=.tmp 188
def τ189:Operand:=.tmp 189
def τ190:Operand:=.tmp 190
def τ191:Operand:=.tmp 191
def τ192:Operand:=.tmp 192
def τ193:Operand:=.tmp 193
def τ194:Operand:=.tmp 194
def τ195:Operand:=.tmp 195
def τ196:Operand:=.tmp 196
def XKB:Operand:=.tmp 197
def τ198:Operand:=.tmp 198
def τ199:Operand:=.tmp 199
def τ200:Operand:=.tmp 200
def τ201:Operand:=.tmp 201
def τ202:Operand:=.tmp 202
def τ203:Operand:=.tmp 203
def τ204:Operand:=.tmp 204
def τ205:Operand:=.tmp 205
def τ206:Operand:=.tmp 206
def τ207:Operand:=.tmp 207
def τ208:Operand:=.tmp 208
def τ209:Operand:=.tmp 209
def τ210:Operand:=.tmp 210
def τ211:Operand:=.tmp 211
def τ212:Operand:=.tmp 212
def τ213:Operand:=.tmp 213
def τ214:Operand:=.tmp 214
def τ215:Operand:=.tmp 215
def τ216:Operand:=.tmp 216
def τ217:Operand:=.tmp 217
def τ218:Operand:=.tmp 218
def τ219:Operand:=.tmp 219
def τ220:Operand:=.tmp 220
def τ221:Operand:=.tmp 221
def τ222:Operand:=.tmp 222
def τ223:Operand:=.tmp 223
def τ224:Operand:=.tmp 224
def τ225:Operand:=.tmp 225
def τ226:Operand:=.tmp 226
def τ227:Operand:=.tmp 227
def τ228:Operand:=.tmp 228
def oD (n:Nat) (o:VOp):XbZ:=⟨some n,o,none⟩
def oN (o:VOp):XbZ:=⟨none,o,none⟩
def oM (n:Nat) (x:Operand):XbZ:=⟨some n,.mv x,none⟩
def oG (n:Nat) (o:VOp) (j:Nat) (b:Bool):XbZ:=⟨some n,o,some (j,b)⟩
def oE (n i:Nat) (x:Operand):XbZ:=⟨some n,.extract i x,none⟩
def k3_20:VC:=.seq (.reg [oD 12 (.mv (.const (.bool false)))]) (.seq (.seq (.reg [oM 18 τ0,oD 19 (.lenS XdK),oD 20 (.bin .gtr Xdx (.const (.int .i64 1000))),oM 21 Xd2,oG 22 (.mv τ5) 21 false,oG 23 (.lenL Xej) 21 false,oG 24 (.bin .gtr XeC (.const (.int .i64 20))) 21 false,oD 25 (.pick Xd5 (.const (.bool true)) Xei)]) (.cond XeM (.seq (.reg [oD 26 (.callF 5 []),oM 12 Xef]) .ret) .skip)) (.seq (.reg [oM 28 τ0,oM 29 τ1,oM 30 τ2,oD 31 (.callF 6 [XeD,XeN,Xfh]),oM 27 Xe3,oE 32 0 XeJ,oE 33 1 XeJ,oM 13 Xfl,oM 14 Xfn]) (.seq (.reg [oM 35 τ0,oM 36 τ1,oM 37 τ2,oD 38 (.callF 7 [Xfp,XfI,Xfo]),oM 34 XgG,oE 39 0 Xfz,oE 40 1 Xfz,oM 15 XgF,oM 16 Xhr]) (.seq (.reg [oM 41 τ3,oM 17 Xhg]) (.seq (.seq (.reg [oM 42 τ4,oD 43 (.bin .geq Xhh (.const (.int .i64 576))),oM 44 Xhm,oG 45 (.mv τ4) 44 true,oG 46 (.mv τ3) 44 true,oG 47 (.bin .lss XhB Xh6) 44 true,oD 48 (.pick XhF XhQ (.const (.bool false)))]) (.cond XiA (.reg [oM 49 τ4,oM 17 Xiu]) .skip)) (.seq (.reg [oM 50 τ1,oM 51 τ2,oD 52 (.callF 8 [XiC,XiB]),oM 53 τ1,oM 54 τ2,oD 55 (.callF 9 [XjR,Xk3]),oD 56 (.bin .eql XjH Xk2),oM 57 Xlu,oG 58 (.mv τ0) 57 true,oG 59 (.mv τ1) 57 true,oG 60 (.mv τ2) 57 true,oG 61 (.callF 10 [Xk0,Xln,Xl3]) 57 true,oG 62 (.mv τ0) 57 true,oG 63 (.lenS Xm6) 57 true,oG 64 (.mv τ1) 57 true,oG 65 (.mv τ2) 57 true,oG 66 (.callF 9 [XoH,XoP]) 57 true,oG 67 (.bin .leq Xox XpY) 57 true,oG 68 (.eqB false Xl0 XoO) 57 true,oD 69 (.pick XkE XpR (.const (.bool false))),oM 70 XpT,oG 71 (.mv XcS) 70 true,oG 72 (.mv Xdb) 70 true,oG 73 (.bin .eql Xrf Xq4) 70 true,oD 74 (.pick Xrl Xsz (.const (.bool false))),oM 75 Xv1,oG 76 (.mv Xde) 75 true,oG 77 (.mv Xdh) 75 true,oG 78 (.bin .eql Xws XtD) 75 true,oD 79 (.pick XtS XwG (.const (.bool false))),oM 80 XxJ,oG 81 (.mv τ3) 80 true,oG 82 (.mv τ4) 80 true,oG 83 (.callF 11 [Xx2,XBY]) 80 true,oG 84 (.mv Xdc) 80 true,oG 85 (.bin .eql XwA XBu) 80 true,oD 86 (.pick XwF XEO (.const (.bool false))),oM 87 XFb,oG 88 (.mv τ5) 87 true,oG 89 (.callF 12 [XDu]) 87 true,oG 90 (.mv τ5) 87 true,oG 91 (.callF 13 [XGg]) 87 true,oG 92 (.bin .eql XAr XCX) 87 true,oD 93 (.pick XDJ XC9 (.const (.bool false))),oM 94 XC2,oG 95 (.callF 5 []) 94 true,oD 96 (.pick XDh XGm (.const (.bool false))),oM 12 XDG]) .ret))))))
def fn3:VFn:=⟨97,k3_20,[.tmp 12]⟩
def k5_3:VC:=.seq (.reg [oD 0 (.mv (.const (.bool false)))]) (.seq (.reg [oD 1 (.callF 8 [(.const (.int .i64 1500)),(.const (.bool false))]),oD 2 (.bin .eql τ1 (.const (.int .i64 1454))),oM 3 τ2,oG 4 (.callF 8 [(.const (.int .i64 575)),(.const (.bool true))]) 3 true,oG 5 (.bin .eql τ4 (.const (.int .i64 0))) 3 true,oD 6 (.pick τ3 τ5 (.const (.bool false))),oM 7 τ6,oG 8 (.callF 11 [(.const (.int .i64 1500)),(.const (.int .i64 1400))]) 7 true,oG 9 (.bin .eql τ8 (.const (.int .i64 1400))) 7 true,oD 10 (.pick τ7 τ9 (.const (.bool false))),oM 11 Xb9,oG 12 (.callF 12 [(.const (.slice none 0 0))]) 11 true,oG 13 (.bin .eql XcP (.const (.int .i64 9000))) 11 true,oD 14 (.pick Xb5 XcS (.const (.bool false))),oM 15 Xde,oG 16 (.callF 10 [(.const (.string ⟨⟨[]⟩⟩)),(.const (.int .i64 600)),(.const (.bool true))]) 15 true,oD 17 (.pick Xdb Xdh (.const (.bool false))),oM 0 Xdc]) .ret)
def fn5:VFn:=⟨18,k5_3,[.tmp 0]⟩
def k8_9:VC:=.seq (.reg [oD 4 (.mv (.const (.int .i64 0)))]) (.seq (.seq (.reg [oM 5 τ0,oD 6 (.callF 23 [τ5]),oD 7 (.not τ6)]) (.cond τ7 (.seq (.reg [oD 4 (.mv (.const (.int .i64 0)))]) .ret) .skip)) (.seq (.reg [oM 8 τ0,oM 9 τ1,oD 10 (.callF 24 [τ9]),oD 11 (.bin .sub τ8 Xb9),oD 12 (.bin .sub Xb5 (.const (.int .i64 18))),oM 4 XcP]) .ret))
def fn8:VFn:=⟨13,k8_9,[.tmp 4]⟩
def k23_3:VC:=.seq (.reg [oD 2 (.mv (.const (.bool false)))]) (.seq (.reg [oM 3 τ0,oD 4 (.callF 28 [τ3,(.const (.int .i64 576)),(.const (.int .i64 9000))]),oM 2 τ4]) .ret)
def fn23:VFn:=⟨5,k23_3,[.tmp 2]⟩
def k28_3:VC:=.seq (.reg [oD 6 (.mv (.const (.bool false)))]) (.seq (.reg [oM 7 τ1,oM 8 τ0,oD 9 (.bin .leq τ7 τ8),oM 10 τ9,oG 11 (.mv τ0) 10 true,oG 12 (.mv τ2) 10 true,oG 13 (.bin .leq Xb5 XcP) 10 true,oD 14 (.pick Xb9 XcS (.const (.bool false))),oM 6 Xde]) .ret)
def fn28:VFn:=⟨15,k28_3,[.tmp 6]⟩
def k24_9:VC:=.seq (.reg [oD 2 (.mv (.const (.int .i64 0)))]) (.seq (.seq (.reg [oM 3 τ0]) (.cond τ3 (.seq (.reg [oD 2 (.mv (.const (.int .i64 48)))]) .ret) .skip)) (.seq (.reg [oD 2 (.mv (.const (.int .i64 28)))]) .ret))
def fn24:VFn:=⟨4,k24_9,[.tmp 2]⟩
def k11_9:VC:=.seq (.reg [oD 4 (.mv (.const (.int .i64 0)))]) (.seq (.seq (.reg [oM 5 τ1,oM 6 τ0,oD 7 (.callF 28 [τ5,(.const (.int .i64 576)),τ6])]) (.cond τ7 (.seq (.reg [oM 8 τ1,oM 4 τ8]) .ret) .skip)) (.seq (.reg [oM 9 τ0,oM 4 τ9]) .ret))
def fn11:VFn:=⟨10,k11_9,[.tmp 4]⟩
def XKo:VC:=.seq (.reg [oD 2 (.mv (.const (.int .i64 0)))]) (.seq (.reg [oD 3 (.mv (.const (.int .i64 9000)))]) (.seq (.seq (.reg [oM 6 τ0,oD 7 (.lenL τ6),oD 8 (.mv (.const (.int .i64 0)))]) (.block 0 (.loop (.seq (.reg [oD 9 (.bin .lss τ8 τ7)]) (.seq (.cond τ9 .skip (.exit 0)) (.seq (.block 1 (.seq (.reg [oD 10 (.idxAL 1 τ6 τ8),oD 11 (.load1 (.int .i64) Xb9),oM 5 Xb5]) (.reg [oM 12 τ3,oM 13 τ5,oD 14 (.callF 11 [XcP,XcS]),oM 3 Xde]))) (.reg [oD 15 (.bin .add τ8 (.const (.int .i64 1))),oM 8 Xdb]))))))) (.seq (.reg [oM 16 τ3,oM 2 Xdh]) .ret)))
def fn12:VFn:=⟨17,XKo,[.tmp 2]⟩
def k10_3:VC:=.seq (.reg [oD 6 (.mv (.const (.bool false)))]) (.seq (.reg [oM 7 τ0,oD 8 (.lenS τ7),oM 9 τ1,oM 10 τ2,oD 11 (.callF 8 [τ9,Xb9]),oD 12 (.bin .leq τ8 Xb5),oM 6 XcP]) .ret)
def fn10:VFn:=⟨13,k10_3,[.tmp 6]⟩
def k6_19:VC:=.regD [oM 32 τ1,oM 33 τ2,oD 34 (.callF 8 [Xfl,Xfn]),oM 35 τ0,oD 36 (.fieldA 1 Xb9),oD 37 (.fieldA 0 XfI),oD 38 (.load1 .bool Xfo),oD 39 (.callF 24 [XgG]),oD 40 (.sliceS Xfp none (some XgF)),oD 41 (.build [(.int .i64 0),(.int .i64 0),(.int .i64 0),(.string ⟨⟨[]⟩⟩)] [(0,1,(.const (.int .i64 2))),(1,1,(.const (.int .i64 4))),(2,1,Xfz),(3,1,Xhr)]),oD 11 (.alloc [(.int .i64 0),(.int .i64 0),(.int .i64 0),(.string ⟨⟨[]⟩⟩)])] [(2,6),(2,10),(6,10),(7,10)] [oN (.store 4 Xb5 Xhg)]
def k6_31:VC:=.seq (.reg [oD 6 (.mv (.const (.string ⟨⟨[]⟩⟩))),oD 7 (.mv (.const (.int .i64 0)))]) (.seq (.reg [oM 13 τ0,oD 14 (.callF 22 [XcS]),oM 12 Xde,oE 15 0 XcP,oE 16 1 XcP,oD 8 (.alloc [(.int .i64 0),(.bool false),(.int .u64 0),(.int .u64 0),(.bool false),(.int .u64 0),(.int .u64 0),(.int .i64 0),(.int .i64 0),(.int .i64 0),(.bool false),(.int .u32 0),(.int .u32 0),(.bool false),(.string ⟨⟨[]⟩⟩),(.int .i64 0)]),oN (.store 16 τ8 Xdb),oM 9 Xdh]) (.seq (.block 0 (.seq (.reg [oM 18 τ9,oD 19 (.bin .neq XdK (.const (.int .i64 0))),oM 17 Xdx]) (.cond Xdc (.seq (.reg [oM 20 τ9,oD 6 (.mv (.const (.string ⟨⟨[]⟩⟩))),oM 7 Xd2]) .ret) (.seq (.reg [oM 22 τ0,oM 23 τ1,oM 24 τ2,oD 25 (.callF 10 [Xej,XeC,Xei]),oM 21 XeM]) (.cond Xd5 (.seq (.reg [oD 6 (.mv (.const (.string ⟨⟨[]⟩⟩))),oD 7 (.mv (.const (.int .i64 11)))]) .ret) (.seq (.reg [oM 27 τ1,oD 28 (.callF 23 [XeJ]),oD 29 (.not XeD),oM 26 XeN]) (.cond Xef (.seq (.reg [oD 6 (.mv (.const (.string ⟨⟨[]⟩⟩))),oD 7 (.mv (.const (.int .i64 1)))]) .ret) .skip))))))) (.seq (.reg [oD 30 (.fieldA 0 τ8),oD 31 (.loadN [(.int .i64),.bool,(.int .u64),(.int .u64),.bool,(.int .u64),(.int .u64),(.int .i64),(.int .i64)] Xfh),oD 10 (.alloc [(.int .i64 0),(.bool false),(.int .u64 0),(.int .u64 0),(.bool false),(.int .u64 0),(.int .u64 0),(.int .i64 0),(.int .i64 0)]),oN (.store 9 Xb9 Xe3)]) (.seq k6_19 (.seq (.seq (.reg [oD 42 (.fieldA 1 Xb9),oD 43 (.fieldA 0 Xhh),oD 44 (.load1 .bool Xhm)]) (.cond XhF (.reg [oD 45 (.fieldA 1 Xb5),oN (.store 1 XhB (.const (.int .i64 0)))]) .skip)) (.seq (.reg [oD 46 (.loadN [(.int .i64),(.int .i64),(.int .i64),.str] Xb5),oD 47 (.fieldA 4 Xb9),oD 48 (.loadN [.bool,(.int .u64),(.int .u64)] XhQ),oD 49 (.fieldA 1 Xb9),oD 50 (.loadN [.bool,(.int .u64),(.int .u64)] Xiu),oD 51 (.callF 25 [Xh6,XiA,XiC]),oE 52 0 XiB,oE 53 1 XiB,oM 6 XjH,oM 7 XjR]) .ret))))))
def fn6:VFn:=⟨54,k6_31,[.tmp 6,.tmp 7]⟩
def XHC:VC:=.seq (.reg [oD 2 (.alloc [(.int .i64 0),(.bool false),(.int .u64 0),(.int .u64 0),(.bool false),(.int .u64 0),(.int .u64 0),(.int .i64 0),(.int .i64 0),(.int .i64 0),(.bool false),(.int .u32 0),(.int .u32 0),(.bool false),(.string ⟨⟨[]⟩⟩),(.int .i64 0)]),oD 3 (.mv (.const (.int .i64 0)))]) (.seq (.reg [oM 9 τ0,oD 10 (.callF 46 [τ9]),oM 8 Xb9,oE 11 0 τ8,oE 12 1 τ8,oE 13 2 τ8,oE 14 3 τ8,oD 4 (.alloc [(.int .i64 0),(.bool false),(.int .u64 0),(.int .u64 0),(.bool false),(.int .u64 0),(.int .u64 0),(.int .i64 0),(.int .i64 0),(.int .i64 0),(.bool false),(.int .u32 0),(.int .u32 0),(.bool false),(.string ⟨⟨[]⟩⟩),(.int .i64 0)]),oN (.store 16 τ4 Xb5),oM 5 XcP,oM 6 XcS,oM 7 Xde]) (.seq (.reg [oD 15 (.loadN [(.int .i64),.bool,(.int .u64),(.int .u64),.bool,(.int .u64),(.int .u64),(.int .i64),(.int .i64),(.int .i64),.bool,(.int .u32),(.int .u32),.bool,.str,(.int .i64)] τ4),oM 16 τ7,oN (.store 16 τ2 Xdb),oM 3 Xdh]) .ret))
def fn22:VFn:=⟨17,XHC,[.cell 2 [(.int .i64),.bool,(.int .u64),(.int .u64),.bool,(.int .u64),(.int .u64),(.int .i64),(.int .i64),(.int .i64),.bool,(.int .u32),(.int .u32),.bool,.str,(.int .i64)] true,.tmp 3]⟩
def XJt:VC:=.regD [oD 58 (.loadN [(.int .i64),.bool,(.int .u64),(.int .u64),.bool,(.int .u64),(.int .u64),(.int .i64),(.int .i64),(.int .i64),.bool,(.int .u32),(.int .u32),.bool,.str,(.int .i64)] τ8),oD 59 (.fieldA 7 τ6),oD 60 (.load1 .str Xln),oD 61 (.lenS Xl3),oM 62 τ9,oN (.store 16 τ2 Xk0),oM 3 Xl0] [(2,5)] [oM 4 Xm6,oD 5 (.mv (.const (.int .i64 0)))]
def XAG:VC:=.seq (.reg [oD 2 (.alloc [(.int .i64 0),(.bool false),(.int .u64 0),(.int .u64 0),(.bool false),(.int .u64 0),(.int .u64 0),(.int .i64 0),(.int .i64 0),(.int .i64 0),(.bool false),(.int .u32 0),(.int .u32 0),(.bool false),(.string ⟨⟨[]⟩⟩),(.int .i64 0)]),oD 3 (.mv (.const (.int .i64 0))),oD 4 (.mv (.const (.int .i64 0))),oD 5 (.mv (.const (.int .i64 0)))]) (.seq (.block 0 (.seq (.reg [oM 11 τ0,oD 12 (.lenS Xb5),oD 13 (.bin .gtr XcP (.const (.int .i64 9000))),oM 10 XcS]) (.cond Xb9 (.seq (.reg [oD 14 (.build [(.int .i64 0),(.bool false),(.int .u64 0),(.int .u64 0),(.bool false),(.int .u64 0),(.int .u64 0),(.int .i64 0),(.int .i64 0),(.int .i64 0),(.bool false),(.int .u32 0),(.int .u32 0),(.bool false),(.string ⟨⟨[]⟩⟩),(.int .i64 0)] []),oN (.store 16 τ2 Xde),oD 3 (.mv (.const (.int .i64 0))),oD 4 (.mv (.const (.int .i64 0))),oD 5 (.mv (.const (.int .i64 5)))]) .ret) (.seq (.reg [oM 16 τ0,oD 17 (.bin .eql Xdh (.const (.string ⟨⟨[]⟩⟩))),oM 15 Xdc]) (.cond Xdb (.seq (.reg [oD 18 (.build [(.int .i64 0),(.bool false),(.int .u64 0),(.int .u64 0),(.bool false),(.int .u64 0),(.int .u64 0),(.int .i64 0),(.int .i64 0),(.int .i64 0),(.bool false),(.int .u32 0),(.int .u32 0),(.bool false),(.string ⟨⟨[]⟩⟩),(.int .i64 0)] []),oN (.store 16 τ2 XdK),oD 3 (.mv (.const (.int .i64 0))),oD 4 (.mv (.const (.int .i64 0))),oD 5 (.mv (.const (.int .i64 2)))]) .ret) .skip))))) (.seq (.reg [oM 20 τ0,oD 21 (.callF 71 [Xd2]),oM 19 Xd5,oE 22 0 Xdx,oE 23 1 Xdx,oD 6 (.alloc [(.bool false),(.int .u64 0),(.int .u64 0),(.bool false),(.int .u64 0),(.int .u64 0),(.int .i64 0),(.string ⟨⟨[]⟩⟩)]),oN (.store 8 τ6 Xej),oM 7 XeC]) (.seq (.seq (.reg [oM 24 τ7,oD 25 (.bin .neq Xei (.const (.int .i64 0)))]) (.cond XeM (.seq (.reg [oD 26 (.build [(.int .i64 0),(.bool false),(.int .u64 0),(.int .u64 0),(.bool false),(.int .u64 0),(.int .u64 0),(.int .i64 0),(.int .i64 0),(.int .i64 0),(.bool false),(.int .u32 0),(.int .u32 0),(.bool false),(.string ⟨⟨[]⟩⟩),(.int .i64 0)] []),oM 27 τ7,oN (.store 16 τ2 Xef),oD 3 (.mv (.const (.int .i64 0))),oD 4 (.mv (.const (.int .i64 0))),oM 5 XeJ]) .ret) .skip)) (.seq (.reg [oM 28 τ0,oD 29 (.lenS XeD),oD 30 (.fieldA 6 τ6),oD 31 (.load1 (.int .i64) Xfh),oD 32 (.fieldA 0 τ6),oD 33 (.loadN [.bool,(.int .u64),(.int .u64)] Xfl),oD 34 (.fieldA 3 τ6),oD 35 (.loadN [.bool,(.int .u64),(.int .u64)] Xfz),oD 36 (.build [(.int .i64 0),(.bool false),(.int .u64 0),(.int .u64 0),(.bool false),(.int .u64 0),(.int .u64 0),(.int .i64 0),(.int .i64 0)] [(0,1,Xe3),(1,3,Xfn),(4,3,Xfp)]),oD 37 (.build [(.int .i64 0),(.bool false),(.int .u64 0),(.int .u64 0),(.bool false),(.int .u64 0),(.int .u64 0),(.int .i64 0),(.int .i64 0),(.int .i64 0),(.bool false),(.int .u32 0),(.int .u32 0),(.bool false),(.string ⟨⟨[]⟩⟩),(.int .i64 0)] [(15,1,XeN),(0,9,XfI)]),oD 8 (.alloc [(.int .i64 0),(.bool false),(.int .u64 0),(.int .u64 0),(.bool false),(.int .u64 0),(.int .u64 0),(.int .i64 0),(.int .i64 0),(.int .i64 0),(.bool false),(.int .u32 0),(.int .u32 0),(.bool false),(.string ⟨⟨[]⟩⟩),(.int .i64 0)]),oN (.store 16 τ8 Xfo)]) (.seq (.reg [oD 9 (.mv (.const (.int .i64 0)))]) (.seq (.seq (.reg [oD 38 (.fieldA 6 τ6),oD 39 (.load1 (.int .i64) XgG)]) (.block 1 (.seq (.reg [oD 41 (.bin .eql XgF (.const (.int .i64 6))),oM 40 Xhg]) (.cond Xhr (.reg [oD 43 (.loadN [.bool,(.int .u64),(.int .u64),.bool,(.int .u64),(.int .u64),(.int .i64),.str] τ6),oD 44 (.callF 72 [Xhm,τ8]),oM 42 XhF,oE 45 0 Xhh,oE 46 1 Xhh,oM 9 XhB,oM 7 Xh6]) (.seq (.reg [oD 48 (.bin .eql XgF (.const (.int .i64 17))),oM 47 XiA]) (.cond XhQ (.reg [oD 50 (.loadN [.bool,(.int .u64),(.int .u64),.bool,(.int .u64),(.int .u64),(.int .i64),.str] τ6),oD 51 (.callF 73 [XiC,τ8]),oM 49 XiB,oE 52 0 Xiu,oE 53 1 Xiu,oM 9 XjH,oM 7 XjR]) (.reg [oD 7 (.mv (.const (.int .i64 6)))]))))))) (.seq (.seq (.reg [oM 54 τ7,oD 55 (.bin .neq Xk3 (.const (.int .i64 0)))]) (.cond Xk2 (.seq (.reg [oD 56 (.build [(.int .i64 0),(.bool false),(.int .u64 0),(.int .u64 0),(.bool false),(.int .u64 0),(.int .u64 0),(.int .i64 0),(.int .i64 0),(.int .i64 0),(.bool false),(.int .u32 0),(.int .u32 0),(.bool false),(.string ⟨⟨[]⟩⟩),(.int .i64 0)] []),oM 57 τ7,oN (.store 16 τ2 Xlu),oD 3 (.mv (.const (.int .i64 0))),oD 4 (.mv (.const (.int .i64 0))),oM 5 XkE]) .ret) .skip)) (.seq XJt .ret))))))))
def fn46:VFn:=⟨63,XAG,[.cell 2 [(.int .i64),.bool,(.int .u64),(.int .u64),.bool,(.int .u64),(.int .u64),(.int .i64),(.int .i64),(.int .i64),.bool,(.int .u32),(.int .u32),.bool,.str,(.int .i64)] true,.tmp 3,.tmp 4,.tmp 5]⟩
def XA4:VC:=.seq (.reg [oD 2 (.alloc [(.bool false),(.int .u64 0),(.int .u64 0),(.bool false),(.int .u64 0),(.int .u64 0),(.int .i64 0),(.string ⟨⟨[]⟩⟩)]),oD 3 (.mv (.const (.int .i64 0)))]) (.seq (.reg [oM 10 τ0,oD 11 (.callF 106 [Xb9]),oM 9 Xb5,oE 12 0 τ9,oE 13 1 τ9,oE 14 2 τ9,oM 4 XcP,oM 5 XcS,oM 6 Xde]) (.seq (.seq (.reg [oM 15 τ6,oD 16 (.bin .neq Xdb (.const (.int .i64 0)))]) (.cond Xdh (.seq (.reg [oD 17 (.build [(.bool false),(.int .u64 0),(.int .u64 0),(.bool false),(.int .u64 0),(.int .u64 0),(.int .i64 0),(.string ⟨⟨[]⟩⟩)] []),oM 18 τ6,oN (.store 8 τ2 Xdc),oM 3 XdK]) .ret) .skip)) (.seq (.seq (.reg [oM 19 τ4]) (.block 0 (.seq (.reg [oD 20 (.tassert 88 (.agg ⟨[(.int .i64 0),(.int .i64 0),(.bool false),(.int .i64 0),(.int .i64 0),(.bool false),(.int .u64 0),(.int .u64 0),(.bool false),(.int .u64 0),(.int .u64 0),(.string ⟨⟨[]⟩⟩)]⟩) Xdx),oE 21 1 Xd2,oE 22 0 Xd2]) (.cond Xd5 (.seq (.reg [oD 7 (.alloc [(.int .i64 0),(.int .i64 0),(.bool false),(.int .i64 0),(.int .i64 0),(.bool false),(.int .u64 0),(.int .u64 0),(.bool false),(.int .u64 0),(.int .u64 0),(.string ⟨⟨[]⟩⟩)]),oN (.store 12 τ7 Xej)]) (.seq (.seq (.reg [oM 23 τ0,oD 24 (.lenS XeC),oD 25 (.fieldA 11 τ7),oD 26 (.load1 .str XeM),oD 27 (.lenS Xef),oD 28 (.bin .add (.const (.int .i64 20)) XeJ),oM 29 τ5,oD 30 (.lenS XeN),oD 31 (.bin .add XeD Xfh),oD 32 (.bin .neq Xei Xe3)]) (.cond Xfl (.seq (.reg [oD 33 (.build [(.bool false),(.int .u64 0),(.int .u64 0),(.bool false),(.int .u64 0),(.int .u64 0),(.int .i64 0),(.string ⟨⟨[]⟩⟩)] []),oN (.store 8 τ2 Xfn),oD 3 (.mv (.const (.int .i64 5)))]) .ret) .skip)) (.seq (.reg [oD 34 (.fieldA 5 τ7),oD 35 (.loadN [.bool,(.int .u64),(.int .u64)] Xfz),oD 36 (.fieldA 8 τ7),oD 37 (.loadN [.bool,(.int .u64),(.int .u64)] XfI),oD 38 (.fieldA 4 τ7),oD 39 (.load1 (.int .i64) XgG),oM 40 τ5,oD 41 (.build [(.bool false),(.int .u64 0),(.int .u64 0),(.bool false),(.int .u64 0),(.int .u64 0),(.int .i64 0),(.string ⟨⟨[]⟩⟩)] [(0,3,Xfp),(3,3,Xfo),(6,1,XgF),(7,1,Xhr)]),oN (.store 8 τ2 Xhg),oD 3 (.mv (.const (.int .i64 0)))]) .ret))) (.seq (.reg [oD 42 (.tassert 85 (.agg ⟨[(.int .i64 0),(.int .i64 0),(.int .i64 0),(.int .i64 0),(.bool false),(.int .u64 0),(.int .u64 0),(.bool false),(.int .u64 0),(.int .u64 0)]⟩) Xdx),oE 43 1 Xhh,oE 44 0 Xhh]) (.cond Xhm (.seq (.reg [oD 8 (.alloc [(.int .i64 0),(.int .i64 0),(.int .i64 0),(.int .i64 0),(.bool false),(.int .u64 0),(.int .u64 0),(.bool false),(.int .u64 0),(.int .u64 0)]),oN (.store 10 τ8 XhF)]) (.seq (.seq (.reg [oM 45 τ0,oD 46 (.lenS XhB),oM 47 τ5,oD 48 (.lenS XhQ),oD 49 (.bin .add (.const (.int .i64 40)) XiA),oD 50 (.bin .neq Xh6 Xiu)]) (.cond XiC (.seq (.reg [oD 51 (.build [(.bool false),(.int .u64 0),(.int .u64 0),(.bool false),(.int .u64 0),(.int .u64 0),(.int .i64 0),(.string ⟨⟨[]⟩⟩)] []),oN (.store 8 τ2 XiB),oD 3 (.mv (.const (.int .i64 5)))]) .ret) .skip)) (.seq (.reg [oD 52 (.fieldA 4 τ8),oD 53 (.loadN [.bool,(.int .u64),(.int .u64)] XjH),oD 54 (.fieldA 7 τ8),oD 55 (.loadN [.bool,(.int .u64),(.int .u64)] Xk3),oD 56 (.fieldA 2 τ8),oD 57 (.load1 (.int .i64) Xlu),oM 58 τ5,oD 59 (.build [(.bool false),(.int .u64 0),(.int .u64 0),(.bool false),(.int .u64 0),(.int .u64 0),(.int .i64 0),(.string ⟨⟨[]⟩⟩)] [(0,3,XjR),(3,3,Xk2),(6,1,XkE),(7,1,Xk0)]),oN (.store 8 τ2 Xln),oD 3 (.mv (.const (.int .i64 0)))]) .ret))) .skip)))))) (.seq (.reg [oD 60 (.build [(.bool false),(.int .u64 0),(.int .u64 0),(.bool false),(.int .u64 0),(.int .u64 0),(.int .i64 0),(.string ⟨⟨[]⟩⟩)] []),oN (.store 8 τ2 Xl3),oD 3 (.mv (.const (.int .i64 3)))]) .ret))))
def fn71:VFn:=⟨61,XA4,[.cell 2 [.bool,(.int .u64),(.int .u64),.bool,(.int .u64),(.int .u64),(.int .i64),.str] true,.tmp 3]⟩
def XEB:VC:=.seq (.reg [oM 2 (.const .nilIface),oD 3 (.mv (.const (.string ⟨⟨[]⟩⟩))),oD 4 (.mv (.const (.int .i64 0)))]) (.seq (.seq (.reg [oM 11 τ0,oD 12 (.idxS Xb5 (.const (.int .i64 0))),oD 13 (.bin .shr XcP (.const (.int .u64 4)))]) (.block 0 (.seq (.reg [oD 15 (.bin .eql XcS (.const (.int .u8 4))),oM 14 Xdb]) (.cond Xde (.seq (.reg [oM 17 τ0,oD 18 (.callF 129 [Xdc]),oM 16 XdK,oE 19 0 Xdh,oE 20 1 Xdh,oE 21 2 Xdh,oD 5 (.alloc [(.int .i64 0),(.int .i64 0),(.bool false),(.int .i64 0),(.int .i64 0),(.bool false),(.int .u64 0),(.int .u64 0),(.bool false),(.int .u64 0),(.int .u64 0),(.string ⟨⟨[]⟩⟩)]),oN (.store 12 τ5 Xdx),oM 6 Xd2,oM 7 Xd5]) (.seq (.reg [oD 22 (.loadN [(.int .i64),(.int .i64),.bool,(.int .i64),(.int .i64),.bool,(.int .u64),(.int .u64),.bool,(.int .u64),(.int .u64),.str] τ5),oD 23 (.iface 88 Xej),oM 24 τ6,oM 25 τ7,oM 2 XeC,oM 3 Xei,oM 4 XeM]) .ret)) (.seq (.reg [oD 27 (.bin .eql XcS (.const (.int .u8 6))),oM 26 XeJ]) (.cond Xef (.seq (.reg [oM 29 τ0,oD 30 (.callF 130 [XeN]),oM 28 Xfh,oE 31 0 XeD,oE 32 1 XeD,oE 33 2 XeD,oD 8 (.alloc [(.int .i64 0),(.int .i64 0),(.int .i64 0),(.int .i64 0),(.bool false),(.int .u64 0),(.int .u64 0),(.bool false),(.int .u64 0),(.int .u64 0)]),oN (.store 10 τ8 Xe3),oM 9 Xfl,oM 10 Xfn]) (.seq (.reg [oD 34 (.loadN [(.int .i64),(.int .i64),(.int .i64),(.int .i64),.bool,(.int .u64),(.int .u64),.bool,(.int .u64),(.int .u64)] τ8),oD 35 (.iface 85 Xfz),oM 36 τ9,oM 37 Xb9,oM 2 Xfp,oM 3 XfI,oM 4 Xfo]) .ret)) .skip)))))) (.seq (.reg [oM 2 (.const .nilIface),oD 3 (.mv (.const (.string ⟨⟨[]⟩⟩))),oD 4 (.mv (.const (.int .i64 3)))]) .ret))
def XIW:VFn:=⟨38,XEB,[.tmp 2,.tmp 3,.tmp 4]⟩
def XFN:VC:=.regD [oD 72 (.fieldA 0 τ5),oD 73 (.load1 .oth Xq4),oD 74 (.callF 62 [Xsz,(.const (.int .i64 1))]),oD 75 (.fieldA 0 τ5),oD 76 (.load1 .oth XtS),oD 77 (.callF 62 [Xws,(.const (.int .i64 1))]),oD 78 (.fieldA 3 τ7)] [(2,4)] [oN (.store 1 XwG Xv1),oD 79 (.fieldA 4 τ7),oN (.store 1 XxJ XtD)]
def XCU:VC:=.regD [oD 83 (.loadN [.oth] τ5),oD 84 (.callF 134 [XwA]),oD 85 (.loadN [.oth] τ5),oD 86 (.callF 134 [XEO]),oD 87 (.fieldA 5 τ7)] [(1,2)] [oN (.store 3 XDJ XBu),oD 88 (.fieldA 8 τ7),oN (.store 3 XDu XFb)]
def XCN:VC:=.regD [oD 95 (.loadN [(.int .i64),(.int .i64),.bool,(.int .i64),(.int .i64),.bool,(.int .u64),(.int .u64),.bool,(.int .u64),(.int .u64),.str] τ7),oD 96 (.fieldA 0 τ5),oD 97 (.load1 .oth XDG),oM 98 τ9,oM 99 τ8,oD 100 (.bin .sub τ98 τ99),oD 101 (.callF 64 [XGp,XD1])] [(0,6)] [oN (.store 12 τ2 XGm),oM 3 XFK,oD 4 (.mv (.const (.int .i64 0)))]
def Xvu:VC:=.seq (.reg [oD 2 (.alloc [(.int .i64 0),(.int .i64 0),(.bool false),(.int .i64 0),(.int .i64 0),(.bool false),(.int .u64 0),(.int .u64 0),(.bool false),(.int .u64 0),(.int .u64 0),(.string ⟨⟨[]⟩⟩)]),oD 3 (.mv (.const (.string ⟨⟨[]⟩⟩))),oD 4 (.mv (.const (.int .i64 0)))]) (.seq (.seq (.reg [oM 11 τ0,oD 12 (.lenS Xb5),oD 13 (.bin .lss XcP (.const (.int .i64 20)))]) (.cond XcS (.seq (.reg [oD 14 (.build [(.int .i64 0),(.int .i64 0),(.bool false),(.int .i64 0),(.int .i64 0),(.bool false),(.int .u64 0),(.int .u64 0),(.bool false),(.int .u64 0),(.int .u64 0),(.string ⟨⟨[]⟩⟩)] []),oN (.store 12 τ2 Xde),oD 3 (.mv (.const (.string ⟨⟨[]⟩⟩))),oD 4 (.mv (.const (.int .i64 2)))]) .ret) .skip)) (.seq (.reg [oM 15 τ0,oD 16 (.callF 61 [Xdb]),oD 17 (.build [(.pointer none)] [(0,1,Xdh)]),oD 5 (.alloc [(.pointer none)]),oN (.store 1 τ5 Xdc)]) (.seq (.reg [oD 18 (.fieldA 0 τ5),oD 19 (.load1 .oth XdK),oD 20 (.callF 62 [Xdx,(.const (.int .i64 1))]),oM 6 Xd2]) (.seq (.reg [oD 21 (.fieldA 0 τ5),oD 22 (.load1 .oth Xd5),oD 23 (.callF 62 [Xej,(.const (.int .i64 1))]),oD 24 (.build [(.int .i64 0),(.int .i64 0),(.bool false),(.int .i64 0),(.int .i64 0),(.bool false),(.int .u64 0),(.int .u64 0),(.bool false),(.int .u64 0),(.int .u64 0),(.string ⟨⟨[]⟩⟩)] [(0,1,XeC)]),oD 7 (.alloc [(.int .i64 0),(.int .i64 0),(.bool false),(.int .i64 0),(.int .i64 0),(.bool false),(.int .u64 0),(.int .u64 0),(.bool false),(.int .u64 0),(.int .u64 0),(.string ⟨⟨[]⟩⟩)]),oN (.store 12 τ7 Xei)]) (.seq (.reg [oM 25 τ6,oD 26 (.bin .and XeM (.const (.int .i64 15))),oD 27 (.bin .mul Xef (.const (.int .i64 4))),oD 28 (.fieldA 0 τ5),oD 29 (.load1 .oth XeD),oD 30 (.callF 62 [XeN,(.const (.int .i64 2))]),oM 8 XeJ,oM 9 Xfh]) (.seq (.block 0 (.seq (.reg [oM 32 τ6,oD 33 (.bin .shr Xfl (.const (.int .u64 4))),oD 34 (.bin .neq Xfn (.const (.int .i64 4))),oM 35 Xfz,oG 36 (.mv τ8) 35 false,oG 37 (.bin .lss XfI (.const (.int .i64 20))) 35 false,oD 38 (.pick Xfp (.const (.bool true)) Xfo),oM 39 XgG,oG 40 (.mv τ9) 39 false,oG 41 (.mv τ8) 39 false,oG 42 (.bin .lss Xhr Xhg) 39 false,oD 43 (.pick XgF (.const (.bool true)) Xhh),oM 31 Xhm]) (.cond Xe3 (.seq (.reg [oD 44 (.build [(.int .i64 0),(.int .i64 0),(.bool false),(.int .i64 0),(.int .i64 0),(.bool false),(.int .u64 0),(.int .u64 0),(.bool false),(.int .u64 0),(.int .u64 0),(.string ⟨⟨[]⟩⟩)] []),oN (.store 12 τ2 XhF),oD 3 (.mv (.const (.string ⟨⟨[]⟩⟩))),oD 4 (.mv (.const (.int .i64 3)))]) .ret) (.seq (.reg [oM 46 τ9,oM 47 τ0,oD 48 (.lenS XhQ),oD 49 (.bin .gtr Xh6 XiA),oM 45 Xiu]) (.cond XhB (.seq (.reg [oD 50 (.build [(.int .i64 0),(.int .i64 0),(.bool false),(.int .i64 0),(.int .i64 0),(.bool false),(.int .u64 0),(.int .u64 0),(.bool false),(.int .u64 0),(.int .u64 0),(.string ⟨⟨[]⟩⟩)] []),oN (.store 12 τ2 XiC),oD 3 (.mv (.const (.string ⟨⟨[]⟩⟩))),oD 4 (.mv (.const (.int .i64 2)))]) .ret) (.seq (.reg [oM 52 τ0,oM 53 τ8,oD 54 (.sliceS XjH none (some XjR)),oD 55 (.callF 131 [Xk3]),oD 56 (.not Xk2),oM 51 Xlu]) (.cond XiB (.seq (.reg [oD 57 (.build [(.int .i64 0),(.int .i64 0),(.bool false),(.int .i64 0),(.int .i64 0),(.bool false),(.int .u64 0),(.int .u64 0),(.bool false),(.int .u64 0),(.int .u64 0),(.string ⟨⟨[]⟩⟩)] []),oN (.store 12 τ2 XkE),oD 3 (.mv (.const (.string ⟨⟨[]⟩⟩))),oD 4 (.mv (.const (.int .i64 4)))]) .ret) .skip))))))) (.seq (.reg [oD 58 (.fieldA 0 τ5),oD 59 (.load1 .oth Xk0),oD 60 (.callF 62 [Xln,(.const (.int .i64 2))]),oD 61 (.fieldA 1 τ7),oN (.store 1 Xl0 Xl3)]) (.seq (.reg [oD 62 (.fieldA 0 τ5),oD 63 (.load1 .oth Xm6),oD 64 (.callF 62 [Xox,(.const (.int .i64 2))]),oM 10 XoH]) (.seq (.seq (.reg [oM 65 Xb9,oD 66 (.bin .andNot XoP (.const (.int .i64 16384))),oD 67 (.bin .neq XpY (.const (.int .i64 0)))]) (.cond XoO (.seq (.reg [oD 68 (.build [(.int .i64 0),(.int .i64 0),(.bool false),(.int .i64 0),(.int .i64 0),(.bool false),(.int .u64 0),(.int .u64 0),(.bool false),(.int .u64 0),(.int .u64 0),(.string ⟨⟨[]⟩⟩)] []),oN (.store 12 τ2 XpR),oD 3 (.mv (.const (.string ⟨⟨[]⟩⟩))),oD 4 (.mv (.const (.int .i64 7)))]) .ret) .skip)) (.seq (.reg [oM 69 Xb9,oD 70 (.bin .neq XpT (.const (.int .i64 0))),oD 71 (.fieldA 2 τ7),oN (.store 1 Xrf Xrl)]) (.seq XFN (.seq (.reg [oD 80 (.fieldA 0 τ5),oD 81 (.load1 .oth XwF),oD 82 (.callF 62 [Xx2,(.const (.int .i64 2))])]) (.seq XCU (.seq (.reg [oD 89 (.fieldA 0 τ5),oD 90 (.load1 .oth XAr),oM 91 τ8,oD 92 (.bin .sub XCX (.const (.int .i64 20))),oD 93 (.callF 64 [XGg,XC9]),oD 94 (.fieldA 11 τ7),oN (.store 1 XDh XC2)]) (.seq XCN .ret)))))))))))))))
def XGO:VFn:=⟨102,Xvu,[.cell 2 [(.int .i64),(.int .i64),.bool,(.int .i64),(.int .i64),.bool,(.int .u64),(.int .u64),.bool,(.int .u64),(.int .u64),.str] true,.tmp 3,.tmp 4]⟩
def XHZ:VC:=.seq (.reg [oD 2 (.mv (.const (.pointer none)))]) (.seq (.reg [oM 3 τ0,oD 4 (.build [(.string ⟨⟨[]⟩⟩),(.bool false),(.bool false)] [(0,1,τ3),(1,1,(.const (.bool true)))]),oD 5 (.box τ4),oM 2 τ5]) .ret)
def fn61:VFn:=⟨6,XHZ,[.tmp 2]⟩
def XAT:VC:=.seq (.reg [oD 4 (.mv (.const (.int .i64 0)))]) (.seq (.seq (.reg [oM 7 τ1,oD 8 (.bin .lss τ7 (.const (.int .i64 1))),oM 9 τ8,oG 10 (.mv τ1) 9 false,oG 11 (.bin .gtr Xb9 (.const (.int .i64 7))) 9 false,oD 12 (.pick τ9 (.const (.bool true)) Xb5)]) (.cond XcP (.reg [oD 1 (.mv (.const (.int .i64 (-1))))]) .skip)) (.seq (.reg [oM 14 τ0,oM 15 τ1,oD 16 (.callF 64 [Xde,Xdb]),oM 17 τ1,oD 18 (.callF 40 [Xdh,(.const (.int .i64 0)),Xdc]),oM 13 XdK,oE 19 0 XcS,oE 20 1 XcS,oM 5 Xdx,oM 6 Xd2]) (.seq (.reg [oM 21 τ5,oD 22 (.conv .i64 Xd5),oM 4 Xej]) .ret)))
def fn62:VFn:=⟨23,XAT,[.tmp 4]⟩
def XzL:VC:=.seq (.reg [oD 4 (.mv (.const (.string ⟨⟨[]⟩⟩)))]) (.seq (.seq (.reg [oM 6 τ0,oD 7 (.callF 63 [τ6])]) (.cond τ7 (.seq (.reg [oD 4 (.mv (.const (.string ⟨⟨[]⟩⟩)))]) .ret) .skip)) (.seq (.seq (.reg [oM 8 τ1,oD 9 (.bin .lss τ8 (.const (.int .i64 0))),oM 10 τ9,oG 11 (.mv τ1) 10 false,oG 12 (.mv τ0) 10 false,oG 13 (.nilCheck XcP) 10 false,oG 14 (.fieldA 0 XcS) 10 false,oG 15 (.load1 .str Xde) 10 false,oG 16 (.lenS Xdb) 10 false,oG 17 (.bin .gtr Xb5 Xdh) 10 false,oD 18 (.pick Xb9 (.const (.bool true)) Xdc)]) (.cond XdK (.seq (.reg [oM 19 τ0,oD 20 (.nilCheck Xdx),oD 21 (.fieldA 2 Xd2),oN (.store 1 Xd5 (.const (.bool true)))]) (.seq (.reg [oD 4 (.mv (.const (.string ⟨⟨[]⟩⟩)))]) .ret)) .skip)) (.seq (.reg [oM 22 τ0,oD 23 (.nilCheck Xej),oD 24 (.fieldA 0 XeC),oD 25 (.load1 .str Xei),oM 26 τ1,oD 27 (.sliceS XeM none (some Xef)),oM 5 XeJ]) (.seq (.reg [oM 28 τ0,oM 29 τ0,oD 30 (.nilCheck XeN),oD 31 (.fieldA 0 Xfh),oD 32 (.load1 .str Xe3),oM 33 τ1,oD 34 (.sliceS Xfl (some Xfn) none),oD 35 (.nilCheck XeD),oD 36 (.fieldA 0 Xfp),oN (.store 1 XfI Xfz)]) (.seq (.reg [oM 37 τ5,oM 4 Xfo]) .ret)))))
def fn64:VFn:=⟨38,XzL,[.tmp 4]⟩
def XI5:VC:=.seq (.reg [oD 2 (.mv (.const (.bool false)))]) (.seq (.reg [oM 3 τ0,oD 4 (.isNil 0 false τ3),oM 5 τ4,oG 6 (.mv τ0) 5 false,oG 7 (.nilCheck τ6) 5 false,oG 8 (.fieldA 1 τ7) 5 false,oG 9 (.load1 .bool τ8) 5 false,oG 10 (.not τ9) 5 false,oD 11 (.pick τ5 (.const (.bool true)) Xb9),oM 12 Xb5,oG 13 (.mv τ0) 12 false,oG 14 (.nilCheck XcS) 12 false,oG 15 (.fieldA 2 Xde) 12 false,oG 16 (.load1 .bool Xdb) 12 false,oD 17 (.pick XcP (.const (.bool true)) Xdh),oM 2 Xdc]) .ret)
def fn63:VFn:=⟨18,XI5,[.tmp 2]⟩
def XuB:VC:=.seq (.reg [oD 38 (.bin .lss Xfo XfI)]) (.seq (.cond XgG .skip (.exit 0)) (.seq (.block 1 (.seq (.reg [oD 39 (.idxAL 1 Xfp Xfo),oD 40 (.load1 (.int .u8) XgF),oM 10 Xhr]) (.reg [oM 41 τ8,oD 42 (.bin .shl Xhg (.const (.int .u64 8))),oM 43 Xb9,oD 44 (.conv .u64 Xhm),oD 45 (.bin .or Xhh XhF),oM 8 XhB]))) (.reg [oD 46 (.bin .add Xfo (.const (.int .i64 1))),oM 37 Xh6])))
def XAL:VC:=.seq (.reg [oM 47 τ8,oM 6 XhQ,oD 7 (.mv (.const (.bool true)))]) .ret
def Xzu:VC:=.seq (.reg [oD 6 (.mv (.const (.int .u64 0))),oD 7 (.mv (.const (.bool false)))]) (.seq (.seq (.reg [oM 11 τ2,oD 12 (.bin .lss Xb5 (.const (.int .i64 1))),oM 13 XcP,oG 14 (.mv τ2) 13 false,oG 15 (.bin .gtr Xde (.const (.int .i64 8))) 13 false,oD 16 (.pick XcS (.const (.bool true)) Xdb),oM 17 Xdh,oG 18 (.mv τ1) 17 false,oG 19 (.bin .lss XdK (.const (.int .i64 0))) 17 false,oD 20 (.pick Xdc (.const (.bool true)) Xdx),oM 21 Xd2,oG 22 (.mv τ0) 21 false,oG 23 (.lenS Xej) 21 false,oG 24 (.mv τ2) 21 false,oG 25 (.bin .sub XeC Xei) 21 false,oG 26 (.mv τ1) 21 false,oG 27 (.bin .lss XeM Xef) 21 false,oD 28 (.pick Xd5 (.const (.bool true)) XeJ)]) (.cond XeD (.seq (.reg [oD 6 (.mv (.const (.int .u64 0))),oD 7 (.mv (.const (.bool false)))]) .ret) .skip)) (.seq (.reg [oD 8 (.mv (.const (.int .u64 0)))]) (.seq (.seq (.reg [oM 29 τ0,oM 30 τ1,oM 31 τ1,oM 32 τ2,oD 33 (.bin .add Xe3 Xfl),oD 34 (.sliceS XeN (some Xfh) (some Xfn)),oD 35 (.s2b Xfz),oD 36 (.lenL Xfp),oD 37 (.mv (.const (.int .i64 0)))]) (.block 0 (.loop XuB))) XAL)))
def fn40:VFn:=⟨48,Xzu,[.tmp 6,.tmp 7]⟩
def XBv:VC:=.seq (.reg [oD 2 (.mv (.const (.bool false)))]) (.seq (.reg [oM 3 τ0,oD 4 (.callF 112 [τ3]),oD 5 (.bin .eql τ4 (.const (.int .i64 65535))),oM 2 τ5]) .ret)
def XH6:VFn:=⟨6,XBv,[.tmp 2]⟩
def Xzs:VC:=.reg [oM 4 τ7]
def XAY:VC:=.block 1 (.reg [oD 8 (.load1 (.int .i64) τ3),oM 9 τ4,oD 10 (.bin .add τ8 τ9),oD 11 (.callF 128 [Xb9]),oN (.store 1 τ3 Xb5)])
def XKe:VC:=.rangeF τ6 [7] Xzs XAY
def Xu7:VC:=.seq (.reg [oD 12 (.load1 (.int .i64) τ3),oM 2 XcP]) .ret
def XuJ:VC:=.seq (.reg [oD 2 (.mv (.const (.int .i64 0)))]) (.seq (.reg [oD 3 (.alloc [(.int .i64 0)]),oN (.store 1 τ3 (.const (.int .i64 0)))]) (.seq (.seq (.reg [oM 5 τ0,oD 6 (.callF 104 [τ5])]) (.block 0 XKe)) Xu7))
def XIM:VFn:=⟨13,XuJ,[.tmp 2]⟩
def XH1:VC:=.seq (.reg [oD 1 (.box τ0),oM 2 (.const .nilFunc)]) (.seq (.reg [oD 3 (.mkFunc 126 [] [τ1]),oM 2 τ3]) .ret)
def XHF:VFn:=⟨4,XH1,[.tmp 2]⟩
def Xm3:VC:=.seq (.seq (.reg [oM 5 τ3,oD 6 (.load1 .str τ1),oD 7 (.lenS τ6),oD 8 (.bin .lss τ5 τ7)]) (.cond τ8 .skip (.exit 0))) (.seq (.block 1 (.seq (.reg [oD 11 (.load1 .str τ1),oM 12 τ3,oD 13 (.idxS Xb5 XcP),oD 14 (.conv .i64 XcS),oD 15 (.bin .shl Xde (.const (.int .u64 8))),oM 4 Xdb]) (.seq (.seq (.reg [oM 16 τ3,oD 17 (.bin .add Xdh (.const (.int .i64 1))),oD 18 (.load1 .str τ1),oD 19 (.lenS XdK),oD 20 (.bin .lss Xdc Xdx)]) (.cond Xd2 (.reg [oM 21 τ4,oD 22 (.load1 .str τ1),oM 23 τ3,oD 24 (.bin .add XeC (.const (.int .i64 1))),oD 25 (.idxS Xej Xei),oD 26 (.conv .i64 XeM),oD 27 (.bin .or Xd5 Xef),oM 4 XeJ]) .skip)) (.seq (.reg [oM 28 τ0,oM 29 τ4,oD 30 (.callV XeD [XeN]),oD 31 (.not Xfh)]) (.cond Xe3 .ret .skip))))) (.reg [oM 9 τ3,oD 10 (.bin .add τ9 (.const (.int .i64 2))),oM 3 Xb9]))
def XFX:VC:=.seq (.reg [oD 3 (.mv (.const (.int .i64 0)))]) (.block 0 (.loop Xm3))
def XI6:VFn:=⟨32,XFX,[]⟩
def Xui:VC:=.seq (.seq (.reg [oM 3 τ0,oD 4 (.bin .gtr τ3 (.const (.int .i64 65535)))]) (.cond τ4 .skip (.exit 0))) (.block 1 (.reg [oM 5 τ0,oD 6 (.bin .and τ5 (.const (.int .i64 65535))),oM 7 τ0,oD 8 (.bin .shr τ7 (.const (.int .u64 16))),oD 9 (.bin .add τ6 τ8),oM 0 τ9]))
def Xub:VC:=.seq (.reg [oM 10 τ0,oM 2 Xb9]) .ret
def Xvn:VC:=.seq (.reg [oD 2 (.mv (.const (.int .i64 0)))]) (.seq (.block 0 (.loop Xui)) Xub)
def XIn:VFn:=⟨11,Xvn,[.tmp 2]⟩
def XBp:VC:=.seq (.reg [oD 1 (.box τ0),oD 2 (.alloc [(.bool false),(.int .u64 0),(.int .u64 0)])]) (.seq (.reg [oD 6 (.fieldA 0 τ1),oD 7 (.load1 .oth τ6),oD 8 (.callF 64 [τ7,(.const (.int .i64 4))]),oD 9 (.callF 135 [τ8]),oM 5 τ9,oE 10 0 τ5,oE 11 1 τ5,oD 3 (.alloc [(.bool false),(.int .u64 0),(.int .u64 0)]),oN (.store 3 τ3 Xb9),oM 4 Xb5]) (.seq (.reg [oD 12 (.loadN [.bool,(.int .u64),(.int .u64)] τ3),oN (.store 3 τ2 XcP)]) .ret))
def XJG:VFn:=⟨13,XBp,[.cell 2 [.bool,(.int .u64),(.int .u64)] true]⟩
def Xud:VC:=.seq (.reg [oD 2 (.alloc [(.bool false),(.int .u64 0),(.int .u64 0)]),oD 3 (.mv (.const (.bool false)))]) (.seq (.seq (.reg [oM 7 τ0,oD 8 (.lenS τ7)]) (.block 0 (.seq (.reg [oD 10 (.bin .eql τ8 (.const (.int .i64 4))),oM 9 Xb9]) (.cond τ9 (.seq (.reg [oM 12 τ0,oD 13 (.callF 40 [XcP,(.const (.int .i64 0)),(.const (.int .i64 4))]),oM 11 XcS,oE 14 0 Xb5,oE 15 1 Xb5,oM 4 Xde,oM 5 Xdb]) (.seq (.reg [oM 16 τ4,oD 17 (.build [(.bool false),(.int .u64 0),(.int .u64 0)] [(2,1,Xdh)]),oN (.store 3 τ2 Xdc),oD 3 (.mv (.const (.bool true)))]) .ret)) (.seq (.reg [oD 19 (.bin .eql τ8 (.const (.int .i64 16))),oM 18 Xdx]) (.cond XdK (.seq (.reg [oD 20 (.build [(.bool false),(.int .u64 0),(.int .u64 0)] [(0,1,(.const (.bool true)))]),oD 6 (.alloc [(.bool false),(.int .u64 0),(.int .u64 0)]),oN (.store 3 τ6 Xd2)]) (.seq (.reg [oM 22 τ0,oD 23 (.callF 40 [Xej,(.const (.int .i64 0)),(.const (.int .i64 8))]),oM 21 XeC,oE 24 0 Xd5,oE 25 1 Xd5,oD 26 (.fieldA 1 τ6),oN (.store 1 Xef Xei)]) (.seq (.reg [oM 28 τ0,oD 29 (.callF 40 [XeD,(.const (.int .i64 8)),(.const (.int .i64 8))]),oM 27 XeN,oE 30 0 XeJ,oE 31 1 XeJ,oD 32 (.fieldA 2 τ6),oN (.store 1 Xfl Xfh)]) (.seq (.reg [oD 33 (.loadN [.bool,(.int .u64),(.int .u64)] τ6),oN (.store 3 τ2 Xfn),oD 3 (.mv (.const (.bool true)))]) .ret)))) .skip)))))) (.seq (.reg [oD 34 (.build [(.bool false),(.int .u64 0),(.int .u64 0)] []),oN (.store 3 τ2 Xfz),oD 3 (.mv (.const (.bool false)))]) .ret))
def XH3:VFn:=⟨35,Xud,[.cell 2 [.bool,(.int .u64),(.int .u64)] true,.tmp 3]⟩
def Xvp:VC:=.seq (.reg [oD 2 (.alloc [(.int .i64 0),(.int .i64 0),(.int .i64 0),(.int .i64 0),(.bool false),(.int .u64 0),(.int .u64 0),(.bool false),(.int .u64 0),(.int .u64 0)]),oD 3 (.mv (.const (.string ⟨⟨[]⟩⟩))),oD 4 (.mv (.const (.int .i64 0)))]) (.seq (.reg [oM 12 τ0,oD 13 (.callF 61 [XcP]),oM 5 XcS]) (.seq (.reg [oM 14 τ5,oD 15 (.callF 62 [Xde,(.const (.int .i64 4))]),oM 16 τ5,oD 17 (.callF 62 [Xdh,(.const (.int .i64 2))]),oM 6 Xdb,oM 7 Xdc]) (.seq (.reg [oM 18 τ6,oD 19 (.bin .shr XdK (.const (.int .u64 20))),oD 20 (.bin .and Xdx (.const (.int .i64 255))),oM 21 τ6,oD 22 (.bin .and Xd5 (.const (.int .i64 1048575))),oM 23 τ5,oD 24 (.callF 62 [XeC,(.const (.int .i64 1))]),oM 25 τ5,oD 26 (.callF 62 [XeM,(.const (.int .i64 1))]),oD 27 (.build [(.int .i64 0),(.int .i64 0),(.int .i64 0),(.int .i64 0),(.bool false),(.int .u64 0),(.int .u64 0),(.bool false),(.int .u64 0),(.int .u64 0)] [(0,1,Xd2),(1,1,Xej),(2,1,Xei),(3,1,Xef)]),oD 8 (.alloc [(.int .i64 0),(.int .i64 0),(.int .i64 0),(.int .i64 0),(.bool false),(.int .u64 0),(.int .u64 0),(.bool false),(.int .u64 0),(.int .u64 0)]),oN (.store 10 τ8 XeJ)]) (.seq (.reg [oM 28 τ5,oD 29 (.callF 64 [XeD,(.const (.int .i64 16))]),oM 30 τ5,oD 31 (.callF 64 [Xfh,(.const (.int .i64 16))]),oM 9 XeN,oM 10 Xe3]) (.seq (.seq (.reg [oM 32 τ5,oD 33 (.callF 63 [Xfl])]) (.cond Xfn (.seq (.reg [oD 34 (.build [(.int .i64 0),(.int .i64 0),(.int .i64 0),(.int .i64 0),(.bool false),(.int .u64 0),(.int .u64 0),(.bool false),(.int .u64 0),(.int .u64 0)] []),oN (.store 10 τ2 Xfz),oD 3 (.mv (.const (.string ⟨⟨[]⟩⟩))),oD 4 (.mv (.const (.int .i64 2)))]) .ret) .skip)) (.seq (.seq (.reg [oM 35 τ6,oD 36 (.bin .shr Xfp (.const (.int .u64 28))),oD 37 (.bin .neq XfI (.const (.int .i64 6)))]) (.cond Xfo (.seq (.reg [oD 38 (.build [(.int .i64 0),(.int .i64 0),(.int .i64 0),(.int .i64 0),(.bool false),(.int .u64 0),(.int .u64 0),(.bool false),(.int .u64 0),(.int .u64 0)] []),oN (.store 10 τ2 XgG),oD 3 (.mv (.const (.string ⟨⟨[]⟩⟩))),oD 4 (.mv (.const (.int .i64 3)))]) .ret) .skip)) (.seq (.reg [oM 40 τ9,oD 41 (.callF 135 [Xhr]),oM 39 Xhg,oE 42 0 XgF,oE 43 1 XgF,oD 44 (.fieldA 4 τ8),oN (.store 3 XhF Xhh)]) (.seq (.reg [oM 46 Xb9,oD 47 (.callF 135 [Xh6]),oM 45 XhQ,oE 48 0 XhB,oE 49 1 XhB,oD 50 (.fieldA 7 τ8),oN (.store 3 XiC XiA)]) (.seq (.reg [oM 51 τ5,oM 52 τ7,oD 53 (.callF 64 [XiB,XjH]),oM 11 XjR]) (.seq (.seq (.reg [oM 54 τ5,oD 55 (.callF 63 [Xk3])]) (.cond Xk2 (.seq (.reg [oD 56 (.build [(.int .i64 0),(.int .i64 0),(.int .i64 0),(.int .i64 0),(.bool false),(.int .u64 0),(.int .u64 0),(.bool false),(.int .u64 0),(.int .u64 0)] []),oN (.store 10 τ2 Xlu),oD 3 (.mv (.const (.string ⟨⟨[]⟩⟩))),oD 4 (.mv (.const (.int .i64 2)))]) .ret) .skip)) (.seq (.reg [oD 57 (.loadN [(.int .i64),(.int .i64),(.int .i64),(.int .i64),.bool,(.int .u64),(.int .u64),.bool,(.int .u64),(.int .u64)] τ8),oM 58 Xb5,oN (.store 10 τ2 XkE),oM 3 Xk0,oD 4 (.mv (.const (.int .i64 0)))]) .ret)))))))))))
def XKn:VFn:=⟨59,Xvp,[.cell 2 [(.int .i64),(.int .i64),(.int .i64),(.int .i64),.bool,(.int .u64),(.int .u64),.bool,(.int .u64),(.int .u64)] true,.tmp 3,.tmp 4]⟩
def k72_7:VC:=.regD [oM 26 τ1,oM 27 τ1,oM 28 τ1,oD 29 (.fieldA 0 τ6),oD 30 (.load1 (.int .i64) XeN),oD 31 (.fieldA 1 τ6),oD 32 (.load1 (.int .i64) Xe3),oD 33 (.fieldA 4 τ6),oD 34 (.load1 (.int .i64) Xfn),oD 35 (.nilCheck Xef),oD 36 (.fieldA 0 Xfp),oD 37 (.fieldA 7 XfI),oN (.store 1 Xfo Xfh),oD 38 (.nilCheck XeJ),oD 39 (.fieldA 0 XgG),oD 40 (.fieldA 8 XgF),oN (.store 1 Xhr Xfl)] [(6,12),(8,12),(8,16)] [oD 41 (.nilCheck XeD),oD 42 (.fieldA 9 Xhg),oN (.store 1 Xhh Xfz)]
def XzB:VC:=.seq (.reg [oD 2 (.box τ0),oD 4 (.mv (.const (.int .i64 0))),oD 5 (.mv (.const (.int .i64 0)))]) (.seq (.reg [oD 13 (.fieldA 7 τ2),oD 14 (.load1 .str XcS),oD 15 (.fieldA 0 τ2),oD 16 (.loadN [.bool,(.int .u64),(.int .u64)] Xdb),oD 17 (.fieldA 3 τ2),oD 18 (.loadN [.bool,(.int .u64),(.int .u64)] Xdc),oD 19 (.callF 107 [Xde,Xdh,XdK]),oM 12 Xdx,oE 20 0 XcP,oE 21 1 XcP,oE 22 2 XcP,oD 6 (.alloc [(.int .i64 0),(.int .i64 0),(.int .u32 0),(.int .u32 0),(.int .i64 0),(.int .i64 0),(.int .i64 0),(.string ⟨⟨[]⟩⟩)]),oN (.store 8 τ6 Xd2),oM 7 Xd5,oM 8 Xej]) (.seq (.seq (.reg [oM 23 τ8,oD 24 (.bin .neq XeC (.const (.int .i64 0)))]) (.cond Xei (.seq (.reg [oM 25 τ8,oD 4 (.mv (.const (.int .i64 0))),oM 5 XeM]) .ret) .skip)) (.seq k72_7 (.seq (.seq (.reg [oD 44 (.fieldA 7 τ6),oD 45 (.load1 .str XhF),oD 46 (.callF 60 [XhB]),oM 43 Xh6,oE 47 0 Xhm,oE 48 1 Xhm,oE 49 2 Xhm,oM 9 XhQ,oM 10 XiA,oM 11 Xiu]) (.seq (.reg [oM 50 Xb5,oD 51 (.bin .geq XiC (.const (.int .i64 0)))]) (.cond XiB (.reg [oM 52 τ1,oM 53 τ1,oM 54 τ1,oM 55 τ9,oM 56 Xb9,oD 57 (.nilCheck XjH),oD 58 (.fieldA 10 XkE),oN (.store 1 Xk0 (.const (.bool true))),oD 59 (.nilCheck XjR),oD 60 (.fieldA 11 Xln),oN (.store 1 Xl3 Xk2),oD 61 (.nilCheck Xk3),oD 62 (.fieldA 12 Xl0),oN (.store 1 Xm6 Xlu)]) .skip))) (.seq (.reg [oM 63 τ7,oD 64 (.lenS Xox),oM 4 XoH,oD 5 (.mv (.const (.int .i64 0)))]) .ret)))))
def fn72:VFn:=⟨65,XzB,[.tmp 4,.tmp 5]⟩
def XJZ:VC:=.regD [oM 20 τ0,oD 21 (.idxS Xd2 (.const (.int .i64 12))),oD 22 (.bin .shr Xd5 (.const (.int .u64 4))),oD 23 (.conv .i64 Xej),oM 24 τ0,oD 25 (.idxS Xei (.const (.int .i64 12))),oD 26 (.bin .and XeM (.const (.int .u8 15))),oM 9 XeC] [] [oM 10 Xef]
def XCh:VC:=.regD [oD 72 (.loadN [(.int .i64),(.int .i64),(.int .u32),(.int .u32),(.int .i64),(.int .i64),(.int .i64),.str] XcS),oM 73 τ0,oM 74 Xb5,oD 75 (.sliceS Xsz (some Xv1) none),oN (.store 8 τ6 Xq4)] [] [oM 7 XtS,oD 8 (.mv (.const (.int .i64 0)))]
def Xv4:VC:=.seq (.reg [oD 4 (.box τ1),oD 5 (.box τ2),oD 6 (.alloc [(.int .i64 0),(.int .i64 0),(.int .u32 0),(.int .u32 0),(.int .i64 0),(.int .i64 0),(.int .i64 0),(.string ⟨⟨[]⟩⟩)]),oD 7 (.mv (.const (.string ⟨⟨[]⟩⟩))),oD 8 (.mv (.const (.int .i64 0)))]) (.seq (.seq (.reg [oM 16 τ0,oD 17 (.lenS Xdh),oD 18 (.bin .lss Xdc (.const (.int .i64 20)))]) (.cond XdK (.seq (.reg [oD 19 (.build [(.int .i64 0),(.int .i64 0),(.int .u32 0),(.int .u32 0),(.int .i64 0),(.int .i64 0),(.int .i64 0),(.string ⟨⟨[]⟩⟩)] []),oN (.store 8 τ6 Xdx),oD 7 (.mv (.const (.string ⟨⟨[]⟩⟩))),oD 8 (.mv (.const (.int .i64 2)))]) .ret) .skip)) (.seq XJZ (.seq (.reg [oM 27 τ9,oD 28 (.bin .mul (.const (.int .i64 4)) XeJ),oM 11 XeD]) (.seq (.block 0 (.seq (.reg [oM 30 Xb5,oD 31 (.bin .lss Xfh (.const (.int .i64 20))),oM 32 Xe3,oG 33 (.mv Xb9) 32 false,oG 34 (.bin .neq Xfn (.const (.int .u8 0))) 32 false,oD 35 (.pick Xfl (.const (.bool true)) Xfz),oM 29 Xfp]) (.cond XeN (.seq (.reg [oD 36 (.build [(.int .i64 0),(.int .i64 0),(.int .u32 0),(.int .u32 0),(.int .i64 0),(.int .i64 0),(.int .i64 0),(.string ⟨⟨[]⟩⟩)] []),oN (.store 8 τ6 XfI),oD 7 (.mv (.const (.string ⟨⟨[]⟩⟩))),oD 8 (.mv (.const (.int .i64 3)))]) .ret) (.seq (.reg [oM 38 Xb5,oM 39 τ0,oD 40 (.lenS XgF),oD 41 (.bin .gtr XgG Xhr),oM 37 Xhg]) (.cond Xfo (.seq (.reg [oD 42 (.build [(.int .i64 0),(.int .i64 0),(.int .u32 0),(.int .u32 0),(.int .i64 0),(.int .i64 0),(.int .i64 0),(.string ⟨⟨[]⟩⟩)] []),oN (.store 8 τ6 Xhh),oD 7 (.mv (.const (.string ⟨⟨[]⟩⟩))),oD 8 (.mv (.const (.int .i64 2)))]) .ret) .skip))))) (.seq (.reg [oD 43 (.loadN [.bool,(.int .u64),(.int .u64)] τ4),oD 44 (.loadN [.bool,(.int .u64),(.int .u64)] τ5),oM 45 τ0,oD 46 (.lenS XhB),oD 47 (.callF 109 [Xhm,XhF,(.const (.int .i64 6)),Xh6]),oM 12 XhQ]) (.seq (.block 1 (.seq (.reg [oM 49 XcP,oD 50 (.bin .eql Xiu (.const (.string ⟨⟨[]⟩⟩))),oM 48 XiC]) (.cond XiA (.seq (.reg [oD 51 (.build [(.int .i64 0),(.int .i64 0),(.int .u32 0),(.int .u32 0),(.int .i64 0),(.int .i64 0),(.int .i64 0),(.string ⟨⟨[]⟩⟩)] []),oN (.store 8 τ6 XiB),oD 7 (.mv (.const (.string ⟨⟨[]⟩⟩))),oD 8 (.mv (.const (.int .i64 1)))]) .ret) (.seq (.reg [oM 53 XcP,oM 54 τ0,oD 55 (.bin .add XjR Xk3),oD 56 (.callF 131 [Xk2]),oD 57 (.not Xlu),oM 52 XkE]) (.cond XjH (.seq (.reg [oD 58 (.build [(.int .i64 0),(.int .i64 0),(.int .u32 0),(.int .u32 0),(.int .i64 0),(.int .i64 0),(.int .i64 0),(.string ⟨⟨[]⟩⟩)] []),oN (.store 8 τ6 Xk0),oD 7 (.mv (.const (.string ⟨⟨[]⟩⟩))),oD 8 (.mv (.const (.int .i64 4)))]) .ret) .skip))))) (.seq (.reg [oM 59 τ0,oM 60 Xb5,oD 61 (.callF 132 [Xln,Xl3]),oD 13 (.alloc [(.int .i64 0),(.int .i64 0),(.int .u32 0),(.int .u32 0),(.int .i64 0),(.int .i64 0),(.int .i64 0),(.string ⟨⟨[]⟩⟩)]),oN (.store 8 XcS Xl0)]) (.seq (.seq (.reg [oD 63 (.fieldA 7 XcS),oD 64 (.load1 .str Xox),oD 65 (.callF 102 [XoH]),oM 62 XoP,oE 66 0 Xm6,oE 67 1 Xm6,oM 14 XpY,oM 15 XoO]) (.seq (.reg [oM 68 Xdb,oD 69 (.bin .neq XpR (.const (.int .i64 0)))]) (.cond XpT (.seq (.reg [oD 70 (.build [(.int .i64 0),(.int .i64 0),(.int .u32 0),(.int .u32 0),(.int .i64 0),(.int .i64 0),(.int .i64 0),(.string ⟨⟨[]⟩⟩)] []),oM 71 Xdb,oN (.store 8 τ6 Xrl),oD 7 (.mv (.const (.string ⟨⟨[]⟩⟩))),oM 8 Xrf]) .ret) .skip))) (.seq XCh .ret)))))))))
def XJ6:VFn:=⟨76,Xv4,[.cell 6 [(.int .i64),(.int .i64),(.int .u32),(.int .u32),(.int .i64),(.int .i64),(.int .i64),.str] true,.tmp 7,.tmp 8]⟩
def XK4:VC:=.regD [oD 25 (.loadN [.bool,(.int .u64),(.int .u64)] τ4),oD 26 (.callF 80 [XeM]),oD 27 (.loadN [.bool,(.int .u64),(.int .u64)] τ5)] [(1,2)] [oD 28 (.callF 80 [XeJ]),oD 29 (.bin .add Xef XeD),oM 9 XeN]
def Xwn:VC:=.seq (.reg [oD 4 (.box τ0),oD 5 (.box τ1),oD 8 (.mv (.const (.string ⟨⟨[]⟩⟩)))]) (.seq (.seq (.reg [oD 10 (.loadN [.bool,(.int .u64),(.int .u64)] τ4),oD 11 (.callF 113 [Xb9]),oD 12 (.not Xb5),oM 13 XcP,oG 14 (.loadN [.bool,(.int .u64),(.int .u64)] τ5) 13 false,oG 15 (.callF 113 [Xde]) 13 false,oG 16 (.not Xdb) 13 false,oD 17 (.pick XcS (.const (.bool true)) Xdh),oM 18 Xdc,oG 19 (.fieldA 0 τ4) 18 false,oG 20 (.load1 .bool Xdx) 18 false,oG 21 (.fieldA 0 τ5) 18 false,oG 22 (.load1 .bool Xd5) 18 false,oG 23 (.eqB true Xd2 Xej) 18 false,oD 24 (.pick XdK (.const (.bool true)) XeC)]) (.cond Xei (.seq (.reg [oD 8 (.mv (.const (.string ⟨⟨[]⟩⟩)))]) .ret) .skip)) (.seq XK4 (.seq (.seq (.reg [oD 30 (.fieldA 0 τ4),oD 31 (.load1 .bool Xfh)]) (.cond Xe3 (.seq (.reg [oM 32 τ9,oM 33 τ3,oM 34 τ2,oD 35 (.buildSl 6 1 [(.int .i64 0),(.int .i64 0),(.int .i64 0),(.int .i64 0),(.int .i64 0),(.int .i64 0)] [(0,1,Xfn),(1,1,(.const (.int .i64 4))),(2,1,(.const (.int .i64 0))),(3,1,(.const (.int .i64 3))),(4,1,Xfz),(5,1,(.const (.int .i64 1)))]),oD 36 (.callF 82 [Xfp]),oD 37 (.bin .add Xfl XfI),oM 8 Xfo]) .ret) .skip)) (.seq (.reg [oM 38 τ9,oM 39 τ2,oM 40 τ3,oD 41 (.buildSl 6 1 [(.int .i64 0),(.int .i64 0),(.int .i64 0),(.int .i64 0),(.int .i64 0),(.int .i64 0)] [(0,1,(.const (.int .i64 0))),(1,1,(.const (.int .i64 1))),(2,1,XgF),(3,1,(.const (.int .i64 1))),(4,1,Xhr),(5,1,(.const (.int .i64 2)))]),oD 42 (.callF 82 [Xhg]),oD 43 (.bin .add XgG Xhh),oM 8 Xhm]) .ret))))
def XKF:VFn:=⟨44,Xwn,[.tmp 8]⟩
def XBo:VC:=.seq (.reg [oD 1 (.box τ0),oD 2 (.mv (.const (.bool false)))]) (.seq (.reg [oD 3 (.fieldA 0 τ1),oD 4 (.load1 .bool τ3),oM 5 τ4,oG 6 (.fieldA 1 τ1) 5 false,oG 7 (.load1 (.int .u64) τ6) 5 false,oG 8 (.bin .eql τ7 (.const (.int .u64 0))) 5 false,oG 9 (.mv τ8) 5 false,oG 10 (.fieldA 2 τ1) 9 true,oG 11 (.load1 (.int .u64) Xb9) 9 true,oG 12 (.bin .lss Xb5 (.const (.int .u64 4294967296))) 9 true,oG 13 (.pick τ9 XcP (.const (.bool false))) 5 false,oD 14 (.pick τ5 (.const (.bool true)) XcS),oM 2 Xde]) .ret)
def XHr:VFn:=⟨15,XBo,[.tmp 2]⟩
def k80_5:VC:=.regD [oD 10 (.fieldA 1 τ1),oD 11 (.load1 (.int .u64) Xb9),oD 12 (.callF 42 [Xb5,(.const (.int .i64 8))]),oD 13 (.fieldA 2 τ1),oD 14 (.load1 (.int .u64) XcS)] [(2,4)] [oD 15 (.callF 42 [Xde,(.const (.int .i64 8))]),oD 16 (.bin .add XcP Xdb),oM 2 Xdh]
def XBt:VC:=.seq (.reg [oD 1 (.box τ0),oD 2 (.mv (.const (.string ⟨⟨[]⟩⟩)))]) (.seq (.block 0 (.seq (.reg [oD 4 (.loadN [.bool,(.int .u64),(.int .u64)] τ1),oD 5 (.callF 113 [τ4]),oD 6 (.not τ5),oM 3 τ6]) (.cond τ3 (.seq (.reg [oD 2 (.mv (.const (.string ⟨⟨[]⟩⟩)))]) .ret) (.seq (.reg [oD 8 (.fieldA 0 τ1),oD 9 (.load1 .bool τ8),oM 7 τ9]) (.cond τ7 (.seq k80_5 .ret) .skip))))) (.seq (.reg [oD 17 (.fieldA 2 τ1),oD 18 (.load1 (.int .u64) Xdc),oD 19 (.callF 42 [XdK,(.const (.int .i64 4))]),oM 2 Xdx]) .ret))
def fn80:VFn:=⟨20,XBt,[.tmp 2]⟩
def Xvx:VC:=.seq (.reg [oD 18 (.bin .lss Xdc Xdh)]) (.seq (.cond XdK .skip (.exit 0)) (.seq (.block 1 (.seq (.reg [oM 19 Xdc,oM 6 Xdx]) (.reg [oM 20 τ5,oM 21 τ6,oM 22 τ0,oM 23 τ1,oD 24 (.bin .sub XeC (.const (.int .i64 1))),oM 25 τ6,oD 26 (.bin .sub Xei XeM),oD 27 (.bin .mul (.const (.int .i64 8)) Xef),oD 28 (.bin .shr Xej XeJ),oD 29 (.conv .u8 XeD),oD 30 (.idxAL 1 Xd2 Xd5),oN (.store 1 Xfh XeN)]))) (.reg [oD 31 (.bin .add Xdc (.const (.int .i64 1))),oM 17 Xe3])))
def XA3:VC:=.seq (.reg [oM 32 τ5,oD 33 (.b2s Xfl),oM 4 Xfn]) .ret
def XAZ:VC:=.seq (.reg [oD 4 (.mv (.const (.string ⟨⟨[]⟩⟩)))]) (.seq (.seq (.reg [oM 7 τ1,oD 8 (.bin .lss τ7 (.const (.int .i64 1))),oM 9 τ8,oG 10 (.mv τ1) 9 false,oG 11 (.bin .gtr Xb9 (.const (.int .i64 8))) 9 false,oD 12 (.pick τ9 (.const (.bool true)) Xb5)]) (.cond XcP (.seq (.reg [oD 4 (.mv (.const (.string ⟨⟨[]⟩⟩)))]) .ret) .skip)) (.seq (.reg [oM 13 τ1,oD 14 (.mkSl 1 1 [(.int .u8 0)] XcS XcS),oM 5 Xde]) (.seq (.seq (.reg [oM 15 τ5,oD 16 (.lenL Xdb),oD 17 (.mv (.const (.int .i64 0)))]) (.block 0 (.loop Xvx))) XA3)))
def fn42:VFn:=⟨34,XAZ,[.tmp 4]⟩
def k82_6:VC:=.regD [oM 12 τ0,oM 13 τ4,oD 14 (.idxAL 1 XcP XcS),oD 15 (.load1 (.int .i64) Xde),oD 16 (.conv .u64 Xdb),oM 17 τ0,oM 18 τ4,oD 19 (.bin .add XdK (.const (.int .i64 1))),oD 20 (.idxAL 1 Xdc Xdx),oD 21 (.load1 (.int .i64) Xd2)] [] [oD 22 (.callF 42 [Xdh,Xd5]),oD 23 (.callF 116 [τ3,Xej])]
def XuL:VC:=.seq (.seq (.reg [oM 5 τ4,oD 6 (.bin .add τ5 (.const (.int .i64 1))),oM 7 τ0,oD 8 (.lenL τ7),oD 9 (.bin .lss τ6 τ8)]) (.cond τ9 .skip (.exit 0))) (.seq (.block 1 k82_6) (.reg [oM 10 τ4,oD 11 (.bin .add Xb9 (.const (.int .i64 2))),oM 4 Xb5]))
def XAx:VC:=.seq (.reg [oD 24 (.callF 117 [τ3]),oM 2 Xei]) .ret
def Xzm:VC:=.seq (.reg [oD 2 (.mv (.const (.string ⟨⟨[]⟩⟩)))]) (.seq (.reg [oD 3 (.allocB 184 5)]) (.seq (.seq (.reg [oD 4 (.mv (.const (.int .i64 0)))]) (.block 0 (.loop XuL))) XAx))
def fn82:VFn:=⟨25,Xzm,[.tmp 2]⟩
def XH8:VC:=.seq (.reg [oD 4 (.mv (.const (.int .i64 0))),oM 5 (.const .nilIface)]) (.seq (.reg [oM 6 τ0,oD 7 (.callF 133 [τ6])]) (.seq (.reg [oM 8 τ0,oM 9 τ0,oD 10 (.nilCheck τ9),oD 11 (.fieldA 1 Xb9),oD 12 (.load1 .oth Xb5),oM 13 τ1,oD 14 (.app 5 1 1 XcP XcS),oD 15 (.nilCheck τ8),oD 16 (.fieldA 1 Xdb),oN (.store 1 Xdh Xde)]) (.seq (.reg [oM 17 τ1,oD 18 (.lenS Xdc),oM 4 XdK,oM 5 (.const .nilIface)]) .ret)))
def XHH:VFn:=⟨19,XH8,[.tmp 4,.tmp 5]⟩
def XKy:VC:=.seq (.reg [oM 2 τ0,oD 3 (.nilCheck τ2),oD 4 (.fieldA 0 τ3),oD 5 (.load1 .oth τ4),oD 6 (.isNil 0 false τ5)]) (.cond τ6 (.reg [oM 7 τ0,oM 8 τ0,oD 9 (.toU τ8),oM 10 τ9,oD 11 (.ofU 184 2 Xb9),oD 12 (.nilCheck τ7),oD 13 (.fieldA 0 XcP),oN (.store 1 XcS Xb5)]) (.seq (.reg [oM 14 τ0,oD 15 (.nilCheck Xde),oD 16 (.fieldA 0 Xdb),oD 17 (.load1 .oth Xdh),oM 18 τ0,oD 19 (.eqP true Xdc XdK)]) (.cond Xdx .stuck .skip)))
def XHD:VFn:=⟨20,XKy,[]⟩
def XJX:VC:=.regD [oM 3 τ0,oD 4 (.nilCheck τ3),oD 5 (.fieldA 1 τ4),oD 6 (.load1 .oth τ5),oD 7 (.sdata τ6),oM 8 τ0,oD 9 (.nilCheck τ8),oD 10 (.fieldA 1 τ9),oD 11 (.load1 .oth Xb9),oD 12 (.lenL Xb5)] [] [oD 13 (.ustr 5 τ7 XcP),oM 2 XcS]
def XH2:VC:=.seq (.reg [oD 2 (.mv (.const (.string ⟨⟨[]⟩⟩)))]) (.seq XJX .ret)
def XHE:VFn:=⟨14,XH2,[.tmp 2]⟩
def Xvd:VC:=.seq (.reg [oD 4 (.alloc [(.int .i64 0),(.int .i64 0),(.int .u32 0),(.int .u32 0),(.int .i64 0),(.int .i64 0),(.int .i64 0),(.string ⟨⟨[]⟩⟩)])]) (.seq (.reg [oM 7 τ0,oD 8 (.callF 61 [τ7]),oM 5 τ8]) (.seq (.reg [oM 9 τ5,oD 10 (.callF 62 [τ9,(.const (.int .i64 2))]),oM 11 τ5,oD 12 (.callF 62 [Xb5,(.const (.int .i64 2))]),oM 13 τ5,oD 14 (.callF 62 [XcS,(.const (.int .i64 4))]),oD 15 (.conv .u32 Xde),oM 16 τ5,oD 17 (.callF 62 [Xdh,(.const (.int .i64 4))]),oD 18 (.conv .u32 Xdc),oD 19 (.build [(.int .i64 0),(.int .i64 0),(.int .u32 0),(.int .u32 0),(.int .i64 0),(.int .i64 0),(.int .i64 0),(.string ⟨⟨[]⟩⟩)] [(0,1,Xb9),(1,1,XcP),(2,1,Xdb),(3,1,XdK)]),oD 6 (.alloc [(.int .i64 0),(.int .i64 0),(.int .u32 0),(.int .u32 0),(.int .i64 0),(.int .i64 0),(.int .i64 0),(.string ⟨⟨[]⟩⟩)]),oN (.store 8 τ6 Xdx)]) (.seq (.reg [oM 20 τ5,oD 21 (.callF 62 [Xd2,(.const (.int .i64 2))]),oD 22 (.bin .and Xd5 (.const (.int .i64 255))),oD 23 (.fieldA 4 τ6),oN (.store 1 XeC Xej)]) (.seq (.reg [oM 24 τ5,oD 25 (.callF 62 [Xei,(.const (.int .i64 2))]),oD 26 (.fieldA 5 τ6),oN (.store 1 Xef XeM)]) (.seq (.reg [oM 27 τ5,oD 28 (.callF 62 [XeJ,(.const (.int .i64 2))])]) (.seq (.reg [oM 29 τ5,oD 30 (.callF 62 [XeN,(.const (.int .i64 2))]),oD 31 (.fieldA 6 τ6),oN (.store 1 Xe3 Xfh)]) (.seq (.reg [oM 32 τ5,oM 33 τ1,oD 34 (.bin .sub Xfn (.const (.int .i64 20))),oD 35 (.callF 64 [Xfl,Xfz]),oD 36 (.fieldA 7 τ6),oN (.store 1 XfI Xfp)]) (.seq (.reg [oD 37 (.loadN [(.int .i64),(.int .i64),(.int .u32),(.int .u32),(.int .i64),(.int .i64),(.int .i64),.str] τ6),oN (.store 8 τ4 Xfo)]) .ret))))))))
def XKY:VFn:=⟨38,Xvd,[.cell 4 [(.int .i64),(.int .i64),(.int .u32),(.int .u32),(.int .i64),(.int .i64),(.int .i64),.str] true]⟩
def XAo:VC:=.reg [oD 5 (.alloc [(.int .i64 0),(.string ⟨⟨[]⟩⟩),(.int .i64 0)]),oN (.store 3 τ5 τ8)]
def Xvc:VC:=.block 1 (.seq (.seq (.reg [oD 9 (.fieldA 2 τ5),oD 10 (.load1 (.int .i64) τ9),oD 11 (.bin .lss Xb9 (.const (.int .i64 0)))]) (.cond Xb5 (.seq (.reg [oN (.store 1 τ2 (.const (.slice none 0 0))),oN (.store 1 τ3 (.const (.int .i64 3)))]) .ret) .skip)) (.reg [oD 12 (.load1 .oth τ4),oD 13 (.fieldA 0 τ5),oD 14 (.loadN [(.int .i64),.str] XcS),oD 15 (.buildSl 1 2 [(.int .i64 0),(.string ⟨⟨[]⟩⟩)] [(0,2,Xde)]),oD 16 (.app 161 2 24 XcP Xdb),oN (.store 1 τ4 Xdh)]))
def XE6:VC:=.rangeF τ7 [8] XAo Xvc
def Xvf:VC:=.seq (.reg [oD 17 (.load1 .oth τ4),oN (.store 1 τ2 Xdc),oN (.store 1 τ3 (.const (.int .i64 0)))]) .ret
def XtN:VC:=.seq (.reg [oD 2 (.alloc [(.slice none 0 0)]),oD 3 (.alloc [(.int .i64 0)])]) (.seq (.reg [oD 4 (.alloc [(.slice none 0 0)])]) (.seq (.seq (.reg [oM 6 τ0,oD 7 (.callF 103 [τ6])]) (.block 0 XE6)) Xvf))
def XLv:VFn:=⟨18,XtN,[.cell 2 [.oth] false,.cell 3 [(.int .i64)] false]⟩
def XId:VC:=.seq (.reg [oD 1 (.box τ0),oM 2 (.const .nilFunc)]) (.seq (.reg [oD 3 (.mkFunc 125 [] [τ1]),oM 2 τ3]) .ret)
def XKL:VFn:=⟨4,XId,[.tmp 2]⟩
def XCl:VC:=.regD [oM 41 τ0,oD 42 (.load1 .str τ1),oM 43 τ3,oD 44 (.idxS Xhh Xhm),oD 45 (.conv .i64 XhF),oD 46 (.load1 .str τ1),oM 47 τ3,oD 48 (.bin .add XhQ (.const (.int .i64 2))),oM 49 τ3,oM 50 τ4,oD 51 (.bin .add Xiu XiC),oD 52 (.sliceS Xh6 (some XiA) (some XiB)),oD 53 (.build [(.int .i64 0),(.string ⟨⟨[]⟩⟩)] [(0,1,XhB),(1,1,XjH)]),oM 54 τ3,oD 55 (.bin .add Xk3 (.const (.int .i64 2))),oD 56 (.build [(.int .i64 0),(.string ⟨⟨[]⟩⟩),(.int .i64 0)] [(0,2,XjR),(2,1,Xk2)])] [] [oD 57 (.callV Xhg [Xlu]),oD 58 (.not XkE)]
def XmB:VC:=.seq (.seq (.reg [oM 5 τ3,oD 6 (.load1 .str τ1),oD 7 (.lenS τ6),oD 8 (.bin .lss τ5 τ7)]) (.cond τ8 .skip (.exit 0))) (.block 1 (.seq (.seq (.reg [oD 9 (.load1 .str τ1),oM 10 τ3,oD 11 (.idxS τ9 Xb9)]) (.block 2 (.seq (.reg [oD 13 (.bin .eql Xb5 (.const (.int .u8 0))),oM 12 XcS]) (.cond XcP .ret (.seq (.reg [oD 15 (.bin .eql Xb5 (.const (.int .u8 1))),oM 14 Xdb]) (.cond Xde (.seq (.reg [oM 16 τ3,oD 17 (.bin .add Xdh (.const (.int .i64 1))),oM 3 Xdc]) (.exit 1)) .skip)))))) (.seq (.reg [oD 4 (.mv (.const (.int .i64 0)))]) (.seq (.seq (.reg [oM 18 τ3,oD 19 (.bin .add XdK (.const (.int .i64 1))),oD 20 (.load1 .str τ1),oD 21 (.lenS Xd2),oD 22 (.bin .lss Xdx Xd5)]) (.cond Xej (.reg [oD 23 (.load1 .str τ1),oM 24 τ3,oD 25 (.bin .add Xei (.const (.int .i64 1))),oD 26 (.idxS XeC XeM),oD 27 (.conv .i64 Xef),oM 4 XeJ]) .skip)) (.seq (.seq (.reg [oM 28 τ4,oD 29 (.bin .lss XeD (.const (.int .i64 2))),oM 30 XeN,oG 31 (.mv τ4) 30 false,oG 32 (.load1 .str τ1) 30 false,oG 33 (.lenS Xfl) 30 false,oG 34 (.mv τ3) 30 false,oG 35 (.bin .sub Xfn Xfz) 30 false,oG 36 (.bin .gtr Xe3 Xfp) 30 false,oD 37 (.pick Xfh (.const (.bool true)) XfI)]) (.cond Xfo (.seq (.reg [oM 38 τ0,oD 39 (.build [(.int .i64 0),(.string ⟨⟨[]⟩⟩),(.int .i64 0)] [(2,1,(.const (.int .i64 (-1))))]),oD 40 (.callV XgG [XgF])]) .ret) .skip)) (.seq (.seq XCl (.cond Xk0 .ret .skip)) (.reg [oM 59 τ3,oM 60 τ4,oD 61 (.bin .add Xln Xl3),oM 3 Xl0])))))))
def XCb:VC:=.seq (.reg [oD 3 (.mv (.const (.int .i64 0)))]) (.block 0 (.loop XmB))
def XG9:VFn:=⟨62,XCb,[]⟩
def XH9:VC:=.reg [oD 7 (.alloc [(.int .i64 0),(.string ⟨⟨[]⟩⟩),(.int .i64 0)]),oN (.store 3 τ7 Xdx)]
def XKT:VC:=.regD [oM 39 τ8,oD 40 (.bin .shr XgF (.const (.int .u64 32))),oD 41 (.conv .u32 Xhr),oM 42 τ8,oD 43 (.conv .u32 Xhh),oD 44 (.fieldA 2 τ7),oD 45 (.load1 (.int .i64) XhF),oN (.store 1 τ2 Xhg),oN (.store 1 τ3 Xhm)] [(6,7),(6,8)] [oN (.store 1 τ4 XhB)]
def XBf:VC:=.block 1 (.seq (.seq (.reg [oD 20 (.fieldA 0 τ7),oD 21 (.fieldA 0 Xd2),oD 22 (.load1 (.int .i64) Xd5),oD 23 (.bin .neq Xej (.const (.int .i64 8)))]) (.cond XeC (.exit 1) .skip)) (.seq (.seq (.reg [oD 25 (.fieldA 0 τ7),oD 26 (.fieldA 1 XeM),oD 27 (.load1 .str Xef),oD 28 (.callF 40 [XeJ,(.const (.int .i64 0)),(.const (.int .i64 8))]),oM 24 XeD,oE 29 0 Xei,oE 30 1 Xei,oM 8 XeN,oM 9 Xfh]) (.seq (.reg [oM 31 τ9,oM 32 Xe3,oG 33 (.fieldA 0 τ7) 32 true,oG 34 (.fieldA 1 Xfn) 32 true,oG 35 (.load1 .str Xfz) 32 true,oG 36 (.lenS Xfp) 32 true,oG 37 (.bin .eql XfI (.const (.int .i64 8))) 32 true,oD 38 (.pick Xfl Xfo (.const (.bool false)))]) (.cond XgG (.seq XKT .ret) .skip))) (.exit 0)))
def XGN:VC:=.rangeF XdK [19] XH9 XBf
def XAg:VC:=.seq (.reg [oN (.store 1 τ2 (.const (.int .u32 0))),oN (.store 1 τ3 (.const (.int .u32 0))),oN (.store 1 τ4 (.const (.int .i64 (-1))))]) .ret
def Xzn:VC:=.seq (.reg [oD 2 (.alloc [(.int .u32 0)]),oD 3 (.alloc [(.int .u32 0)]),oD 4 (.alloc [(.int .i64 0)])]) (.seq (.seq (.reg [oM 11 τ0,oD 12 (.callF 102 [Xb5]),oM 10 XcP,oE 13 0 Xb9,oE 14 1 Xb9,oM 5 XcS,oM 6 Xde]) (.seq (.reg [oM 15 τ6,oD 16 (.bin .neq Xdb (.const (.int .i64 0)))]) (.cond Xdh (.seq (.reg [oN (.store 1 τ2 (.const (.int .u32 0))),oN (.store 1 τ3 (.const (.int .u32 0))),oN (.store 1 τ4 (.const (.int .i64 (-1))))]) .ret) .skip))) (.seq (.seq (.reg [oM 17 τ0,oD 18 (.callF 103 [Xdc])]) (.block 0 XGN)) XAg))
def fn60:VFn:=⟨46,Xzn,[.cell 2 [(.int .u32)] false,.cell 3 [(.int .u32)] false,.cell 4 [(.int .i64)] false]⟩
def XKr:VC:=.regD [oM 34 τ1,oM 35 τ1,oD 36 (.fieldA 0 τ6),oD 37 (.load1 (.int .i64) XfI),oD 38 (.fieldA 1 τ6),oD 39 (.load1 (.int .i64) XgG),oD 40 (.nilCheck Xfz),oD 41 (.fieldA 0 Xhr),oD 42 (.fieldA 7 Xhg),oN (.store 1 Xhh Xfo)] [(5,9)] [oD 43 (.nilCheck Xfp),oD 44 (.fieldA 0 Xhm),oD 45 (.fieldA 8 XhF),oN (.store 1 XhB XgF)]
def XH7:VC:=.regD [oM 53 τ1,oM 54 τ1,oD 55 (.fieldA 0 τ9),oD 56 (.load1 .bool Xk2),oD 57 (.fieldA 3 τ9),oD 58 (.load1 .str XkE),oD 59 (.nilCheck XjR),oD 60 (.fieldA 13 Xln),oN (.store 1 Xl3 Xlu)] [(5,8)] [oD 61 (.nilCheck Xk3),oD 62 (.fieldA 14 Xl0),oN (.store 1 Xm6 Xk0)]
def XBL:VC:=.seq (.reg [oD 2 (.box τ0),oD 4 (.mv (.const (.int .i64 0))),oD 5 (.mv (.const (.int .i64 0)))]) (.seq (.reg [oD 12 (.fieldA 7 τ2),oD 13 (.load1 .str XcP),oD 14 (.fieldA 0 τ2),oD 15 (.loadN [.bool,(.int .u64),(.int .u64)] Xde),oD 16 (.fieldA 3 τ2),oD 17 (.loadN [.bool,(.int .u64),(.int .u64)] Xdh),oD 18 (.callF 108 [XcS,Xdb,Xdc]),oM 11 XdK,oE 19 0 Xb5,oE 20 1 Xb5,oE 21 2 Xb5,oD 6 (.alloc [(.int .i64 0),(.int .i64 0)]),oN (.store 2 τ6 Xdx),oM 7 Xd2,oM 8 Xd5]) (.seq (.block 0 (.seq (.reg [oM 23 τ8,oD 24 (.bin .neq XeC (.const (.int .i64 0))),oM 22 Xei]) (.cond Xej (.seq (.reg [oM 25 τ8,oD 4 (.mv (.const (.int .i64 0))),oM 5 XeM]) .ret) (.seq (.reg [oM 27 τ7,oD 28 (.lenS XeJ),oD 29 (.fieldA 7 τ2),oD 30 (.load1 .str XeN),oD 31 (.lenS Xfh),oD 32 (.bin .sub Xe3 (.const (.int .i64 8))),oD 33 (.bin .neq XeD Xfl),oM 26 Xfn]) (.cond Xef (.seq (.reg [oD 4 (.mv (.const (.int .i64 0))),oD 5 (.mv (.const (.int .i64 5)))]) .ret) .skip))))) (.seq XKr (.seq (.seq (.reg [oM 47 τ7,oD 48 (.callF 39 [XhQ]),oM 46 XiA,oE 49 0 Xh6,oE 50 1 Xh6,oD 9 (.alloc [(.bool false),(.int .i64 0),(.int .u32 0),(.string ⟨⟨[]⟩⟩),(.string ⟨⟨[]⟩⟩),(.string ⟨⟨[]⟩⟩)]),oN (.store 6 τ9 Xiu),oM 10 XiC]) (.seq (.reg [oM 51 Xb9,oD 52 (.bin .eql XiB (.const (.int .i64 0)))]) (.cond XjH XH7 .skip))) (.seq (.reg [oM 63 τ7,oD 64 (.lenS Xox),oM 4 XoH,oD 5 (.mv (.const (.int .i64 0)))]) .ret)))))
def fn73:VFn:=⟨65,XBL,[.tmp 4,.tmp 5]⟩
def XCp:VC:=.regD [oD 66 (.loadN [(.int .i64),(.int .i64)] Xb9),oM 67 τ0,oM 68 Xb5,oD 69 (.sliceS XoO (some (.const (.int .i64 8))) (some XpR)),oN (.store 2 τ6 XpY)] [] [oM 7 XpT,oD 8 (.mv (.const (.int .i64 0)))]
def XvO:VC:=.seq (.reg [oD 4 (.box τ1),oD 5 (.box τ2),oD 6 (.alloc [(.int .i64 0),(.int .i64 0)]),oD 7 (.mv (.const (.string ⟨⟨[]⟩⟩))),oD 8 (.mv (.const (.int .i64 0)))]) (.seq (.reg [oM 14 τ0,oD 15 (.callF 61 [Xde]),oM 9 Xdb]) (.seq (.reg [oM 16 τ9,oD 17 (.callF 62 [Xdh,(.const (.int .i64 2))]),oM 18 τ9,oD 19 (.callF 62 [XdK,(.const (.int .i64 2))]),oD 20 (.build [(.int .i64 0),(.int .i64 0)] [(0,1,Xdc),(1,1,Xdx)]),oD 10 (.alloc [(.int .i64 0),(.int .i64 0)]),oN (.store 2 Xb9 Xd2)]) (.seq (.reg [oM 21 τ9,oD 22 (.callF 62 [Xd5,(.const (.int .i64 2))]),oM 23 τ9,oD 24 (.callF 62 [XeC,(.const (.int .i64 2))]),oM 11 Xej,oM 12 Xei]) (.seq (.block 0 (.seq (.reg [oM 26 τ9,oD 27 (.callF 63 [Xef]),oM 25 XeJ]) (.cond XeM (.seq (.reg [oD 28 (.build [(.int .i64 0),(.int .i64 0)] []),oN (.store 2 τ6 XeD),oD 7 (.mv (.const (.string ⟨⟨[]⟩⟩))),oD 8 (.mv (.const (.int .i64 2)))]) .ret) (.seq (.reg [oM 30 Xb5,oD 31 (.bin .lss Xfh (.const (.int .i64 8))),oM 29 Xe3]) (.cond XeN (.seq (.reg [oD 32 (.build [(.int .i64 0),(.int .i64 0)] []),oN (.store 2 τ6 Xfl),oD 7 (.mv (.const (.string ⟨⟨[]⟩⟩))),oD 8 (.mv (.const (.int .i64 3)))]) .ret) (.seq (.reg [oM 34 Xb5,oM 35 τ0,oD 36 (.lenS Xfp),oD 37 (.bin .gtr Xfz XfI),oM 33 Xfo]) (.cond Xfn (.seq (.reg [oD 38 (.build [(.int .i64 0),(.int .i64 0)] []),oN (.store 2 τ6 XgG),oD 7 (.mv (.const (.string ⟨⟨[]⟩⟩))),oD 8 (.mv (.const (.int .i64 2)))]) .ret) .skip))))))) (.seq (.reg [oD 39 (.loadN [.bool,(.int .u64),(.int .u64)] τ4),oD 40 (.loadN [.bool,(.int .u64),(.int .u64)] τ5),oM 41 Xb5,oD 42 (.callF 109 [XgF,Xhr,(.const (.int .i64 17)),Xhg]),oM 13 Xhh]) (.seq (.block 1 (.seq (.reg [oM 44 XcS,oD 45 (.bin .eql XhF (.const (.string ⟨⟨[]⟩⟩))),oM 43 XhB]) (.cond Xhm (.seq (.reg [oD 46 (.build [(.int .i64 0),(.int .i64 0)] []),oN (.store 2 τ6 Xh6),oD 7 (.mv (.const (.string ⟨⟨[]⟩⟩))),oD 8 (.mv (.const (.int .i64 1)))]) .ret) (.seq (.seq (.reg [oM 48 XcP,oD 49 (.bin .eql XiA (.const (.int .i64 0))),oM 50 Xiu,oG 51 (.fieldA 0 τ4) 50 true,oG 52 (.load1 .bool XiB) 50 true,oD 53 (.pick XiC XjH (.const (.bool false))),oM 47 XjR]) (.cond XhQ .skip (.reg [oM 54 XcP,oD 55 (.bin .neq Xk3 (.const (.int .i64 0))),oM 56 Xk2,oG 57 (.mv XcS) 56 true,oG 58 (.mv τ0) 56 true,oG 59 (.mv Xb5) 56 true,oG 60 (.sliceS Xk0 none (some Xln)) 56 true,oG 61 (.bin .add XkE Xl3) 56 true,oG 62 (.callF 131 [Xl0]) 56 true,oG 63 (.not Xm6) 56 true,oD 64 (.pick Xlu Xox (.const (.bool false))),oM 47 XoH]))) (.cond XhQ (.seq (.reg [oD 65 (.build [(.int .i64 0),(.int .i64 0)] []),oN (.store 2 τ6 XoP),oD 7 (.mv (.const (.string ⟨⟨[]⟩⟩))),oD 8 (.mv (.const (.int .i64 4)))]) .ret) .skip))))) (.seq XCp .ret)))))))
def XIY:VFn:=⟨70,XvO,[.cell 6 [(.int .i64),(.int .i64)] true,.tmp 7,.tmp 8]⟩
def XAn:VC:=.seq (.reg [oD 2 (.alloc [(.bool false),(.int .i64 0),(.int .u32 0),(.string ⟨⟨[]⟩⟩),(.string ⟨⟨[]⟩⟩),(.string ⟨⟨[]⟩⟩)]),oD 3 (.mv (.const (.int .i64 0)))]) (.seq (.reg [oM 9 τ0,oD 10 (.callF 61 [τ9]),oM 4 Xb9]) (.seq (.reg [oM 11 τ4,oD 12 (.callF 62 [Xb5,(.const (.int .i64 1))]),oM 5 XcP]) (.seq (.block 0 (.seq (.reg [oM 14 τ4,oD 15 (.callF 63 [Xde]),oM 13 Xdb]) (.cond XcS (.seq (.reg [oD 16 (.build [(.bool false),(.int .i64 0),(.int .u32 0),(.string ⟨⟨[]⟩⟩),(.string ⟨⟨[]⟩⟩),(.string ⟨⟨[]⟩⟩)] []),oN (.store 6 τ2 Xdh),oD 3 (.mv (.const (.int .i64 2)))]) .ret) (.seq (.reg [oM 18 τ5,oD 19 (.bin .and XdK (.const (.int .i64 64))),oD 20 (.bin .eql Xdx (.const (.int .i64 0))),oM 17 Xd2]) (.cond Xdc (.seq (.reg [oD 21 (.build [(.bool false),(.int .i64 0),(.int .u32 0),(.string ⟨⟨[]⟩⟩),(.string ⟨⟨[]⟩⟩),(.string ⟨⟨[]⟩⟩)] []),oN (.store 6 τ2 Xd5),oD 3 (.mv (.const (.int .i64 3)))]) .ret) .skip))))) (.seq (.reg [oM 22 τ5,oD 23 (.bin .and Xej (.const (.int .i64 128))),oD 24 (.bin .neq XeC (.const (.int .i64 0))),oM 25 τ5,oD 26 (.bin .and XeM (.const (.int .i64 63))),oD 27 (.build [(.bool false),(.int .i64 0),(.int .u32 0),(.string ⟨⟨[]⟩⟩),(.string ⟨⟨[]⟩⟩),(.string ⟨⟨[]⟩⟩)] [(0,1,Xei),(1,1,Xef)]),oD 6 (.alloc [(.bool false),(.int .i64 0),(.int .u32 0),(.string ⟨⟨[]⟩⟩),(.string ⟨⟨[]⟩⟩),(.string ⟨⟨[]⟩⟩)]),oN (.store 6 τ6 XeJ)]) (.seq (.seq (.reg [oD 28 (.fieldA 0 τ6),oD 29 (.load1 .bool XeD),oD 30 (.not XeN)]) (.cond Xfh (.seq (.reg [oM 31 τ4,oD 32 (.mkFunc 64 [Xe3] []),oM 7 Xfl]) (.seq (.seq (.reg [oM 33 τ7,oD 34 (.callV Xfn [(.const (.int .i64 8))]),oD 35 (.fieldA 3 τ6),oN (.store 1 Xfp Xfz)]) (.seq (.reg [oM 36 τ4,oD 37 (.callF 63 [XfI])]) (.cond Xfo (.seq (.reg [oD 38 (.build [(.bool false),(.int .i64 0),(.int .u32 0),(.string ⟨⟨[]⟩⟩),(.string ⟨⟨[]⟩⟩),(.string ⟨⟨[]⟩⟩)] []),oN (.store 6 τ2 XgG),oD 3 (.mv (.const (.int .i64 2)))]) .ret) .skip))) (.seq (.reg [oM 39 τ4,oD 40 (.callF 65 [XgF]),oD 41 (.fieldA 5 τ6),oN (.store 1 Xhg Xhr)]) (.seq (.reg [oD 42 (.loadN [.bool,(.int .i64),(.int .u32),.str,.str,.str] τ6),oN (.store 6 τ2 Xhh),oD 3 (.mv (.const (.int .i64 0)))]) .ret)))) .skip)) (.seq (.reg [oM 43 τ4,oD 44 (.callF 62 [Xhm,(.const (.int .i64 4))]),oD 45 (.conv .u32 XhF),oD 46 (.fieldA 2 τ6),oN (.store 1 Xh6 XhB)]) (.seq (.seq (.reg [oM 47 τ4,oD 48 (.fieldA 3 τ6),oD 49 (.fieldA 4 τ6),oD 50 (.buildSl 2 1 [(.pointer none),(.pointer none)] [(0,1,XiA),(1,1,Xiu)]),oD 51 (.callF 66 [(.func 67),XhQ,XiC]),oM 8 XiB]) (.seq (.reg [oM 52 τ8,oD 53 (.bin .neq XjH (.const (.int .i64 0)))]) (.cond XjR (.seq (.reg [oD 54 (.build [(.bool false),(.int .i64 0),(.int .u32 0),(.string ⟨⟨[]⟩⟩),(.string ⟨⟨[]⟩⟩),(.string ⟨⟨[]⟩⟩)] []),oM 55 τ8,oN (.store 6 τ2 Xk3),oM 3 Xk2]) .ret) .skip))) (.seq (.reg [oM 56 τ4,oD 57 (.callF 65 [Xlu]),oD 58 (.fieldA 5 τ6),oN (.store 1 Xk0 XkE)]) (.seq (.reg [oD 59 (.loadN [.bool,(.int .i64),(.int .u32),.str,.str,.str] τ6),oN (.store 6 τ2 Xln),oD 3 (.mv (.const (.int .i64 0)))]) .ret)))))))))
def fn39:VFn:=⟨60,XAn,[.cell 2 [.bool,(.int .i64),(.int .u32),.str,.str,.str] true,.tmp 3]⟩
def XG1:VC:=.seq (.reg [oD 2 (.mv (.const (.string ⟨⟨[]⟩⟩)))]) (.seq (.seq (.reg [oM 3 τ0,oD 4 (.callF 63 [τ3])]) (.cond τ4 (.seq (.reg [oD 2 (.mv (.const (.string ⟨⟨[]⟩⟩)))]) .ret) .skip)) (.seq (.reg [oM 5 τ0,oM 6 τ0,oD 7 (.nilCheck τ6),oD 8 (.fieldA 0 τ7),oD 9 (.load1 .str τ8),oD 10 (.lenS τ9),oD 11 (.callF 64 [τ5,Xb9]),oM 2 Xb5]) .ret))
def fn65:VFn:=⟨12,XG1,[.tmp 2]⟩
def XK9:VC:=.seq (.reg [oD 6 (.mv (.const (.int .i64 0)))]) (.seq (.seq (.reg [oM 11 τ2,oD 12 (.lenL Xb5),oD 13 (.mv (.const (.int .i64 0)))]) (.block 0 (.loop (.seq (.reg [oD 14 (.bin .lss XcS XcP)]) (.seq (.cond Xde .skip (.exit 0)) (.seq (.block 1 (.seq (.reg [oD 15 (.idxAL 1 Xb5 XcS),oD 16 (.load1 .oth Xdb),oM 8 Xdh]) (.seq (.reg [oM 18 τ0,oM 19 τ1,oD 20 (.callV XdK [Xdx]),oM 17 Xd2,oE 21 0 Xdc,oE 22 1 Xdc,oM 9 Xd5,oM 10 Xej]) (.seq (.seq (.reg [oM 23 Xb9,oD 24 (.bin .neq XeC (.const (.int .i64 0)))]) (.cond Xei (.seq (.reg [oM 25 Xb9,oM 6 XeM]) .ret) .skip)) (.reg [oM 26 τ8,oM 27 τ9,oD 28 (.nilCheck Xef),oN (.store 1 XeD XeJ)]))))) (.reg [oD 29 (.bin .add XcS (.const (.int .i64 1))),oM 13 XeN]))))))) (.seq (.reg [oD 6 (.mv (.const (.int .i64 0)))]) .ret))
def fn66:VFn:=⟨30,XK9,[.tmp 6]⟩
def XzD:VC:=.seq (.reg [oD 2 (.mv (.const (.string ⟨⟨[]⟩⟩))),oD 3 (.mv (.const (.int .i64 0)))]) (.seq (.reg [oM 6 τ0,oD 7 (.callF 62 [τ6,(.const (.int .i64 1))]),oM 4 τ7]) (.seq (.seq (.reg [oM 8 τ0,oD 9 (.callF 63 [τ8]),oD 10 (.not τ9),oM 11 Xb9,oG 12 (.mv τ4) 11 true,oG 13 (.bin .gtr XcP (.const (.int .i64 20))) 11 true,oD 14 (.pick Xb5 XcS (.const (.bool false)))]) (.cond Xde (.seq (.reg [oD 2 (.mv (.const (.string ⟨⟨[]⟩⟩))),oD 3 (.mv (.const (.int .i64 3)))]) .ret) .skip)) (.seq (.reg [oM 15 τ0,oM 16 τ4,oD 17 (.callF 64 [Xdb,Xdh]),oM 5 Xdc]) (.seq (.seq (.reg [oM 18 τ0,oD 19 (.callF 63 [XdK])]) (.cond Xdx (.seq (.reg [oD 2 (.mv (.const (.string ⟨⟨[]⟩⟩))),oD 3 (.mv (.const (.int .i64 2)))]) .ret) .skip)) (.seq (.reg [oM 20 τ5,oM 2 Xd2,oD 3 (.mv (.const (.int .i64 0)))]) .ret)))))
def fn67:VFn:=⟨21,XzD,[.tmp 2,.tmp 3]⟩
def XHK:VC:=.seq (.reg [oD 3 (.box τ0),oD 4 (.box τ1),oD 5 (.box τ2),oD 6 (.mv (.const (.string ⟨⟨[]⟩⟩))),oD 7 (.mv (.const (.int .i64 0)))]) (.seq (.reg [oD 11 (.loadN [(.int .i64),(.int .i64),(.int .i64),.str] τ3),oD 12 (.loadN [.bool,(.int .u64),(.int .u64)] τ4),oD 13 (.loadN [.bool,(.int .u64),(.int .u64)] τ5),oD 14 (.callF 47 [Xb5,XcP,XcS]),oM 10 Xde,oE 15 0 Xb9,oE 16 1 Xb9,oM 8 Xdb,oM 9 Xdh]) (.seq (.block 0 (.seq (.reg [oM 18 τ9,oD 19 (.bin .neq XdK (.const (.int .i64 0))),oM 17 Xdx]) (.cond Xdc (.seq (.reg [oM 20 τ9,oD 6 (.mv (.const (.string ⟨⟨[]⟩⟩))),oM 7 Xd2]) .ret) (.seq (.reg [oD 22 (.fieldA 0 τ4),oD 23 (.load1 .bool Xej),oM 21 XeC]) (.cond Xd5 (.seq (.reg [oD 24 (.loadN [.bool,(.int .u64),(.int .u64)] τ4),oD 25 (.loadN [.bool,(.int .u64),(.int .u64)] τ5),oD 26 (.build [(.int .i64 0),(.int .i64 0),(.int .i64 0),(.int .i64 0),(.bool false),(.int .u64 0),(.int .u64 0),(.bool false),(.int .u64 0),(.int .u64 0)] [(2,1,(.const (.int .i64 58))),(3,1,(.const (.int .i64 64))),(4,3,Xei),(7,3,XeM)]),oM 27 τ8,oD 28 (.callF 48 [Xef,XeJ]),oE 29 0 XeD,oE 30 1 XeD,oM 6 XeN,oM 7 Xfh]) .ret) .skip))))) (.seq (.reg [oD 31 (.loadN [.bool,(.int .u64),(.int .u64)] τ4),oD 32 (.loadN [.bool,(.int .u64),(.int .u64)] τ5),oD 33 (.build [(.int .i64 0),(.int .i64 0),(.bool false),(.int .i64 0),(.int .i64 0),(.bool false),(.int .u64 0),(.int .u64 0),(.bool false),(.int .u64 0),(.int .u64 0),(.string ⟨⟨[]⟩⟩)] [(2,1,(.const (.bool true))),(3,1,(.const (.int .i64 64))),(4,1,(.const (.int .i64 1))),(5,3,Xe3),(8,3,Xfl)]),oM 34 τ8,oD 35 (.callF 49 [Xfn,Xfz]),oE 36 0 Xfp,oE 37 1 Xfp,oM 6 XfI,oM 7 Xfo]) .ret)))
def fn25:VFn:=⟨38,XHK,[.tmp 6,.tmp 7]⟩
def k47_7:VC:=.regD [oD 31 (.callF 76 []),oD 32 (.fieldA 0 τ3),oD 33 (.load1 (.int .i64) Xfl),oD 34 (.idxVN 4 2 Xe3 Xfn),oD 35 (.fieldA 0 τ4),oD 36 (.load1 .bool Xfp),oD 37 (.callF 77 [XfI])] [(0,2),(0,5),(2,6)] [oD 38 (.idxV1 2 Xfz Xfo),oM 10 XgG]
def k47_8:VC:=.regD [oM 39 Xb9,oD 40 (.conv .u64 XgF),oD 41 (.bin .shl Xhr (.const (.int .u64 8))),oD 42 (.fieldA 1 τ3),oD 43 (.load1 (.int .i64) Xhh),oD 44 (.conv .u64 Xhm),oD 45 (.bin .or Xhg XhF),oD 46 (.callF 42 [XhB,(.const (.int .i64 2))]),oD 47 (.fieldA 2 τ3),oD 48 (.load1 (.int .i64) XhQ),oD 49 (.conv .u64 XiA),oD 50 (.callF 42 [Xiu,(.const (.int .i64 6))]),oD 51 (.bin .add Xh6 XiC),oD 52 (.fieldA 3 τ3),oD 53 (.load1 .str XjH)] [(7,9),(7,14),(11,14)] [oD 54 (.bin .add XiB XjR),oM 11 Xk3]
def XIg:VC:=.seq (.reg [oD 3 (.box τ0),oD 4 (.box τ1),oD 5 (.box τ2),oD 6 (.mv (.const (.string ⟨⟨[]⟩⟩))),oD 7 (.mv (.const (.int .i64 0)))]) (.seq (.reg [oD 13 (.loadN [.bool,(.int .u64),(.int .u64)] τ4),oD 14 (.loadN [.bool,(.int .u64),(.int .u64)] τ5),oD 15 (.fieldA 3 τ3),oD 16 (.load1 .str Xdb),oD 17 (.lenS Xdh),oD 18 (.bin .add (.const (.int .i64 8)) Xdc),oD 19 (.callF 74 [XcS,Xde,XdK]),oM 12 Xdx,oE 20 0 XcP,oE 21 1 XcP,oM 8 Xd2,oM 9 Xd5]) (.seq (.seq (.reg [oM 22 τ9,oD 23 (.not Xej),oM 24 XeC,oG 25 (.loadN [(.int .i64),(.int .i64),(.int .i64),.str] τ3) 24 false,oG 26 (.fieldA 0 τ4) 24 false,oG 27 (.load1 .bool Xef) 24 false,oG 28 (.callF 75 [XeM,XeJ]) 24 false,oG 29 (.not XeD) 24 false,oD 30 (.pick Xei (.const (.bool true)) XeN)]) (.cond Xfh (.seq (.reg [oD 6 (.mv (.const (.string ⟨⟨[]⟩⟩))),oD 7 (.mv (.const (.int .i64 1)))]) .ret) .skip)) (.seq k47_7 (.seq k47_8 (.seq (.reg [oM 55 Xb5,oM 56 τ8,oM 57 Xb5,oD 58 (.bin .add Xlu XkE),oD 59 (.callF 78 [Xk0]),oD 60 (.conv .u64 Xln),oD 61 (.callF 43 [Xk2,(.const (.int .i64 2)),(.const (.int .i64 2)),Xl3]),oM 6 Xl0,oD 7 (.mv (.const (.int .i64 0)))]) .ret)))))
def fn47:VFn:=⟨62,XIg,[.tmp 6,.tmp 7]⟩
def XK7:VC:=.seq (.reg [oD 3 (.box τ0),oD 4 (.box τ1),oD 6 (.mv (.const (.string ⟨⟨[]⟩⟩))),oD 7 (.mv (.const (.bool false)))]) (.seq (.reg [oD 9 (.loadN [.bool,(.int .u64),(.int .u64)] τ3),oD 10 (.loadN [.bool,(.int .u64),(.int .u64)] τ4),oM 11 τ2,oD 12 (.callF 109 [τ9,Xb9,(.const (.int .i64 58)),Xb5]),oM 8 XcP]) (.seq (.seq (.reg [oM 13 τ8,oD 14 (.bin .eql XcS (.const (.string ⟨⟨[]⟩⟩))),oM 15 Xde,oG 16 (.fieldA 0 τ3) 15 false,oG 17 (.load1 .bool Xdh) 15 false,oD 18 (.pick Xdb (.const (.bool true)) Xdc)]) (.cond XdK (.seq (.reg [oM 19 τ8,oM 20 τ8,oD 21 (.bin .neq Xd2 (.const (.string ⟨⟨[]⟩⟩))),oM 6 Xdx,oM 7 Xd5]) .ret) .skip)) (.seq (.reg [oD 6 (.mv (.const (.string ⟨⟨[]⟩⟩))),oD 7 (.mv (.const (.bool true)))]) .ret)))
def fn74:VFn:=⟨22,XK7,[.tmp 6,.tmp 7]⟩
def k75_9:VC:=.seq (.reg [oD 2 (.box τ0),oD 4 (.mv (.const (.bool false)))]) (.seq (.seq (.reg [oD 5 (.fieldA 0 τ2),oD 6 (.load1 (.int .i64) τ5),oD 7 (.bin .lss τ6 (.const (.int .i64 1))),oM 8 τ7,oG 9 (.fieldA 0 τ2) 8 false,oG 10 (.load1 (.int .i64) τ9) 8 false,oG 11 (.bin .gtr Xb9 (.const (.int .i64 3))) 8 false,oD 12 (.pick τ8 (.const (.bool true)) Xb5),oM 13 XcP,oG 14 (.fieldA 1 τ2) 13 false,oG 15 (.load1 (.int .i64) Xde) 13 false,oG 16 (.callF 110 [Xdb,(.const (.int .i64 255))]) 13 false,oG 17 (.not Xdh) 13 false,oD 18 (.pick XcS (.const (.bool true)) Xdc),oM 19 XdK,oG 20 (.fieldA 2 τ2) 19 false,oG 21 (.load1 (.int .i64) Xd2) 19 false,oG 22 (.callF 110 [Xd5,(.const (.int .i64 65535))]) 19 false,oG 23 (.not Xej) 19 false,oD 24 (.pick Xdx (.const (.bool true)) XeC),oM 25 Xei,oG 26 (.fieldA 3 τ2) 25 false,oG 27 (.load1 .str Xef) 25 false,oG 28 (.lenS XeJ) 25 false,oG 29 (.bin .gtr XeD (.const (.int .i64 1232))) 25 false,oD 30 (.pick XeM (.const (.bool true)) XeN)]) (.cond Xfh (.seq (.reg [oD 4 (.mv (.const (.bool false)))]) .ret) .skip)) (.seq (.reg [oD 31 (.fieldA 0 τ2),oD 32 (.load1 (.int .i64) Xe3),oD 33 (.fieldA 1 τ2),oD 34 (.load1 (.int .i64) Xfn),oM 35 τ1,oD 36 (.callF 111 [Xfl,Xfz,Xfp]),oM 37 XfI,oG 38 (.fieldA 0 τ2) 37 true,oG 39 (.load1 (.int .i64) XgG) 37 true,oG 40 (.bin .eql XgF (.const (.int .i64 2))) 37 true,oG 41 (.mv Xhr) 37 true,oG 42 (.fieldA 2 τ2) 41 false,oG 43 (.load1 (.int .i64) Xhh) 41 false,oG 44 (.bin .eql Xhm (.const (.int .i64 0))) 41 false,oG 45 (.pick Xhg (.const (.bool true)) XhF) 37 true,oD 46 (.pick Xfo XhB (.const (.bool false))),oM 4 Xh6]) .ret))
def fn75:VFn:=⟨47,k75_9,[.tmp 4]⟩
def XKz:VC:=.seq (.reg [oD 4 (.mv (.const (.bool false)))]) (.seq (.reg [oM 5 τ0,oD 6 (.bin .leq (.const (.int .i64 0)) τ5),oM 7 τ6,oG 8 (.mv τ0) 7 true,oG 9 (.mv τ1) 7 true,oG 10 (.bin .leq τ8 τ9) 7 true,oD 11 (.pick τ7 Xb9 (.const (.bool false))),oM 4 Xb5]) .ret)
def XJH:VFn:=⟨12,XKz,[.tmp 4]⟩
def XDM:VC:=.seq (.reg [oD 6 (.mv (.const (.bool false)))]) (.seq (.block 0 (.seq (.reg [oM 8 τ0,oD 9 (.bin .eql τ8 (.const (.int .i64 2))),oM 10 τ9,oG 11 (.mv τ2) 10 true,oD 12 (.pick Xb9 Xb5 (.const (.bool false))),oM 7 XcP]) (.cond τ7 (.seq (.reg [oM 13 τ1,oD 14 (.bin .eql XcS (.const (.int .i64 0))),oM 6 Xde]) .ret) (.seq (.reg [oM 16 τ0,oD 17 (.bin .eql Xdh (.const (.int .i64 2))),oM 15 Xdc]) (.cond Xdb (.seq (.reg [oM 18 τ1,oD 19 (.bin .eql XdK (.const (.int .i64 4))),oM 6 Xdx]) .ret) (.seq (.reg [oM 21 τ0,oD 22 (.bin .eql Xd5 (.const (.int .i64 1))),oM 23 Xej,oG 24 (.mv τ2) 23 true,oG 25 (.not Xei) 23 true,oD 26 (.pick XeC XeM (.const (.bool false))),oM 20 Xef]) (.cond Xd2 (.seq (.reg [oM 27 τ1,oD 28 (.bin .neq XeJ (.const (.int .i64 4))),oM 6 XeD]) .ret) .skip))))))) (.seq (.reg [oD 6 (.mv (.const (.bool true)))]) .ret))
def XLC:VFn:=⟨29,XDM,[.tmp 6]⟩
def k76_3:VC:=.seq (.reg [oD 0 (.alloc [(.int .i64 0),(.int .i64 0),(.int .i64 0),(.int .i64 0),(.int .i64 0),(.int .i64 0),(.int .i64 0),(.int .i64 0)])]) (.seq (.reg [oD 1 (.build [(.int .i64 0),(.int .i64 0)] [(0,1,(.const (.int .i64 (-1)))),(1,1,(.const (.int .i64 (-1))))]),oD 2 (.build [(.int .i64 0),(.int .i64 0)] [(0,1,(.const (.int .i64 3))),(1,1,(.const (.int .i64 1)))]),oD 3 (.build [(.int .i64 0),(.int .i64 0)] [(0,1,(.const (.int .i64 3))),(1,1,(.const (.int .i64 2)))]),oD 4 (.build [(.int .i64 0),(.int .i64 0)] [(0,1,(.const (.int .i64 11))),(1,1,(.const (.int .i64 3)))]),oD 5 (.build [(.int .i64 0),(.int .i64 0),(.int .i64 0),(.int .i64 0),(.int .i64 0),(.int .i64 0),(.int .i64 0),(.int .i64 0)] [(0,2,τ1),(2,2,τ2),(4,2,τ3),(6,2,τ4)]),oN (.store 8 τ0 τ5)]) .ret)
def fn76:VFn:=⟨6,k76_3,[.cell 0 [(.int .i64),(.int .i64),(.int .i64),(.int .i64),(.int .i64),(.int .i64),(.int .i64),(.int .i64)] true]⟩
def k77_9:VC:=.seq (.reg [oD 2 (.mv (.const (.int .i64 0)))]) (.seq (.seq (.reg [oM 3 τ0]) (.cond τ3 (.seq (.reg [oD 2 (.mv (.const (.int .i64 1)))]) .ret) .skip)) (.seq (.reg [oD 2 (.mv (.const (.int .i64 0)))]) .ret))
def fn77:VFn:=⟨4,k77_9,[.tmp 2]⟩
def k78_3:VC:=.seq (.reg [oD 2 (.mv (.const (.int .i64 0)))]) (.seq (.reg [oM 3 τ0,oD 4 (.callF 112 [τ3]),oD 5 (.bin .sub (.const (.int .i64 65535)) τ4),oM 2 τ5]) .ret)
def fn78:VFn:=⟨6,k78_3,[.tmp 2]⟩
def k43_7:VC:=.regD [oM 28 τ0,oM 29 τ1,oD 30 (.sliceS XeD none (some XeN)),oM 31 τ9,oD 32 (.bin .add Xfh Xe3),oM 33 τ0,oM 34 τ1,oM 35 τ2,oD 36 (.bin .add Xfz Xfp),oD 37 (.sliceS Xfn (some XfI) none)] [] [oD 38 (.bin .add Xfl Xfo),oM 8 XgG]
def XzK:VC:=.seq (.reg [oD 8 (.mv (.const (.string ⟨⟨[]⟩⟩)))]) (.seq (.reg [oM 10 τ3,oM 11 τ2,oD 12 (.callF 42 [Xb9,Xb5]),oM 9 XcP]) (.seq (.seq (.reg [oM 13 τ9,oD 14 (.bin .eql XcS (.const (.string ⟨⟨[]⟩⟩))),oM 15 Xde,oG 16 (.mv τ1) 15 false,oG 17 (.bin .lss Xdh (.const (.int .i64 0))) 15 false,oD 18 (.pick Xdb (.const (.bool true)) Xdc),oM 19 XdK,oG 20 (.mv τ0) 19 false,oG 21 (.lenS Xd2) 19 false,oG 22 (.mv τ2) 19 false,oG 23 (.bin .sub Xd5 Xej) 19 false,oG 24 (.mv τ1) 19 false,oG 25 (.bin .lss XeC Xei) 19 false,oD 26 (.pick Xdx (.const (.bool true)) XeM)]) (.cond Xef (.seq (.reg [oM 27 τ0,oM 8 XeJ]) .ret) .skip)) (.seq k43_7 .ret)))
def fn43:VFn:=⟨39,XzK,[.tmp 8]⟩
def XLe:VC:=.regD [oM 40 τ6,oM 41 τ7,oD 42 (.bin .add Xhr Xhg),oD 43 (.fieldA 4 τ2),oD 44 (.loadN [.bool,(.int .u64),(.int .u64)] Xhm),oD 45 (.callF 80 [XhF]),oD 46 (.bin .add Xhh XhB),oD 47 (.fieldA 7 τ2),oD 48 (.loadN [.bool,(.int .u64),(.int .u64)] XhQ),oD 49 (.callF 80 [XiA]),oD 50 (.bin .add Xh6 Xiu),oM 51 τ1] [(5,8)] [oD 52 (.bin .add XiC XiB),oM 4 XjH,oD 5 (.mv (.const (.int .i64 0)))]
def XJ8:VC:=.seq (.reg [oD 2 (.box τ0),oD 4 (.mv (.const (.string ⟨⟨[]⟩⟩))),oD 5 (.mv (.const (.int .i64 0)))]) (.seq (.block 0 (.seq (.reg [oD 9 (.loadN [(.int .i64),(.int .i64),(.int .i64),(.int .i64),.bool,(.int .u64),(.int .u64),.bool,(.int .u64),(.int .u64)] τ2),oD 10 (.callF 79 [τ9]),oD 11 (.not Xb9),oM 8 Xb5]) (.cond τ8 (.seq (.reg [oD 4 (.mv (.const (.string ⟨⟨[]⟩⟩))),oD 5 (.mv (.const (.int .i64 1)))]) .ret) (.seq (.reg [oM 13 τ1,oD 14 (.lenS XcS),oD 15 (.bin .gtr Xde (.const (.int .i64 65535))),oM 12 Xdb]) (.cond XcP (.seq (.reg [oD 4 (.mv (.const (.string ⟨⟨[]⟩⟩))),oD 5 (.mv (.const (.int .i64 5)))]) .ret) .skip))))) (.seq (.reg [oD 16 (.fieldA 0 τ2),oD 17 (.load1 (.int .i64) Xdh),oD 18 (.conv .u64 Xdc),oD 19 (.bin .shl XdK (.const (.int .u64 20))),oD 20 (.bin .or (.const (.int .u64 1610612736)) Xdx),oD 21 (.fieldA 1 τ2),oD 22 (.load1 (.int .i64) Xd5),oD 23 (.conv .u64 Xej),oD 24 (.bin .or Xd2 XeC),oD 25 (.callF 42 [Xei,(.const (.int .i64 4))]),oM 6 XeM]) (.seq (.reg [oM 26 τ1,oD 27 (.lenS Xef),oD 28 (.conv .u64 XeJ),oD 29 (.bin .shl XeD (.const (.int .u64 16))),oD 30 (.fieldA 2 τ2),oD 31 (.load1 (.int .i64) Xfh),oD 32 (.conv .u64 Xe3),oD 33 (.bin .shl Xfl (.const (.int .u64 8))),oD 34 (.bin .or XeN Xfn),oD 35 (.fieldA 3 τ2),oD 36 (.load1 (.int .i64) Xfp),oD 37 (.conv .u64 XfI),oD 38 (.bin .or Xfz Xfo),oD 39 (.callF 42 [XgG,(.const (.int .i64 4))]),oM 7 XgF]) (.seq XLe .ret))))
def fn48:VFn:=⟨53,XJ8,[.tmp 4,.tmp 5]⟩
def XGT:VC:=.seq (.reg [oD 1 (.box τ0),oD 2 (.mv (.const (.bool false)))]) (.seq (.seq (.reg [oD 5 (.fieldA 0 τ1),oD 6 (.load1 (.int .i64) τ5),oD 7 (.build [(.int .i64 0),(.int .i64 0)] [(0,1,τ6),(1,1,(.const (.int .i64 255)))]),oD 8 (.fieldA 1 τ1),oD 9 (.load1 (.int .i64) τ8),oD 10 (.build [(.int .i64 0),(.int .i64 0)] [(0,1,τ9),(1,1,(.const (.int .i64 1048575)))]),oD 11 (.fieldA 2 τ1),oD 12 (.load1 (.int .i64) Xb5),oD 13 (.build [(.int .i64 0),(.int .i64 0)] [(0,1,XcP),(1,1,(.const (.int .i64 255)))]),oD 14 (.fieldA 3 τ1),oD 15 (.load1 (.int .i64) Xde),oD 16 (.build [(.int .i64 0),(.int .i64 0)] [(0,1,Xdb),(1,1,(.const (.int .i64 255)))]),oD 17 (.buildSl 4 2 [(.int .i64 0),(.int .i64 0),(.int .i64 0),(.int .i64 0),(.int .i64 0),(.int .i64 0),(.int .i64 0),(.int .i64 0)] [(0,2,τ7),(2,2,Xb9),(4,2,XcS),(6,2,Xdh)]),oD 18 (.lenL Xdc),oD 19 (.mv (.const (.int .i64 0)))]) (.block 0 (.loop (.seq (.reg [oD 20 (.bin .lss Xdx XdK)]) (.seq (.cond Xd2 .skip (.exit 0)) (.seq (.block 1 (.seq (.reg [oD 21 (.idxAL 2 Xdc Xdx),oD 22 (.loadN [(.int .i64),(.int .i64)] Xd5),oD 4 (.alloc [(.int .i64 0),(.int .i64 0)]),oN (.store 2 τ4 Xej)]) (.seq (.reg [oD 23 (.idxAA 2 1 τ4 (.const (.int .i64 0))),oD 24 (.load1 (.int .i64) XeC),oD 25 (.bin .lss Xei (.const (.int .i64 0))),oM 26 XeM,oG 27 (.idxAA 2 1 τ4 (.const (.int .i64 0))) 26 false,oG 28 (.load1 (.int .i64) XeJ) 26 false,oG 29 (.idxAA 2 1 τ4 (.const (.int .i64 1))) 26 false,oG 30 (.load1 (.int .i64) XeN) 26 false,oG 31 (.bin .gtr XeD Xfh) 26 false,oD 32 (.pick Xef (.const (.bool true)) Xe3)]) (.cond Xfl (.seq (.reg [oD 2 (.mv (.const (.bool false)))]) .ret) .skip)))) (.reg [oD 33 (.bin .add Xdx (.const (.int .i64 1))),oM 19 Xfn]))))))) (.seq (.reg [oD 34 (.fieldA 4 τ1),oD 35 (.fieldA 0 Xfz),oD 36 (.load1 .bool Xfp),oM 37 XfI,oG 38 (.fieldA 7 τ1) 37 true,oG 39 (.fieldA 0 XgG) 37 true,oG 40 (.load1 .bool XgF) 37 true,oD 41 (.pick Xfo Xhr (.const (.bool false))),oM 2 Xhg]) .ret))
def fn79:VFn:=⟨42,XGT,[.tmp 2]⟩
def XKE:VC:=.regD [oM 43 τ8,oD 44 (.fieldA 5 τ2),oD 45 (.loadN [.bool,(.int .u64),(.int .u64)] XhF),oD 46 (.callF 80 [XhB]),oD 47 (.fieldA 8 τ2),oD 48 (.loadN [.bool,(.int .u64),(.int .u64)] XhQ),oD 49 (.callF 80 [XiA]),oD 50 (.bin .add Xh6 Xiu),oD 51 (.fieldA 11 τ2),oD 52 (.load1 .str XiB),oD 53 (.bin .add XiC XjH)] [(3,5),(3,9),(6,9)] [oD 54 (.bin .add Xhm XjR),oM 8 Xk3]
def XLb:VC:=.seq (.reg [oD 2 (.box τ0),oD 4 (.mv (.const (.string ⟨⟨[]⟩⟩))),oD 5 (.mv (.const (.int .i64 0)))]) (.seq (.reg [oD 9 (.fieldA 11 τ2),oD 10 (.load1 .str τ9),oD 11 (.lenS Xb9),oD 12 (.bin .add (.const (.int .i64 20)) Xb5),oM 6 XcP]) (.seq (.block 0 (.seq (.reg [oD 14 (.loadN [(.int .i64),(.int .i64),.bool,(.int .i64),(.int .i64),.bool,(.int .u64),(.int .u64),.bool,(.int .u64),(.int .u64),.str] τ2),oD 15 (.callF 81 [Xde]),oD 16 (.not Xdb),oM 13 Xdh]) (.cond XcS (.seq (.reg [oD 4 (.mv (.const (.string ⟨⟨[]⟩⟩))),oD 5 (.mv (.const (.int .i64 1)))]) .ret) (.seq (.reg [oM 18 τ1,oD 19 (.lenS XdK),oM 20 τ6,oD 21 (.bin .sub (.const (.int .i64 65535)) Xd2),oD 22 (.bin .gtr Xdx Xd5),oM 17 Xej]) (.cond Xdc (.seq (.reg [oD 4 (.mv (.const (.string ⟨⟨[]⟩⟩))),oD 5 (.mv (.const (.int .i64 5)))]) .ret) .skip))))) (.seq (.reg [oD 7 (.mv (.const (.int .i64 0)))]) (.seq (.seq (.reg [oD 23 (.fieldA 2 τ2),oD 24 (.load1 .bool XeC)]) (.cond Xei (.reg [oD 7 (.mv (.const (.int .i64 64)))]) .skip)) (.seq (.reg [oM 25 τ6,oD 26 (.bin .quo XeM (.const (.int .i64 4))),oD 27 (.bin .or (.const (.int .i64 64)) Xef),oD 28 (.fieldA 0 τ2),oD 29 (.load1 (.int .i64) XeD),oM 30 τ6,oM 31 τ1,oD 32 (.lenS Xe3),oD 33 (.bin .add Xfh Xfl),oD 34 (.fieldA 1 τ2),oD 35 (.load1 (.int .i64) Xfz),oM 36 τ7,oD 37 (.fieldA 3 τ2),oD 38 (.load1 (.int .i64) Xfo),oD 39 (.fieldA 4 τ2),oD 40 (.load1 (.int .i64) XgF),oD 41 (.buildSl 18 1 [(.int .i64 0),(.int .i64 0),(.int .i64 0),(.int .i64 0),(.int .i64 0),(.int .i64 0),(.int .i64 0),(.int .i64 0),(.int .i64 0),(.int .i64 0),(.int .i64 0),(.int .i64 0),(.int .i64 0),(.int .i64 0),(.int .i64 0),(.int .i64 0),(.int .i64 0),(.int .i64 0)] [(0,1,XeJ),(1,1,(.const (.int .i64 1))),(2,1,XeN),(3,1,(.const (.int .i64 1))),(4,1,Xfn),(5,1,(.const (.int .i64 2))),(6,1,Xfp),(7,1,(.const (.int .i64 2))),(8,1,XfI),(9,1,(.const (.int .i64 1))),(10,1,(.const (.int .i64 0))),(11,1,(.const (.int .i64 1))),(12,1,XgG),(13,1,(.const (.int .i64 1))),(14,1,Xhr),(15,1,(.const (.int .i64 1))),(16,1,(.const (.int .i64 0))),(17,1,(.const (.int .i64 2)))]),oD 42 (.callF 82 [Xhg]),oM 8 Xhh]) (.seq XKE (.seq (.reg [oM 55 τ8,oM 56 τ8,oD 57 (.callF 78 [Xlu]),oD 58 (.conv .u64 XkE),oD 59 (.callF 43 [Xk2,(.const (.int .i64 10)),(.const (.int .i64 2)),Xk0]),oM 60 τ1,oD 61 (.bin .add Xln Xl3),oM 4 Xl0,oD 5 (.mv (.const (.int .i64 0)))]) .ret)))))))
def fn49:VFn:=⟨62,XLb,[.tmp 4,.tmp 5]⟩
def k81_9:VC:=.seq (.reg [oD 1 (.box τ0),oD 2 (.mv (.const (.bool false)))]) (.seq (.seq (.reg [oD 3 (.fieldA 0 τ1),oD 4 (.load1 (.int .i64) τ3),oD 5 (.callF 114 [τ4,(.const (.int .i64 255))]),oD 6 (.not τ5),oM 7 τ6,oG 8 (.fieldA 1 τ1) 7 false,oG 9 (.load1 (.int .i64) τ8) 7 false,oG 10 (.callF 114 [τ9,(.const (.int .i64 65535))]) 7 false,oG 11 (.not Xb9) 7 false,oD 12 (.pick τ7 (.const (.bool true)) Xb5),oM 13 XcP,oG 14 (.fieldA 3 τ1) 13 false,oG 15 (.load1 (.int .i64) Xde) 13 false,oG 16 (.callF 114 [Xdb,(.const (.int .i64 255))]) 13 false,oG 17 (.not Xdh) 13 false,oD 18 (.pick XcS (.const (.bool true)) Xdc),oM 19 XdK,oG 20 (.fieldA 4 τ1) 19 false,oG 21 (.load1 (.int .i64) Xd2) 19 false,oG 22 (.callF 114 [Xd5,(.const (.int .i64 255))]) 19 false,oG 23 (.not Xej) 19 false,oD 24 (.pick Xdx (.const (.bool true)) XeC)]) (.cond Xei (.seq (.reg [oD 2 (.mv (.const (.bool false)))]) .ret) .skip)) (.seq (.reg [oD 25 (.fieldA 5 τ1),oD 26 (.loadN [.bool,(.int .u64),(.int .u64)] XeM),oD 27 (.callF 115 [Xef]),oM 28 XeJ,oG 29 (.fieldA 8 τ1) 28 true,oG 30 (.loadN [.bool,(.int .u64),(.int .u64)] XeN) 28 true,oG 31 (.callF 115 [Xfh]) 28 true,oD 32 (.pick XeD Xe3 (.const (.bool false))),oM 33 Xfl,oG 34 (.fieldA 11 τ1) 33 true,oG 35 (.load1 .str Xfz) 33 true,oG 36 (.lenS Xfp) 33 true,oG 37 (.bin .rem XfI (.const (.int .i64 4))) 33 true,oG 38 (.bin .eql Xfo (.const (.int .i64 0))) 33 true,oD 39 (.pick Xfn XgG (.const (.bool false))),oM 40 XgF,oG 41 (.fieldA 11 τ1) 40 true,oG 42 (.load1 .str Xhg) 40 true,oG 43 (.lenS Xhh) 40 true,oG 44 (.bin .leq Xhm (.const (.int .i64 40))) 40 true,oD 45 (.pick Xhr XhF (.const (.bool false))),oM 2 XhB]) .ret))
def fn81:VFn:=⟨46,k81_9,[.tmp 2]⟩
def XHB:VC:=.seq (.reg [oD 4 (.mv (.const (.bool false)))]) (.seq (.reg [oM 5 τ0,oD 6 (.bin .leq (.const (.int .i64 0)) τ5),oM 7 τ6,oG 8 (.mv τ0) 7 true,oG 9 (.mv τ1) 7 true,oG 10 (.bin .leq τ8 τ9) 7 true,oD 11 (.pick τ7 Xb9 (.const (.bool false))),oM 4 Xb5]) .ret)
def XLw:VFn:=⟨12,XHB,[.tmp 4]⟩
def XID:VC:=.seq (.reg [oD 1 (.box τ0),oD 2 (.mv (.const (.bool false)))]) (.seq (.reg [oD 3 (.fieldA 0 τ1),oD 4 (.load1 .bool τ3),oD 5 (.not τ4),oM 6 τ5,oG 7 (.loadN [.bool,(.int .u64),(.int .u64)] τ1) 6 true,oG 8 (.callF 113 [τ7]) 6 true,oD 9 (.pick τ6 τ8 (.const (.bool false))),oM 2 τ9]) .ret)
def XLn:VFn:=⟨10,XID,[.tmp 2]⟩
def k7_17:VC:=.regD [oM 28 τ1,oM 29 τ2,oD 30 (.callF 9 [XeD,XeN]),oM 31 τ0,oD 32 (.sliceS Xe3 none (some (.const (.int .i64 28)))),oD 33 (.build [(.int .i64 0),(.int .i64 0),(.int .i64 0),(.string ⟨⟨[]⟩⟩)] [(0,1,(.const (.int .i64 2))),(1,1,(.const (.int .i64 4))),(2,1,Xfh),(3,1,Xfl)]),oD 10 (.alloc [(.int .i64 0),(.int .i64 0),(.int .i64 0),(.string ⟨⟨[]⟩⟩)])] [(2,6)] [oN (.store 4 Xb9 Xfn)]
def k7_19:VC:=.regD [oM 38 τ1,oM 39 τ2,oD 40 (.callF 9 [XgG,XgF]),oM 41 τ0,oD 42 (.sliceS Xhg none (some (.const (.int .i64 48))))] [] [oD 43 (.build [(.int .i64 0),(.int .i64 0),(.int .i64 0),(.string ⟨⟨[]⟩⟩)] [(0,1,(.const (.int .i64 2))),(2,1,Xhr),(3,1,Xhh)]),oN (.store 4 Xb9 Xhm)]
def k7_30:VC:=.seq (.reg [oD 6 (.mv (.const (.string ⟨⟨[]⟩⟩))),oD 7 (.mv (.const (.int .i64 0)))]) (.seq (.reg [oM 12 τ0,oD 13 (.callF 15 [XcP]),oM 11 XcS,oE 14 0 Xb5,oE 15 1 Xb5,oD 8 (.alloc [(.int .i64 0),(.bool false),(.int .u64 0),(.int .u64 0),(.bool false),(.int .u64 0),(.int .u64 0),(.int .i64 0),(.int .i64 0),(.int .i64 0),(.bool false),(.int .u32 0),(.int .u32 0),(.bool false),(.string ⟨⟨[]⟩⟩),(.int .i64 0)]),oN (.store 16 τ8 Xde),oM 9 Xdb]) (.seq (.seq (.reg [oM 16 τ9,oD 17 (.bin .neq Xdh (.const (.int .i64 0)))]) (.cond Xdc (.seq (.reg [oM 18 τ9,oD 6 (.mv (.const (.string ⟨⟨[]⟩⟩))),oM 7 XdK]) .ret) .skip)) (.seq (.seq (.reg [oM 19 τ0,oD 20 (.lenS Xdx),oM 21 τ1,oM 22 τ2,oD 23 (.callF 9 [Xd5,Xej]),oD 24 (.bin .leq Xd2 XeC)]) (.cond Xei (.seq (.reg [oD 6 (.mv (.const (.string ⟨⟨[]⟩⟩))),oD 7 (.mv (.const (.int .i64 11)))]) .ret) .skip)) (.seq (.seq (.reg [oM 25 τ1,oD 26 (.callF 26 [XeM]),oD 27 (.not Xef)]) (.cond XeJ (.seq (.reg [oD 6 (.mv (.const (.string ⟨⟨[]⟩⟩))),oD 7 (.mv (.const (.int .i64 1)))]) .ret) .skip)) (.seq k7_17 (.seq (.seq (.reg [oD 34 (.fieldA 0 τ8),oD 35 (.fieldA 1 Xfz),oD 36 (.fieldA 0 Xfp),oD 37 (.load1 .bool XfI)]) (.cond Xfo k7_19 .skip)) (.seq (.reg [oD 44 (.loadN [(.int .i64),(.int .i64),(.int .i64),.str] Xb9),oD 45 (.fieldA 0 τ8),oD 46 (.fieldA 4 XhB),oD 47 (.loadN [.bool,(.int .u64),(.int .u64)] Xh6),oD 48 (.fieldA 0 τ8),oD 49 (.fieldA 1 XiA),oD 50 (.loadN [.bool,(.int .u64),(.int .u64)] Xiu),oD 51 (.callF 27 [XhF,XhQ,XiC]),oE 52 0 XiB,oE 53 1 XiB,oM 6 XjH,oM 7 XjR]) .ret)))))))
def fn7:VFn:=⟨54,k7_30,[.tmp 6,.tmp 7]⟩
def XHb:VC:=.seq (.reg [oD 2 (.alloc [(.int .i64 0),(.bool false),(.int .u64 0),(.int .u64 0),(.bool false),(.int .u64 0),(.int .u64 0),(.int .i64 0),(.int .i64 0),(.int .i64 0),(.bool false),(.int .u32 0),(.int .u32 0),(.bool false),(.string ⟨⟨[]⟩⟩),(.int .i64 0)]),oD 3 (.mv (.const (.int .i64 0)))]) (.seq (.reg [oM 9 τ0,oD 10 (.callF 31 [τ9]),oM 8 Xb9,oE 11 0 τ8,oE 12 1 τ8,oE 13 2 τ8,oE 14 3 τ8,oD 4 (.alloc [(.int .i64 0),(.bool false),(.int .u64 0),(.int .u64 0),(.bool false),(.int .u64 0),(.int .u64 0),(.int .i64 0),(.int .i64 0),(.int .i64 0),(.bool false),(.int .u32 0),(.int .u32 0),(.bool false),(.string ⟨⟨[]⟩⟩),(.int .i64 0)]),oN (.store 16 τ4 Xb5),oM 5 XcP,oM 6 XcS,oM 7 Xde]) (.seq (.reg [oD 15 (.loadN [(.int .i64),.bool,(.int .u64),(.int .u64),.bool,(.int .u64),(.int .u64),(.int .i64),(.int .i64),(.int .i64),.bool,(.int .u32),(.int .u32),.bool,.str,(.int .i64)] τ4),oM 16 τ7,oN (.store 16 τ2 Xdb),oM 3 Xdh]) .ret))
def fn15:VFn:=⟨17,XHb,[.cell 2 [(.int .i64),.bool,(.int .u64),(.int .u64),.bool,(.int .u64),(.int .u64),(.int .i64),(.int .i64),(.int .i64),.bool,(.int .u32),(.int .u32),.bool,.str,(.int .i64)] true,.tmp 3]⟩
def XJW:VC:=.regD [oD 97 (.loadN [(.int .i64),.bool,(.int .u64),(.int .u64),.bool,(.int .u64),(.int .u64),(.int .i64),(.int .i64),(.int .i64),.bool,(.int .u32),(.int .u32),.bool,.str,(.int .i64)] τ8),oD 98 (.fieldA 7 τ6),oD 99 (.load1 (.int .i64) τ98),oD 100 (.fieldA 7 τ6),oD 101 (.load1 (.int .i64) XD1),oD 102 (.bin .add XFK (.const (.int .i64 20))),oD 103 (.fieldA 7 τ9),oD 104 (.load1 .str XG6),oD 105 (.lenS XLs),oD 106 (.bin .add XJz XLc),oN (.store 16 τ2 XGp),oM 3 τ99] [(2,10),(4,10),(7,10)] [oM 4 XHM,oD 5 (.mv (.const (.int .i64 0)))]
def XLF:VC:=.regD [oD 155 (.loadN [(.int .i64),.bool,(.int .u64),(.int .u64),.bool,(.int .u64),(.int .u64),(.int .i64),(.int .i64),(.int .i64),.bool,(.int .u32),(.int .u32),.bool,.str,(.int .i64)] τ8),oD 156 (.fieldA 7 τ6),oD 157 (.load1 (.int .i64) XDf),oD 158 (.fieldA 7 τ6),oD 159 (.load1 (.int .i64) XHP),oD 160 (.bin .add XIB (.const (.int .i64 8))),oN (.store 16 τ2 XHf),oM 3 XGQ] [(2,6),(4,6)] [oM 4 XHJ,oD 5 (.mv (.const (.int .i64 0)))]
def XBK:VC:=.seq (.reg [oD 2 (.alloc [(.int .i64 0),(.bool false),(.int .u64 0),(.int .u64 0),(.bool false),(.int .u64 0),(.int .u64 0),(.int .i64 0),(.int .i64 0),(.int .i64 0),(.bool false),(.int .u32 0),(.int .u32 0),(.bool false),(.string ⟨⟨[]⟩⟩),(.int .i64 0)]),oD 3 (.mv (.const (.int .i64 0))),oD 4 (.mv (.const (.int .i64 0))),oD 5 (.mv (.const (.int .i64 0)))]) (.seq (.seq (.reg [oM 18 τ0,oD 19 (.lenS XdK),oD 20 (.bin .gtr Xdx (.const (.int .i64 9000)))]) (.cond Xd2 (.seq (.reg [oD 21 (.build [(.int .i64 0),(.bool false),(.int .u64 0),(.int .u64 0),(.bool false),(.int .u64 0),(.int .u64 0),(.int .i64 0),(.int .i64 0),(.int .i64 0),(.bool false),(.int .u32 0),(.int .u32 0),(.bool false),(.string ⟨⟨[]⟩⟩),(.int .i64 0)] []),oN (.store 16 τ2 Xd5),oD 3 (.mv (.const (.int .i64 0))),oD 4 (.mv (.const (.int .i64 0))),oD 5 (.mv (.const (.int .i64 5)))]) .ret) .skip)) (.seq (.seq (.reg [oM 22 τ0,oD 23 (.bin .eql Xej (.const (.string ⟨⟨[]⟩⟩)))]) (.cond XeC (.seq (.reg [oD 24 (.build [(.int .i64 0),(.bool false),(.int .u64 0),(.int .u64 0),(.bool false),(.int .u64 0),(.int .u64 0),(.int .i64 0),(.int .i64 0),(.int .i64 0),(.bool false),(.int .u32 0),(.int .u32 0),(.bool false),(.string ⟨⟨[]⟩⟩),(.int .i64 0)] []),oN (.store 16 τ2 Xei),oD 3 (.mv (.const (.int .i64 0))),oD 4 (.mv (.const (.int .i64 0))),oD 5 (.mv (.const (.int .i64 2)))]) .ret) .skip)) (.seq (.reg [oM 26 τ0,oD 27 (.callF 56 [Xef]),oM 25 XeJ,oE 28 0 XeM,oE 29 1 XeM,oD 6 (.alloc [(.bool false),(.int .u64 0),(.int .u64 0),(.bool false),(.int .u64 0),(.int .u64 0),(.int .i64 0),(.int .i64 0),(.string ⟨⟨[]⟩⟩)]),oN (.store 9 τ6 XeD),oM 7 XeN]) (.seq (.seq (.reg [oM 30 τ7,oD 31 (.bin .neq Xfh (.const (.int .i64 0)))]) (.cond Xe3 (.seq (.reg [oD 32 (.build [(.int .i64 0),(.bool false),(.int .u64 0),(.int .u64 0),(.bool false),(.int .u64 0),(.int .u64 0),(.int .i64 0),(.int .i64 0),(.int .i64 0),(.bool false),(.int .u32 0),(.int .u32 0),(.bool false),(.string ⟨⟨[]⟩⟩),(.int .i64 0)] []),oM 33 τ7,oN (.store 16 τ2 Xfl),oD 3 (.mv (.const (.int .i64 0))),oD 4 (.mv (.const (.int .i64 0))),oM 5 Xfn]) .ret) .skip)) (.seq (.seq (.reg [oD 34 (.fieldA 7 τ6),oD 35 (.load1 (.int .i64) Xfz),oD 36 (.fieldA 8 τ6),oD 37 (.load1 .str XfI),oD 38 (.lenS Xfo),oD 39 (.bin .add Xfp XgG),oM 40 τ0,oD 41 (.lenS Xhr),oD 42 (.bin .neq XgF Xhg)]) (.cond Xhh (.seq (.reg [oD 43 (.build [(.int .i64 0),(.bool false),(.int .u64 0),(.int .u64 0),(.bool false),(.int .u64 0),(.int .u64 0),(.int .i64 0),(.int .i64 0),(.int .i64 0),(.bool false),(.int .u32 0),(.int .u32 0),(.bool false),(.string ⟨⟨[]⟩⟩),(.int .i64 0)] []),oN (.store 16 τ2 Xhm),oD 3 (.mv (.const (.int .i64 0))),oD 4 (.mv (.const (.int .i64 0))),oD 5 (.mv (.const (.int .i64 5)))]) .ret) .skip)) (.seq (.reg [oM 44 τ0,oD 45 (.lenS XhF),oD 46 (.fieldA 6 τ6),oD 47 (.load1 (.int .i64) Xh6),oD 48 (.fieldA 0 τ6),oD 49 (.loadN [.bool,(.int .u64),(.int .u64)] XiA),oD 50 (.fieldA 3 τ6),oD 51 (.loadN [.bool,(.int .u64),(.int .u64)] XiC),oD 52 (.build [(.int .i64 0),(.bool false),(.int .u64 0),(.int .u64 0),(.bool false),(.int .u64 0),(.int .u64 0),(.int .i64 0),(.int .i64 0)] [(0,1,XhQ),(1,3,Xiu),(4,3,XiB)]),oD 53 (.build [(.int .i64 0),(.bool false),(.int .u64 0),(.int .u64 0),(.bool false),(.int .u64 0),(.int .u64 0),(.int .i64 0),(.int .i64 0),(.int .i64 0),(.bool false),(.int .u32 0),(.int .u32 0),(.bool false),(.string ⟨⟨[]⟩⟩),(.int .i64 0)] [(15,1,XhB),(0,9,XjH)]),oD 8 (.alloc [(.int .i64 0),(.bool false),(.int .u64 0),(.int .u64 0),(.bool false),(.int .u64 0),(.int .u64 0),(.int .i64 0),(.int .i64 0),(.int .i64 0),(.bool false),(.int .u32 0),(.int .u32 0),(.bool false),(.string ⟨⟨[]⟩⟩),(.int .i64 0)]),oN (.store 16 τ8 XjR)]) (.seq (.seq (.reg [oD 54 (.fieldA 6 τ6),oD 55 (.load1 (.int .i64) Xk3),oD 56 (.bin .eql Xk2 (.const (.int .i64 6)))]) (.cond Xlu (.seq (.reg [oD 58 (.fieldA 8 τ6),oD 59 (.load1 .str Xk0),oD 60 (.fieldA 0 τ6),oD 61 (.loadN [.bool,(.int .u64),(.int .u64)] Xl3),oD 62 (.fieldA 3 τ6),oD 63 (.loadN [.bool,(.int .u64),(.int .u64)] Xm6),oD 64 (.callF 57 [Xln,Xl0,Xox]),oM 57 XoH,oE 65 0 XkE,oE 66 1 XkE,oE 67 2 XkE,oD 9 (.alloc [(.int .i64 0),(.int .i64 0),(.int .u32 0),(.int .u32 0),(.int .i64 0),(.int .i64 0),(.int .i64 0),(.string ⟨⟨[]⟩⟩)]),oN (.store 8 τ9 XoP),oM 10 XpY,oM 11 XoO]) (.seq (.seq (.reg [oM 68 Xb5,oD 69 (.bin .neq XpR (.const (.int .i64 0)))]) (.cond XpT (.seq (.reg [oD 70 (.build [(.int .i64 0),(.bool false),(.int .u64 0),(.int .u64 0),(.bool false),(.int .u64 0),(.int .u64 0),(.int .i64 0),(.int .i64 0),(.int .i64 0),(.bool false),(.int .u32 0),(.int .u32 0),(.bool false),(.string ⟨⟨[]⟩⟩),(.int .i64 0)] []),oM 71 Xb5,oN (.store 16 τ2 Xrl),oD 3 (.mv (.const (.int .i64 0))),oD 4 (.mv (.const (.int .i64 0))),oM 5 Xrf]) .ret) .skip)) (.seq (.reg [oD 72 (.fieldA 0 τ9),oD 73 (.load1 (.int .i64) Xq4),oD 74 (.fieldA 0 τ8),oD 75 (.fieldA 7 Xv1),oN (.store 1 XtS Xsz)]) (.seq (.reg [oD 76 (.fieldA 1 τ9),oD 77 (.load1 (.int .i64) Xws),oD 78 (.fieldA 0 τ8),oD 79 (.fieldA 8 XwG),oN (.store 1 XxJ XtD)]) (.seq (.reg [oD 80 (.fieldA 4 τ9),oD 81 (.load1 (.int .i64) XwF),oD 82 (.fieldA 9 τ8),oN (.store 1 XBY Xx2)]) (.seq (.reg [oD 84 (.fieldA 7 τ9),oD 85 (.load1 .str XBu),oD 86 (.callF 58 [XEO]),oM 83 XFb,oE 87 0 XwA,oE 88 1 XwA,oE 89 2 XwA,oM 12 XDJ,oM 13 XDu,oM 14 XAr]) (.seq (.seq (.reg [oM 90 Xde,oD 91 (.bin .geq XGg (.const (.int .i64 0)))]) (.cond XCX (.seq (.reg [oD 92 (.fieldA 10 τ8),oN (.store 1 XC9 (.const (.bool true)))]) (.seq (.reg [oM 93 XcP,oD 94 (.fieldA 11 τ8),oN (.store 1 XDh XC2)]) (.reg [oM 95 XcS,oD 96 (.fieldA 12 τ8),oN (.store 1 XDG XGm)]))) .skip)) (.seq XJW .ret)))))))) .skip)) (.seq (.seq (.reg [oD 107 (.fieldA 6 τ6),oD 108 (.load1 (.int .i64) XLp),oD 109 (.bin .neq XHV (.const (.int .i64 17)))]) (.cond XJD (.seq (.reg [oD 110 (.build [(.int .i64 0),(.bool false),(.int .u64 0),(.int .u64 0),(.bool false),(.int .u64 0),(.int .u64 0),(.int .i64 0),(.int .i64 0),(.int .i64 0),(.bool false),(.int .u32 0),(.int .u32 0),(.bool false),(.string ⟨⟨[]⟩⟩),(.int .i64 0)] []),oN (.store 16 τ2 XJm),oD 3 (.mv (.const (.int .i64 0))),oD 4 (.mv (.const (.int .i64 0))),oD 5 (.mv (.const (.int .i64 6)))]) .ret) .skip)) (.seq (.reg [oD 112 (.fieldA 8 τ6),oD 113 (.load1 .str XLK),oD 114 (.fieldA 0 τ6),oD 115 (.loadN [.bool,(.int .u64),(.int .u64)] XIZ),oD 116 (.fieldA 3 τ6),oD 117 (.loadN [.bool,(.int .u64),(.int .u64)] XKZ),oD 118 (.callF 59 [XGR,XI2,XHw]),oM 111 XLH,oE 119 0 XyD,oE 120 1 XyD,oE 121 2 XyD,oD 15 (.alloc [(.int .i64 0),(.int .i64 0)]),oN (.store 2 Xdb XIV),oM 16 XI8,oM 7 XIr]) (.seq (.seq (.reg [oM 122 τ7,oD 123 (.bin .neq XKb (.const (.int .i64 0)))]) (.cond XLI (.seq (.reg [oD 124 (.build [(.int .i64 0),(.bool false),(.int .u64 0),(.int .u64 0),(.bool false),(.int .u64 0),(.int .u64 0),(.int .i64 0),(.int .i64 0),(.int .i64 0),(.bool false),(.int .u32 0),(.int .u32 0),(.bool false),(.string ⟨⟨[]⟩⟩),(.int .i64 0)] []),oM 125 τ7,oN (.store 16 τ2 XJa),oD 3 (.mv (.const (.int .i64 0))),oD 4 (.mv (.const (.int .i64 0))),oM 5 XGY]) .ret) .skip)) (.seq (.seq (.reg [oM 126 Xdh,oD 127 (.lenS XLE),oD 128 (.bin .add XIC (.const (.int .i64 8))),oD 129 (.fieldA 8 τ6),oD 130 (.load1 .str XIf),oD 131 (.lenS XIv),oD 132 (.bin .neq XLB XIo)]) (.cond XJJ (.seq (.reg [oD 133 (.build [(.int .i64 0),(.bool false),(.int .u64 0),(.int .u64 0),(.bool false),(.int .u64 0),(.int .u64 0),(.int .i64 0),(.int .i64 0),(.int .i64 0),(.bool false),(.int .u32 0),(.int .u32 0),(.bool false),(.string ⟨⟨[]⟩⟩),(.int .i64 0)] []),oN (.store 16 τ2 XGS),oD 3 (.mv (.const (.int .i64 0))),oD 4 (.mv (.const (.int .i64 0))),oD 5 (.mv (.const (.int .i64 5)))]) .ret) .skip)) (.seq (.reg [oD 134 (.fieldA 0 Xdb),oD 135 (.load1 (.int .i64) XKf),oD 136 (.fieldA 0 τ8),oD 137 (.fieldA 7 XJ5),oN (.store 1 XLt XKc)]) (.seq (.reg [oD 138 (.fieldA 1 Xdb),oD 139 (.load1 (.int .i64) XKS),oD 140 (.fieldA 0 τ8),oD 141 (.fieldA 8 XHl),oN (.store 1 XHs XLh)]) (.seq (.reg [oM 143 Xdh,oD 144 (.callF 21 [XF5]),oM 142 XIs,oE 145 0 XDW,oE 146 1 XDW,oD 17 (.alloc [(.bool false),(.int .i64 0),(.int .u32 0),(.string ⟨⟨[]⟩⟩),(.string ⟨⟨[]⟩⟩),(.string ⟨⟨[]⟩⟩)]),oN (.store 6 Xdc XK6),oM 7 XIa]) (.seq (.seq (.reg [oM 147 τ7,oD 148 (.bin .eql XHa (.const (.int .i64 0)))]) (.cond XKI (.seq (.reg [oD 149 (.fieldA 0 Xdc),oD 150 (.load1 .bool XHX),oD 151 (.fieldA 13 τ8),oN (.store 1 XK0 XHn)]) (.reg [oD 152 (.fieldA 3 Xdc),oD 153 (.load1 .str XIc),oD 154 (.fieldA 14 τ8),oN (.store 1 XIQ XLL)])) .skip)) (.seq XLF .ret))))))))))))))))
def fn31:VFn:=⟨161,XBK,[.cell 2 [(.int .i64),.bool,(.int .u64),(.int .u64),.bool,(.int .u64),(.int .u64),(.int .i64),(.int .i64),(.int .i64),.bool,(.int .u32),(.int .u32),.bool,.str,(.int .i64)] true,.tmp 3,.tmp 4,.tmp 5]⟩
def XzC:VC:=.seq (.reg [oD 2 (.alloc [(.bool false),(.int .u64 0),(.int .u64 0),(.bool false),(.int .u64 0),(.int .u64 0),(.int .i64 0),(.int .i64 0),(.string ⟨⟨[]⟩⟩)]),oD 3 (.mv (.const (.int .i64 0)))]) (.seq (.seq (.reg [oM 10 τ0,oD 11 (.idxS Xb9 (.const (.int .i64 0))),oD 12 (.bin .quo Xb5 (.const (.int .u8 16))),oD 13 (.bin .eql XcP (.const (.int .u8 4)))]) (.cond XcS (.seq (.reg [oM 15 τ0,oD 16 (.callF 98 [Xdb]),oM 14 Xdh,oE 17 0 Xde,oE 18 1 Xde,oE 19 2 Xde,oD 4 (.alloc [(.int .i64 0),(.int .i64 0),(.bool false),(.int .i64 0),(.int .i64 0),(.bool false),(.int .u64 0),(.int .u64 0),(.bool false),(.int .u64 0),(.int .u64 0),(.string ⟨⟨[]⟩⟩)]),oN (.store 12 τ4 Xdc),oM 5 XdK,oM 6 Xdx]) (.seq (.reg [oD 20 (.fieldA 5 τ4),oD 21 (.loadN [.bool,(.int .u64),(.int .u64)] Xd2),oD 22 (.fieldA 8 τ4),oD 23 (.loadN [.bool,(.int .u64),(.int .u64)] Xej),oD 24 (.fieldA 4 τ4),oD 25 (.load1 (.int .i64) Xei),oD 26 (.fieldA 11 τ4),oD 27 (.load1 .str Xef),oD 28 (.lenS XeJ),oD 29 (.bin .add (.const (.int .i64 20)) XeD),oM 30 τ5,oD 31 (.build [(.bool false),(.int .u64 0),(.int .u64 0),(.bool false),(.int .u64 0),(.int .u64 0),(.int .i64 0),(.int .i64 0),(.string ⟨⟨[]⟩⟩)] [(0,3,Xd5),(3,3,XeC),(6,1,XeM),(7,1,XeN),(8,1,Xfh)]),oM 32 τ6,oN (.store 9 τ2 Xe3),oM 3 Xfl]) .ret)) .skip)) (.seq (.seq (.reg [oM 33 τ0,oD 34 (.idxS Xfn (.const (.int .i64 0))),oD 35 (.bin .quo Xfz (.const (.int .u8 16))),oD 36 (.bin .eql Xfp (.const (.int .u8 6)))]) (.cond XfI (.seq (.reg [oM 38 τ0,oD 39 (.callF 99 [XgG]),oM 37 XgF,oE 40 0 Xfo,oE 41 1 Xfo,oE 42 2 Xfo,oD 7 (.alloc [(.int .i64 0),(.int .i64 0),(.int .i64 0),(.int .i64 0),(.bool false),(.int .u64 0),(.int .u64 0),(.bool false),(.int .u64 0),(.int .u64 0)]),oN (.store 10 τ7 Xhr),oM 8 Xhg,oM 9 Xhh]) (.seq (.reg [oD 43 (.fieldA 4 τ7),oD 44 (.loadN [.bool,(.int .u64),(.int .u64)] Xhm),oD 45 (.fieldA 7 τ7),oD 46 (.loadN [.bool,(.int .u64),(.int .u64)] XhB),oD 47 (.fieldA 2 τ7),oD 48 (.load1 (.int .i64) XhQ),oM 49 τ8,oD 50 (.build [(.bool false),(.int .u64 0),(.int .u64 0),(.bool false),(.int .u64 0),(.int .u64 0),(.int .i64 0),(.int .i64 0),(.string ⟨⟨[]⟩⟩)] [(0,3,XhF),(3,3,Xh6),(6,1,XiA),(7,1,(.const (.int .i64 40))),(8,1,Xiu)]),oM 51 τ9,oN (.store 9 τ2 XiC),oM 3 XiB]) .ret)) .skip)) (.seq (.reg [oD 52 (.build [(.bool false),(.int .u64 0),(.int .u64 0),(.bool false),(.int .u64 0),(.int .u64 0),(.int .i64 0),(.int .i64 0),(.string ⟨⟨[]⟩⟩)] []),oN (.store 9 τ2 XjH),oD 3 (.mv (.const (.int .i64 3)))]) .ret)))
def fn56:VFn:=⟨53,XzC,[.cell 2 [.bool,(.int .u64),(.int .u64),.bool,(.int .u64),(.int .u64),(.int .i64),(.int .i64),.str] true,.tmp 3]⟩
def k98_6:VC:=.regD [oM 15 τ0,oD 16 (.idxS Xdb (.const (.int .i64 0))),oD 17 (.bin .rem Xdh (.const (.int .u8 16))),oD 18 (.conv .i64 Xdc),oD 19 (.bin .mul (.const (.int .i64 4)) XdK),oM 20 τ0,oD 21 (.callF 44 [Xd2,(.const (.int .i64 2)),(.const (.int .i64 2))])] [] [oM 5 Xdx,oM 6 Xd5]
def XJu:VC:=.regD [oM 73 τ0,oD 74 (.idxS Xsz (.const (.int .i64 1))),oD 75 (.conv .i64 Xv1),oM 76 τ0,oD 77 (.callF 44 [Xws,(.const (.int .i64 4)),(.const (.int .i64 2))]),oM 78 τ0,oD 79 (.idxS XwG (.const (.int .i64 6))),oD 80 (.bin .eql XxJ (.const (.int .u8 64))),oM 81 τ0,oD 82 (.idxS Xx2 (.const (.int .i64 8))),oD 83 (.conv .i64 XBY),oM 84 τ0,oD 85 (.idxS XBu (.const (.int .i64 9))),oD 86 (.conv .i64 XEO),oD 87 (.loadN [.bool,(.int .u64),(.int .u64)] τ7),oD 88 (.loadN [.bool,(.int .u64),(.int .u64)] τ9),oM 89 τ0,oM 90 τ5,oD 91 (.sliceS XAr (some (.const (.int .i64 20))) (some XGg)),oD 92 (.build [(.int .i64 0),(.int .i64 0),(.bool false),(.int .i64 0),(.int .i64 0),(.bool false),(.int .u64 0),(.int .u64 0),(.bool false),(.int .u64 0),(.int .u64 0),(.string ⟨⟨[]⟩⟩)] [(0,1,XtS),(1,1,XtD),(2,1,XwF),(3,1,XwA),(4,1,XFb),(5,3,XDJ),(8,3,XDu),(11,1,XCX)]),oM 93 τ0,oM 94 τ5,oM 95 τ6,oD 96 (.sliceS XC2 (some XDh) (some XGm)),oN (.store 12 τ2 XC9)] [(4,14),(4,15)] [oM 3 XDG,oD 4 (.mv (.const (.int .i64 0)))]
def XzG:VC:=.seq (.reg [oD 2 (.alloc [(.int .i64 0),(.int .i64 0),(.bool false),(.int .i64 0),(.int .i64 0),(.bool false),(.int .u64 0),(.int .u64 0),(.bool false),(.int .u64 0),(.int .u64 0),(.string ⟨⟨[]⟩⟩)]),oD 3 (.mv (.const (.string ⟨⟨[]⟩⟩))),oD 4 (.mv (.const (.int .i64 0)))]) (.seq (.seq (.reg [oM 11 τ0,oD 12 (.lenS Xb5),oD 13 (.bin .lss XcP (.const (.int .i64 20)))]) (.cond XcS (.seq (.reg [oD 14 (.build [(.int .i64 0),(.int .i64 0),(.bool false),(.int .i64 0),(.int .i64 0),(.bool false),(.int .u64 0),(.int .u64 0),(.bool false),(.int .u64 0),(.int .u64 0),(.string ⟨⟨[]⟩⟩)] []),oN (.store 12 τ2 Xde),oD 3 (.mv (.const (.string ⟨⟨[]⟩⟩))),oD 4 (.mv (.const (.int .i64 2)))]) .ret) .skip)) (.seq k98_6 (.seq (.seq (.reg [oM 22 τ0,oD 23 (.idxS Xej (.const (.int .i64 0))),oD 24 (.bin .quo XeC (.const (.int .u8 16))),oD 25 (.bin .neq Xei (.const (.int .u8 4))),oM 26 XeM,oG 27 (.mv τ5) 26 false,oG 28 (.bin .lss XeJ (.const (.int .i64 20))) 26 false,oD 29 (.pick Xef (.const (.bool true)) XeD),oM 30 XeN,oG 31 (.mv τ6) 30 false,oG 32 (.mv τ5) 30 false,oG 33 (.bin .lss Xe3 Xfl) 30 false,oD 34 (.pick Xfh (.const (.bool true)) Xfn)]) (.cond Xfz (.seq (.reg [oD 35 (.build [(.int .i64 0),(.int .i64 0),(.bool false),(.int .i64 0),(.int .i64 0),(.bool false),(.int .u64 0),(.int .u64 0),(.bool false),(.int .u64 0),(.int .u64 0),(.string ⟨⟨[]⟩⟩)] []),oN (.store 12 τ2 Xfp),oD 3 (.mv (.const (.string ⟨⟨[]⟩⟩))),oD 4 (.mv (.const (.int .i64 3)))]) .ret) .skip)) (.seq (.seq (.reg [oM 36 τ0,oD 37 (.lenS XfI),oM 38 τ6,oD 39 (.bin .lss Xfo XgG)]) (.cond XgF (.seq (.reg [oD 40 (.build [(.int .i64 0),(.int .i64 0),(.bool false),(.int .i64 0),(.int .i64 0),(.bool false),(.int .u64 0),(.int .u64 0),(.bool false),(.int .u64 0),(.int .u64 0),(.string ⟨⟨[]⟩⟩)] []),oN (.store 12 τ2 Xhr),oD 3 (.mv (.const (.string ⟨⟨[]⟩⟩))),oD 4 (.mv (.const (.int .i64 2)))]) .ret) .skip)) (.seq (.seq (.reg [oM 41 τ0,oM 42 τ5,oD 43 (.sliceS Xhg none (some Xhh)),oD 44 (.callF 100 [Xhm]),oD 45 (.bin .neq XhF (.const (.int .i64 65535)))]) (.cond XhB (.seq (.reg [oD 46 (.build [(.int .i64 0),(.int .i64 0),(.bool false),(.int .i64 0),(.int .i64 0),(.bool false),(.int .u64 0),(.int .u64 0),(.bool false),(.int .u64 0),(.int .u64 0),(.string ⟨⟨[]⟩⟩)] []),oN (.store 12 τ2 Xh6),oD 3 (.mv (.const (.string ⟨⟨[]⟩⟩))),oD 4 (.mv (.const (.int .i64 4)))]) .ret) .skip)) (.seq (.seq (.reg [oM 47 τ0,oD 48 (.idxS XhQ (.const (.int .i64 6))),oD 49 (.bin .neq XiA (.const (.int .u8 0))),oM 50 Xiu,oG 51 (.mv τ0) 50 true,oG 52 (.idxS XiB (.const (.int .i64 6))) 50 true,oG 53 (.bin .neq XjH (.const (.int .u8 64))) 50 true,oD 54 (.pick XiC XjR (.const (.bool false))),oM 55 Xk3,oG 56 (.mv τ0) 55 false,oG 57 (.idxS Xlu (.const (.int .i64 7))) 55 false,oG 58 (.bin .neq XkE (.const (.int .u8 0))) 55 false,oD 59 (.pick Xk2 (.const (.bool true)) Xk0)]) (.cond Xln (.seq (.reg [oD 60 (.build [(.int .i64 0),(.int .i64 0),(.bool false),(.int .i64 0),(.int .i64 0),(.bool false),(.int .u64 0),(.int .u64 0),(.bool false),(.int .u64 0),(.int .u64 0),(.string ⟨⟨[]⟩⟩)] []),oN (.store 12 τ2 Xl3),oD 3 (.mv (.const (.string ⟨⟨[]⟩⟩))),oD 4 (.mv (.const (.int .i64 7)))]) .ret) .skip)) (.seq (.reg [oM 62 τ0,oD 63 (.sliceS Xm6 (some (.const (.int .i64 12))) (some (.const (.int .i64 16)))),oD 64 (.callF 122 [Xox]),oM 61 XoH,oE 65 0 Xl0,oE 66 1 Xl0,oD 7 (.alloc [(.bool false),(.int .u64 0),(.int .u64 0)]),oN (.store 3 τ7 XoP),oM 8 XpY]) (.seq (.reg [oM 68 τ0,oD 69 (.sliceS XpR (some (.const (.int .i64 16))) (some (.const (.int .i64 20)))),oD 70 (.callF 122 [XpT]),oM 67 Xrl,oE 71 0 XoO,oE 72 1 XoO,oD 9 (.alloc [(.bool false),(.int .u64 0),(.int .u64 0)]),oN (.store 3 τ9 Xrf),oM 10 Xq4]) (.seq XJu .ret)))))))))
def fn98:VFn:=⟨97,XzG,[.cell 2 [(.int .i64),(.int .i64),.bool,(.int .i64),(.int .i64),.bool,(.int .u64),(.int .u64),.bool,(.int .u64),(.int .u64),.str] true,.tmp 3,.tmp 4]⟩
def XKW:VC:=.seq (.reg [oD 6 (.mv (.const (.int .i64 0)))]) (.seq (.reg [oM 10 τ0,oM 11 τ1,oM 12 τ2,oD 13 (.callF 70 [Xb9,Xb5,XcP]),oM 9 XcS,oE 14 0 τ9,oE 15 1 τ9,oM 7 Xde,oM 8 Xdb]) (.seq (.reg [oM 16 τ7,oD 17 (.conv .i64 Xdh),oM 6 Xdc]) .ret))
def fn44:VFn:=⟨18,XKW,[.tmp 6]⟩
def XtL:VC:=.seq (.seq (.reg [oM 34 τ9,oM 35 τ2,oD 36 (.bin .lss Xfz Xfp)]) (.cond XfI .skip (.exit 0))) (.seq (.block 1 (.reg [oM 39 τ8,oD 40 (.bin .mul XgF (.const (.int .u64 256))),oM 41 τ0,oM 42 τ1,oM 43 τ9,oD 44 (.bin .add Xhh Xhm),oD 45 (.idxS Xhg XhF),oD 46 (.conv .u64 XhB),oD 47 (.bin .add Xhr Xh6),oM 8 XhQ])) (.reg [oM 37 τ9,oD 38 (.bin .add Xfo (.const (.int .i64 1))),oM 9 XgG]))
def XAO:VC:=.seq (.reg [oM 48 τ8,oM 6 XiA,oD 7 (.mv (.const (.bool true)))]) .ret
def XBc:VC:=.seq (.reg [oD 6 (.mv (.const (.int .u64 0))),oD 7 (.mv (.const (.bool false)))]) (.seq (.seq (.reg [oM 10 τ2,oD 11 (.bin .lss Xb9 (.const (.int .i64 1))),oM 12 Xb5,oG 13 (.mv τ2) 12 false,oG 14 (.bin .gtr XcS (.const (.int .i64 8))) 12 false,oD 15 (.pick XcP (.const (.bool true)) Xde),oM 16 Xdb,oG 17 (.mv τ1) 16 false,oG 18 (.bin .lss Xdc (.const (.int .i64 0))) 16 false,oD 19 (.pick Xdh (.const (.bool true)) XdK),oM 20 Xdx,oG 21 (.mv τ1) 20 false,oG 22 (.mv τ0) 20 false,oG 23 (.lenS Xej) 20 false,oG 24 (.bin .gtr Xd5 XeC) 20 false,oD 25 (.pick Xd2 (.const (.bool true)) Xei),oM 26 XeM,oG 27 (.mv τ2) 26 false,oG 28 (.mv τ0) 26 false,oG 29 (.lenS XeD) 26 false,oG 30 (.mv τ1) 26 false,oG 31 (.bin .sub XeN Xfh) 26 false,oG 32 (.bin .gtr XeJ Xe3) 26 false,oD 33 (.pick Xef (.const (.bool true)) Xfl)]) (.cond Xfn (.seq (.reg [oD 6 (.mv (.const (.int .u64 0))),oD 7 (.mv (.const (.bool false)))]) .ret) .skip)) (.seq (.reg [oD 8 (.mv (.const (.int .u64 0)))]) (.seq (.seq (.reg [oD 9 (.mv (.const (.int .i64 0)))]) (.block 0 (.loop XtL))) XAO)))
def fn70:VFn:=⟨49,XBc,[.tmp 6,.tmp 7]⟩
def XAi:VC:=.seq (.reg [oD 2 (.mv (.const (.int .i64 0)))]) (.seq (.reg [oM 3 τ0,oD 4 (.callF 124 [τ3]),oD 5 (.callF 123 [τ4]),oM 2 τ5]) .ret)
def XGV:VFn:=⟨6,XAi,[.tmp 2]⟩
def Xqi:VC:=.seq (.seq (.reg [oM 11 τ4,oM 12 τ0,oD 13 (.lenS XcP),oD 14 (.bin .lss Xb5 XcS)]) (.cond Xde .skip (.exit 0))) (.seq (.block 1 (.reg [oM 17 τ3,oM 18 τ0,oM 19 τ4,oD 20 (.callF 44 [XdK,Xdx,(.const (.int .i64 2))]),oD 21 (.buildSl 1 1 [(.int .i64 0)] [(0,1,Xd2)]),oD 22 (.app 3 1 8 Xdc Xd5),oM 3 Xej])) (.reg [oM 15 τ4,oD 16 (.bin .add Xdb (.const (.int .i64 2))),oM 4 Xdh]))
def Xuu:VC:=.seq (.reg [oM 23 τ3,oM 2 XeC]) .ret
def XtV:VC:=.seq (.reg [oD 2 (.mv (.const (.slice none 0 0)))]) (.seq (.seq (.reg [oM 5 τ0,oD 6 (.lenS τ5),oD 7 (.bin .rem τ6 (.const (.int .i64 2))),oD 8 (.bin .eql τ7 (.const (.int .i64 1)))]) (.cond τ8 (.reg [oM 9 τ0,oD 10 (.bin .add τ9 (.const (.string ⟨⟨[0]⟩⟩))),oM 0 Xb9]) .skip)) (.seq (.reg [oD 3 (.mv (.const (.slice none 0 0)))]) (.seq (.seq (.reg [oD 4 (.mv (.const (.int .i64 0)))]) (.block 0 (.loop Xqi))) Xuu)))
def XHU:VFn:=⟨24,XtV,[.tmp 2]⟩
def Xqj:VC:=.seq (.seq (.reg [oM 5 τ4,oM 6 τ0,oD 7 (.lenL τ6),oD 8 (.bin .lss τ5 τ7)]) (.cond τ8 .skip (.exit 0))) (.seq (.block 1 (.reg [oM 11 τ3,oM 12 τ0,oM 13 τ4,oD 14 (.idxAL 1 XcP XcS),oD 15 (.load1 (.int .i64) Xde),oD 16 (.bin .add Xb5 Xdb),oM 3 Xdh])) (.reg [oM 9 τ4,oD 10 (.bin .add τ9 (.const (.int .i64 1))),oM 4 Xb9]))
def XqI:VC:=.seq (.seq (.reg [oM 17 τ3,oD 18 (.bin .gtr Xdc (.const (.int .i64 65535)))]) (.cond XdK .skip (.exit 2))) (.block 3 (.reg [oM 19 τ3,oD 20 (.bin .rem Xdx (.const (.int .i64 65536))),oM 21 τ3,oD 22 (.bin .quo Xd5 (.const (.int .i64 65536))),oD 23 (.bin .add Xd2 Xej),oM 3 XeC]))
def Xvo:VC:=.seq (.reg [oM 24 τ3,oM 2 Xei]) .ret
def XvE:VC:=.seq (.block 2 (.loop XqI)) Xvo
def Xtz:VC:=.seq (.reg [oD 2 (.mv (.const (.int .i64 0)))]) (.seq (.reg [oD 3 (.mv (.const (.int .i64 0)))]) (.seq (.seq (.reg [oD 4 (.mv (.const (.int .i64 0)))]) (.block 0 (.loop Xqj))) XvE))
def XKm:VFn:=⟨25,Xtz,[.tmp 2]⟩
def Xt7:VC:=.seq (.reg [oD 2 (.alloc [(.bool false),(.int .u64 0),(.int .u64 0)]),oD 3 (.mv (.const (.bool false)))]) (.seq (.seq (.reg [oM 10 τ0,oD 11 (.lenS Xb9),oD 12 (.bin .eql Xb5 (.const (.int .i64 4)))]) (.cond XcP (.seq (.reg [oM 14 τ0,oD 15 (.callF 70 [Xde,(.const (.int .i64 0)),(.const (.int .i64 4))]),oM 13 Xdb,oE 16 0 XcS,oE 17 1 XcS,oM 4 Xdh,oM 5 Xdc]) (.seq (.reg [oM 18 τ4,oD 19 (.build [(.bool false),(.int .u64 0),(.int .u64 0)] [(2,1,XdK)]),oN (.store 3 τ2 Xdx),oD 3 (.mv (.const (.bool true)))]) .ret)) .skip)) (.seq (.seq (.reg [oM 20 τ0,oD 21 (.lenS Xd2),oD 22 (.bin .eql Xd5 (.const (.int .i64 16)))]) (.cond Xej (.seq (.reg [oM 24 τ0,oD 25 (.callF 70 [Xei,(.const (.int .i64 0)),(.const (.int .i64 8))]),oM 23 XeM,oE 26 0 XeC,oE 27 1 XeC,oM 6 Xef,oM 7 XeJ]) (.seq (.reg [oM 29 τ0,oD 30 (.callF 70 [XeN,(.const (.int .i64 8)),(.const (.int .i64 8))]),oM 28 Xfh,oE 31 0 XeD,oE 32 1 XeD,oM 8 Xe3,oM 9 Xfl]) (.seq (.reg [oM 33 τ6,oM 34 τ8,oD 35 (.build [(.bool false),(.int .u64 0),(.int .u64 0)] [(0,1,(.const (.bool true))),(1,1,Xfn),(2,1,Xfz)]),oN (.store 3 τ2 Xfp),oD 3 (.mv (.const (.bool true)))]) .ret))) .skip)) (.seq (.reg [oD 36 (.build [(.bool false),(.int .u64 0),(.int .u64 0)] []),oN (.store 3 τ2 XfI),oD 3 (.mv (.const (.bool false)))]) .ret)))
def XJc:VFn:=⟨37,Xt7,[.cell 2 [.bool,(.int .u64),(.int .u64)] true,.tmp 3]⟩
def XGM:VC:=.regD [oM 41 τ5,oD 42 (.bin .quo Xhg (.const (.int .i64 1048576))),oD 43 (.bin .rem Xhh (.const (.int .i64 256))),oM 44 τ5,oD 45 (.bin .rem XhF (.const (.int .i64 1048576))),oM 46 τ0,oD 47 (.idxS Xh6 (.const (.int .i64 6))),oD 48 (.conv .i64 XhQ),oM 49 τ0,oD 50 (.idxS Xiu (.const (.int .i64 7))),oD 51 (.conv .i64 XiC),oD 52 (.loadN [.bool,(.int .u64),(.int .u64)] τ7),oD 53 (.loadN [.bool,(.int .u64),(.int .u64)] τ9),oD 54 (.build [(.int .i64 0),(.int .i64 0),(.int .i64 0),(.int .i64 0),(.bool false),(.int .u64 0),(.int .u64 0),(.bool false),(.int .u64 0),(.int .u64 0)] [(0,1,Xhm),(1,1,XhB),(2,1,XiA),(3,1,XiB),(4,3,XjH),(7,3,XjR)]),oM 55 τ0,oM 56 τ6,oD 57 (.bin .add (.const (.int .i64 40)) Xlu),oD 58 (.sliceS Xk2 (some (.const (.int .i64 40))) (some XkE)),oN (.store 10 τ2 Xk3)] [] [oM 3 Xk0,oD 4 (.mv (.const (.int .i64 0)))]
def XAa:VC:=.seq (.reg [oD 2 (.alloc [(.int .i64 0),(.int .i64 0),(.int .i64 0),(.int .i64 0),(.bool false),(.int .u64 0),(.int .u64 0),(.bool false),(.int .u64 0),(.int .u64 0)]),oD 3 (.mv (.const (.string ⟨⟨[]⟩⟩))),oD 4 (.mv (.const (.int .i64 0)))]) (.seq (.seq (.reg [oM 11 τ0,oD 12 (.lenS Xb5),oD 13 (.bin .lss XcP (.const (.int .i64 40)))]) (.cond XcS (.seq (.reg [oD 14 (.build [(.int .i64 0),(.int .i64 0),(.int .i64 0),(.int .i64 0),(.bool false),(.int .u64 0),(.int .u64 0),(.bool false),(.int .u64 0),(.int .u64 0)] []),oN (.store 10 τ2 Xde),oD 3 (.mv (.const (.string ⟨⟨[]⟩⟩))),oD 4 (.mv (.const (.int .i64 2)))]) .ret) .skip)) (.seq (.reg [oM 15 τ0,oD 16 (.callF 44 [Xdb,(.const (.int .i64 0)),(.const (.int .i64 4))]),oM 17 τ0,oD 18 (.callF 44 [Xdc,(.const (.int .i64 4)),(.const (.int .i64 2))]),oM 5 Xdh,oM 6 XdK]) (.seq (.seq (.reg [oM 19 τ5,oD 20 (.bin .quo Xdx (.const (.int .i64 268435456))),oD 21 (.bin .neq Xd2 (.const (.int .i64 6)))]) (.cond Xd5 (.seq (.reg [oD 22 (.build [(.int .i64 0),(.int .i64 0),(.int .i64 0),(.int .i64 0),(.bool false),(.int .u64 0),(.int .u64 0),(.bool false),(.int .u64 0),(.int .u64 0)] []),oN (.store 10 τ2 Xej),oD 3 (.mv (.const (.string ⟨⟨[]⟩⟩))),oD 4 (.mv (.const (.int .i64 3)))]) .ret) .skip)) (.seq (.seq (.reg [oM 23 τ0,oD 24 (.lenS XeC),oD 25 (.bin .sub Xei (.const (.int .i64 40))),oM 26 τ6,oD 27 (.bin .lss XeM Xef)]) (.cond XeJ (.seq (.reg [oD 28 (.build [(.int .i64 0),(.int .i64 0),(.int .i64 0),(.int .i64 0),(.bool false),(.int .u64 0),(.int .u64 0),(.bool false),(.int .u64 0),(.int .u64 0)] []),oN (.store 10 τ2 XeD),oD 3 (.mv (.const (.string ⟨⟨[]⟩⟩))),oD 4 (.mv (.const (.int .i64 2)))]) .ret) .skip)) (.seq (.reg [oM 30 τ0,oD 31 (.sliceS Xfh (some (.const (.int .i64 8))) (some (.const (.int .i64 24)))),oD 32 (.callF 122 [Xe3]),oM 29 Xfl,oE 33 0 XeN,oE 34 1 XeN,oD 7 (.alloc [(.bool false),(.int .u64 0),(.int .u64 0)]),oN (.store 3 τ7 Xfn),oM 8 Xfz]) (.seq (.reg [oM 36 τ0,oD 37 (.sliceS XfI (some (.const (.int .i64 24))) (some (.const (.int .i64 40)))),oD 38 (.callF 122 [Xfo]),oM 35 XgG,oE 39 0 Xfp,oE 40 1 Xfp,oD 9 (.alloc [(.bool false),(.int .u64 0),(.int .u64 0)]),oN (.store 3 τ9 XgF),oM 10 Xhr]) (.seq XGM .ret)))))))
def fn99:VFn:=⟨59,XAa,[.cell 2 [(.int .i64),(.int .i64),(.int .i64),(.int .i64),.bool,(.int .u64),(.int .u64),.bool,(.int .u64),(.int .u64)] true,.tmp 3,.tmp 4]⟩
theorem XHI:(Tryz.prog.funcs[3]?).bind (XaB Tryz.prog)=some fn3:=by kernel_rfl
theorem XKs:(Tryz.prog.funcs[5]?).bind (XaB Tryz.prog)=some fn5:=by kernel_rfl
theorem XIS:(Tryz.prog.funcs[8]?).bind (XaB Tryz.prog)=some fn8:=by kernel_rfl
theorem XGl:(Tryz.prog.funcs[23]?).bind (XaB Tryz.prog)=some fn23:=by kernel_rfl
theorem XED:(Tryz.prog.funcs[28]?).bind (XaB Tryz.prog)=some fn28:=by kernel_rfl
theorem XD5:(Tryz.prog.funcs[24]?).bind (XaB Tryz.prog)=some fn24:=by kernel_rfl
theorem XF4:(Tryz.prog.funcs[11]?).bind (XaB Tryz.prog)=some fn11:=by kernel_rfl
theorem XDg:(Tryz.prog.funcs[12]?).bind (XaB Tryz.prog)=some fn12:=by kernel_rfl
theorem XCm:(Tryz.prog.funcs[10]?).bind (XaB Tryz.prog)=some fn10:=by kernel_rfl
theorem XKh:(Tryz.prog.funcs[6]?).bind (XaB Tryz.prog)=some fn6:=by kernel_rfl
theorem XE5:(Tryz.prog.funcs[22]?).bind (XaB Tryz.prog)=some fn22:=by kernel_rfl
theorem XGb:(Tryz.prog.funcs[46]?).bind (XaB Tryz.prog)=some fn46:=by kernel_rfl
theorem XDc:(Tryz.prog.funcs[71]?).bind (XaB Tryz.prog)=some fn71:=by kernel_rfl
theorem Xxy:(Tryz.prog.funcs[106]?).bind (XaB Tryz.prog)=some XIW:=by kernel_rfl
theorem XwZ:(Tryz.prog.funcs[129]?).bind (XaB Tryz.prog)=some XGO:=by kernel_rfl
theorem XEr:(Tryz.prog.funcs[61]?).bind (XaB Tryz.prog)=some fn61:=by kernel_rfl
theorem XE2:(Tryz.prog.funcs[62]?).bind (XaB Tryz.prog)=some fn62:=by kernel_rfl
theorem XEQ:(Tryz.prog.funcs[64]?).bind (XaB Tryz.prog)=some fn64:=by kernel_rfl
theorem XCv:(Tryz.prog.funcs[63]?).bind (XaB Tryz.prog)=some fn63:=by kernel_rfl
theorem XE8:(Tryz.prog.funcs[40]?).bind (XaB Tryz.prog)=some fn40:=by kernel_rfl
theorem Xy5:(Tryz.prog.funcs[131]?).bind (XaB Tryz.prog)=some XH6:=by kernel_rfl
theorem Xx4:(Tryz.prog.funcs[112]?).bind (XaB Tryz.prog)=some XIM:=by kernel_rfl
theorem Xxk:(Tryz.prog.funcs[104]?).bind (XaB Tryz.prog)=some XHF:=by kernel_rfl
theorem XxP:(Tryz.prog.funcs[126]?).bind (XaB Tryz.prog)=some XI6:=by kernel_rfl
theorem Xx3:(Tryz.prog.funcs[128]?).bind (XaB Tryz.prog)=some XIn:=by kernel_rfl
theorem XxV:(Tryz.prog.funcs[134]?).bind (XaB Tryz.prog)=some XJG:=by kernel_rfl
theorem Xyd:(Tryz.prog.funcs[135]?).bind (XaB Tryz.prog)=some XH3:=by kernel_rfl
theorem XyM:(Tryz.prog.funcs[130]?).bind (XaB Tryz.prog)=some XKn:=by kernel_rfl
theorem XEZ:(Tryz.prog.funcs[72]?).bind (XaB Tryz.prog)=some fn72:=by kernel_rfl
theorem Xze:(Tryz.prog.funcs[107]?).bind (XaB Tryz.prog)=some XJ6:=by kernel_rfl
theorem XyN:(Tryz.prog.funcs[109]?).bind (XaB Tryz.prog)=some XKF:=by kernel_rfl
theorem XyG:(Tryz.prog.funcs[113]?).bind (XaB Tryz.prog)=some XHr:=by kernel_rfl
theorem XFe:(Tryz.prog.funcs[80]?).bind (XaB Tryz.prog)=some fn80:=by kernel_rfl
theorem XCx:(Tryz.prog.funcs[42]?).bind (XaB Tryz.prog)=some fn42:=by kernel_rfl
theorem XCJ:(Tryz.prog.funcs[82]?).bind (XaB Tryz.prog)=some fn82:=by kernel_rfl
theorem Xx0:(Tryz.prog.funcs[116]?).bind (XaB Tryz.prog)=some XHH:=by kernel_rfl
theorem XyC:(Tryz.prog.funcs[133]?).bind (XaB Tryz.prog)=some XHD:=by kernel_rfl
theorem XxD:(Tryz.prog.funcs[117]?).bind (XaB Tryz.prog)=some XHE:=by kernel_rfl
theorem XyX:(Tryz.prog.funcs[132]?).bind (XaB Tryz.prog)=some XKY:=by kernel_rfl
theorem XxU:(Tryz.prog.funcs[102]?).bind (XaB Tryz.prog)=some XLv:=by kernel_rfl
theorem Xw8:(Tryz.prog.funcs[103]?).bind (XaB Tryz.prog)=some XKL:=by kernel_rfl
theorem Xxl:(Tryz.prog.funcs[125]?).bind (XaB Tryz.prog)=some XG9:=by kernel_rfl
theorem XDz:(Tryz.prog.funcs[60]?).bind (XaB Tryz.prog)=some fn60:=by kernel_rfl
theorem XFC:(Tryz.prog.funcs[73]?).bind (XaB Tryz.prog)=some fn73:=by kernel_rfl
theorem Xw7:(Tryz.prog.funcs[108]?).bind (XaB Tryz.prog)=some XIY:=by kernel_rfl
theorem XDI:(Tryz.prog.funcs[39]?).bind (XaB Tryz.prog)=some fn39:=by kernel_rfl
theorem XFf:(Tryz.prog.funcs[65]?).bind (XaB Tryz.prog)=some fn65:=by kernel_rfl
theorem XFW:(Tryz.prog.funcs[66]?).bind (XaB Tryz.prog)=some fn66:=by kernel_rfl
theorem XCf:(Tryz.prog.funcs[67]?).bind (XaB Tryz.prog)=some fn67:=by kernel_rfl
theorem XEG:(Tryz.prog.funcs[25]?).bind (XaB Tryz.prog)=some fn25:=by kernel_rfl
theorem XEV:(Tryz.prog.funcs[47]?).bind (XaB Tryz.prog)=some fn47:=by kernel_rfl
theorem XEp:(Tryz.prog.funcs[74]?).bind (XaB Tryz.prog)=some fn74:=by kernel_rfl
theorem XEc:(Tryz.prog.funcs[75]?).bind (XaB Tryz.prog)=some fn75:=by kernel_rfl
theorem XxC:(Tryz.prog.funcs[110]?).bind (XaB Tryz.prog)=some XJH:=by kernel_rfl
theorem Xxt:(Tryz.prog.funcs[111]?).bind (XaB Tryz.prog)=some XLC:=by kernel_rfl
theorem XDw:(Tryz.prog.funcs[76]?).bind (XaB Tryz.prog)=some fn76:=by kernel_rfl
theorem XDq:(Tryz.prog.funcs[77]?).bind (XaB Tryz.prog)=some fn77:=by kernel_rfl
theorem XDV:(Tryz.prog.funcs[78]?).bind (XaB Tryz.prog)=some fn78:=by kernel_rfl
theorem XDE:(Tryz.prog.funcs[43]?).bind (XaB Tryz.prog)=some fn43:=by kernel_rfl
theorem XDs:(Tryz.prog.funcs[48]?).bind (XaB Tryz.prog)=some fn48:=by kernel_rfl
theorem XES:(Tryz.prog.funcs[79]?).bind (XaB Tryz.prog)=some fn79:=by kernel_rfl
theorem XCP:(Tryz.prog.funcs[49]?).bind (XaB Tryz.prog)=some fn49:=by kernel_rfl
theorem XC5:(Tryz.prog.funcs[81]?).bind (XaB Tryz.prog)=some fn81:=by kernel_rfl
theorem Xzg:(Tryz.prog.funcs[114]?).bind (XaB Tryz.prog)=some XLw:=by kernel_rfl
theorem XwV:(Tryz.prog.funcs[115]?).bind (XaB Tryz.prog)=some XLn:=by kernel_rfl
theorem XJj:(Tryz.prog.funcs[7]?).bind (XaB Tryz.prog)=some fn7:=by kernel_rfl
theorem XDZ:(Tryz.prog.funcs[15]?).bind (XaB Tryz.prog)=some fn15:=by kernel_rfl
theorem XCW:(Tryz.prog.funcs[31]?).bind (XaB Tryz.prog)=some fn31:=by kernel_rfl
theorem XGh:(Tryz.prog.funcs[56]?).bind (XaB Tryz.prog)=some fn56:=by kernel_rfl
theorem XDS:(Tryz.prog.funcs[98]?).bind (XaB Tryz.prog)=some fn98:=by kernel_rfl
theorem XE1:(Tryz.prog.funcs[44]?).bind (XaB Tryz.prog)=some fn44:=by kernel_rfl
theorem XEt:(Tryz.prog.funcs[70]?).bind (XaB Tryz.prog)=some fn70:=by kernel_rfl
theorem XwT:(Tryz.prog.funcs[100]?).bind (XaB Tryz.prog)=some XGV:=by kernel_rfl
theorem Xxs:(Tryz.prog.funcs[124]?).bind (XaB Tryz.prog)=some XHU:=by kernel_rfl
theorem XxT:(Tryz.prog.funcs[123]?).bind (XaB Tryz.prog)=some XKm:=by kernel_rfl
theorem XyW:(Tryz.prog.funcs[122]?).bind (XaB Tryz.prog)=some XJc:=by kernel_rfl
theorem XEL:(Tryz.prog.funcs[99]?).bind (XaB Tryz.prog)=some fn99:=by kernel_rfl
def XIE:VC:=.regD [oM 61 τ0,oD 62 (.callF 44 [Xl0,(.const (.int .i64 0)),(.const (.int .i64 2))]),oM 63 τ0,oD 64 (.callF 44 [Xox,(.const (.int .i64 2)),(.const (.int .i64 2))]),oM 65 τ0,oD 66 (.callF 44 [XoP,(.const (.int .i64 4)),(.const (.int .i64 4))]),oD 67 (.conv .u32 XpY),oM 68 τ0,oD 69 (.callF 44 [XpR,(.const (.int .i64 8)),(.const (.int .i64 4))]),oD 70 (.conv .u32 XpT),oM 71 τ0,oD 72 (.idxS Xrf (.const (.int .i64 13))),oD 73 (.conv .i64 Xq4),oM 74 τ0,oD 75 (.callF 44 [Xv1,(.const (.int .i64 14)),(.const (.int .i64 2))]),oM 76 τ0,oD 77 (.callF 44 [Xws,(.const (.int .i64 18)),(.const (.int .i64 2))]),oM 78 τ0,oM 79 τ9,oD 80 (.sliceS XwG (some (.const (.int .i64 20))) (some XxJ)),oD 81 (.build [(.int .i64 0),(.int .i64 0),(.int .u32 0),(.int .u32 0),(.int .i64 0),(.int .i64 0),(.int .i64 0),(.string ⟨⟨[]⟩⟩)] [(0,1,Xm6),(1,1,XoH),(2,1,XoO),(3,1,Xrl),(4,1,Xsz),(5,1,XtS),(6,1,XtD),(7,1,XwF)]),oM 82 τ0,oM 83 τ9,oD 84 (.sliceS XBY (some XwA) none),oN (.store 8 τ6 Xx2)] [] [oM 7 XBu,oD 8 (.mv (.const (.int .i64 0)))]
def XBB:VC:=.seq (.reg [oD 4 (.box τ1),oD 5 (.box τ2),oD 6 (.alloc [(.int .i64 0),(.int .i64 0),(.int .u32 0),(.int .u32 0),(.int .i64 0),(.int .i64 0),(.int .i64 0),(.string ⟨⟨[]⟩⟩)]),oD 7 (.mv (.const (.string ⟨⟨[]⟩⟩))),oD 8 (.mv (.const (.int .i64 0)))]) (.seq (.seq (.reg [oM 13 τ0,oD 14 (.lenS XcS),oD 15 (.bin .lss Xde (.const (.int .i64 20)))]) (.cond Xdb (.seq (.reg [oD 16 (.build [(.int .i64 0),(.int .i64 0),(.int .u32 0),(.int .u32 0),(.int .i64 0),(.int .i64 0),(.int .i64 0),(.string ⟨⟨[]⟩⟩)] []),oN (.store 8 τ6 Xdh),oD 7 (.mv (.const (.string ⟨⟨[]⟩⟩))),oD 8 (.mv (.const (.int .i64 2)))]) .ret) .skip)) (.seq (.reg [oM 17 τ0,oD 18 (.idxS Xdc (.const (.int .i64 12))),oD 19 (.bin .quo XdK (.const (.int .u8 16))),oD 20 (.conv .i64 Xdx),oD 21 (.bin .mul (.const (.int .i64 4)) Xd2),oM 9 Xd5]) (.seq (.seq (.reg [oM 22 τ9,oD 23 (.bin .lss Xej (.const (.int .i64 20))),oM 24 XeC,oG 25 (.mv τ0) 24 false,oG 26 (.idxS XeM (.const (.int .i64 12))) 24 false,oG 27 (.bin .rem Xef (.const (.int .u8 16))) 24 false,oG 28 (.bin .neq XeJ (.const (.int .u8 0))) 24 false,oD 29 (.pick Xei (.const (.bool true)) XeD)]) (.cond XeN (.seq (.reg [oD 30 (.build [(.int .i64 0),(.int .i64 0),(.int .u32 0),(.int .u32 0),(.int .i64 0),(.int .i64 0),(.int .i64 0),(.string ⟨⟨[]⟩⟩)] []),oN (.store 8 τ6 Xfh),oD 7 (.mv (.const (.string ⟨⟨[]⟩⟩))),oD 8 (.mv (.const (.int .i64 3)))]) .ret) .skip)) (.seq (.seq (.reg [oM 31 τ0,oD 32 (.lenS Xe3),oM 33 τ9,oD 34 (.bin .lss Xfl Xfn)]) (.cond Xfz (.seq (.reg [oD 35 (.build [(.int .i64 0),(.int .i64 0),(.int .u32 0),(.int .u32 0),(.int .i64 0),(.int .i64 0),(.int .i64 0),(.string ⟨⟨[]⟩⟩)] []),oN (.store 8 τ6 Xfp),oD 7 (.mv (.const (.string ⟨⟨[]⟩⟩))),oD 8 (.mv (.const (.int .i64 2)))]) .ret) .skip)) (.seq (.reg [oD 36 (.loadN [.bool,(.int .u64),(.int .u64)] τ4),oD 37 (.loadN [.bool,(.int .u64),(.int .u64)] τ5),oM 38 τ0,oD 39 (.lenS XgG),oD 40 (.callF 95 [XfI,Xfo,(.const (.int .i64 6)),XgF]),oM 10 Xhr]) (.seq (.seq (.reg [oM 41 Xb9,oD 42 (.bin .eql Xhg (.const (.string ⟨⟨[]⟩⟩)))]) (.cond Xhh (.seq (.reg [oD 43 (.build [(.int .i64 0),(.int .i64 0),(.int .u32 0),(.int .u32 0),(.int .i64 0),(.int .i64 0),(.int .i64 0),(.string ⟨⟨[]⟩⟩)] []),oN (.store 8 τ6 Xhm),oD 7 (.mv (.const (.string ⟨⟨[]⟩⟩))),oD 8 (.mv (.const (.int .i64 1)))]) .ret) .skip)) (.seq (.seq (.reg [oM 44 Xb9,oM 45 τ0,oD 46 (.bin .add XhF XhB),oD 47 (.callF 100 [Xh6]),oD 48 (.bin .neq XhQ (.const (.int .i64 65535)))]) (.cond XiA (.seq (.reg [oD 49 (.build [(.int .i64 0),(.int .i64 0),(.int .u32 0),(.int .u32 0),(.int .i64 0),(.int .i64 0),(.int .i64 0),(.string ⟨⟨[]⟩⟩)] []),oN (.store 8 τ6 Xiu),oD 7 (.mv (.const (.string ⟨⟨[]⟩⟩))),oD 8 (.mv (.const (.int .i64 4)))]) .ret) .skip)) (.seq (.reg [oM 51 τ0,oM 52 τ9,oD 53 (.sliceS XiB (some (.const (.int .i64 20))) (some XjH)),oD 54 (.callF 101 [XjR]),oM 50 Xk3,oE 55 0 XiC,oE 56 1 XiC,oM 11 Xk2,oM 12 Xlu]) (.seq (.seq (.reg [oM 57 XcP,oD 58 (.bin .neq XkE (.const (.int .i64 0)))]) (.cond Xk0 (.seq (.reg [oD 59 (.build [(.int .i64 0),(.int .i64 0),(.int .u32 0),(.int .u32 0),(.int .i64 0),(.int .i64 0),(.int .i64 0),(.string ⟨⟨[]⟩⟩)] []),oM 60 XcP,oN (.store 8 τ6 Xln),oD 7 (.mv (.const (.string ⟨⟨[]⟩⟩))),oM 8 Xl3]) .ret) .skip)) (.seq XIE .ret))))))))))
def fn57:VFn:=⟨85,XBB,[.cell 6 [(.int .i64),(.int .i64),(.int .u32),(.int .u32),(.int .i64),(.int .i64),(.int .i64),.str] true,.tmp 7,.tmp 8]⟩
def k95_7:VC:=.regD [oD 26 (.loadN [.bool,(.int .u64),(.int .u64)] τ4),oD 27 (.callF 92 [Xef]),oD 28 (.loadN [.bool,(.int .u64),(.int .u64)] τ5),oD 29 (.callF 92 [XeD]),oD 30 (.bin .add XeJ XeN),oM 31 τ3,oD 32 (.callF 94 [Xe3,(.const (.int .i64 4))]),oD 33 (.bin .add Xfh Xfl),oD 34 (.callF 94 [(.const (.int .i64 0)),(.const (.int .i64 3))]),oD 35 (.bin .add Xfn Xfz),oM 36 τ2,oD 37 (.callF 94 [XfI,(.const (.int .i64 1))])] [(1,2)] [oD 38 (.bin .add Xfp Xfo),oM 8 XgG]
def XJ4:VC:=.regD [oD 39 (.loadN [.bool,(.int .u64),(.int .u64)] τ4),oD 40 (.callF 92 [XgF]),oD 41 (.loadN [.bool,(.int .u64),(.int .u64)] τ5),oD 42 (.callF 92 [Xhg]),oD 43 (.bin .add Xhr Xhh),oD 44 (.callF 94 [(.const (.int .i64 0)),(.const (.int .i64 1))]),oD 45 (.bin .add Xhm XhF),oM 46 τ2,oD 47 (.callF 94 [Xh6,(.const (.int .i64 1))]),oD 48 (.bin .add XhB XhQ),oM 49 τ3,oD 50 (.callF 94 [Xiu,(.const (.int .i64 2))])] [(1,2)] [oD 51 (.bin .add XiA XiC),oM 8 XiB]
def XBO:VC:=.seq (.reg [oD 4 (.box τ0),oD 5 (.box τ1),oD 8 (.mv (.const (.string ⟨⟨[]⟩⟩)))]) (.seq (.seq (.reg [oD 9 (.loadN [.bool,(.int .u64),(.int .u64)] τ4),oD 10 (.callF 97 [τ9]),oD 11 (.not Xb9),oM 12 Xb5,oG 13 (.loadN [.bool,(.int .u64),(.int .u64)] τ5) 12 false,oG 14 (.callF 97 [XcS]) 12 false,oG 15 (.not Xde) 12 false,oD 16 (.pick XcP (.const (.bool true)) Xdb),oM 17 Xdh,oG 18 (.fieldA 0 τ4) 17 false,oG 19 (.load1 .bool XdK) 17 false,oG 20 (.fieldA 0 τ5) 17 false,oG 21 (.load1 .bool Xd2) 17 false,oG 22 (.eqB true Xdx Xd5) 17 false,oD 23 (.pick Xdc (.const (.bool true)) Xej)]) (.cond XeC (.seq (.reg [oD 8 (.mv (.const (.string ⟨⟨[]⟩⟩)))]) .ret) .skip)) (.seq (.seq (.reg [oD 24 (.fieldA 0 τ4),oD 25 (.load1 .bool Xei)]) (.cond XeM (.seq k95_7 .ret) .skip)) (.seq XJ4 .ret)))
def fn95:VFn:=⟨52,XBO,[.tmp 8]⟩
def XHN:VC:=.seq (.reg [oD 1 (.box τ0),oD 2 (.mv (.const (.bool false)))]) (.seq (.reg [oD 3 (.fieldA 0 τ1),oD 4 (.load1 .bool τ3),oM 5 τ4,oG 6 (.fieldA 1 τ1) 5 false,oG 7 (.load1 (.int .u64) τ6) 5 false,oG 8 (.bin .eql τ7 (.const (.int .u64 0))) 5 false,oG 9 (.mv τ8) 5 false,oG 10 (.fieldA 2 τ1) 9 true,oG 11 (.load1 (.int .u64) Xb9) 9 true,oG 12 (.bin .lss Xb5 (.const (.int .u64 4294967296))) 9 true,oG 13 (.pick τ9 XcP (.const (.bool false))) 5 false,oD 14 (.pick τ5 (.const (.bool true)) XcS),oM 2 Xde]) .ret)
def fn97:VFn:=⟨15,XHN,[.tmp 2]⟩
def k92_7:VC:=.regD [oD 8 (.fieldA 1 τ1),oD 9 (.load1 (.int .u64) τ8),oD 10 (.callF 85 [τ9,(.const (.int .i64 8))]),oD 11 (.fieldA 2 τ1),oD 12 (.load1 (.int .u64) Xb5)] [(2,4)] [oD 13 (.callF 85 [XcP,(.const (.int .i64 8))]),oD 14 (.bin .add Xb9 XcS),oM 2 Xde]
def XB1:VC:=.seq (.reg [oD 1 (.box τ0),oD 2 (.mv (.const (.string ⟨⟨[]⟩⟩)))]) (.seq (.seq (.reg [oD 3 (.loadN [.bool,(.int .u64),(.int .u64)] τ1),oD 4 (.callF 97 [τ3]),oD 5 (.not τ4)]) (.cond τ5 (.seq (.reg [oD 2 (.mv (.const (.string ⟨⟨[]⟩⟩)))]) .ret) .skip)) (.seq (.seq (.reg [oD 6 (.fieldA 0 τ1),oD 7 (.load1 .bool τ6)]) (.cond τ7 (.seq k92_7 .ret) .skip)) (.seq (.reg [oD 15 (.fieldA 2 τ1),oD 16 (.load1 (.int .u64) Xdb),oD 17 (.callF 85 [Xdh,(.const (.int .i64 4))]),oM 2 Xdc]) .ret)))
def fn92:VFn:=⟨18,XB1,[.tmp 2]⟩
def Xug:VC:=.seq (.seq (.reg [oM 7 τ6,oM 8 τ1,oD 9 (.bin .lss τ7 τ8),oM 10 τ9,oG 11 (.mv τ1) 10 true,oG 12 (.bin .leq Xb5 (.const (.int .i64 8))) 10 true,oD 13 (.pick Xb9 XcP (.const (.bool false)))]) (.cond XcS .skip (.exit 0))) (.seq (.block 1 (.seq (.reg [oM 16 τ0,oD 17 (.bin .rem Xdh (.const (.int .u64 256))),oD 18 (.conv .u8 Xdc),oD 19 (.buildSl 1 1 [(.int .u8 0)] [(0,1,XdK)]),oD 20 (.b2s Xdx),oM 21 τ5,oD 22 (.bin .add Xd2 Xd5),oM 5 Xej]) (.reg [oM 23 τ0,oD 24 (.bin .quo XeC (.const (.int .u64 256))),oM 0 Xei]))) (.reg [oM 14 τ6,oD 15 (.bin .add Xde (.const (.int .i64 1))),oM 6 Xdb]))
def XB2:VC:=.seq (.reg [oM 25 τ5,oM 4 XeM]) .ret
def XAP:VC:=.seq (.reg [oD 4 (.mv (.const (.string ⟨⟨[]⟩⟩)))]) (.seq (.reg [oD 5 (.mv (.const (.string ⟨⟨[]⟩⟩)))]) (.seq (.seq (.reg [oD 6 (.mv (.const (.int .i64 0)))]) (.block 0 (.loop Xug))) XB2))
def fn85:VFn:=⟨26,XAP,[.tmp 4]⟩
def XLf:VC:=.seq (.reg [oD 4 (.mv (.const (.string ⟨⟨[]⟩⟩)))]) (.seq (.reg [oM 5 τ0,oD 6 (.conv .u64 τ5),oM 7 τ1,oD 8 (.callF 85 [τ6,τ7]),oM 4 τ8]) .ret)
def fn94:VFn:=⟨9,XLf,[.tmp 4]⟩
def XCZ:VC:=.regD [oM 52 τ4,oM 53 τ0,oM 54 τ5,oD 55 (.idxS XjR Xk3),oD 56 (.conv .i64 Xk2),oM 57 τ0,oM 58 τ5,oD 59 (.bin .add Xk0 (.const (.int .i64 2))),oM 60 τ5,oM 61 τ6,oD 62 (.bin .add Xl3 Xl0),oD 63 (.sliceS XkE (some Xln) (some Xm6)),oM 64 τ5,oD 65 (.bin .add XoH (.const (.int .i64 2))),oD 66 (.build [(.int .i64 0),(.string ⟨⟨[]⟩⟩),(.int .i64 0)] [(0,1,Xlu),(1,1,Xox),(2,1,XoP)]),oD 67 (.buildSl 1 3 [(.int .i64 0),(.string ⟨⟨[]⟩⟩),(.int .i64 0)] [(0,3,XpY)])] [] [oD 68 (.app 153 3 32 XjH XoO),oM 4 XpR]
def XqB:VC:=.seq (.seq (.reg [oM 7 τ5,oM 8 τ0,oD 9 (.lenS τ8),oD 10 (.bin .lss τ7 τ9),oM 11 Xb9,oG 12 (.mv τ0) 11 true,oG 13 (.mv τ5) 11 true,oG 14 (.idxS XcP XcS) 11 true,oG 15 (.bin .neq Xde (.const (.int .u8 0))) 11 true,oD 16 (.pick Xb5 Xdb (.const (.bool false)))]) (.cond Xdh .skip (.exit 0))) (.block 1 (.seq (.seq (.reg [oM 17 τ0,oM 18 τ5,oD 19 (.idxS Xdc XdK),oD 20 (.bin .eql Xdx (.const (.int .u8 1)))]) (.cond Xd2 (.seq (.reg [oM 21 τ5,oD 22 (.bin .add Xd5 (.const (.int .i64 1))),oM 5 Xej]) (.exit 1)) .skip)) (.seq (.seq (.reg [oM 23 τ5,oD 24 (.bin .add XeC (.const (.int .i64 1))),oM 25 τ0,oD 26 (.lenS XeM),oD 27 (.bin .geq Xei Xef),oM 28 XeJ,oG 29 (.mv τ0) 28 false,oG 30 (.mv τ5) 28 false,oG 31 (.bin .add Xfh (.const (.int .i64 1))) 28 false,oG 32 (.idxS XeN Xe3) 28 false,oG 33 (.bin .lss Xfl (.const (.int .u8 2))) 28 false,oD 34 (.pick XeD (.const (.bool true)) Xfn),oM 35 Xfz,oG 36 (.mv τ0) 35 false,oG 37 (.mv τ5) 35 false,oG 38 (.bin .add Xfo (.const (.int .i64 1))) 35 false,oG 39 (.idxS XfI XgG) 35 false,oG 40 (.conv .i64 XgF) 35 false,oG 41 (.mv τ0) 35 false,oG 42 (.lenS Xhg) 35 false,oG 43 (.mv τ5) 35 false,oG 44 (.bin .sub Xhh Xhm) 35 false,oG 45 (.bin .gtr Xhr XhF) 35 false,oD 46 (.pick Xfp (.const (.bool true)) XhB)]) (.cond Xh6 (.seq (.reg [oD 2 (.mv (.const (.slice none 0 0))),oD 3 (.mv (.const (.int .i64 3)))]) .ret) .skip)) (.seq (.reg [oM 47 τ0,oM 48 τ5,oD 49 (.bin .add XiA (.const (.int .i64 1))),oD 50 (.idxS XhQ Xiu),oD 51 (.conv .i64 XiC),oM 6 XiB]) (.seq XCZ (.reg [oM 69 τ5,oM 70 τ6,oD 71 (.bin .add XpT Xrl),oM 5 Xrf]))))))
def Xu5:VC:=.seq (.reg [oM 72 τ4,oM 2 Xq4,oD 3 (.mv (.const (.int .i64 0)))]) .ret
def Xun:VC:=.seq (.reg [oD 2 (.mv (.const (.slice none 0 0))),oD 3 (.mv (.const (.int .i64 0)))]) (.seq (.reg [oD 4 (.mv (.const (.slice none 0 0)))]) (.seq (.seq (.reg [oD 5 (.mv (.const (.int .i64 0)))]) (.block 0 (.loop XqB))) Xu5))
def XKa:VFn:=⟨73,Xun,[.tmp 2,.tmp 3]⟩
def XIk:VC:=.regD [oM 32 τ5,oM 33 τ7,oD 34 (.idxAL 3 Xfl Xfn),oD 35 (.fieldA 1 Xfz),oD 36 (.load1 .str Xfp),oD 37 (.callF 44 [XfI,(.const (.int .i64 0)),(.const (.int .i64 4))]),oD 38 (.conv .u32 Xfo),oM 39 τ5,oM 40 τ7,oD 41 (.idxAL 3 XgF Xhr),oD 42 (.fieldA 1 Xhg),oD 43 (.load1 .str Xhh),oD 44 (.callF 44 [Xhm,(.const (.int .i64 4)),(.const (.int .i64 4))]),oD 45 (.conv .u32 XhF),oM 46 τ5,oM 47 τ7,oD 48 (.idxAL 3 Xh6 XhQ),oD 49 (.fieldA 2 XiA),oD 50 (.load1 (.int .i64) Xiu),oM 2 XgG,oM 3 XhB] [(5,11),(5,18),(12,18)] [oM 4 XiC]
def XvL:VC:=.seq (.seq (.reg [oM 13 τ7,oM 14 τ5,oD 15 (.lenL Xde),oD 16 (.bin .lss XcS Xdb)]) (.cond Xdh .skip (.exit 0))) (.seq (.block 1 (.seq (.reg [oM 19 τ5,oM 20 τ7,oD 21 (.idxAL 3 Xdx Xd2),oD 22 (.fieldA 0 Xd5),oD 23 (.load1 (.int .i64) Xej),oD 24 (.bin .eql XeC (.const (.int .i64 8)))]) (.cond Xei (.seq (.seq (.reg [oM 25 τ5,oM 26 τ7,oD 27 (.idxAL 3 XeM Xef),oD 28 (.fieldA 1 XeJ),oD 29 (.load1 .str XeD),oD 30 (.lenS XeN),oD 31 (.bin .neq Xfh (.const (.int .i64 8)))]) (.cond Xe3 (.seq (.reg [oD 2 (.mv (.const (.int .u32 0))),oD 3 (.mv (.const (.int .u32 0))),oD 4 (.mv (.const (.int .i64 (-1))))]) .ret) .skip)) (.seq XIk .ret)) .skip))) (.reg [oM 17 τ7,oD 18 (.bin .add Xdc (.const (.int .i64 1))),oM 7 XdK]))
def XAF:VC:=.seq (.reg [oD 2 (.mv (.const (.int .u32 0))),oD 3 (.mv (.const (.int .u32 0))),oD 4 (.mv (.const (.int .i64 (-1))))]) .ret
def XBD:VC:=.seq (.reg [oD 2 (.mv (.const (.int .u32 0))),oD 3 (.mv (.const (.int .u32 0))),oD 4 (.mv (.const (.int .i64 0)))]) (.seq (.reg [oM 9 τ0,oD 10 (.callF 101 [τ9]),oM 8 Xb9,oE 11 0 τ8,oE 12 1 τ8,oM 5 Xb5,oM 6 XcP]) (.seq (.seq (.reg [oD 7 (.mv (.const (.int .i64 0)))]) (.block 0 (.loop XvL))) XAF))
def fn58:VFn:=⟨51,XBD,[.tmp 2,.tmp 3,.tmp 4]⟩
def XLd:VC:=.regD [oM 46 τ0,oD 47 (.callF 44 [Xh6,(.const (.int .i64 0)),(.const (.int .i64 2))]),oM 48 τ0,oD 49 (.callF 44 [XiA,(.const (.int .i64 2)),(.const (.int .i64 2))]),oD 50 (.build [(.int .i64 0),(.int .i64 0)] [(0,1,XhQ),(1,1,Xiu)]),oM 51 τ0,oM 52 τ9,oD 53 (.sliceS XiB (some (.const (.int .i64 8))) (some XjH)),oN (.store 2 τ6 XiC)] [] [oM 7 XjR,oD 8 (.mv (.const (.int .i64 0)))]
def XBn:VC:=.seq (.reg [oD 4 (.box τ1),oD 5 (.box τ2),oD 6 (.alloc [(.int .i64 0),(.int .i64 0)]),oD 7 (.mv (.const (.string ⟨⟨[]⟩⟩))),oD 8 (.mv (.const (.int .i64 0)))]) (.seq (.seq (.reg [oM 11 τ0,oD 12 (.lenS Xb5),oD 13 (.bin .lss XcP (.const (.int .i64 8)))]) (.cond XcS (.seq (.reg [oD 14 (.build [(.int .i64 0),(.int .i64 0)] []),oN (.store 2 τ6 Xde),oD 7 (.mv (.const (.string ⟨⟨[]⟩⟩))),oD 8 (.mv (.const (.int .i64 2)))]) .ret) .skip)) (.seq (.reg [oM 15 τ0,oD 16 (.callF 44 [Xdb,(.const (.int .i64 4)),(.const (.int .i64 2))]),oM 9 Xdh]) (.seq (.seq (.reg [oM 17 τ9,oD 18 (.bin .lss Xdc (.const (.int .i64 8)))]) (.cond XdK (.seq (.reg [oD 19 (.build [(.int .i64 0),(.int .i64 0)] []),oN (.store 2 τ6 Xdx),oD 7 (.mv (.const (.string ⟨⟨[]⟩⟩))),oD 8 (.mv (.const (.int .i64 3)))]) .ret) .skip)) (.seq (.seq (.reg [oM 20 τ0,oD 21 (.lenS Xd2),oM 22 τ9,oD 23 (.bin .lss Xd5 Xej)]) (.cond XeC (.seq (.reg [oD 24 (.build [(.int .i64 0),(.int .i64 0)] []),oN (.store 2 τ6 Xei),oD 7 (.mv (.const (.string ⟨⟨[]⟩⟩))),oD 8 (.mv (.const (.int .i64 2)))]) .ret) .skip)) (.seq (.reg [oD 25 (.loadN [.bool,(.int .u64),(.int .u64)] τ4),oD 26 (.loadN [.bool,(.int .u64),(.int .u64)] τ5),oM 27 τ9,oD 28 (.callF 95 [XeM,Xef,(.const (.int .i64 17)),XeJ]),oM 10 XeD]) (.seq (.seq (.reg [oM 29 Xb9,oD 30 (.bin .eql XeN (.const (.string ⟨⟨[]⟩⟩)))]) (.cond Xfh (.seq (.reg [oD 31 (.build [(.int .i64 0),(.int .i64 0)] []),oN (.store 2 τ6 Xe3),oD 7 (.mv (.const (.string ⟨⟨[]⟩⟩))),oD 8 (.mv (.const (.int .i64 1)))]) .ret) .skip)) (.seq (.seq (.reg [oM 32 τ0,oD 33 (.callF 44 [Xfl,(.const (.int .i64 6)),(.const (.int .i64 2))]),oD 34 (.bin .eql Xfn (.const (.int .i64 0)))]) (.cond Xfz (.seq (.reg [oD 35 (.fieldA 0 τ4),oD 36 (.load1 .bool Xfp)]) (.cond XfI (.seq (.reg [oD 37 (.build [(.int .i64 0),(.int .i64 0)] []),oN (.store 2 τ6 Xfo),oD 7 (.mv (.const (.string ⟨⟨[]⟩⟩))),oD 8 (.mv (.const (.int .i64 4)))]) .ret) .skip)) (.seq (.reg [oM 38 Xb9,oM 39 τ0,oM 40 τ9,oD 41 (.sliceS XgF none (some Xhr)),oD 42 (.bin .add XgG Xhg),oD 43 (.callF 100 [Xhh]),oD 44 (.bin .neq Xhm (.const (.int .i64 65535)))]) (.cond XhF (.seq (.reg [oD 45 (.build [(.int .i64 0),(.int .i64 0)] []),oN (.store 2 τ6 XhB),oD 7 (.mv (.const (.string ⟨⟨[]⟩⟩))),oD 8 (.mv (.const (.int .i64 4)))]) .ret) .skip)))) (.seq XLd .ret))))))))
def fn59:VFn:=⟨54,XBn,[.cell 6 [(.int .i64),(.int .i64)] true,.tmp 7,.tmp 8]⟩
def XG2:VC:=.regD [oM 19 τ0,oD 20 (.idxS Xdx (.const (.int .i64 0))),oD 21 (.bin .geq Xd2 (.const (.int .u8 128))),oM 22 τ0,oD 23 (.idxS Xej (.const (.int .i64 0))),oD 24 (.bin .rem XeC (.const (.int .u8 64))),oD 25 (.conv .i64 Xei),oD 26 (.build [(.bool false),(.int .i64 0),(.int .u32 0),(.string ⟨⟨[]⟩⟩),(.string ⟨⟨[]⟩⟩),(.string ⟨⟨[]⟩⟩)] [(0,1,Xd5),(1,1,XeM)]),oD 4 (.alloc [(.bool false),(.int .i64 0),(.int .u32 0),(.string ⟨⟨[]⟩⟩),(.string ⟨⟨[]⟩⟩),(.string ⟨⟨[]⟩⟩)])] [] [oN (.store 6 τ4 Xef)]
def XBa:VC:=.seq (.reg [oD 2 (.alloc [(.bool false),(.int .i64 0),(.int .u32 0),(.string ⟨⟨[]⟩⟩),(.string ⟨⟨[]⟩⟩),(.string ⟨⟨[]⟩⟩)]),oD 3 (.mv (.const (.int .i64 0)))]) (.seq (.seq (.reg [oM 10 τ0,oD 11 (.bin .eql Xb9 (.const (.string ⟨⟨[]⟩⟩)))]) (.cond Xb5 (.seq (.reg [oD 12 (.build [(.bool false),(.int .i64 0),(.int .u32 0),(.string ⟨⟨[]⟩⟩),(.string ⟨⟨[]⟩⟩),(.string ⟨⟨[]⟩⟩)] []),oN (.store 6 τ2 XcP),oD 3 (.mv (.const (.int .i64 2)))]) .ret) .skip)) (.seq (.seq (.reg [oM 13 τ0,oD 14 (.idxS XcS (.const (.int .i64 0))),oD 15 (.bin .quo Xde (.const (.int .u8 64))),oD 16 (.bin .rem Xdb (.const (.int .u8 2))),oD 17 (.bin .eql Xdh (.const (.int .u8 0)))]) (.cond Xdc (.seq (.reg [oD 18 (.build [(.bool false),(.int .i64 0),(.int .u32 0),(.string ⟨⟨[]⟩⟩),(.string ⟨⟨[]⟩⟩),(.string ⟨⟨[]⟩⟩)] []),oN (.store 6 τ2 XdK),oD 3 (.mv (.const (.int .i64 3)))]) .ret) .skip)) (.seq XG2 (.seq (.seq (.reg [oD 27 (.fieldA 0 τ4),oD 28 (.load1 .bool XeJ),oD 29 (.not XeD)]) (.cond XeN (.seq (.seq (.reg [oM 30 τ0,oD 31 (.lenS Xfh),oD 32 (.bin .lss Xe3 (.const (.int .i64 9)))]) (.cond Xfl (.seq (.reg [oD 33 (.build [(.bool false),(.int .i64 0),(.int .u32 0),(.string ⟨⟨[]⟩⟩),(.string ⟨⟨[]⟩⟩),(.string ⟨⟨[]⟩⟩)] []),oN (.store 6 τ2 Xfn),oD 3 (.mv (.const (.int .i64 2)))]) .ret) .skip)) (.seq (.reg [oM 34 τ0,oD 35 (.sliceS Xfz (some (.const (.int .i64 1))) (some (.const (.int .i64 9)))),oD 36 (.fieldA 3 τ4),oN (.store 1 XfI Xfp)]) (.seq (.reg [oM 37 τ0,oD 38 (.sliceS Xfo (some (.const (.int .i64 9))) none),oD 39 (.fieldA 5 τ4),oN (.store 1 XgF XgG)]) (.seq (.reg [oD 40 (.loadN [.bool,(.int .i64),(.int .u32),.str,.str,.str] τ4),oN (.store 6 τ2 Xhr),oD 3 (.mv (.const (.int .i64 0)))]) .ret)))) .skip)) (.seq (.seq (.reg [oM 41 τ0,oD 42 (.lenS Xhg),oD 43 (.bin .lss Xhh (.const (.int .i64 5)))]) (.cond Xhm (.seq (.reg [oD 44 (.build [(.bool false),(.int .i64 0),(.int .u32 0),(.string ⟨⟨[]⟩⟩),(.string ⟨⟨[]⟩⟩),(.string ⟨⟨[]⟩⟩)] []),oN (.store 6 τ2 XhF),oD 3 (.mv (.const (.int .i64 2)))]) .ret) .skip)) (.seq (.reg [oM 45 τ0,oD 46 (.callF 44 [XhB,(.const (.int .i64 1)),(.const (.int .i64 4))]),oD 47 (.conv .u32 Xh6),oD 48 (.fieldA 2 τ4),oN (.store 1 XiA XhQ)]) (.seq (.reg [oM 50 τ0,oD 51 (.callF 45 [XiC,(.const (.int .i64 5))]),oM 49 XiB,oE 52 0 Xiu,oE 53 1 Xiu,oE 54 2 Xiu,oM 5 XjH,oM 6 XjR,oM 7 Xk3]) (.seq (.seq (.reg [oM 55 τ6,oD 56 (.bin .neq Xk2 (.const (.int .i64 0)))]) (.cond Xlu (.seq (.reg [oD 57 (.build [(.bool false),(.int .i64 0),(.int .u32 0),(.string ⟨⟨[]⟩⟩),(.string ⟨⟨[]⟩⟩),(.string ⟨⟨[]⟩⟩)] []),oM 58 τ6,oN (.store 6 τ2 XkE),oM 3 Xk0]) .ret) .skip)) (.seq (.reg [oM 60 τ0,oM 61 τ7,oD 62 (.callF 45 [Xl3,Xl0]),oM 59 Xm6,oE 63 0 Xln,oE 64 1 Xln,oE 65 2 Xln,oM 8 Xox,oM 6 XoH,oM 9 XoP]) (.seq (.seq (.reg [oM 66 τ6,oD 67 (.bin .neq XpY (.const (.int .i64 0)))]) (.cond XoO (.seq (.reg [oD 68 (.build [(.bool false),(.int .i64 0),(.int .u32 0),(.string ⟨⟨[]⟩⟩),(.string ⟨⟨[]⟩⟩),(.string ⟨⟨[]⟩⟩)] []),oM 69 τ6,oN (.store 6 τ2 XpR),oM 3 XpT]) .ret) .skip)) (.seq (.reg [oM 70 τ5,oD 71 (.fieldA 3 τ4),oN (.store 1 Xrf Xrl)]) (.seq (.reg [oM 72 τ8,oD 73 (.fieldA 4 τ4),oN (.store 1 Xsz Xq4)]) (.seq (.reg [oM 74 τ0,oM 75 τ9,oD 76 (.sliceS Xv1 (some XtS) none),oD 77 (.fieldA 5 τ4),oN (.store 1 XtD Xws)]) (.seq (.reg [oD 78 (.loadN [.bool,(.int .i64),(.int .u32),.str,.str,.str] τ4),oN (.store 6 τ2 XwG),oD 3 (.mv (.const (.int .i64 0)))]) .ret))))))))))))))
def fn21:VFn:=⟨79,XBa,[.cell 2 [.bool,(.int .i64),(.int .u32),.str,.str,.str] true,.tmp 3]⟩
def XAy:VC:=.seq (.reg [oD 4 (.mv (.const (.string ⟨⟨[]⟩⟩))),oD 5 (.mv (.const (.int .i64 0))),oD 6 (.mv (.const (.int .i64 0)))]) (.seq (.seq (.reg [oM 8 τ1,oM 9 τ0,oD 10 (.lenS τ9),oD 11 (.bin .geq τ8 Xb9)]) (.cond Xb5 (.seq (.reg [oD 4 (.mv (.const (.string ⟨⟨[]⟩⟩))),oD 5 (.mv (.const (.int .i64 2))),oD 6 (.mv (.const (.int .i64 0)))]) .ret) .skip)) (.seq (.reg [oM 12 τ0,oM 13 τ1,oD 14 (.idxS XcP XcS),oD 15 (.conv .i64 Xde),oM 7 Xdb]) (.seq (.seq (.reg [oM 16 τ7,oD 17 (.bin .gtr Xdh (.const (.int .i64 20)))]) (.cond Xdc (.seq (.reg [oD 4 (.mv (.const (.string ⟨⟨[]⟩⟩))),oD 5 (.mv (.const (.int .i64 3))),oD 6 (.mv (.const (.int .i64 0)))]) .ret) .skip)) (.seq (.seq (.reg [oM 18 τ7,oM 19 τ0,oD 20 (.lenS Xdx),oM 21 τ1,oD 22 (.bin .sub Xd2 Xd5),oD 23 (.bin .sub Xej (.const (.int .i64 1))),oD 24 (.bin .gtr XdK XeC)]) (.cond Xei (.seq (.reg [oD 4 (.mv (.const (.string ⟨⟨[]⟩⟩))),oD 5 (.mv (.const (.int .i64 2))),oD 6 (.mv (.const (.int .i64 0)))]) .ret) .skip)) (.seq (.reg [oM 25 τ0,oM 26 τ1,oD 27 (.bin .add Xef (.const (.int .i64 1))),oM 28 τ1,oD 29 (.bin .add XeD (.const (.int .i64 1))),oM 30 τ7,oD 31 (.bin .add XeN Xfh),oD 32 (.sliceS XeM (some XeJ) (some Xe3)),oM 33 τ1,oD 34 (.bin .add Xfn (.const (.int .i64 1))),oM 35 τ7,oD 36 (.bin .add Xfz Xfp),oM 4 Xfl,oD 5 (.mv (.const (.int .i64 0))),oM 6 XfI]) .ret)))))
def fn45:VFn:=⟨37,XAy,[.tmp 4,.tmp 5,.tmp 6]⟩
def k9_15:VC:=.seq (.reg [oD 4 (.mv (.const (.int .i64 0)))]) (.seq (.seq (.reg [oM 5 τ0,oD 6 (.callF 26 [τ5]),oD 7 (.not τ6)]) (.cond τ7 (.seq (.reg [oD 4 (.mv (.const (.int .i64 0)))]) .ret) .skip)) (.seq (.seq (.reg [oM 8 τ1]) (.cond τ8 (.seq (.reg [oM 9 τ0,oD 10 (.bin .sub τ9 (.const (.int .i64 48))),oD 11 (.bin .sub Xb9 (.const (.int .i64 18))),oM 4 Xb5]) .ret) .skip)) (.seq (.reg [oM 12 τ0,oD 13 (.bin .sub XcP (.const (.int .i64 28))),oD 14 (.bin .sub XcS (.const (.int .i64 18))),oM 4 Xde]) .ret)))
def fn9:VFn:=⟨15,k9_15,[.tmp 4]⟩
def k26_3:VC:=.seq (.reg [oD 2 (.mv (.const (.bool false)))]) (.seq (.reg [oM 3 τ0,oD 4 (.bin .geq τ3 (.const (.int .i64 576))),oM 5 τ4,oG 6 (.mv τ0) 5 true,oG 7 (.bin .leq τ6 (.const (.int .i64 9000))) 5 true,oD 8 (.pick τ5 τ7 (.const (.bool false))),oM 2 τ8]) .ret)
def fn26:VFn:=⟨9,k26_3,[.tmp 2]⟩
def XIm:VC:=.seq (.reg [oD 3 (.box τ0),oD 4 (.box τ1),oD 5 (.box τ2),oD 6 (.mv (.const (.string ⟨⟨[]⟩⟩))),oD 7 (.mv (.const (.int .i64 0)))]) (.seq (.reg [oD 11 (.loadN [(.int .i64),(.int .i64),(.int .i64),.str] τ3),oD 12 (.loadN [.bool,(.int .u64),(.int .u64)] τ4),oD 13 (.loadN [.bool,(.int .u64),(.int .u64)] τ5),oD 14 (.callF 50 [Xb5,XcP,XcS]),oM 10 Xde,oE 15 0 Xb9,oE 16 1 Xb9,oM 8 Xdb,oM 9 Xdh]) (.seq (.seq (.reg [oM 17 τ9,oD 18 (.bin .neq Xdc (.const (.int .i64 0)))]) (.cond XdK (.seq (.reg [oM 19 τ9,oD 6 (.mv (.const (.string ⟨⟨[]⟩⟩))),oM 7 Xdx]) .ret) .skip)) (.seq (.seq (.reg [oD 20 (.fieldA 0 τ4),oD 21 (.load1 .bool Xd2)]) (.cond Xd5 (.seq (.reg [oD 22 (.loadN [.bool,(.int .u64),(.int .u64)] τ4),oD 23 (.loadN [.bool,(.int .u64),(.int .u64)] τ5),oD 24 (.build [(.int .i64 0),(.int .i64 0),(.int .i64 0),(.int .i64 0),(.bool false),(.int .u64 0),(.int .u64 0),(.bool false),(.int .u64 0),(.int .u64 0)] [(2,1,(.const (.int .i64 58))),(3,1,(.const (.int .i64 64))),(4,3,Xej),(7,3,XeC)]),oM 25 τ8,oD 26 (.callF 51 [Xei,XeM]),oE 27 0 Xef,oE 28 1 Xef,oM 6 XeJ,oM 7 XeD]) .ret) .skip)) (.seq (.reg [oD 29 (.loadN [.bool,(.int .u64),(.int .u64)] τ4),oD 30 (.loadN [.bool,(.int .u64),(.int .u64)] τ5),oD 31 (.build [(.int .i64 0),(.int .i64 0),(.bool false),(.int .i64 0),(.int .i64 0),(.bool false),(.int .u64 0),(.int .u64 0),(.bool false),(.int .u64 0),(.int .u64 0),(.string ⟨⟨[]⟩⟩)] [(2,1,(.const (.bool true))),(3,1,(.const (.int .i64 64))),(4,1,(.const (.int .i64 1))),(5,3,XeN),(8,3,Xfh)]),oM 32 τ8,oD 33 (.callF 52 [Xe3,Xfl]),oE 34 0 Xfn,oE 35 1 Xfn,oM 6 Xfz,oM 7 Xfp]) .ret))))
def fn27:VFn:=⟨36,XIm,[.tmp 6,.tmp 7]⟩
def k50_6:VC:=.regD [oD 20 (.fieldA 0 τ4),oD 21 (.load1 .bool Xd2),oD 22 (.fieldA 0 τ3),oD 23 (.load1 (.int .i64) Xej),oD 24 (.callF 86 [Xd5,XeC]),oD 25 (.conv .u64 Xei),oD 26 (.callF 85 [XeM,(.const (.int .i64 1))]),oD 27 (.fieldA 1 τ3),oD 28 (.load1 (.int .i64) XeJ),oD 29 (.conv .u64 XeD),oD 30 (.callF 85 [XeN,(.const (.int .i64 1))]),oD 31 (.bin .add Xef Xfh),oD 32 (.bin .add Xe3 (.const (.string ⟨⟨[0,0,0,0]⟩⟩))),oD 33 (.fieldA 2 τ3),oD 34 (.load1 (.int .i64) Xfn),oD 35 (.conv .u64 Xfz),oD 36 (.callF 85 [Xfp,(.const (.int .i64 2))]),oD 37 (.bin .add Xfl XfI),oD 38 (.fieldA 3 τ3),oD 39 (.load1 .str XgG)] [(4,8),(4,14),(4,19),(6,8),(6,14),(6,19),(10,14),(10,19),(16,19)] [oD 40 (.bin .add Xfo XgF),oM 8 Xhr]
def XJg:VC:=.seq (.reg [oD 3 (.box τ0),oD 4 (.box τ1),oD 5 (.box τ2),oD 6 (.mv (.const (.string ⟨⟨[]⟩⟩))),oD 7 (.mv (.const (.int .i64 0)))]) (.seq (.seq (.reg [oD 9 (.loadN [.bool,(.int .u64),(.int .u64)] τ4),oD 10 (.loadN [.bool,(.int .u64),(.int .u64)] τ5),oD 11 (.callF 83 [τ9,Xb9]),oD 12 (.not Xb5),oM 13 XcP,oG 14 (.loadN [(.int .i64),(.int .i64),(.int .i64),.str] τ3) 13 false,oG 15 (.fieldA 0 τ4) 13 false,oG 16 (.load1 .bool Xdb) 13 false,oG 17 (.callF 84 [Xde,Xdh]) 13 false,oG 18 (.not Xdc) 13 false,oD 19 (.pick XcS (.const (.bool true)) XdK)]) (.cond Xdx (.seq (.reg [oD 6 (.mv (.const (.string ⟨⟨[]⟩⟩))),oD 7 (.mv (.const (.int .i64 1)))]) .ret) .skip)) (.seq k50_6 (.seq (.reg [oM 41 τ8,oD 42 (.loadN [.bool,(.int .u64),(.int .u64)] τ4),oD 43 (.loadN [.bool,(.int .u64),(.int .u64)] τ5),oM 44 τ8,oD 45 (.lenS XhF),oD 46 (.callF 89 [Xhh,Xhm,XhB]),oM 47 τ8,oD 48 (.bin .add Xh6 XhQ),oD 49 (.callF 88 [XiA]),oD 50 (.conv .u64 Xiu),oD 51 (.callF 87 [Xhg,(.const (.int .i64 2)),(.const (.int .i64 2)),XiC]),oM 6 XiB,oD 7 (.mv (.const (.int .i64 0)))]) .ret)))
def fn50:VFn:=⟨52,XJg,[.tmp 6,.tmp 7]⟩
def k83_3:VC:=.seq (.reg [oD 2 (.box τ0),oD 3 (.box τ1),oD 4 (.mv (.const (.bool false)))]) (.seq (.reg [oD 5 (.loadN [.bool,(.int .u64),(.int .u64)] τ2),oD 6 (.loadN [.bool,(.int .u64),(.int .u64)] τ3),oD 7 (.callF 95 [τ5,τ6,(.const (.int .i64 1)),(.const (.int .i64 8))]),oD 8 (.bin .neq τ7 (.const (.string ⟨⟨[]⟩⟩))),oM 4 τ8]) .ret)
def fn83:VFn:=⟨9,k83_3,[.tmp 4]⟩
def XKJ:VC:=.seq (.reg [oD 2 (.box τ0),oD 4 (.mv (.const (.bool false)))]) (.seq (.seq (.reg [oD 5 (.fieldA 0 τ2),oD 6 (.load1 (.int .i64) τ5),oD 7 (.bin .lss τ6 (.const (.int .i64 1))),oM 8 τ7,oG 9 (.fieldA 0 τ2) 8 false,oG 10 (.load1 (.int .i64) τ9) 8 false,oG 11 (.bin .gtr Xb9 (.const (.int .i64 3))) 8 false,oD 12 (.pick τ8 (.const (.bool true)) Xb5),oM 13 XcP,oG 14 (.fieldA 1 τ2) 13 false,oG 15 (.load1 (.int .i64) Xde) 13 false,oG 16 (.bin .lss Xdb (.const (.int .i64 0))) 13 false,oD 17 (.pick XcS (.const (.bool true)) Xdh),oM 18 Xdc,oG 19 (.fieldA 1 τ2) 18 false,oG 20 (.load1 (.int .i64) Xdx) 18 false,oG 21 (.bin .gtr Xd2 (.const (.int .i64 255))) 18 false,oD 22 (.pick XdK (.const (.bool true)) Xd5),oM 23 Xej,oG 24 (.fieldA 2 τ2) 23 false,oG 25 (.load1 (.int .i64) Xei) 23 false,oG 26 (.bin .lss XeM (.const (.int .i64 0))) 23 false,oD 27 (.pick XeC (.const (.bool true)) Xef),oM 28 XeJ,oG 29 (.fieldA 2 τ2) 28 false,oG 30 (.load1 (.int .i64) XeN) 28 false,oG 31 (.bin .gtr Xfh (.const (.int .i64 65535))) 28 false,oD 32 (.pick XeD (.const (.bool true)) Xe3),oM 33 Xfl,oG 34 (.fieldA 0 τ2) 33 false,oG 35 (.load1 (.int .i64) Xfz) 33 false,oG 36 (.bin .neq Xfp (.const (.int .i64 2))) 33 false,oG 37 (.mv XfI) 33 false,oG 38 (.fieldA 2 τ2) 37 true,oG 39 (.load1 (.int .i64) XgG) 37 true,oG 40 (.bin .neq XgF (.const (.int .i64 0))) 37 true,oG 41 (.pick Xfo Xhr (.const (.bool false))) 33 false,oD 42 (.pick Xfn (.const (.bool true)) Xhg),oM 43 Xhh,oG 44 (.fieldA 3 τ2) 43 false,oG 45 (.load1 .str XhF) 43 false,oG 46 (.lenS XhB) 43 false,oG 47 (.bin .gtr Xh6 (.const (.int .i64 1232))) 43 false,oD 48 (.pick Xhm (.const (.bool true)) XhQ)]) (.cond XiA (.seq (.reg [oD 4 (.mv (.const (.bool false)))]) .ret) .skip)) (.seq (.seq (.reg [oM 49 τ1]) (.cond Xiu (.seq (.reg [oD 50 (.fieldA 0 τ2),oD 51 (.load1 (.int .i64) XiC),oD 52 (.bin .neq XiB (.const (.int .i64 2))),oM 53 XjH,oG 54 (.fieldA 1 τ2) 53 false,oG 55 (.load1 (.int .i64) Xk3) 53 false,oG 56 (.bin .eql Xk2 (.const (.int .i64 0))) 53 false,oD 57 (.pick XjR (.const (.bool true)) Xlu),oM 4 XkE]) .ret) .skip)) (.seq (.reg [oD 58 (.fieldA 0 τ2),oD 59 (.load1 (.int .i64) Xk0),oD 60 (.bin .eql Xln (.const (.int .i64 3))),oM 61 Xl3,oG 62 (.fieldA 0 τ2) 61 false,oG 63 (.load1 (.int .i64) Xm6) 61 false,oG 64 (.bin .eql Xox (.const (.int .i64 2))) 61 false,oG 65 (.fieldA 1 τ2) 61 false,oG 66 (.load1 (.int .i64) XoP) 61 false,oG 67 (.bin .eql XpY (.const (.int .i64 4))) 61 false,oG 68 (.eqB false XoH XoO) 61 false,oD 69 (.pick Xl0 (.const (.bool true)) XpR),oM 4 XpT]) .ret)))
def fn84:VFn:=⟨70,XKJ,[.tmp 4]⟩
def XKH:VC:=.seq (.reg [oD 4 (.mv (.const (.int .i64 0)))]) (.seq (.seq (.reg [oM 5 τ0]) (.cond τ5 (.seq (.reg [oM 6 τ1,oM 4 τ6]) .ret) .skip)) (.seq (.seq (.reg [oM 7 τ1,oD 8 (.bin .eql τ7 (.const (.int .i64 3)))]) (.cond τ8 (.seq (.reg [oD 4 (.mv (.const (.int .i64 11)))]) .ret) .skip)) (.seq (.reg [oD 4 (.mv (.const (.int .i64 3)))]) .ret)))
def fn86:VFn:=⟨9,XKH,[.tmp 4]⟩
def k89_9:VC:=.seq (.reg [oD 3 (.box τ0),oD 4 (.box τ1),oD 6 (.mv (.const (.string ⟨⟨[]⟩⟩)))]) (.seq (.seq (.reg [oD 7 (.fieldA 0 τ3),oD 8 (.load1 .bool τ7)]) (.cond τ8 (.seq (.reg [oD 9 (.loadN [.bool,(.int .u64),(.int .u64)] τ3),oD 10 (.loadN [.bool,(.int .u64),(.int .u64)] τ4),oM 11 τ2,oD 12 (.callF 95 [τ9,Xb9,(.const (.int .i64 58)),Xb5]),oM 6 XcP]) .ret) .skip)) (.seq (.reg [oD 6 (.mv (.const (.string ⟨⟨[]⟩⟩)))]) .ret))
def fn89:VFn:=⟨13,k89_9,[.tmp 6]⟩
def XKP:VC:=.seq (.reg [oD 2 (.mv (.const (.int .i64 0)))]) (.seq (.reg [oM 3 τ0,oD 4 (.callF 100 [τ3]),oD 5 (.bin .sub (.const (.int .i64 65535)) τ4),oM 2 τ5]) .ret)
def fn88:VFn:=⟨6,XKP,[.tmp 2]⟩
def k87_7:VC:=.regD [oM 21 τ0,oM 22 τ1,oD 23 (.sliceS Xd5 none (some Xej)),oM 24 τ3,oM 25 τ2,oD 26 (.callF 85 [Xei,XeM]),oD 27 (.bin .add XeC Xef),oM 28 τ0,oM 29 τ1,oM 30 τ2,oD 31 (.bin .add XeN Xfh),oD 32 (.sliceS XeD (some Xe3) none)] [] [oD 33 (.bin .add XeJ Xfl),oM 8 Xfn]
def XAM:VC:=.seq (.reg [oD 8 (.mv (.const (.string ⟨⟨[]⟩⟩)))]) (.seq (.reg [oM 12 τ0,oM 13 τ1,oM 14 τ2,oD 15 (.callF 70 [XcP,XcS,Xde]),oM 11 Xdb,oE 16 0 Xb5,oE 17 1 Xb5,oM 9 Xdh,oM 10 Xdc]) (.seq (.seq (.reg [oM 18 Xb9,oD 19 (.not XdK)]) (.cond Xdx (.seq (.reg [oM 20 τ0,oM 8 Xd2]) .ret) .skip)) (.seq k87_7 .ret)))
def fn87:VFn:=⟨34,XAM,[.tmp 8]⟩
def XJv:VC:=.regD [oD 12 (.fieldA 0 τ2),oD 13 (.load1 (.int .i64) XcP),oD 14 (.bin .mul XcS (.const (.int .i64 1048576))),oD 15 (.bin .add (.const (.int .i64 1610612736)) Xde),oD 16 (.fieldA 1 τ2),oD 17 (.load1 (.int .i64) Xdh),oD 18 (.bin .add Xdb Xdc),oD 19 (.callF 91 [XdK,(.const (.int .i64 4))]),oM 20 τ1,oD 21 (.lenS Xd2),oD 22 (.callF 91 [Xd5,(.const (.int .i64 2))]),oD 23 (.bin .add Xdx Xej),oD 24 (.fieldA 2 τ2),oD 25 (.load1 (.int .i64) Xei),oD 26 (.callF 91 [XeM,(.const (.int .i64 1))]),oD 27 (.bin .add XeC Xef),oD 28 (.fieldA 3 τ2),oD 29 (.load1 (.int .i64) XeD),oD 30 (.callF 91 [XeN,(.const (.int .i64 1))]),oD 31 (.bin .add XeJ Xfh),oD 32 (.fieldA 4 τ2),oD 33 (.loadN [.bool,(.int .u64),(.int .u64)] Xfl),oD 34 (.callF 92 [Xfn]),oD 35 (.bin .add Xe3 Xfz),oD 36 (.fieldA 7 τ2),oD 37 (.loadN [.bool,(.int .u64),(.int .u64)] XfI),oD 38 (.callF 92 [Xfo]),oD 39 (.bin .add Xfp XgG),oM 40 τ1] [(7,13),(7,17),(7,21),(7,25),(10,13),(10,17),(10,21),(10,25),(14,17),(14,21),(14,25),(18,21),(18,25),(22,25)] [oD 41 (.bin .add XgF Xhr),oM 4 Xhg,oD 5 (.mv (.const (.int .i64 0)))]
def XAe:VC:=.seq (.reg [oD 2 (.box τ0),oD 4 (.mv (.const (.string ⟨⟨[]⟩⟩))),oD 5 (.mv (.const (.int .i64 0)))]) (.seq (.seq (.reg [oD 6 (.loadN [(.int .i64),(.int .i64),(.int .i64),(.int .i64),.bool,(.int .u64),(.int .u64),.bool,(.int .u64),(.int .u64)] τ2),oD 7 (.callF 90 [τ6]),oD 8 (.not τ7)]) (.cond τ8 (.seq (.reg [oD 4 (.mv (.const (.string ⟨⟨[]⟩⟩))),oD 5 (.mv (.const (.int .i64 1)))]) .ret) .skip)) (.seq (.seq (.reg [oM 9 τ1,oD 10 (.lenS τ9),oD 11 (.bin .gtr Xb9 (.const (.int .i64 65535)))]) (.cond Xb5 (.seq (.reg [oD 4 (.mv (.const (.string ⟨⟨[]⟩⟩))),oD 5 (.mv (.const (.int .i64 5)))]) .ret) .skip)) (.seq XJv .ret)))
def fn51:VFn:=⟨42,XAe,[.tmp 4,.tmp 5]⟩
def XLA:VC:=.seq (.reg [oD 1 (.box τ0),oD 2 (.mv (.const (.bool false)))]) (.seq (.reg [oD 3 (.fieldA 0 τ1),oD 4 (.load1 (.int .i64) τ3),oD 5 (.callF 118 [τ4,(.const (.int .i64 255))]),oM 6 τ5,oG 7 (.fieldA 1 τ1) 6 true,oG 8 (.load1 (.int .i64) τ7) 6 true,oG 9 (.callF 118 [τ8,(.const (.int .i64 1048575))]) 6 true,oD 10 (.pick τ6 τ9 (.const (.bool false))),oM 11 Xb9,oG 12 (.fieldA 2 τ1) 11 true,oG 13 (.load1 (.int .i64) XcP) 11 true,oG 14 (.callF 118 [XcS,(.const (.int .i64 255))]) 11 true,oD 15 (.pick Xb5 Xde (.const (.bool false))),oM 16 Xdb,oG 17 (.fieldA 3 τ1) 16 true,oG 18 (.load1 (.int .i64) Xdc) 16 true,oG 19 (.callF 118 [XdK,(.const (.int .i64 255))]) 16 true,oD 20 (.pick Xdh Xdx (.const (.bool false))),oM 21 Xd2,oG 22 (.fieldA 4 τ1) 21 true,oG 23 (.fieldA 0 Xej) 21 true,oG 24 (.load1 .bool XeC) 21 true,oD 25 (.pick Xd5 Xei (.const (.bool false))),oM 26 XeM,oG 27 (.fieldA 7 τ1) 26 true,oG 28 (.fieldA 0 XeJ) 26 true,oG 29 (.load1 .bool XeD) 26 true,oD 30 (.pick Xef XeN (.const (.bool false))),oM 2 Xfh]) .ret)
def fn90:VFn:=⟨31,XLA,[.tmp 2]⟩
def XBz:VC:=.seq (.reg [oD 4 (.mv (.const (.bool false)))]) (.seq (.reg [oM 5 τ0,oD 6 (.bin .geq τ5 (.const (.int .i64 0))),oM 7 τ6,oG 8 (.mv τ0) 7 true,oG 9 (.mv τ1) 7 true,oG 10 (.bin .leq τ8 τ9) 7 true,oD 11 (.pick τ7 Xb9 (.const (.bool false))),oM 4 Xb5]) .ret)
def XHg:VFn:=⟨12,XBz,[.tmp 4]⟩
def XHp:VC:=.seq (.reg [oD 4 (.mv (.const (.string ⟨⟨[]⟩⟩)))]) (.seq (.reg [oM 5 τ0,oD 6 (.conv .u64 τ5),oM 7 τ1,oD 8 (.callF 85 [τ6,τ7]),oM 4 τ8]) .ret)
def fn91:VFn:=⟨9,XHp,[.tmp 4]⟩
def XKg:VC:=.regD [oM 23 τ6,oD 24 (.bin .quo XeC (.const (.int .i64 4))),oD 25 (.bin .add (.const (.int .i64 64)) Xei),oD 26 (.callF 94 [XeM,(.const (.int .i64 1))]),oD 27 (.fieldA 0 τ2),oD 28 (.load1 (.int .i64) XeJ),oD 29 (.callF 94 [XeD,(.const (.int .i64 1))]),oD 30 (.bin .add Xef XeN),oM 31 τ6,oM 32 τ1,oD 33 (.lenS Xfl),oD 34 (.bin .add Xe3 Xfn),oD 35 (.callF 94 [Xfz,(.const (.int .i64 2))]),oD 36 (.bin .add Xfh Xfp),oD 37 (.fieldA 1 τ2),oD 38 (.load1 (.int .i64) Xfo),oD 39 (.callF 94 [XgG,(.const (.int .i64 2))]),oD 40 (.bin .add XfI XgF),oM 41 τ7,oD 42 (.callF 94 [Xhg,(.const (.int .i64 1))]),oD 43 (.bin .add Xhr Xhh),oD 44 (.callF 94 [(.const (.int .i64 0)),(.const (.int .i64 1))]),oD 45 (.bin .add Xhm XhF),oD 46 (.fieldA 3 τ2),oD 47 (.load1 (.int .i64) Xh6),oD 48 (.callF 94 [XhQ,(.const (.int .i64 1))]),oD 49 (.bin .add XhB XiA),oD 50 (.fieldA 4 τ2),oD 51 (.load1 (.int .i64) XiC),oD 52 (.callF 94 [XiB,(.const (.int .i64 1))]),oD 53 (.bin .add Xiu XjH),oD 54 (.callF 94 [(.const (.int .i64 0)),(.const (.int .i64 2))]),oD 55 (.bin .add XjR Xk3),oD 56 (.fieldA 5 τ2),oD 57 (.loadN [.bool,(.int .u64),(.int .u64)] Xlu),oD 58 (.callF 92 [XkE]),oD 59 (.bin .add Xk2 Xk0),oD 60 (.fieldA 8 τ2),oD 61 (.loadN [.bool,(.int .u64),(.int .u64)] Xl3),oD 62 (.callF 92 [Xl0]),oD 63 (.bin .add Xln Xm6),oD 64 (.fieldA 11 τ2),oD 65 (.load1 .str XoH)] [(3,5),(3,15),(3,24),(3,28),(3,34),(3,38),(3,42),(6,15),(6,24),(6,28),(6,34),(6,38),(6,42),(12,15),(12,24),(12,28),(12,34),(12,38),(12,42),(16,24),(16,28),(16,34),(16,38),(16,42),(19,24),(19,28),(19,34),(19,38),(19,42),(21,24),(21,28),(21,34),(21,38),(21,42),(25,28),(25,34),(25,38),(25,42),(29,34),(29,38),(29,42),(31,34),(31,38),(31,42),(35,38),(35,42),(39,42)] [oD 66 (.bin .add Xox XoP),oM 8 XpY]
def Xzp:VC:=.seq (.reg [oD 2 (.box τ0),oD 4 (.mv (.const (.string ⟨⟨[]⟩⟩))),oD 5 (.mv (.const (.int .i64 0)))]) (.seq (.seq (.reg [oD 9 (.loadN [(.int .i64),(.int .i64),.bool,(.int .i64),(.int .i64),.bool,(.int .u64),(.int .u64),.bool,(.int .u64),(.int .u64),.str] τ2),oD 10 (.callF 93 [τ9]),oD 11 (.not Xb9)]) (.cond Xb5 (.seq (.reg [oD 4 (.mv (.const (.string ⟨⟨[]⟩⟩))),oD 5 (.mv (.const (.int .i64 1)))]) .ret) .skip)) (.seq (.reg [oD 12 (.fieldA 11 τ2),oD 13 (.load1 .str XcP),oD 14 (.lenS XcS),oD 15 (.bin .add (.const (.int .i64 20)) Xde),oM 6 Xdb]) (.seq (.seq (.reg [oM 16 τ1,oD 17 (.lenS Xdh),oM 18 τ6,oD 19 (.bin .sub (.const (.int .i64 65535)) XdK),oD 20 (.bin .gtr Xdc Xdx)]) (.cond Xd2 (.seq (.reg [oD 4 (.mv (.const (.string ⟨⟨[]⟩⟩))),oD 5 (.mv (.const (.int .i64 5)))]) .ret) .skip)) (.seq (.reg [oD 7 (.mv (.const (.int .i64 0)))]) (.seq (.seq (.reg [oD 21 (.fieldA 2 τ2),oD 22 (.load1 .bool Xd5)]) (.cond Xej (.reg [oD 7 (.mv (.const (.int .i64 64)))]) .skip)) (.seq XKg (.seq (.reg [oM 67 τ8,oM 68 τ8,oD 69 (.callF 88 [XpR]),oD 70 (.conv .u64 XpT),oD 71 (.callF 87 [XoO,(.const (.int .i64 10)),(.const (.int .i64 2)),Xrl]),oM 72 τ1,oD 73 (.bin .add Xrf Xq4),oM 4 Xsz,oD 5 (.mv (.const (.int .i64 0)))]) .ret)))))))
def fn52:VFn:=⟨74,Xzp,[.tmp 4,.tmp 5]⟩
def XJ3:VC:=.seq (.reg [oD 1 (.box τ0),oD 2 (.mv (.const (.bool false)))]) (.seq (.reg [oD 3 (.fieldA 0 τ1),oD 4 (.load1 (.int .i64) τ3),oD 5 (.callF 119 [τ4,(.const (.int .i64 255))]),oM 6 τ5,oG 7 (.fieldA 1 τ1) 6 true,oG 8 (.load1 (.int .i64) τ7) 6 true,oG 9 (.callF 119 [τ8,(.const (.int .i64 65535))]) 6 true,oD 10 (.pick τ6 τ9 (.const (.bool false))),oM 11 Xb9,oG 12 (.fieldA 3 τ1) 11 true,oG 13 (.load1 (.int .i64) XcP) 11 true,oG 14 (.callF 119 [XcS,(.const (.int .i64 255))]) 11 true,oD 15 (.pick Xb5 Xde (.const (.bool false))),oM 16 Xdb,oG 17 (.fieldA 4 τ1) 16 true,oG 18 (.load1 (.int .i64) Xdc) 16 true,oG 19 (.callF 119 [XdK,(.const (.int .i64 255))]) 16 true,oD 20 (.pick Xdh Xdx (.const (.bool false))),oM 21 Xd2,oG 22 (.fieldA 5 τ1) 21 true,oG 23 (.loadN [.bool,(.int .u64),(.int .u64)] Xej) 21 true,oG 24 (.callF 120 [XeC]) 21 true,oD 25 (.pick Xd5 Xei (.const (.bool false))),oM 26 XeM,oG 27 (.fieldA 8 τ1) 26 true,oG 28 (.loadN [.bool,(.int .u64),(.int .u64)] XeJ) 26 true,oG 29 (.callF 120 [XeD]) 26 true,oD 30 (.pick Xef XeN (.const (.bool false))),oM 31 Xfh,oG 32 (.fieldA 11 τ1) 31 true,oG 33 (.load1 .str Xfl) 31 true,oG 34 (.lenS Xfn) 31 true,oG 35 (.bin .leq Xfz (.const (.int .i64 40))) 31 true,oD 36 (.pick Xe3 Xfp (.const (.bool false))),oM 37 XfI,oG 38 (.fieldA 11 τ1) 37 true,oG 39 (.load1 .str XgG) 37 true,oG 40 (.lenS XgF) 37 true,oG 41 (.bin .rem Xhr (.const (.int .i64 4))) 37 true,oG 42 (.bin .eql Xhg (.const (.int .i64 0))) 37 true,oD 43 (.pick Xfo Xhh (.const (.bool false))),oM 2 Xhm]) .ret)
def fn93:VFn:=⟨44,XJ3,[.tmp 2]⟩
def XBT:VC:=.seq (.reg [oD 4 (.mv (.const (.bool false)))]) (.seq (.reg [oM 5 τ0,oD 6 (.bin .geq τ5 (.const (.int .i64 0))),oM 7 τ6,oG 8 (.mv τ0) 7 true,oG 9 (.mv τ1) 7 true,oG 10 (.bin .leq τ8 τ9) 7 true,oD 11 (.pick τ7 Xb9 (.const (.bool false))),oM 4 Xb5]) .ret)
def XJF:VFn:=⟨12,XBT,[.tmp 4]⟩
def XBI:VC:=.seq (.reg [oD 1 (.box τ0),oD 2 (.mv (.const (.bool false)))]) (.seq (.reg [oD 3 (.loadN [.bool,(.int .u64),(.int .u64)] τ1),oD 4 (.callF 97 [τ3]),oM 5 τ4,oG 6 (.fieldA 0 τ1) 5 true,oG 7 (.load1 .bool τ6) 5 true,oG 8 (.not τ7) 5 true,oD 9 (.pick τ5 τ8 (.const (.bool false))),oM 2 τ9]) .ret)
def XI0:VFn:=⟨10,XBI,[.tmp 2]⟩
def XJY:VC:=.seq (.reg [oD 2 (.mv (.const (.int .i64 0)))]) (.seq (.reg [oD 3 (.mv (.const (.int .i64 9000)))]) (.seq (.seq (.reg [oD 4 (.mv (.const (.int .i64 0)))]) (.block 0 (.loop (.seq (.seq (.reg [oM 5 τ4,oM 6 τ0,oD 7 (.lenL τ6),oD 8 (.bin .lss τ5 τ7)]) (.cond τ8 .skip (.exit 0))) (.seq (.block 1 (.seq (.reg [oM 11 τ0,oM 12 τ4,oD 13 (.idxAL 1 Xb5 XcP),oD 14 (.load1 (.int .i64) XcS),oD 15 (.callF 26 [Xde]),oM 16 Xdb,oG 17 (.mv τ0) 16 true,oG 18 (.mv τ4) 16 true,oG 19 (.idxAL 1 Xdc XdK) 16 true,oG 20 (.load1 (.int .i64) Xdx) 16 true,oG 21 (.mv τ3) 16 true,oG 22 (.bin .lss Xd2 Xd5) 16 true,oD 23 (.pick Xdh Xej (.const (.bool false)))]) (.cond XeC (.reg [oM 24 τ0,oM 25 τ4,oD 26 (.idxAL 1 Xei XeM),oD 27 (.load1 (.int .i64) Xef),oM 3 XeJ]) .skip))) (.reg [oM 9 τ4,oD 10 (.bin .add τ9 (.const (.int .i64 1))),oM 4 Xb9])))))) (.seq (.reg [oM 28 τ3,oM 2 XeD]) .ret)))
def fn13:VFn:=⟨29,XJY,[.tmp 2]⟩
def XDR:VC:=.seq (.seq (.reg [oM 204 XeN,oD 205 (.fieldA 4 Xef),oD 206 (.load1 .str τ205),oD 207 (.lenS τ206),oD 208 (.bin .lss τ204 τ207)]) (.cond τ208 .skip (.exit 0))) (.seq (.block 1 (.reg [oM 211 XeD,oD 212 (.bin .shl τ211 (.const (.int .u64 8))),oD 213 (.fieldA 4 Xef),oD 214 (.load1 .str τ213),oM 215 XeN,oD 216 (.idxS τ214 τ215),oD 217 (.conv .u64 τ216),oD 218 (.bin .add τ212 τ217),oM 28 τ218])) (.reg [oM 209 XeN,oD 210 (.bin .add τ209 (.const (.int .i64 1))),oM 29 τ210]))
def XJq:VC:=.seq (.reg [oM 219 XeJ,oD 220 (.bin .eql τ219 (.const (.int .i64 0))),oM 221 τ220,oG 222 (.mv XeD) 221 true,oG 223 (.mv τ3) 221 true,oG 224 (.bin .eql τ222 τ223) 221 true,oD 225 (.pick τ221 τ224 (.const (.bool false))),oM 226 τ225,oG 227 (.callF 14 []) 226 true,oD 228 (.pick τ226 τ227 (.const (.bool false))),oM 8 τ228]) .ret
def XJ2:VC:=.seq (.reg [oD 8 (.mv (.const (.bool false)))]) (.seq (.seq (.reg [oM 30 τ0,oD 31 (.lenS Xfh),oD 32 (.bin .gtr Xe3 (.const (.int .i64 200)))]) (.cond Xfl (.seq (.reg [oD 33 (.callF 14 []),oM 8 Xfn]) .ret) .skip)) (.seq (.reg [oM 35 τ0,oD 36 (.callF 15 [Xfp]),oM 34 XfI,oE 37 0 Xfz,oE 38 1 Xfz,oD 9 (.alloc [(.int .i64 0),(.bool false),(.int .u64 0),(.int .u64 0),(.bool false),(.int .u64 0),(.int .u64 0),(.int .i64 0),(.int .i64 0),(.int .i64 0),(.bool false),(.int .u32 0),(.int .u32 0),(.bool false),(.string ⟨⟨[]⟩⟩),(.int .i64 0)]),oN (.store 16 τ9 Xfo),oM 10 XgG]) (.seq (.seq (.reg [oM 40 τ0,oM 41 τ1,oD 42 (.callF 16 [Xhr,Xhg]),oM 39 Xhh,oE 43 0 XgF,oE 44 1 XgF,oM 11 Xhm,oM 12 XhF]) (.seq (.reg [oM 45 XcP,oD 46 (.bin .eql XhB (.const (.int .i64 0)))]) (.cond Xh6 (.seq (.reg [oM 48 Xb5,oD 49 (.callF 15 [XiA]),oM 47 Xiu,oE 50 0 XhQ,oE 51 1 XhQ,oD 13 (.alloc [(.int .i64 0),(.bool false),(.int .u64 0),(.int .u64 0),(.bool false),(.int .u64 0),(.int .u64 0),(.int .i64 0),(.int .i64 0),(.int .i64 0),(.bool false),(.int .u32 0),(.int .u32 0),(.bool false),(.string ⟨⟨[]⟩⟩),(.int .i64 0)]),oN (.store 16 XcS XiC),oM 14 XiB]) (.seq (.seq (.reg [oM 52 Xb9,oD 53 (.bin .neq XjH (.const (.int .i64 0))),oM 54 XjR,oG 55 (.mv Xde) 54 false,oG 56 (.bin .neq Xk2 (.const (.int .i64 0))) 54 false,oD 57 (.pick Xk3 (.const (.bool true)) Xlu),oM 58 XkE,oG 59 (.fieldA 11 XcS) 58 false,oG 60 (.load1 (.int .u32) Xln) 58 false,oG 61 (.mv τ1) 58 false,oG 62 (.conv .u32 Xl0) 58 false,oG 63 (.bin .shl Xm6 (.const (.int .u64 16))) 58 false,oG 64 (.fieldA 11 τ9) 58 false,oG 65 (.load1 (.int .u32) XoH) 58 false,oG 66 (.bin .rem XoP (.const (.int .u32 65536))) 58 false,oG 67 (.bin .add Xox XpY) 58 false,oG 68 (.bin .neq Xl3 XoO) 58 false,oD 69 (.pick Xk0 (.const (.bool true)) XpR),oM 70 XpT,oG 71 (.mv Xb5) 70 false,oG 72 (.lenS Xrf) 70 false,oG 73 (.mv τ0) 70 false,oG 74 (.lenS Xsz) 70 false,oG 75 (.bin .neq Xq4 Xv1) 70 false,oD 76 (.pick Xrl (.const (.bool true)) XtS),oM 77 Xws,oG 78 (.mv τ0) 77 false,oG 79 (.mv Xb5) 77 false,oG 80 (.callF 17 [XwG,XxJ]) 77 false,oG 81 (.bin .gtr XwF (.const (.int .i64 4))) 77 false,oD 82 (.pick XtD (.const (.bool true)) Xx2)]) (.cond XBY (.seq (.reg [oD 8 (.mv (.const (.bool false)))]) .ret) .skip)) (.seq (.reg [oD 83 (.fieldA 11 τ9),oD 84 (.load1 (.int .u32) XwA),oD 85 (.fieldA 11 XcS),oN (.store 1 XEO XBu)]) (.seq (.reg [oD 86 (.loadN [(.int .i64),.bool,(.int .u64),(.int .u64),.bool,(.int .u64),(.int .u64),(.int .i64),(.int .i64),(.int .i64),.bool,(.int .u32),(.int .u32),.bool,.str,(.int .i64)] XcS),oD 87 (.loadN [(.int .i64),.bool,(.int .u64),(.int .u64),.bool,(.int .u64),(.int .u64),(.int .i64),(.int .i64),(.int .i64),.bool,(.int .u32),(.int .u32),.bool,.str,(.int .i64)] τ9),oD 88 (.eqAgg true [(0,(.int .i64)),(1,.bool),(2,(.int .u64)),(3,(.int .u64)),(4,.bool),(5,(.int .u64)),(6,(.int .u64)),(7,(.int .i64)),(8,(.int .i64)),(9,(.int .i64)),(10,.bool),(11,(.int .u32)),(12,(.int .u32)),(13,.bool),(14,.str),(15,(.int .i64))] XFb XDJ)]) (.cond XDu (.seq (.reg [oD 8 (.mv (.const (.bool false)))]) .ret) .skip))))) .skip))) (.seq (.seq (.reg [oM 90 τ0,oM 91 τ2,oD 92 (.callF 18 [XGg,XCX]),oM 89 XC9,oE 93 0 XAr,oE 94 1 XAr,oM 15 XC2,oM 16 XDh]) (.seq (.reg [oM 95 Xdh,oD 96 (.bin .eql XGm (.const (.int .i64 0)))]) (.cond XDG (.seq (.reg [oM 98 Xdb,oD 99 (.callF 15 [τ98]),oM 97 τ99,oE 100 0 XGp,oE 101 1 XGp,oD 17 (.alloc [(.int .i64 0),(.bool false),(.int .u64 0),(.int .u64 0),(.bool false),(.int .u64 0),(.int .u64 0),(.int .i64 0),(.int .i64 0),(.int .i64 0),(.bool false),(.int .u32 0),(.int .u32 0),(.bool false),(.string ⟨⟨[]⟩⟩),(.int .i64 0)]),oN (.store 16 Xdc XD1),oM 18 XFK]) (.seq (.seq (.reg [oM 102 Xb9,oD 103 (.bin .neq XJz (.const (.int .i64 0))),oM 104 XG6,oG 105 (.mv XdK) 104 false,oG 106 (.bin .neq XLc (.const (.int .i64 0))) 104 false,oD 107 (.pick XLs (.const (.bool true)) XHM),oM 108 XLp,oG 109 (.fieldA 12 Xdc) 108 false,oG 110 (.load1 (.int .u32) XJD) 108 false,oG 111 (.bin .rem XJm (.const (.int .u32 65536))) 108 false,oG 112 (.fieldA 12 τ9) 108 false,oG 113 (.load1 (.int .u32) XLK) 108 false,oG 114 (.bin .rem XGR (.const (.int .u32 65536))) 108 false,oG 115 (.bin .neq XyD XIZ) 108 false,oD 116 (.pick XHV (.const (.bool true)) XI2),oM 117 XKZ,oG 118 (.mv τ2) 117 false,oG 119 (.fieldA 12 Xdc) 117 false,oG 120 (.load1 (.int .u32) XIV) 117 false,oG 121 (.bin .sub XLH XI8) 117 false,oG 122 (.bin .geq XIr (.const (.int .u32 65536))) 117 false,oD 123 (.pick XHw (.const (.bool true)) XKb),oM 124 XLI,oG 125 (.mv Xdb) 124 false,oG 126 (.lenS XGY) 124 false,oG 127 (.mv τ0) 124 false,oG 128 (.lenS XIC) 124 false,oG 129 (.bin .neq XLE XLB) 124 false,oD 130 (.pick XJa (.const (.bool true)) XIf),oM 131 XIv,oG 132 (.mv τ0) 131 false,oG 133 (.mv Xdb) 131 false,oG 134 (.callF 17 [XJJ,XGS]) 131 false,oG 135 (.bin .gtr XKf (.const (.int .i64 4))) 131 false,oD 136 (.pick XIo (.const (.bool true)) XKc)]) (.cond XJ5 (.seq (.reg [oD 8 (.mv (.const (.bool false)))]) .ret) .skip)) (.seq (.reg [oD 137 (.fieldA 12 τ9),oD 138 (.load1 (.int .u32) XLt),oD 139 (.fieldA 12 Xdc),oN (.store 1 XLh XKS)]) (.seq (.reg [oD 140 (.loadN [(.int .i64),.bool,(.int .u64),(.int .u64),.bool,(.int .u64),(.int .u64),(.int .i64),(.int .i64),(.int .i64),.bool,(.int .u32),(.int .u32),.bool,.str,(.int .i64)] Xdc),oD 141 (.loadN [(.int .i64),.bool,(.int .u64),(.int .u64),.bool,(.int .u64),(.int .u64),(.int .i64),(.int .i64),(.int .i64),.bool,(.int .u32),(.int .u32),.bool,.str,(.int .i64)] τ9),oD 142 (.eqAgg true [(0,(.int .i64)),(1,.bool),(2,(.int .u64)),(3,(.int .u64)),(4,.bool),(5,(.int .u64)),(6,(.int .u64)),(7,(.int .i64)),(8,(.int .i64)),(9,(.int .i64)),(10,.bool),(11,(.int .u32)),(12,(.int .u32)),(13,.bool),(14,.str),(15,(.int .i64))] XHl XHs)]) (.cond XDW (.seq (.reg [oD 8 (.mv (.const (.bool false)))]) .ret) .skip))))) .skip))) (.seq (.reg [oM 144 τ0,oM 145 τ3,oD 146 (.callF 19 [XIs,XK6]),oM 143 XIa,oE 147 0 XF5,oE 148 1 XF5,oM 19 XHa,oM 20 XKI]) (.seq (.seq (.reg [oM 149 Xd2,oD 150 (.bin .neq XHX (.const (.int .i64 0)))]) (.cond XHn (.seq (.reg [oM 151 Xdx,oD 152 (.bin .eql XK0 (.const (.string ⟨⟨[]⟩⟩))),oM 153 XIc,oG 154 (.callF 14 []) 153 true,oD 155 (.pick XLL XIQ (.const (.bool false))),oM 8 XHf]) .ret) .skip)) (.seq (.reg [oM 157 Xdx,oD 158 (.callF 15 [XGQ]),oM 156 XHP,oE 159 0 XDf,oE 160 1 XDf,oD 21 (.alloc [(.int .i64 0),(.bool false),(.int .u64 0),(.int .u64 0),(.bool false),(.int .u64 0),(.int .u64 0),(.int .i64 0),(.int .i64 0),(.int .i64 0),(.bool false),(.int .u32 0),(.int .u32 0),(.bool false),(.string ⟨⟨[]⟩⟩),(.int .i64 0)]),oN (.store 16 Xd5 XIB),oM 22 XHJ]) (.seq (.reg [oM 162 Xdx,oD 163 (.callF 20 [τ162]),oM 161 τ163,oE 164 0 XFL,oE 165 1 XFL,oE 166 2 XFL,oM 23 τ164,oM 24 τ165,oM 25 τ166]) (.seq (.seq (.reg [oM 167 Xb9,oD 168 (.bin .neq τ167 (.const (.int .i64 0))),oM 169 τ168,oG 170 (.mv Xej) 169 false,oG 171 (.bin .neq τ170 (.const (.int .i64 0))) 169 false,oD 172 (.pick τ169 (.const (.bool true)) τ171),oM 173 τ172,oG 174 (.loadN [(.int .i64),.bool,(.int .u64),(.int .u64),.bool,(.int .u64),(.int .u64),(.int .i64),(.int .i64),(.int .i64),.bool,(.int .u32),(.int .u32),.bool,.str,(.int .i64)] Xd5) 173 false,oG 175 (.loadN [(.int .i64),.bool,(.int .u64),(.int .u64),.bool,(.int .u64),(.int .u64),(.int .i64),(.int .i64),(.int .i64),.bool,(.int .u32),(.int .u32),.bool,.str,(.int .i64)] τ9) 173 false,oG 176 (.eqAgg true [(0,(.int .i64)),(1,.bool),(2,(.int .u64)),(3,(.int .u64)),(4,.bool),(5,(.int .u64)),(6,(.int .u64)),(7,(.int .i64)),(8,(.int .i64)),(9,(.int .i64)),(10,.bool),(11,(.int .u32)),(12,(.int .u32)),(13,.bool),(14,.str),(15,(.int .i64))] τ174 τ175) 173 false,oD 177 (.pick τ173 (.const (.bool true)) τ176),oM 178 τ177,oG 179 (.mv Xdx) 178 false,oG 180 (.lenS τ179) 178 false,oG 181 (.mv τ0) 178 false,oG 182 (.lenS τ181) 178 false,oG 183 (.bin .neq τ180 τ182) 178 false,oD 184 (.pick τ178 (.const (.bool true)) τ183),oM 185 τ184,oG 186 (.mv τ0) 185 false,oG 187 (.mv Xdx) 185 false,oG 188 (.callF 17 [τ186,τ187]) 185 false,oG 189 (.bin .gtr τ188 (.const (.int .i64 10))) 185 false,oD 190 (.pick τ185 (.const (.bool true)) τ189),oM 191 τ190,oG 192 (.mv Xei) 191 false,oG 193 (.mv Xdx) 191 false,oG 194 (.lenS τ193) 191 false,oG 195 (.bin .gtr τ192 τ194) 191 false,oD 196 (.pick τ191 (.const (.bool true)) τ195)]) (.cond τ196 (.seq (.reg [oD 8 (.mv (.const (.bool false)))]) .ret) .skip)) (.seq (.reg [oM 198 Xdx,oM 199 Xei,oD 200 (.sliceS τ198 (some τ199) none),oD 201 (.callF 21 [τ200]),oM 197 τ201,oE 202 0 XKB,oE 203 1 XKB,oD 26 (.alloc [(.bool false),(.int .i64 0),(.int .u32 0),(.string ⟨⟨[]⟩⟩),(.string ⟨⟨[]⟩⟩),(.string ⟨⟨[]⟩⟩)]),oN (.store 6 Xef τ202),oM 27 τ203]) (.seq (.reg [oD 28 (.mv (.const (.int .u64 0)))]) (.seq (.seq (.reg [oD 29 (.mv (.const (.int .i64 0)))]) (.block 0 (.loop XDR))) XJq))))))))))))
def fn4:VFn:=⟨229,XJ2,[.tmp 8]⟩
def k14_3:VC:=.regD [oD 21 (.loadN [(.int .i64),.bool,(.int .u64),(.int .u64),.bool,(.int .u64),(.int .u64),(.int .i64),(.int .i64)] τ1),oD 22 (.callF 30 [(.const (.int .u32 74565)),(.const (.int .u32 7))]),oD 23 (.callF 29 [Xd5,(.const (.int .i64 16)),Xej,(.const (.string ⟨⟨[]⟩⟩))]),oM 20 XeC,oE 24 0 Xd2,oE 25 1 Xd2,oM 4 Xei] [(0,1)] [oM 5 XeM]
def XA1:VC:=.seq (.reg [oD 0 (.mv (.const (.bool false)))]) (.seq (.reg [oD 12 (.build [(.bool false),(.int .u64 0),(.int .u64 0)] [(2,1,(.const (.int .u64 1)))]),oD 13 (.build [(.bool false),(.int .u64 0),(.int .u64 0)] [(2,1,(.const (.int .u64 2)))]),oD 14 (.build [(.int .i64 0),(.bool false),(.int .u64 0),(.int .u64 0),(.bool false),(.int .u64 0),(.int .u64 0),(.int .i64 0),(.int .i64 0)] [(0,1,(.const (.int .i64 6))),(1,3,XcP),(4,3,XcS)]),oD 1 (.alloc [(.int .i64 0),(.bool false),(.int .u64 0),(.int .u64 0),(.bool false),(.int .u64 0),(.int .u64 0),(.int .i64 0),(.int .i64 0)]),oN (.store 9 τ1 Xde)]) (.seq (.reg [oD 16 (.loadN [(.int .i64),.bool,(.int .u64),(.int .u64),.bool,(.int .u64),(.int .u64),(.int .i64),(.int .i64)] τ1),oD 17 (.callF 29 [Xdh,(.const (.int .i64 16)),(.const (.string ⟨⟨[]⟩⟩)),(.const (.string ⟨⟨[]⟩⟩))]),oM 15 Xdc,oE 18 0 Xdb,oE 19 1 Xdb,oM 2 XdK,oM 3 Xdx]) (.seq k14_3 (.seq (.reg [oM 27 τ2,oD 28 (.callF 16 [XeJ,(.const (.int .u16 1))]),oM 26 XeD,oE 29 0 Xef,oE 30 1 Xef,oM 6 XeN,oM 7 Xfh]) (.seq (.reg [oM 32 τ4,oD 33 (.callF 16 [Xfl,(.const (.int .u16 43981))]),oM 31 Xfn,oE 34 0 Xe3,oE 35 1 Xe3,oM 8 Xfz,oM 9 Xfp]) (.seq (.reg [oM 37 τ8,oD 38 (.callF 15 [Xfo]),oM 36 XgG,oE 39 0 XfI,oE 40 1 XfI,oD 10 (.alloc [(.int .i64 0),(.bool false),(.int .u64 0),(.int .u64 0),(.bool false),(.int .u64 0),(.int .u64 0),(.int .i64 0),(.int .i64 0),(.int .i64 0),(.bool false),(.int .u32 0),(.int .u32 0),(.bool false),(.string ⟨⟨[]⟩⟩),(.int .i64 0)]),oN (.store 16 Xb9 XgF),oM 11 Xhr]) (.seq (.reg [oM 41 τ7,oD 42 (.bin .eql Xhg (.const (.int .i64 6))),oM 43 Xhh,oG 44 (.mv τ9) 43 true,oG 45 (.bin .eql XhF (.const (.int .i64 0))) 43 true,oD 46 (.pick Xhm XhB (.const (.bool false))),oM 47 Xh6,oG 48 (.mv Xb5) 47 true,oG 49 (.bin .eql XiA (.const (.int .i64 0))) 47 true,oD 50 (.pick XhQ Xiu (.const (.bool false))),oM 51 XiC,oG 52 (.fieldA 11 Xb9) 51 true,oG 53 (.load1 (.int .u32) XjH) 51 true,oG 54 (.bin .eql XjR (.const (.int .u32 2882347845))) 51 true,oD 55 (.pick XiB Xk3 (.const (.bool false))),oM 0 Xk2]) .ret)))))))
def fn14:VFn:=⟨56,XA1,[.tmp 0]⟩
def XBs:VC:=.seq (.reg [oD 4 (.box τ0),oD 8 (.mv (.const (.string ⟨⟨[]⟩⟩))),oD 9 (.mv (.const (.int .i64 0)))]) (.seq (.seq (.reg [oD 12 (.fieldA 0 τ4),oD 13 (.load1 (.int .i64) XcP),oD 14 (.bin .neq XcS (.const (.int .i64 6)))]) (.cond Xde (.seq (.reg [oD 8 (.mv (.const (.string ⟨⟨[]⟩⟩))),oD 9 (.mv (.const (.int .i64 1)))]) .ret) .skip)) (.seq (.reg [oD 16 (.fieldA 7 τ4),oD 17 (.load1 (.int .i64) Xdh),oD 18 (.fieldA 8 τ4),oD 19 (.load1 (.int .i64) XdK),oM 20 τ1,oM 21 τ2,oD 22 (.build [(.int .i64 0),(.int .i64 0),(.int .u32 0),(.int .u32 0),(.int .i64 0),(.int .i64 0),(.int .i64 0),(.string ⟨⟨[]⟩⟩)] [(0,1,Xdc),(1,1,Xdx),(4,1,Xd2),(5,1,(.const (.int .i64 65535))),(7,1,Xd5)]),oD 23 (.fieldA 1 τ4),oD 24 (.loadN [.bool,(.int .u64),(.int .u64)] XeC),oD 25 (.fieldA 4 τ4),oD 26 (.loadN [.bool,(.int .u64),(.int .u64)] XeM),oM 27 τ3,oD 28 (.callF 53 [Xej,Xei,Xef,XeJ]),oM 15 XeD,oE 29 0 Xdb,oE 30 1 Xdb,oM 10 XeN,oM 11 Xfh]) (.seq (.seq (.reg [oM 31 Xb5,oD 32 (.bin .neq Xe3 (.const (.int .i64 0)))]) (.cond Xfl (.seq (.reg [oM 33 Xb5,oD 8 (.mv (.const (.string ⟨⟨[]⟩⟩))),oM 9 Xfn]) .ret) .skip)) (.seq (.reg [oD 34 (.loadN [(.int .i64),.bool,(.int .u64),(.int .u64),.bool,(.int .u64),(.int .u64),(.int .i64),(.int .i64)] τ4),oM 35 Xb9,oD 36 (.callF 54 [Xfz,Xfp]),oE 37 0 XfI,oE 38 1 XfI,oM 8 Xfo,oM 9 XgG]) .ret))))
def fn29:VFn:=⟨39,XBs,[.tmp 8,.tmp 9]⟩
def XIu:VC:=.regD [oD 36 (.fieldA 0 τ4),oD 37 (.load1 (.int .i64) XfI),oD 38 (.callF 55 [Xfo,(.const (.int .i64 2))]),oD 39 (.fieldA 1 τ4),oD 40 (.load1 (.int .i64) XgF),oD 41 (.callF 55 [Xhr,(.const (.int .i64 2))]),oD 42 (.bin .add XgG Xhg),oD 43 (.fieldA 2 τ4),oD 44 (.load1 (.int .u32) Xhm),oD 45 (.conv .i64 XhF),oD 46 (.callF 55 [XhB,(.const (.int .i64 4))]),oD 47 (.bin .add Xhh Xh6),oD 48 (.fieldA 3 τ4),oD 49 (.load1 (.int .u32) XiA),oD 50 (.conv .i64 Xiu),oD 51 (.callF 55 [XiC,(.const (.int .i64 4))]),oD 52 (.bin .add XhQ XiB),oM 53 Xb9,oD 54 (.bin .mul (.const (.int .i64 4)) XjR),oD 55 (.callF 55 [Xk3,(.const (.int .i64 1))]),oD 56 (.bin .add XjH Xk2),oD 57 (.fieldA 4 τ4),oD 58 (.load1 (.int .i64) XkE),oD 59 (.callF 55 [Xk0,(.const (.int .i64 1))]),oD 60 (.bin .add Xlu Xln),oD 61 (.fieldA 5 τ4),oD 62 (.load1 (.int .i64) Xl0),oD 63 (.callF 55 [Xm6,(.const (.int .i64 2))]),oD 64 (.bin .add Xl3 Xox),oD 65 (.callF 55 [(.const (.int .i64 0)),(.const (.int .i64 2))]),oD 66 (.bin .add XoH XoP),oD 67 (.fieldA 6 τ4),oD 68 (.load1 (.int .i64) XoO),oD 69 (.callF 55 [XpR,(.const (.int .i64 2))]),oD 70 (.bin .add XpY XpT),oD 71 (.fieldA 7 τ4),oD 72 (.load1 .str Xrf),oD 73 (.bin .add Xrl Xq4),oM 74 τ3] [(2,4),(2,8),(2,13),(2,22),(2,26),(2,32),(2,36),(5,8),(5,13),(5,22),(5,26),(5,32),(5,36),(10,13),(10,22),(10,26),(10,32),(10,36),(15,22),(15,26),(15,32),(15,36),(19,22),(19,26),(19,32),(19,36),(23,26),(23,32),(23,36),(27,32),(27,36),(29,32),(29,36),(33,36)] [oD 75 (.bin .add Xsz Xv1),oM 12 XtS]
def XBm:VC:=.seq (.reg [oD 4 (.box τ0),oD 5 (.box τ1),oD 6 (.box τ2),oD 8 (.mv (.const (.string ⟨⟨[]⟩⟩))),oD 9 (.mv (.const (.int .i64 0)))]) (.seq (.reg [oD 13 (.fieldA 7 τ4),oD 14 (.load1 .str XcS),oD 15 (.lenS Xde),oD 16 (.bin .add (.const (.int .i64 20)) Xdb),oM 10 Xdh]) (.seq (.reg [oD 17 (.loadN [.bool,(.int .u64),(.int .u64)] τ5),oD 18 (.loadN [.bool,(.int .u64),(.int .u64)] τ6),oM 19 Xb9,oM 20 τ3,oD 21 (.lenS Xd2),oD 22 (.bin .add Xdx Xd5),oD 23 (.callF 95 [Xdc,XdK,(.const (.int .i64 6)),Xej]),oM 11 XeC]) (.seq (.seq (.reg [oD 24 (.loadN [(.int .i64),(.int .i64),(.int .u32),(.int .u32),(.int .i64),(.int .i64),(.int .i64),.str] τ4),oD 25 (.callF 96 [Xei]),oD 26 (.not XeM),oM 27 Xef,oG 28 (.mv Xb5) 27 false,oG 29 (.bin .eql XeD (.const (.string ⟨⟨[]⟩⟩))) 27 false,oD 30 (.pick XeJ (.const (.bool true)) XeN)]) (.cond Xfh (.seq (.reg [oD 8 (.mv (.const (.string ⟨⟨[]⟩⟩))),oD 9 (.mv (.const (.int .i64 1)))]) .ret) .skip)) (.seq (.seq (.reg [oM 31 τ3,oD 32 (.lenS Xe3),oM 33 Xb9,oD 34 (.bin .sub (.const (.int .i64 65535)) Xfn),oD 35 (.bin .gtr Xfl Xfz)]) (.cond Xfp (.seq (.reg [oD 8 (.mv (.const (.string ⟨⟨[]⟩⟩))),oD 9 (.mv (.const (.int .i64 5)))]) .ret) .skip)) (.seq XIu (.seq (.reg [oM 76 XcP,oM 77 Xb5,oM 78 XcP,oD 79 (.bin .add XtD XwG),oD 80 (.callF 88 [XxJ]),oD 81 (.conv .u64 XwF),oD 82 (.callF 87 [Xws,(.const (.int .i64 16)),(.const (.int .i64 2)),Xx2]),oM 8 XBY,oD 9 (.mv (.const (.int .i64 0)))]) .ret))))))
def fn53:VFn:=⟨83,XBm,[.tmp 8,.tmp 9]⟩
def XLJ:VC:=.seq (.reg [oD 1 (.box τ0),oD 2 (.mv (.const (.bool false)))]) (.seq (.reg [oD 3 (.fieldA 0 τ1),oD 4 (.load1 (.int .i64) τ3),oD 5 (.callF 121 [τ4,(.const (.int .i64 65535))]),oM 6 τ5,oG 7 (.fieldA 1 τ1) 6 true,oG 8 (.load1 (.int .i64) τ7) 6 true,oG 9 (.callF 121 [τ8,(.const (.int .i64 65535))]) 6 true,oD 10 (.pick τ6 τ9 (.const (.bool false))),oM 11 Xb9,oG 12 (.fieldA 4 τ1) 11 true,oG 13 (.load1 (.int .i64) XcP) 11 true,oG 14 (.callF 121 [XcS,(.const (.int .i64 255))]) 11 true,oD 15 (.pick Xb5 Xde (.const (.bool false))),oM 16 Xdb,oG 17 (.fieldA 5 τ1) 16 true,oG 18 (.load1 (.int .i64) Xdc) 16 true,oG 19 (.callF 121 [XdK,(.const (.int .i64 65535))]) 16 true,oD 20 (.pick Xdh Xdx (.const (.bool false))),oM 21 Xd2,oG 22 (.fieldA 6 τ1) 21 true,oG 23 (.load1 (.int .i64) Xej) 21 true,oG 24 (.callF 121 [XeC,(.const (.int .i64 65535))]) 21 true,oD 25 (.pick Xd5 Xei (.const (.bool false))),oM 26 XeM,oG 27 (.fieldA 7 τ1) 26 true,oG 28 (.load1 .str XeJ) 26 true,oG 29 (.lenS XeD) 26 true,oG 30 (.bin .leq XeN (.const (.int .i64 40))) 26 true,oD 31 (.pick Xef Xfh (.const (.bool false))),oM 32 Xe3,oG 33 (.fieldA 7 τ1) 32 true,oG 34 (.load1 .str Xfn) 32 true,oG 35 (.lenS Xfz) 32 true,oG 36 (.bin .rem Xfp (.const (.int .i64 4))) 32 true,oG 37 (.bin .eql XfI (.const (.int .i64 0))) 32 true,oD 38 (.pick Xfl Xfo (.const (.bool false))),oM 2 XgG]) .ret)
def fn96:VFn:=⟨39,XLJ,[.tmp 2]⟩
def XBw:VC:=.seq (.reg [oD 4 (.mv (.const (.bool false)))]) (.seq (.reg [oM 5 τ0,oD 6 (.bin .geq τ5 (.const (.int .i64 0))),oM 7 τ6,oG 8 (.mv τ0) 7 true,oG 9 (.mv τ1) 7 true,oG 10 (.bin .leq τ8 τ9) 7 true,oD 11 (.pick τ7 Xb9 (.const (.bool false))),oM 4 Xb5]) .ret)
def XJV:VFn:=⟨12,XBw,[.tmp 4]⟩
def XJE:VC:=.seq (.reg [oD 4 (.mv (.const (.string ⟨⟨[]⟩⟩)))]) (.seq (.reg [oM 5 τ0,oD 6 (.conv .u64 τ5),oM 7 τ1,oD 8 (.callF 85 [τ6,τ7]),oM 4 τ8]) .ret)
def fn55:VFn:=⟨9,XJE,[.tmp 4]⟩
def XAH:VC:=.seq (.reg [oD 2 (.box τ0),oD 4 (.mv (.const (.string ⟨⟨[]⟩⟩))),oD 5 (.mv (.const (.int .i64 0)))]) (.seq (.seq (.reg [oD 8 (.fieldA 1 τ2),oD 9 (.fieldA 0 τ8),oD 10 (.load1 .bool τ9),oD 11 (.fieldA 4 τ2),oD 12 (.fieldA 0 Xb5),oD 13 (.load1 .bool XcP),oD 14 (.eqB true Xb9 XcS),oM 15 Xde,oG 16 (.fieldA 1 τ2) 15 false,oG 17 (.loadN [.bool,(.int .u64),(.int .u64)] Xdh) 15 false,oG 18 (.callF 97 [Xdc]) 15 false,oG 19 (.not XdK) 15 false,oD 20 (.pick Xdb (.const (.bool true)) Xdx),oM 21 Xd2,oG 22 (.fieldA 4 τ2) 21 false,oG 23 (.loadN [.bool,(.int .u64),(.int .u64)] Xej) 21 false,oG 24 (.callF 97 [XeC]) 21 false,oG 25 (.not Xei) 21 false,oD 26 (.pick Xd5 (.const (.bool true)) XeM),oM 27 Xef,oG 28 (.fieldA 0 τ2) 27 false,oG 29 (.load1 (.int .i64) XeD) 27 false,oG 30 (.bin .neq XeN (.const (.int .i64 6))) 27 false,oG 31 (.mv Xfh) 27 false,oG 32 (.fieldA 0 τ2) 31 true,oG 33 (.load1 (.int .i64) Xfl) 31 true,oG 34 (.bin .neq Xfn (.const (.int .i64 17))) 31 true,oG 35 (.pick Xe3 Xfz (.const (.bool false))) 27 false,oD 36 (.pick XeJ (.const (.bool true)) Xfp)]) (.cond XfI (.seq (.reg [oD 4 (.mv (.const (.string ⟨⟨[]⟩⟩))),oD 5 (.mv (.const (.int .i64 1)))]) .ret) .skip)) (.seq (.reg [oD 38 (.fieldA 0 τ2),oD 39 (.load1 (.int .i64) XgG),oD 40 (.fieldA 1 τ2),oD 41 (.loadN [.bool,(.int .u64),(.int .u64)] Xhr),oD 42 (.fieldA 4 τ2),oD 43 (.loadN [.bool,(.int .u64),(.int .u64)] Xhh),oD 44 (.build [(.int .i64 0),(.int .i64 0),(.int .i64 0),(.int .i64 0),(.bool false),(.int .u64 0),(.int .u64 0),(.bool false),(.int .u64 0),(.int .u64 0)] [(2,1,XgF),(3,1,(.const (.int .i64 64))),(4,3,Xhg),(7,3,Xhm)]),oM 45 τ1,oD 46 (.callF 51 [XhF,XhB]),oM 37 Xh6,oE 47 0 Xfo,oE 48 1 Xfo,oM 6 XhQ,oM 7 XiA]) (.seq (.seq (.reg [oD 49 (.fieldA 1 τ2),oD 50 (.fieldA 0 Xiu),oD 51 (.load1 .bool XiC),oD 52 (.not XiB)]) (.cond XjH (.reg [oD 54 (.fieldA 0 τ2),oD 55 (.load1 (.int .i64) Xk3),oD 56 (.fieldA 1 τ2),oD 57 (.loadN [.bool,(.int .u64),(.int .u64)] Xlu),oD 58 (.fieldA 4 τ2),oD 59 (.loadN [.bool,(.int .u64),(.int .u64)] Xk0),oD 60 (.build [(.int .i64 0),(.int .i64 0),(.bool false),(.int .i64 0),(.int .i64 0),(.bool false),(.int .u64 0),(.int .u64 0),(.bool false),(.int .u64 0),(.int .u64 0),(.string ⟨⟨[]⟩⟩)] [(2,1,(.const (.bool true))),(3,1,(.const (.int .i64 64))),(4,1,Xk2),(5,3,XkE),(8,3,Xln)]),oM 61 τ1,oD 62 (.callF 52 [Xl3,Xl0]),oM 53 Xm6,oE 63 0 XjR,oE 64 1 XjR,oM 6 Xox,oM 7 XoH]) .skip)) (.seq (.seq (.reg [oM 65 τ7,oD 66 (.bin .eql XoP (.const (.int .i64 0))),oM 67 XpY,oG 68 (.mv τ6) 67 true,oG 69 (.lenS XpR) 67 true,oG 70 (.bin .gtr XpT (.const (.int .i64 9000))) 67 true,oD 71 (.pick XoO Xrl (.const (.bool false)))]) (.cond Xrf (.seq (.reg [oD 4 (.mv (.const (.string ⟨⟨[]⟩⟩))),oD 5 (.mv (.const (.int .i64 5)))]) .ret) .skip)) (.seq (.reg [oM 72 τ6,oM 73 τ7,oM 4 Xq4,oM 5 Xsz]) .ret)))))
def fn54:VFn:=⟨74,XAH,[.tmp 4,.tmp 5]⟩
def XLD:VC:=.seq (.reg [oD 4 (.mv (.const (.string ⟨⟨[]⟩⟩)))]) (.seq (.reg [oM 5 τ0,oD 6 (.conv .i64 τ5),oD 7 (.callF 55 [τ6,(.const (.int .i64 4))]),oD 8 (.bin .add (.const (.string ⟨⟨[1,1,8,10]⟩⟩)) τ7),oM 9 τ1,oD 10 (.conv .i64 τ9),oD 11 (.callF 55 [Xb9,(.const (.int .i64 4))]),oD 12 (.bin .add τ8 Xb5),oM 4 XcP]) .ret)
def fn30:VFn:=⟨13,XLD,[.tmp 4]⟩
def XKV:VC:=.seq (.reg [oD 3 (.box τ1),oD 4 (.mv (.const (.string ⟨⟨[]⟩⟩))),oD 5 (.mv (.const (.int .i64 0)))]) (.seq (.reg [oM 6 τ0,oD 7 (.mkFunc 33 [] [τ3]),oD 8 (.callF 32 [τ6,(.const (.int .i64 0)),τ7]),oE 9 0 τ8,oE 10 1 τ8,oM 4 τ9,oM 5 Xb9]) .ret)
def fn16:VFn:=⟨11,XKV,[.tmp 4,.tmp 5]⟩
def XIz:VC:=.seq (.reg [oD 2 (.box τ0),oD 3 (.mv (.const (.int .u32 0)))]) (.seq (.reg [oD 4 (.fieldA 11 τ2),oD 5 (.load1 (.int .u32) τ4),oD 6 (.load1 (.int .u16) τ1),oD 7 (.callF 34 [τ5,τ6]),oM 3 τ7]) .ret)
def fn33:VFn:=⟨8,XIz,[.tmp 3]⟩
def XG8:VC:=.seq (.reg [oD 4 (.mv (.const (.int .u32 0)))]) (.seq (.reg [oM 5 τ1,oD 6 (.conv .u32 τ5),oD 7 (.bin .shl τ6 (.const (.int .u64 16))),oM 8 τ0,oD 9 (.callF 37 [τ8]),oD 10 (.conv .u32 τ9),oD 11 (.bin .or τ7 Xb9),oM 4 Xb5]) .ret)
def fn34:VFn:=⟨12,XG8,[.tmp 4]⟩
def XLo:VC:=.seq (.reg [oD 2 (.mv (.const (.int .u16 0)))]) (.seq (.reg [oM 3 τ0,oD 4 (.conv .u16 τ3),oM 2 τ4]) .ret)
def fn37:VFn:=⟨5,XLo,[.tmp 2]⟩
def XHS:VC:=.regD [oM 48 τ0,oM 49 Xb9,oD 50 (.sliceS XiA (some Xiu) none),oM 51 Xdb,oD 52 (.bin .add (.const (.int .i64 20)) XiB),oM 53 τ1,oD 54 (.bin .add XjH XjR),oM 55 τ2,oD 56 (.loadN [(.int .i64),.bool,(.int .u64),(.int .u64),.bool,(.int .u64),(.int .u64),(.int .i64),(.int .i64),(.int .i64),.bool,(.int .u32),(.int .u32),.bool,.str,(.int .i64)] τ8),oD 57 (.callV Xk2 [Xlu]),oD 58 (.conv .u64 XkE),oD 59 (.callF 42 [Xk0,(.const (.int .i64 4))]),oD 60 (.callF 41 [XiC,Xk3,Xln,(.const (.int .i64 16))]),oM 47 Xl3,oE 61 0 XhQ,oE 62 1 XhQ,oM 16 Xl0] [] [oM 17 Xm6]
def XLi:VC:=.seq (.reg [oD 6 (.mv (.const (.string ⟨⟨[]⟩⟩))),oD 7 (.mv (.const (.int .i64 0)))]) (.seq (.reg [oM 19 τ0,oD 20 (.callF 22 [Xdx]),oM 18 Xd2,oE 21 0 XdK,oE 22 1 XdK,oD 8 (.alloc [(.int .i64 0),(.bool false),(.int .u64 0),(.int .u64 0),(.bool false),(.int .u64 0),(.int .u64 0),(.int .i64 0),(.int .i64 0),(.int .i64 0),(.bool false),(.int .u32 0),(.int .u32 0),(.bool false),(.string ⟨⟨[]⟩⟩),(.int .i64 0)]),oN (.store 16 τ8 Xd5),oM 9 Xej]) (.seq (.block 0 (.seq (.reg [oM 24 τ9,oD 25 (.bin .neq Xei (.const (.int .i64 0))),oM 23 XeM]) (.cond XeC (.seq (.reg [oM 26 τ9,oD 6 (.mv (.const (.string ⟨⟨[]⟩⟩))),oM 7 Xef]) .ret) (.seq (.reg [oD 28 (.fieldA 10 τ8),oD 29 (.load1 .bool XeD),oD 30 (.not XeN),oM 27 Xfh]) (.cond XeJ (.seq (.reg [oD 6 (.mv (.const (.string ⟨⟨[]⟩⟩))),oD 7 (.mv (.const (.int .i64 6)))]) .ret) .skip))))) (.seq (.reg [oM 32 τ0,oD 33 (.callF 38 [Xfl]),oM 31 Xfn,oE 34 0 Xe3,oE 35 1 Xe3,oE 36 2 Xe3,oM 10 Xfz,oM 11 Xfp,oM 12 XfI]) (.seq (.reg [oM 38 τ0,oM 39 Xb9,oD 40 (.bin .add XgF (.const (.int .i64 20))),oM 41 Xb5,oD 42 (.sliceS XgG (some Xhr) (some Xhg)),oD 43 (.callF 60 [Xhh]),oM 37 Xhm,oE 44 0 Xfo,oE 45 1 Xfo,oE 46 2 Xfo,oM 13 XhF,oM 14 XhB,oM 15 Xh6]) (.seq XHS (.seq (.seq (.reg [oM 63 Xdc,oD 64 (.not Xox)]) (.cond XoH (.seq (.reg [oD 6 (.mv (.const (.string ⟨⟨[]⟩⟩))),oD 7 (.mv (.const (.int .i64 3)))]) .ret) .skip)) (.seq (.reg [oM 65 τ0,oM 66 Xb9,oD 67 (.sliceS XoP none (some XpY)),oM 68 Xdh,oD 69 (.bin .add XoO XpR),oM 6 XpT,oD 7 (.mv (.const (.int .i64 0)))]) .ret)))))))
def fn32:VFn:=⟨70,XLi,[.tmp 6,.tmp 7]⟩
def XBb:VC:=.seq (.reg [oD 2 (.mv (.const (.int .i64 0))),oD 3 (.mv (.const (.int .i64 0))),oD 4 (.mv (.const (.int .i64 0)))]) (.seq (.reg [oM 10 τ0,oD 11 (.callF 46 [Xb9]),oM 9 Xb5,oE 12 0 τ9,oE 13 1 τ9,oE 14 2 τ9,oE 15 3 τ9,oD 5 (.alloc [(.int .i64 0),(.bool false),(.int .u64 0),(.int .u64 0),(.bool false),(.int .u64 0),(.int .u64 0),(.int .i64 0),(.int .i64 0),(.int .i64 0),(.bool false),(.int .u32 0),(.int .u32 0),(.bool false),(.string ⟨⟨[]⟩⟩),(.int .i64 0)]),oN (.store 16 τ5 XcP),oM 6 XcS,oM 7 Xde,oM 8 Xdb]) (.seq (.seq (.reg [oM 16 τ8,oD 17 (.bin .neq Xdh (.const (.int .i64 0)))]) (.cond Xdc (.seq (.reg [oM 18 τ8,oD 2 (.mv (.const (.int .i64 0))),oD 3 (.mv (.const (.int .i64 0))),oM 4 XdK]) .ret) .skip)) (.seq (.reg [oM 19 τ0,oD 20 (.lenS Xdx),oM 21 τ6,oD 22 (.bin .sub Xd2 Xd5),oM 23 τ0,oD 24 (.lenS XeC),oM 25 τ7,oD 26 (.bin .sub Xei XeM),oM 2 Xej,oM 3 Xef,oD 4 (.mv (.const (.int .i64 0)))]) .ret)))
def fn38:VFn:=⟨27,XBb,[.tmp 2,.tmp 3,.tmp 4]⟩
def XJT:VC:=.regD [oM 63 τ0,oM 64 τ1,oD 65 (.sliceS Xox none (some XoH)),oM 66 τ2,oD 67 (.bin .add XoP XpY),oM 68 τ0,oM 69 Xb9,oD 70 (.sliceS XpR (some XpT) none)] [] [oD 71 (.bin .add XoO Xrl),oM 11 Xrf]
def XBG:VC:=.seq (.reg [oD 8 (.mv (.const (.string ⟨⟨[]⟩⟩))),oD 9 (.mv (.const (.bool false)))]) (.seq (.reg [oM 17 τ1,oM 18 τ2,oD 19 (.lenS XdK),oD 20 (.bin .add Xdc Xdx),oM 10 Xd2]) (.seq (.block 0 (.seq (.reg [oM 22 τ1,oD 23 (.bin .lss Xej (.const (.int .i64 0))),oM 24 XeC,oG 25 (.mv τ0) 24 false,oG 26 (.lenS XeM) 24 false,oG 27 (.mv τ2) 24 false,oG 28 (.lenS XeJ) 24 false,oG 29 (.bin .sub Xef XeD) 24 false,oG 30 (.mv τ1) 24 false,oG 31 (.bin .lss XeN Xfh) 24 false,oD 32 (.pick Xei (.const (.bool true)) Xe3),oM 33 Xfl,oG 34 (.mv τ3) 33 false,oG 35 (.bin .lss Xfz (.const (.int .i64 0))) 33 false,oD 36 (.pick Xfn (.const (.bool true)) Xfp),oM 37 XfI,oG 38 (.mv τ3) 37 false,oG 39 (.bin .rem XgG (.const (.int .i64 2))) 37 false,oG 40 (.bin .eql XgF (.const (.int .i64 1))) 37 false,oD 41 (.pick Xfo (.const (.bool true)) Xhr),oM 42 Xhg,oG 43 (.mv τ0) 42 false,oG 44 (.lenS Xhm) 42 false,oG 45 (.bin .sub XhF (.const (.int .i64 2))) 42 false,oG 46 (.mv τ3) 42 false,oG 47 (.bin .lss XhB Xh6) 42 false,oD 48 (.pick Xhh (.const (.bool true)) XhQ),oM 21 XiA]) (.cond Xd5 (.seq (.reg [oD 8 (.mv (.const (.string ⟨⟨[]⟩⟩))),oD 9 (.mv (.const (.bool false)))]) .ret) (.seq (.reg [oM 50 τ2,oD 51 (.bin .eql XiC (.const (.string ⟨⟨[]⟩⟩))),oM 49 XiB]) (.cond Xiu (.seq (.reg [oM 52 τ0,oM 8 XjH,oD 9 (.mv (.const (.bool true)))]) .ret) (.seq (.reg [oM 54 τ1,oM 55 τ3,oD 56 (.bin .add Xk2 (.const (.int .i64 2))),oD 57 (.bin .lss Xk3 Xlu),oM 58 XkE,oG 59 (.mv τ3) 58 true,oG 60 (.mv Xb9) 58 true,oG 61 (.bin .lss Xln Xl3) 58 true,oD 62 (.pick Xk0 Xl0 (.const (.bool false))),oM 53 Xm6]) (.cond XjR (.seq (.reg [oD 8 (.mv (.const (.string ⟨⟨[]⟩⟩))),oD 9 (.mv (.const (.bool false)))]) .ret) .skip))))))) (.seq XJT (.seq (.reg [oM 72 τ1,oD 73 (.bin .andNot Xq4 (.const (.int .i64 1))),oM 74 Xb9,oD 75 (.bin .add Xv1 (.const (.int .i64 1))),oD 76 (.bin .andNot XtS (.const (.int .i64 1))),oM 12 Xsz,oM 13 Xws]) (.seq (.reg [oM 78 τ0,oM 79 τ3,oD 80 (.callF 40 [XwG,XxJ,(.const (.int .i64 2))]),oM 77 XwF,oE 81 0 XtD,oE 82 1 XtD,oM 14 Xx2,oM 15 XBY]) (.seq (.reg [oM 83 Xde,oD 84 (.conv .i64 XwA),oM 85 τ0,oM 86 XcP,oM 87 XcS,oD 88 (.callF 69 [XEO,XFb,XDJ]),oM 89 Xb5,oM 90 XcP,oM 91 XcS,oD 92 (.callF 69 [XAr,XGg,XCX]),oD 93 (.callF 68 [XBu,XDu,XC9]),oM 16 XC2]) (.seq (.reg [oM 94 Xb5,oM 95 τ3,oM 96 Xdh,oD 97 (.conv .u64 XDG),oD 98 (.callF 43 [XDh,XGm,(.const (.int .i64 2)),XGp]),oM 8 τ98,oD 9 (.mv (.const (.bool true)))]) .ret)))))))
def fn41:VFn:=⟨99,XBG,[.tmp 8,.tmp 9]⟩
def XKX:VC:=.seq (.reg [oD 6 (.mv (.const (.string ⟨⟨[]⟩⟩)))]) (.seq (.seq (.reg [oM 7 τ2,oM 8 τ0,oD 9 (.lenS τ8),oD 10 (.bin .gtr τ7 τ9)]) (.cond Xb9 (.seq (.reg [oM 11 τ0,oM 12 τ1,oD 13 (.sliceS Xb5 (some XcP) none),oD 14 (.bin .add XcS (.const (.string ⟨⟨[0]⟩⟩))),oM 6 Xde]) .ret) .skip)) (.seq (.reg [oM 15 τ0,oM 16 τ1,oM 17 τ2,oD 18 (.sliceS Xdb (some Xdh) (some Xdc)),oM 6 XdK]) .ret))
def fn69:VFn:=⟨19,XKX,[.tmp 6]⟩
def XKA:VC:=.reg [oM 8 XeM]
def XBj:VC:=.block 1 (.seq (.reg [oD 27 (.load1 .str τ5),oD 28 (.load1 (.int .i64) τ7),oD 29 (.callF 40 [XeJ,XeD,(.const (.int .i64 2))]),oM 26 XeN,oE 30 0 Xef,oE 31 1 Xef,oM 9 Xfh,oM 10 Xe3]) (.seq (.reg [oD 32 (.load1 (.int .i64) τ3),oM 33 τ8,oM 34 τ9,oD 35 (.conv .i64 Xfz),oD 36 (.callF 105 [Xfl,Xfn,Xfp]),oN (.store 1 τ3 XfI)]) (.reg [oD 37 (.load1 (.int .i64) τ7),oD 38 (.bin .add Xfo (.const (.int .i64 2))),oN (.store 1 τ7 XgG)])))
def XLq:VC:=.rangeF Xei [25] XKA XBj
def XB5:VC:=.seq (.reg [oD 39 (.load1 (.int .i64) τ3),oM 6 XgF]) .ret
def XBH:VC:=.seq (.reg [oD 3 (.box τ0),oD 5 (.box τ2),oD 6 (.mv (.const (.int .i64 0)))]) (.seq (.seq (.reg [oM 11 τ1,oD 12 (.lenS Xb5),oD 13 (.load1 .str τ5),oD 14 (.lenS XcS),oD 15 (.bin .neq XcP Xde),oM 16 Xdb,oG 17 (.mv τ1) 16 false,oG 18 (.lenS Xdc) 16 false,oG 19 (.bin .rem XdK (.const (.int .i64 2))) 16 false,oG 20 (.bin .gtr Xdx (.const (.int .i64 0))) 16 false,oD 21 (.pick Xdh (.const (.bool true)) Xd2)]) (.cond Xd5 (.seq (.reg [oD 22 (.load1 (.int .i64) τ3),oM 6 Xej]) .ret) .skip)) (.seq (.reg [oD 7 (.alloc [(.int .i64 0)]),oN (.store 1 τ7 (.const (.int .i64 0)))]) (.seq (.seq (.reg [oM 23 τ1,oD 24 (.callF 104 [XeC])]) (.block 0 XLq)) XB5)))
def fn68:VFn:=⟨40,XBH,[.tmp 6]⟩
def XB7:VC:=.seq (.reg [oD 6 (.mv (.const (.int .i64 0)))]) (.seq (.seq (.reg [oM 7 τ0,oM 8 τ1,oM 9 τ2,oD 10 (.buildSl 3 1 [(.int .i64 0),(.int .i64 0),(.int .i64 0)] [(0,1,τ7),(1,1,τ8),(2,1,τ9)]),oD 11 (.callF 127 [Xb9]),oD 12 (.not Xb5)]) (.cond XcP (.seq (.reg [oD 6 (.mv (.const (.int .i64 0)))]) .ret) .skip)) (.seq (.reg [oM 13 τ0,oD 14 (.bin .sub (.const (.int .i64 65535)) XcS),oD 15 (.bin .add Xde (.const (.int .i64 65535))),oM 16 τ1,oD 17 (.bin .sub Xdb Xdh),oM 18 τ2,oD 19 (.bin .add Xdc XdK),oD 20 (.callF 128 [Xdx]),oD 21 (.bin .sub (.const (.int .i64 65535)) Xd2),oM 6 Xd5]) .ret))
def XGI:VFn:=⟨22,XB7,[.tmp 6]⟩
def Xqp:VC:=.seq (.reg [oD 8 (.bin .lss τ7 τ6)]) (.seq (.cond τ8 .skip (.exit 0)) (.seq (.block 1 (.seq (.reg [oD 9 (.idxAL 1 τ5 τ7),oD 10 (.load1 (.int .i64) τ9),oM 4 Xb9]) (.seq (.reg [oM 11 τ4,oD 12 (.bin .lss Xb5 (.const (.int .i64 0))),oM 13 XcP,oG 14 (.mv τ4) 13 false,oG 15 (.bin .gtr Xde (.const (.int .i64 65535))) 13 false,oD 16 (.pick XcS (.const (.bool true)) Xdb)]) (.cond Xdh (.seq (.reg [oD 2 (.mv (.const (.bool false)))]) .ret) .skip)))) (.reg [oD 17 (.bin .add τ7 (.const (.int .i64 1))),oM 7 Xdc])))
def XtG:VC:=.seq (.reg [oD 2 (.mv (.const (.bool true)))]) .ret
def Xuo:VC:=.seq (.reg [oD 2 (.mv (.const (.bool false)))]) (.seq (.seq (.reg [oM 5 τ0,oD 6 (.lenL τ5),oD 7 (.mv (.const (.int .i64 0)))]) (.block 0 (.loop Xqp))) XtG)
def XGW:VFn:=⟨18,Xuo,[.tmp 2]⟩
def k17_6:VC:=.regD [oM 19 τ0,oM 20 τ6,oD 21 (.idxS Xdx Xd2),oM 22 τ1,oM 23 τ6,oD 24 (.idxS Xej XeC)] [] [oD 25 (.bin .neq Xd5 Xei)]
def XuZ:VC:=.seq (.seq (.reg [oM 7 τ6,oM 8 τ0,oD 9 (.lenS τ8),oD 10 (.bin .lss τ7 τ9),oM 11 Xb9,oG 12 (.mv τ6) 11 true,oG 13 (.mv τ1) 11 true,oG 14 (.lenS XcS) 11 true,oG 15 (.bin .lss XcP Xde) 11 true,oD 16 (.pick Xb5 Xdb (.const (.bool false)))]) (.cond Xdh .skip (.exit 0))) (.seq (.block 1 (.seq k17_6 (.cond XeM (.reg [oM 26 τ5,oD 27 (.bin .add Xef (.const (.int .i64 1))),oM 5 XeJ]) .skip))) (.reg [oM 17 τ6,oD 18 (.bin .add Xdc (.const (.int .i64 1))),oM 6 XdK]))
def XzR:VC:=.seq (.reg [oM 28 τ5,oM 4 XeD]) .ret
def XAh:VC:=.seq (.reg [oD 4 (.mv (.const (.int .i64 0)))]) (.seq (.reg [oD 5 (.mv (.const (.int .i64 0)))]) (.seq (.seq (.reg [oD 6 (.mv (.const (.int .i64 0)))]) (.block 0 (.loop XuZ))) XzR))
def fn17:VFn:=⟨29,XAh,[.tmp 4]⟩
def XKK:VC:=.seq (.reg [oD 3 (.box τ1),oD 4 (.mv (.const (.string ⟨⟨[]⟩⟩))),oD 5 (.mv (.const (.int .i64 0)))]) (.seq (.reg [oM 6 τ0,oD 7 (.mkFunc 35 [] [τ3]),oD 8 (.callF 32 [τ6,(.const (.int .i64 4)),τ7]),oE 9 0 τ8,oE 10 1 τ8,oM 4 τ9,oM 5 Xb9]) .ret)
def fn18:VFn:=⟨11,XKK,[.tmp 4,.tmp 5]⟩
def k35_1:VC:=.regD [oD 4 (.load1 (.int .u32) τ1),oD 5 (.fieldA 12 τ2),oD 6 (.load1 (.int .u32) τ5),oD 7 (.callF 37 [τ6])] [(0,3)] [oD 8 (.callF 36 [τ4,τ7]),oM 3 τ8]
def XHO:VC:=.seq (.reg [oD 2 (.box τ0),oD 3 (.mv (.const (.int .u32 0)))]) (.seq k35_1 .ret)
def fn35:VFn:=⟨9,XHO,[.tmp 3]⟩
def XKq:VC:=.seq (.reg [oD 4 (.mv (.const (.int .u32 0)))]) (.seq (.reg [oM 5 τ0,oM 6 τ0,oD 7 (.callF 37 [τ6]),oM 8 τ1,oD 9 (.bin .sub τ7 τ8),oD 10 (.conv .u32 τ9),oD 11 (.bin .sub τ5 Xb9),oM 4 Xb5]) .ret)
def fn36:VFn:=⟨12,XKq,[.tmp 4]⟩
def XK1:VC:=.regD [oM 66 τ0,oM 67 τ8,oD 68 (.sliceS XpY (some XoO) none),oD 69 (.fieldA 3 Xb5),oD 70 (.load1 .str XpT),oD 71 (.lenS Xrl),oD 72 (.bin .add (.const (.int .i64 15)) Xrf),oM 73 τ1,oD 74 (.callF 42 [Xsz,(.const (.int .i64 8))]),oD 75 (.callF 41 [XpR,Xq4,Xv1,(.const (.int .i64 6))]),oM 65 XtS,oE 76 0 XoP,oE 77 1 XoP,oM 14 Xws] [(4,8)] [oM 15 XtD]
def XJk:VC:=.regD [oM 91 τ0,oM 92 τ8,oD 93 (.sliceS XCX none (some XC9)),oM 94 Xde,oM 95 Xdh,oD 96 (.callF 43 [XDh,(.const (.int .i64 6)),(.const (.int .i64 2)),XGm])] [] [oD 97 (.bin .add XC2 XDG),oM 4 XGp,oD 5 (.mv (.const (.int .i64 0)))]
def XAu:VC:=.seq (.reg [oD 4 (.mv (.const (.string ⟨⟨[]⟩⟩))),oD 5 (.mv (.const (.int .i64 0)))]) (.seq (.reg [oM 19 τ0,oD 20 (.callF 22 [Xdx]),oM 18 Xd2,oE 21 0 XdK,oE 22 1 XdK,oD 6 (.alloc [(.int .i64 0),(.bool false),(.int .u64 0),(.int .u64 0),(.bool false),(.int .u64 0),(.int .u64 0),(.int .i64 0),(.int .i64 0),(.int .i64 0),(.bool false),(.int .u32 0),(.int .u32 0),(.bool false),(.string ⟨⟨[]⟩⟩),(.int .i64 0)]),oN (.store 16 τ6 Xd5),oM 7 Xej]) (.seq (.seq (.reg [oM 23 τ7,oD 24 (.bin .neq XeC (.const (.int .i64 0)))]) (.cond Xei (.seq (.reg [oM 25 τ7,oD 4 (.mv (.const (.string ⟨⟨[]⟩⟩))),oM 5 XeM]) .ret) .skip)) (.seq (.reg [oM 27 τ0,oD 28 (.callF 38 [XeJ]),oM 26 XeD,oE 29 0 Xef,oE 30 1 Xef,oE 31 2 Xef,oM 8 XeN,oM 9 Xfh,oM 10 Xe3]) (.seq (.reg [oM 33 τ0,oM 34 τ9,oD 35 (.sliceS Xfn (some Xfz) none),oD 36 (.callF 39 [Xfp]),oM 32 XfI,oE 37 0 Xfl,oE 38 1 Xfl,oD 11 (.alloc [(.bool false),(.int .i64 0),(.int .u32 0),(.string ⟨⟨[]⟩⟩),(.string ⟨⟨[]⟩⟩),(.string ⟨⟨[]⟩⟩)]),oN (.store 6 Xb5 Xfo),oM 7 XgG]) (.seq (.block 0 (.seq (.reg [oD 40 (.fieldA 0 τ6),oD 41 (.fieldA 0 Xhr),oD 42 (.load1 (.int .i64) Xhg),oD 43 (.bin .neq Xhh (.const (.int .i64 17))),oM 44 Xhm,oG 45 (.mv τ7) 44 false,oG 46 (.bin .neq XhB (.const (.int .i64 0))) 44 false,oD 47 (.pick XhF (.const (.bool true)) Xh6),oM 48 XhQ,oG 49 (.fieldA 0 Xb5) 48 false,oG 50 (.load1 .bool Xiu) 48 false,oG 51 (.not XiC) 48 false,oD 52 (.pick XiA (.const (.bool true)) XiB),oM 39 XjH]) (.cond XgF (.seq (.reg [oD 4 (.mv (.const (.string ⟨⟨[]⟩⟩))),oD 5 (.mv (.const (.int .i64 6)))]) .ret) (.seq (.reg [oD 54 (.fieldA 4 Xb5),oD 55 (.load1 .str Xk3),oD 56 (.lenS Xk2),oD 57 (.bin .neq Xlu (.const (.int .i64 8))),oM 53 XkE]) (.cond XjR (.seq (.reg [oD 4 (.mv (.const (.string ⟨⟨[]⟩⟩))),oD 5 (.mv (.const (.int .i64 3)))]) .ret) .skip))))) (.seq (.reg [oM 59 τ0,oM 60 τ8,oD 61 (.bin .add Xl3 (.const (.int .i64 6))),oD 62 (.callF 40 [Xln,Xl0,(.const (.int .i64 2))]),oM 58 Xm6,oE 63 0 Xk0,oE 64 1 Xk0,oM 12 Xox,oM 13 XoH]) (.seq XK1 (.seq (.seq (.reg [oM 78 Xdb,oD 79 (.not XwG)]) (.cond XxJ (.seq (.reg [oD 4 (.mv (.const (.string ⟨⟨[]⟩⟩))),oD 5 (.mv (.const (.int .i64 3)))]) .ret) .skip)) (.seq (.reg [oM 81 Xde,oD 82 (.callF 40 [Xx2,(.const (.int .i64 6)),(.const (.int .i64 2))]),oM 80 XBY,oE 83 0 XwF,oE 84 1 XwF,oM 16 XwA,oM 17 XBu]) (.seq (.block 1 (.seq (.reg [oM 86 XcP,oD 87 (.bin .eql XFb (.const (.int .u64 0))),oM 85 XDJ]) (.cond XEO (.reg [oD 16 (.mv (.const (.int .u64 0)))]) (.seq (.reg [oM 89 Xdh,oD 90 (.bin .eql XAr (.const (.int .u64 0))),oM 88 XGg]) (.cond XDu (.reg [oD 16 (.mv (.const (.int .u64 65535)))]) .skip))))) (.seq XJk .ret)))))))))))
def fn19:VFn:=⟨98,XAu,[.tmp 4,.tmp 5]⟩
def XLr:VC:=.seq (.reg [oD 2 (.mv (.const (.int .i64 0))),oD 3 (.mv (.const (.int .i64 0))),oD 4 (.mv (.const (.int .i64 0)))]) (.seq (.reg [oM 10 τ0,oD 11 (.callF 31 [Xb9]),oM 9 Xb5,oE 12 0 τ9,oE 13 1 τ9,oE 14 2 τ9,oE 15 3 τ9,oD 5 (.alloc [(.int .i64 0),(.bool false),(.int .u64 0),(.int .u64 0),(.bool false),(.int .u64 0),(.int .u64 0),(.int .i64 0),(.int .i64 0),(.int .i64 0),(.bool false),(.int .u32 0),(.int .u32 0),(.bool false),(.string ⟨⟨[]⟩⟩),(.int .i64 0)]),oN (.store 16 τ5 XcP),oM 6 XcS,oM 7 Xde,oM 8 Xdb]) (.seq (.reg [oM 16 τ6,oM 17 τ7,oM 18 τ8,oM 2 Xdh,oM 3 Xdc,oM 4 XdK]) .ret))
def fn20:VFn:=⟨19,XLr,[.tmp 2,.tmp 3,.tmp 4]⟩
theorem XDt:(Tryz.prog.funcs[57]?).bind (XaB Tryz.prog)=some fn57:=by kernel_rfl
theorem XET:(Tryz.prog.funcs[95]?).bind (XaB Tryz.prog)=some fn95:=by kernel_rfl
theorem XFl:(Tryz.prog.funcs[97]?).bind (XaB Tryz.prog)=some fn97:=by kernel_rfl
theorem XDH:(Tryz.prog.funcs[92]?).bind (XaB Tryz.prog)=some fn92:=by kernel_rfl
theorem XFi:(Tryz.prog.funcs[85]?).bind (XaB Tryz.prog)=some fn85:=by kernel_rfl
theorem XFU:(Tryz.prog.funcs[94]?).bind (XaB Tryz.prog)=some fn94:=by kernel_rfl
theorem Xxq:(Tryz.prog.funcs[101]?).bind (XaB Tryz.prog)=some XKa:=by kernel_rfl
theorem XFP:(Tryz.prog.funcs[58]?).bind (XaB Tryz.prog)=some fn58:=by kernel_rfl
theorem XCe:(Tryz.prog.funcs[59]?).bind (XaB Tryz.prog)=some fn59:=by kernel_rfl
theorem XC7:(Tryz.prog.funcs[21]?).bind (XaB Tryz.prog)=some fn21:=by kernel_rfl
theorem XDb:(Tryz.prog.funcs[45]?).bind (XaB Tryz.prog)=some fn45:=by kernel_rfl
theorem XGU:(Tryz.prog.funcs[9]?).bind (XaB Tryz.prog)=some fn9:=by kernel_rfl
theorem XEo:(Tryz.prog.funcs[26]?).bind (XaB Tryz.prog)=some fn26:=by kernel_rfl
theorem XFR:(Tryz.prog.funcs[27]?).bind (XaB Tryz.prog)=some fn27:=by kernel_rfl
theorem XDF:(Tryz.prog.funcs[50]?).bind (XaB Tryz.prog)=some fn50:=by kernel_rfl
theorem XCd:(Tryz.prog.funcs[83]?).bind (XaB Tryz.prog)=some fn83:=by kernel_rfl
theorem XFr:(Tryz.prog.funcs[84]?).bind (XaB Tryz.prog)=some fn84:=by kernel_rfl
theorem XEg:(Tryz.prog.funcs[86]?).bind (XaB Tryz.prog)=some fn86:=by kernel_rfl
theorem XFZ:(Tryz.prog.funcs[89]?).bind (XaB Tryz.prog)=some fn89:=by kernel_rfl
theorem XF1:(Tryz.prog.funcs[88]?).bind (XaB Tryz.prog)=some fn88:=by kernel_rfl
theorem XCO:(Tryz.prog.funcs[87]?).bind (XaB Tryz.prog)=some fn87:=by kernel_rfl
theorem XEN:(Tryz.prog.funcs[51]?).bind (XaB Tryz.prog)=some fn51:=by kernel_rfl
theorem XEd:(Tryz.prog.funcs[90]?).bind (XaB Tryz.prog)=some fn90:=by kernel_rfl
theorem Xy0:(Tryz.prog.funcs[118]?).bind (XaB Tryz.prog)=some XHg:=by kernel_rfl
theorem XGa:(Tryz.prog.funcs[91]?).bind (XaB Tryz.prog)=some fn91:=by kernel_rfl
theorem XFH:(Tryz.prog.funcs[52]?).bind (XaB Tryz.prog)=some fn52:=by kernel_rfl
theorem XDo:(Tryz.prog.funcs[93]?).bind (XaB Tryz.prog)=some fn93:=by kernel_rfl
theorem Xxh:(Tryz.prog.funcs[119]?).bind (XaB Tryz.prog)=some XJF:=by kernel_rfl
theorem XyE:(Tryz.prog.funcs[120]?).bind (XaB Tryz.prog)=some XI0:=by kernel_rfl
theorem XCE:(Tryz.prog.funcs[13]?).bind (XaB Tryz.prog)=some fn13:=by kernel_rfl
theorem XIy:(Tryz.prog.funcs[4]?).bind (XaB Tryz.prog)=some fn4:=by kernel_rfl
theorem XEF:(Tryz.prog.funcs[14]?).bind (XaB Tryz.prog)=some fn14:=by kernel_rfl
theorem XE3:(Tryz.prog.funcs[29]?).bind (XaB Tryz.prog)=some fn29:=by kernel_rfl
theorem XER:(Tryz.prog.funcs[53]?).bind (XaB Tryz.prog)=some fn53:=by kernel_rfl
theorem XF0:(Tryz.prog.funcs[96]?).bind (XaB Tryz.prog)=some fn96:=by kernel_rfl
theorem Xyc:(Tryz.prog.funcs[121]?).bind (XaB Tryz.prog)=some XJV:=by kernel_rfl
theorem XEe:(Tryz.prog.funcs[55]?).bind (XaB Tryz.prog)=some fn55:=by kernel_rfl
theorem XGe:(Tryz.prog.funcs[54]?).bind (XaB Tryz.prog)=some fn54:=by kernel_rfl
theorem XFu:(Tryz.prog.funcs[30]?).bind (XaB Tryz.prog)=some fn30:=by kernel_rfl
theorem XFS:(Tryz.prog.funcs[16]?).bind (XaB Tryz.prog)=some fn16:=by kernel_rfl
theorem XDj:(Tryz.prog.funcs[33]?).bind (XaB Tryz.prog)=some fn33:=by kernel_rfl
theorem XEs:(Tryz.prog.funcs[34]?).bind (XaB Tryz.prog)=some fn34:=by kernel_rfl
theorem XFD:(Tryz.prog.funcs[37]?).bind (XaB Tryz.prog)=some fn37:=by kernel_rfl
theorem XEa:(Tryz.prog.funcs[32]?).bind (XaB Tryz.prog)=some fn32:=by kernel_rfl
theorem XCF:(Tryz.prog.funcs[38]?).bind (XaB Tryz.prog)=some fn38:=by kernel_rfl
theorem XEP:(Tryz.prog.funcs[41]?).bind (XaB Tryz.prog)=some fn41:=by kernel_rfl
theorem XF6:(Tryz.prog.funcs[69]?).bind (XaB Tryz.prog)=some fn69:=by kernel_rfl
theorem XEf:(Tryz.prog.funcs[68]?).bind (XaB Tryz.prog)=some fn68:=by kernel_rfl
theorem XyF:(Tryz.prog.funcs[105]?).bind (XaB Tryz.prog)=some XGI:=by kernel_rfl
theorem Xzi:(Tryz.prog.funcs[127]?).bind (XaB Tryz.prog)=some XGW:=by kernel_rfl
theorem XEl:(Tryz.prog.funcs[17]?).bind (XaB Tryz.prog)=some fn17:=by kernel_rfl
theorem XC6:(Tryz.prog.funcs[18]?).bind (XaB Tryz.prog)=some fn18:=by kernel_rfl
theorem XFI:(Tryz.prog.funcs[35]?).bind (XaB Tryz.prog)=some fn35:=by kernel_rfl
theorem XFx:(Tryz.prog.funcs[36]?).bind (XaB Tryz.prog)=some fn36:=by kernel_rfl
theorem XDC:(Tryz.prog.funcs[19]?).bind (XaB Tryz.prog)=some fn19:=by kernel_rfl
theorem XEi:(Tryz.prog.funcs[20]?).bind (XaB Tryz.prog)=some fn20:=by kernel_rfl
def tab:List (Nat×VFn):=[(3,fn3),(5,fn5),(8,fn8),(23,fn23),(28,fn28),(24,fn24),(11,fn11),(12,fn12),(10,fn10),(6,fn6),(22,fn22),(46,fn46),(71,fn71),(106,XIW),(129,XGO),(61,fn61),(62,fn62),(64,fn64),(63,fn63),(40,fn40),(131,XH6),(112,XIM),(104,XHF),(126,XI6),(128,XIn),(134,XJG),(135,XH3),(130,XKn),(72,fn72),(107,XJ6),(109,XKF),(113,XHr),(80,fn80),(42,fn42),(82,fn82),(116,XHH),(133,XHD),(117,XHE),(132,XKY),(102,XLv),(103,XKL),(125,XG9),(60,fn60),(73,fn73),(108,XIY),(39,fn39),(65,fn65),(66,fn66),(67,fn67),(25,fn25),(47,fn47),(74,fn74),(75,fn75),(110,XJH),(111,XLC),(76,fn76),(77,fn77),(78,fn78),(43,fn43),(48,fn48),(79,fn79),(49,fn49),(81,fn81),(114,XLw),(115,XLn),(7,fn7),(15,fn15),(31,fn31),(56,fn56),(98,fn98),(44,fn44),(70,fn70),(100,XGV),(124,XHU),(123,XKm),(122,XJc),(99,fn99),(57,fn57),(95,fn95),(97,fn97),(92,fn92),(85,fn85),(94,fn94),(101,XKa),(58,fn58),(59,fn59),(21,fn21),(45,fn45),(9,fn9),(26,fn26),(27,fn27),(50,fn50),(83,fn83),(84,fn84),(86,fn86),(89,fn89),(88,fn88),(87,fn87),(51,fn51),(90,fn90),(118,XHg),(91,fn91),(52,fn52),(93,fn93),(119,XJF),(120,XI0),(13,fn13),(4,fn4),(14,fn14),(29,fn29),(53,fn53),(96,fn96),(121,XJV),(55,fn55),(54,fn54),(30,fn30),(16,fn16),(33,fn33),(34,fn34),(37,fn37),(32,fn32),(38,fn38),(41,fn41),(69,fn69),(68,fn68),(105,XGI),(127,XGW),(17,fn17),(18,fn18),(35,fn35),(36,fn36),(19,fn19),(20,fn20)]
theorem Xan:XiF Tryz.prog (Xav tab):=XiF.Xa0 ⟨XHI,XKs,XIS,XGl,XED,XD5,XF4,XDg,XCm,XKh,XE5,XGb,XDc,Xxy,XwZ,XEr,XE2,XEQ,XCv,XE8,Xy5,Xx4,Xxk,XxP,Xx3,XxV,Xyd,XyM,XEZ,Xze,XyN,XyG,XFe,XCx,XCJ,Xx0,XyC,XxD,XyX,XxU,Xw8,Xxl,XDz,XFC,Xw7,XDI,XFf,XFW,XCf,XEG,XEV,XEp,XEc,XxC,Xxt,XDw,XDq,XDV,XDE,XDs,XES,XCP,XC5,Xzg,XwV,XJj,XDZ,XCW,XGh,XDS,XE1,XEt,XwT,Xxs,XxT,XyW,XEL,XDt,XET,XFl,XDH,XFi,XFU,Xxq,XFP,XCe,XC7,XDb,XGU,XEo,XFR,XDF,XCd,XFr,XEg,XFZ,XF1,XCO,XEN,XEd,Xy0,XGa,XFH,XDo,Xxh,XyE,XCE,XIy,XEF,XE3,XER,XF0,Xyc,XEe,XGe,XFu,XFS,XDj,XEs,XFD,XEa,XCF,XEP,XF6,XEf,XyF,Xzi,XEl,XC6,XFI,XFx,XDC,XEi,trivial⟩
end Go.Vm.Code
namespace Go.Vm.Code
open Go Go.Vm Go.Proofs
set_option maxRecDepth 100000
set_option maxHeartbeats 4000000
set_option linter.unusedVariables false
@[ext] structure Xab where
 V6:Bool
 Hi:Int
 Lo:Int
 deriving DecidableEq
@[ext] structure XaA where
 Proto:Int
 Src:Xab
 Dst:Xab
 SPort:Int
 DPort:Int
 deriving DecidableEq
@[ext] structure Xae where
 Tuple:XaA
 Flags:Int
 Stamped:Bool
 Val:Int
 Echo:Int
 Long:Bool
 CID:List UInt8
 Size:Int
 deriving DecidableEq
@[ext] structure Xap where
 src:Xab
 dst:Xab
 proto:Int
 body:List UInt8
 deriving DecidableEq
@[ext] structure Xak where
 Class:Int
 Mark:Int
 Whole:Bool
 TTL:Int
 Proto:Int
 Src:Xab
 Dst:Xab
 Options:List UInt8
 deriving DecidableEq
@[ext] structure Xaa where
 s:List UInt8
 made:Bool
 bad:Bool
 deriving DecidableEq
@[ext] structure Xbn where
 Reader:Xaa
 deriving DecidableEq
@[ext] structure Xao where
 Class:Int
 Label:Int
 Next:Int
 Hop:Int
 Src:Xab
 Dst:Xab
 deriving DecidableEq
@[ext] structure Xas where
 SPort:Int
 DPort:Int
 Seq:Int
 Ack:Int
 Flags:Int
 Window:Int
 Urgent:Int
 Options:List UInt8
 deriving DecidableEq
@[ext] structure XbJ where
 Kind:Int
 Data:List UInt8
 deriving DecidableEq
@[ext] structure XaV where
 SPort:Int
 DPort:Int
 deriving DecidableEq
@[ext] structure XaI where
 Long:Bool
 Bits:Int
 Version:Int
 DCID:List UInt8
 SCID:List UInt8
 Rest:List UInt8
 deriving DecidableEq
@[ext] structure Xey where
 Kind:Int
 Code:Int
 MTU:Int
 Quote:List UInt8
 deriving DecidableEq
@[ext] structure XfC where
 e0:Int
 e1:Int
 deriving DecidableEq
@[ext] structure XdS where
 e0:XfC
 e1:XfC
 e2:XfC
 e3:XfC
 deriving DecidableEq
@[ext] structure XbB where
 msg:List UInt8
 addr:Int
 deriving DecidableEq
@[ext] structure Xb7 where
 src:Xab
 dst:Xab
 proto:Int
 size:Int
 body:List UInt8
 deriving DecidableEq
@[ext] structure XbA where
 Kind:Int
 Data:List UInt8
 At:Int
 deriving DecidableEq
def Xeu (x:Xab):List Value:=[.bool x.V6,.int .u64 x.Hi,.int .u64 x.Lo]
theorem Xih (x:Xab):(Xeu x).length=3:=rfl
theorem Xgk (x:Xab):Xbt.flatL (Xeu x)=true:=rfl
theorem Xdt (x:Xab):(Xeu x).all Xf8=true:=rfl
@[simp] theorem Xwt (xs:List Xab):(vT Xeu xs).length=xs.length*3:=XfL Xih xs
@[simp] theorem XwH (xs:List Xab) (n:Nat):(vT Xeu xs).take (n*3)=vT Xeu (xs.take n):=Xem Xih xs n
@[simp] theorem XwE (xs:List Xab) (n:Nat):(vT Xeu xs).drop (n*3)=vT Xeu (xs.drop n):=Xeo Xih xs n
def Xlt:List Value→Option Xab
 | [.bool a1,.int .u64 a2,.int .u64 a3]=>some (Xab.mk a1 a2 a3)
 | _=>none
theorem Xon (cs:List Value) (x:Xab) (h:Xlt cs=some x):cs=Xeu x:=by
 unfold Xlt at h;split at h
 ·cases h;rfl
 ·cases h
def XbN:Value→Option Xab
 | .agg ⟨cs⟩=>Xlt cs
 | _=>none
theorem Xbr (v:Value) (x:Xab) (h:XbN v=some x):v=.agg ⟨Xeu x⟩:=by
 unfold XbN at h;split at h
 ·rw [Xon _ _ h]
 ·cases h
theorem XbC (x:Xab):XbN (.agg ⟨Xeu x⟩)=some x:=rfl
def XdG (x:XaA):List Value:=[.int .i64 x.Proto,.bool x.Src.V6,.int .u64 x.Src.Hi,.int .u64 x.Src.Lo,.bool x.Dst.V6,.int .u64 x.Dst.Hi,.int .u64 x.Dst.Lo,.int .i64 x.SPort,.int .i64 x.DPort]
theorem Xhy (x:XaA):(XdG x).length=9:=rfl
theorem Xfw (x:XaA):Xbt.flatL (XdG x)=true:=rfl
theorem XcY (x:XaA):(XdG x).all Xf8=true:=rfl
@[simp] theorem Xu2 (xs:List XaA):(vT XdG xs).length=xs.length*9:=XfL Xhy xs
@[simp] theorem XtI (xs:List XaA) (n:Nat):(vT XdG xs).take (n*9)=vT XdG (xs.take n):=Xem Xhy xs n
@[simp] theorem Xuj (xs:List XaA) (n:Nat):(vT XdG xs).drop (n*9)=vT XdG (xs.drop n):=Xeo Xhy xs n
def Xj7:List Value→Option XaA
 | [.int .i64 a1,.bool a2,.int .u64 a3,.int .u64 a4,.bool a5,.int .u64 a6,.int .u64 a7,.int .i64 a8,.int .i64 a9]=>some (XaA.mk a1 (Xab.mk a2 a3 a4) (Xab.mk a5 a6 a7) a8 a9)
 | _=>none
theorem Xm9 (cs:List Value) (x:XaA) (h:Xj7 cs=some x):cs=XdG x:=by
 unfold Xj7 at h;split at h
 ·cases h;rfl
 ·cases h
def Xg6:Value→Option XaA
 | .agg ⟨cs⟩=>Xj7 cs
 | _=>none
theorem XjQ (v:Value) (x:XaA) (h:Xg6 v=some x):v=.agg ⟨XdG x⟩:=by
 unfold Xg6 at h;split at h
 ·rw [Xm9 _ _ h]
 ·cases h
theorem Xkp (x:XaA):Xg6 (.agg ⟨XdG x⟩)=some x:=rfl
def XcT (x:Xae):List Value:=[.int .i64 x.Tuple.Proto,.bool x.Tuple.Src.V6,.int .u64 x.Tuple.Src.Hi,.int .u64 x.Tuple.Src.Lo,.bool x.Tuple.Dst.V6,.int .u64 x.Tuple.Dst.Hi,.int .u64 x.Tuple.Dst.Lo,.int .i64 x.Tuple.SPort,.int .i64 x.Tuple.DPort,.int .i64 x.Flags,.bool x.Stamped,.int .u32 x.Val,.int .u32 x.Echo,.bool x.Long,.string ⟨⟨x.CID⟩⟩,.int .i64 x.Size]
theorem Xha (x:Xae):(XcT x).length=16:=rfl
theorem XeT (x:Xae):Xbt.flatL (XcT x)=true:=rfl
theorem XcO (x:Xae):(XcT x).all Xf8=true:=rfl
@[simp] theorem Xs7 (xs:List Xae):(vT XcT xs).length=xs.length*16:=XfL Xha xs
@[simp] theorem Xs9 (xs:List Xae) (n:Nat):(vT XcT xs).take (n*16)=vT XcT (xs.take n):=Xem Xha xs n
@[simp] theorem Xtd (xs:List Xae) (n:Nat):(vT XcT xs).drop (n*16)=vT XcT (xs.drop n):=Xeo Xha xs n
def XeZ:List Value→Option Xae
 | [.int .i64 a1,.bool a2,.int .u64 a3,.int .u64 a4,.bool a5,.int .u64 a6,.int .u64 a7,.int .i64 a8,.int .i64 a9,.int .i64 a10,.bool a11,.int .u32 a12,.int .u32 a13,.bool a14,.string ⟨⟨a15⟩⟩,.int .i64 a16]=>some (Xae.mk (XaA.mk a1 (Xab.mk a2 a3 a4) (Xab.mk a5 a6 a7) a8 a9) a10 a11 a12 a13 a14 a15 a16)
 | _=>none
theorem Xg4 (cs:List Value) (x:Xae) (h:XeZ cs=some x):cs=XcT x:=by
 unfold XeZ at h;split at h
 ·cases h;rfl
 ·cases h
theorem XjP (x:Xae):XeZ (XcT x)=some x:=rfl
def Xgw:Value→Option Xae
 | .agg ⟨cs⟩=>XeZ cs
 | _=>none
theorem XiY (v:Value) (x:Xae) (h:Xgw v=some x):v=.agg ⟨XcT x⟩:=by
 unfold Xgw at h;split at h
 ·rw [Xg4 _ _ h]
 ·cases h
theorem XjM (x:Xae):Xgw (.agg ⟨XcT x⟩)=some x:=rfl
def Xco (x:Xap):List Value:=[.bool x.src.V6,.int .u64 x.src.Hi,.int .u64 x.src.Lo,.bool x.dst.V6,.int .u64 x.dst.Hi,.int .u64 x.dst.Lo,.int .i64 x.proto,.string ⟨⟨x.body⟩⟩]
theorem Xf3 (x:Xap):(Xco x).length=8:=rfl
theorem Xeb (x:Xap):Xbt.flatL (Xco x)=true:=rfl
theorem Xcg (x:Xap):(Xco x).all Xf8=true:=rfl
@[simp] theorem Xr4 (xs:List Xap):(vT Xco xs).length=xs.length*8:=XfL Xf3 xs
@[simp] theorem XrH (xs:List Xap) (n:Nat):(vT Xco xs).take (n*8)=vT Xco (xs.take n):=Xem Xf3 xs n
@[simp] theorem XrV (xs:List Xap) (n:Nat):(vT Xco xs).drop (n*8)=vT Xco (xs.drop n):=Xeo Xf3 xs n
def Xhs:List Value→Option Xap
 | [.bool a1,.int .u64 a2,.int .u64 a3,.bool a4,.int .u64 a5,.int .u64 a6,.int .i64 a7,.string ⟨⟨a8⟩⟩]=>some (Xap.mk (Xab.mk a1 a2 a3) (Xab.mk a4 a5 a6) a7 a8)
 | _=>none
theorem Xlh (cs:List Value) (x:Xap) (h:Xhs cs=some x):cs=Xco x:=by
 unfold Xhs at h;split at h
 ·cases h;rfl
 ·cases h
def XeP:Value→Option Xap
 | .agg ⟨cs⟩=>Xhs cs
 | _=>none
theorem XhU (v:Value) (x:Xap) (h:XeP v=some x):v=.agg ⟨Xco x⟩:=by
 unfold XeP at h;split at h
 ·rw [Xlh _ _ h]
 ·cases h
theorem Xiv (x:Xap):XeP (.agg ⟨Xco x⟩)=some x:=rfl
def XcG (x:Xak):List Value:=[.int .i64 x.Class,.int .i64 x.Mark,.bool x.Whole,.int .i64 x.TTL,.int .i64 x.Proto,.bool x.Src.V6,.int .u64 x.Src.Hi,.int .u64 x.Src.Lo,.bool x.Dst.V6,.int .u64 x.Dst.Hi,.int .u64 x.Dst.Lo,.string ⟨⟨x.Options⟩⟩]
theorem Xgz (x:Xak):(XcG x).length=12:=rfl
theorem XeH (x:Xak):Xbt.flatL (XcG x)=true:=rfl
theorem Xcx (x:Xak):(XcG x).all Xf8=true:=rfl
@[simp] theorem Xsd (xs:List Xak):(vT XcG xs).length=xs.length*12:=XfL Xgz xs
@[simp] theorem Xsp (xs:List Xak) (n:Nat):(vT XcG xs).take (n*12)=vT XcG (xs.take n):=Xem Xgz xs n
@[simp] theorem Xsh (xs:List Xak) (n:Nat):(vT XcG xs).drop (n*12)=vT XcG (xs.drop n):=Xeo Xgz xs n
def Xig:List Value→Option Xak
 | [.int .i64 a1,.int .i64 a2,.bool a3,.int .i64 a4,.int .i64 a5,.bool a6,.int .u64 a7,.int .u64 a8,.bool a9,.int .u64 a10,.int .u64 a11,.string ⟨⟨a12⟩⟩]=>some (Xak.mk a1 a2 a3 a4 a5 (Xab.mk a6 a7 a8) (Xab.mk a9 a10 a11) a12)
 | _=>none
theorem XlR (cs:List Value) (x:Xak) (h:Xig cs=some x):cs=XcG x:=by
 unfold Xig at h;split at h
 ·cases h;rfl
 ·cases h
def XfD:Value→Option Xak
 | .agg ⟨cs⟩=>Xig cs
 | _=>none
theorem Xiw (v:Value) (x:Xak) (h:XfD v=some x):v=.agg ⟨XcG x⟩:=by
 unfold XfD at h;split at h
 ·rw [XlR _ _ h]
 ·cases h
theorem Xi6 (x:Xak):XfD (.agg ⟨XcG x⟩)=some x:=rfl
def XcD (x:Xaa):List Value:=[.string ⟨⟨x.s⟩⟩,.bool x.made,.bool x.bad]
theorem XfS (x:Xaa):(XcD x).length=3:=rfl
theorem Xd9 (x:Xaa):Xbt.flatL (XcD x)=true:=rfl
theorem Xch (x:Xaa):(XcD x).all Xf8=true:=rfl
@[simp] theorem Xr0 (xs:List Xaa):(vT XcD xs).length=xs.length*3:=XfL XfS xs
@[simp] theorem Xry (xs:List Xaa) (n:Nat):(vT XcD xs).take (n*3)=vT XcD (xs.take n):=Xem XfS xs n
@[simp] theorem XrM (xs:List Xaa) (n:Nat):(vT XcD xs).drop (n*3)=vT XcD (xs.drop n):=Xeo XfS xs n
def XcE:List Value→Option Xaa
 | [.string ⟨⟨a1⟩⟩,.bool a2,.bool a3]=>some (Xaa.mk a1 a2 a3)
 | _=>none
theorem Xc2 (cs:List Value) (x:Xaa) (h:XcE cs=some x):cs=XcD x:=by
 unfold XcE at h;split at h
 ·cases h;rfl
 ·cases h
theorem XdU (x:Xaa):XcE (XcD x)=some x:=rfl
def Xc4 (x:Xao):List Value:=[.int .i64 x.Class,.int .i64 x.Label,.int .i64 x.Next,.int .i64 x.Hop,.bool x.Src.V6,.int .u64 x.Src.Hi,.int .u64 x.Src.Lo,.bool x.Dst.V6,.int .u64 x.Dst.Hi,.int .u64 x.Dst.Lo]
theorem Xg0 (x:Xao):(Xc4 x).length=10:=rfl
theorem XeS (x:Xao):Xbt.flatL (Xc4 x)=true:=rfl
theorem XcN (x:Xao):(Xc4 x).all Xf8=true:=rfl
@[simp] theorem Xta (xs:List Xao):(vT Xc4 xs).length=xs.length*10:=XfL Xg0 xs
@[simp] theorem Xs5 (xs:List Xao) (n:Nat):(vT Xc4 xs).take (n*10)=vT Xc4 (xs.take n):=Xem Xg0 xs n
@[simp] theorem Xtc (xs:List Xao) (n:Nat):(vT Xc4 xs).drop (n*10)=vT Xc4 (xs.drop n):=Xeo Xg0 xs n
def Xi2:List Value→Option Xao
 | [.int .i64 a1,.int .i64 a2,.int .i64 a3,.int .i64 a4,.bool a5,.int .u64 a6,.int .u64 a7,.bool a8,.int .u64 a9,.int .u64 a10]=>some (Xao.mk a1 a2 a3 a4 (Xab.mk a5 a6 a7) (Xab.mk a8 a9 a10))
 | _=>none
theorem Xmr (cs:List Value) (x:Xao) (h:Xi2 cs=some x):cs=Xc4 x:=by
 unfold Xi2 at h;split at h
 ·cases h;rfl
 ·cases h
def Xgl:Value→Option Xao
 | .agg ⟨cs⟩=>Xi2 cs
 | _=>none
theorem Xi3 (v:Value) (x:Xao) (h:Xgl v=some x):v=.agg ⟨Xc4 x⟩:=by
 unfold Xgl at h;split at h
 ·rw [Xmr _ _ h]
 ·cases h
theorem XjU (x:Xao):Xgl (.agg ⟨Xc4 x⟩)=some x:=rfl
def Xeq (x:Xas):List Value:=[.int .i64 x.SPort,.int .i64 x.DPort,.int .u32 x.Seq,.int .u32 x.Ack,.int .i64 x.Flags,.int .i64 x.Window,.int .i64 x.Urgent,.string ⟨⟨x.Options⟩⟩]
theorem Xif (x:Xas):(Xeq x).length=8:=rfl
theorem Xgh (x:Xas):Xbt.flatL (Xeq x)=true:=rfl
theorem Xdm (x:Xas):(Xeq x).all Xf8=true:=rfl
@[simp] theorem Xwq (xs:List Xas):(vT Xeq xs).length=xs.length*8:=XfL Xif xs
@[simp] theorem Xww (xs:List Xas) (n:Nat):(vT Xeq xs).take (n*8)=vT Xeq (xs.take n):=Xem Xif xs n
@[simp] theorem XwD (xs:List Xas) (n:Nat):(vT Xeq xs).drop (n*8)=vT Xeq (xs.drop n):=Xeo Xif xs n
def Xlb:List Value→Option Xas
 | [.int .i64 a1,.int .i64 a2,.int .u32 a3,.int .u32 a4,.int .i64 a5,.int .i64 a6,.int .i64 a7,.string ⟨⟨a8⟩⟩]=>some (Xas.mk a1 a2 a3 a4 a5 a6 a7 a8)
 | _=>none
theorem Xoc (cs:List Value) (x:Xas) (h:Xlb cs=some x):cs=Xeq x:=by
 unfold Xlb at h;split at h
 ·cases h;rfl
 ·cases h
def XhT:Value→Option Xas
 | .agg ⟨cs⟩=>Xlb cs
 | _=>none
theorem Xkw (v:Value) (x:Xas) (h:XhT v=some x):v=.agg ⟨Xeq x⟩:=by
 unfold XhT at h;split at h
 ·rw [Xoc _ _ h]
 ·cases h
theorem XlK (x:Xas):XhT (.agg ⟨Xeq x⟩)=some x:=rfl
def Xgf (x:XbJ):List Value:=[.int .i64 x.Kind,.string ⟨⟨x.Data⟩⟩]
theorem Xhq (x:XbJ):(Xgf x).length=2:=rfl
theorem Xb6 (x:XbJ):Xbt.flatL (Xgf x)=true:=rfl
theorem XdN (x:XbJ):(Xgf x).all Xf8=true:=rfl
@[simp] theorem Xxz (xs:List XbJ):(vT Xgf xs).length=xs.length*2:=XfL Xhq xs
@[simp] theorem Xzb (xs:List XbJ) (n:Nat):(vT Xgf xs).take (n*2)=vT Xgf (xs.take n):=Xem Xhq xs n
@[simp] theorem Xy4 (xs:List XbJ) (n:Nat):(vT Xgf xs).drop (n*2)=vT Xgf (xs.drop n):=Xeo Xhq xs n
def Xgo (x:XaV):List Value:=[.int .i64 x.SPort,.int .i64 x.DPort]
theorem Xie (x:XaV):(Xgo x).length=2:=rfl
theorem Xgi (x:XaV):Xbt.flatL (Xgo x)=true:=rfl
theorem Xdl (x:XaV):(Xgo x).all Xf8=true:=rfl
@[simp] theorem Xwp (xs:List XaV):(vT Xgo xs).length=xs.length*2:=XfL Xie xs
@[simp] theorem Xwx (xs:List XaV) (n:Nat):(vT Xgo xs).take (n*2)=vT Xgo (xs.take n):=Xem Xie xs n
@[simp] theorem XwB (xs:List XaV) (n:Nat):(vT Xgo xs).drop (n*2)=vT Xgo (xs.drop n):=Xeo Xie xs n
def Xfb (x:XaI):List Value:=[.bool x.Long,.int .i64 x.Bits,.int .u32 x.Version,.string ⟨⟨x.DCID⟩⟩,.string ⟨⟨x.SCID⟩⟩,.string ⟨⟨x.Rest⟩⟩]
theorem XhA (x:XaI):(Xfb x).length=6:=rfl
theorem Xfq (x:XaI):Xbt.flatL (Xfb x)=true:=rfl
theorem XcZ (x:XaI):(Xfb x).all Xf8=true:=rfl
@[simp] theorem XvZ (xs:List XaI):(vT Xfb xs).length=xs.length*6:=XfL XhA xs
@[simp] theorem XuK (xs:List XaI) (n:Nat):(vT Xfb xs).take (n*6)=vT Xfb (xs.take n):=Xem XhA xs n
@[simp] theorem Xwk (xs:List XaI) (n:Nat):(vT Xfb xs).drop (n*6)=vT Xfb (xs.drop n):=Xeo XhA xs n
def Xdv (x:Xey):List Value:=[.int .i64 x.Kind,.int .i64 x.Code,.int .i64 x.MTU,.string ⟨⟨x.Quote⟩⟩]
theorem XfQ (x:Xey):(Xdv x).length=4:=rfl
theorem Xd8 (x:Xey):Xbt.flatL (Xdv x)=true:=rfl
theorem Xce (x:Xey):(Xdv x).all Xf8=true:=rfl
@[simp] theorem Xrc (xs:List Xey):(vT Xdv xs).length=xs.length*4:=XfL XfQ xs
@[simp] theorem Xra (xs:List Xey) (n:Nat):(vT Xdv xs).take (n*4)=vT Xdv (xs.take n):=Xem XfQ xs n
@[simp] theorem XrS (xs:List Xey) (n:Nat):(vT Xdv xs).drop (n*4)=vT Xdv (xs.drop n):=Xeo XfQ xs n
def Xgn (x:XfC):List Value:=[.int .i64 x.e0,.int .i64 x.e1]
theorem Xir (x:XfC):(Xgn x).length=2:=rfl
theorem Xgd (x:XfC):Xbt.flatL (Xgn x)=true:=rfl
theorem Xdu (x:XfC):(Xgn x).all Xf8=true:=rfl
@[simp] theorem XwJ (xs:List XfC):(vT Xgn xs).length=xs.length*2:=XfL Xir xs
@[simp] theorem Xwu (xs:List XfC) (n:Nat):(vT Xgn xs).take (n*2)=vT Xgn (xs.take n):=Xem Xir xs n
@[simp] theorem XwI (xs:List XfC) (n:Nat):(vT Xgn xs).drop (n*2)=vT Xgn (xs.drop n):=Xeo Xir xs n
def XcX (x:XdS):List Value:=[.int .i64 x.e0.e0,.int .i64 x.e0.e1,.int .i64 x.e1.e0,.int .i64 x.e1.e1,.int .i64 x.e2.e0,.int .i64 x.e2.e1,.int .i64 x.e3.e0,.int .i64 x.e3.e1]
theorem Xfx (x:XdS):(XcX x).length=8:=rfl
theorem XdR (x:XdS):Xbt.flatL (XcX x)=true:=rfl
theorem Xb1 (x:XdS):(XcX x).all Xf8=true:=rfl
@[simp] theorem XqL (xs:List XdS):(vT XcX xs).length=xs.length*8:=XfL Xfx xs
@[simp] theorem Xp1 (xs:List XdS) (n:Nat):(vT XcX xs).take (n*8)=vT XcX (xs.take n):=Xem Xfx xs n
@[simp] theorem XqT (xs:List XdS) (n:Nat):(vT XcX xs).drop (n*8)=vT XcX (xs.drop n):=Xeo Xfx xs n
def Xbl (x:XbB):List Value:=[.string ⟨⟨x.msg⟩⟩,.int .u64 x.addr]
theorem Xcz (x:XbB):(Xbl x).length=2:=rfl
theorem XbU (x:XbB):Xbt.flatL (Xbl x)=true:=rfl
theorem Xa7 (x:XbB):(Xbl x).all Xf8=true:=rfl
@[simp] theorem XkY (xs:List XbB):(vT Xbl xs).length=xs.length*2:=XfL Xcz xs
@[simp] theorem Xk1 (xs:List XbB) (n:Nat):(vT Xbl xs).take (n*2)=vT Xbl (xs.take n):=Xem Xcz xs n
@[simp] theorem XkZ (xs:List XbB) (n:Nat):(vT Xbl xs).drop (n*2)=vT Xbl (xs.drop n):=Xeo Xcz xs n
def Xgm (x:Xb7):List Value:=[.bool x.src.V6,.int .u64 x.src.Hi,.int .u64 x.src.Lo,.bool x.dst.V6,.int .u64 x.dst.Hi,.int .u64 x.dst.Lo,.int .i64 x.proto,.int .i64 x.size,.string ⟨⟨x.body⟩⟩]
theorem Xik (x:Xb7):(Xgm x).length=9:=rfl
theorem Xgg (x:Xb7):Xbt.flatL (Xgm x)=true:=rfl
theorem Xdr (x:Xb7):(Xgm x).all Xf8=true:=rfl
@[simp] theorem XwC (xs:List Xb7):(vT Xgm xs).length=xs.length*9:=XfL Xik xs
@[simp] theorem XwM (xs:List Xb7) (n:Nat):(vT Xgm xs).take (n*9)=vT Xgm (xs.take n):=Xem Xik xs n
@[simp] theorem XwL (xs:List Xb7) (n:Nat):(vT Xgm xs).drop (n*9)=vT Xgm (xs.drop n):=Xeo Xik xs n
def Xfv (x:XbA):List Value:=[.int .i64 x.Kind,.string ⟨⟨x.Data⟩⟩,.int .i64 x.At]
theorem Xdj (x:XbA):(Xfv x).length=3:=rfl
theorem Xcs (x:XbA):Xbt.flatL (Xfv x)=true:=rfl
theorem XdL (x:XbA):(Xfv x).all Xf8=true:=rfl
@[simp] theorem Xyw (xs:List XbA):(vT Xfv xs).length=xs.length*3:=XfL Xdj xs
@[simp] theorem Xzd (xs:List XbA) (n:Nat):(vT Xfv xs).take (n*3)=vT Xfv (xs.take n):=Xem Xdj xs n
@[simp] theorem Xyn (xs:List XbA) (n:Nat):(vT Xfv xs).drop (n*3)=vT Xfv (xs.drop n):=Xeo Xdj xs n
def XfH (k:Nat):Value→List (Option (List Value))→Option Xbn
 | .agg ⟨[.pointer (some ⟨k0,0,none⟩)]⟩,[some c0]=>match XcE c0 with|some x0=>(if k0=k+0 then some (Xbn.mk x0) else none)|none=>none
 | _,_=>none
theorem Xkv {k:Nat} {v:Value} {cs:List (Option (List Value))} {x:Xbn} (h:XfH k v cs=some x):v=.agg ⟨[.pointer (some ⟨k+0,0,none⟩)]⟩∧cs=[some [.string ⟨⟨x.Reader.s⟩⟩,.bool x.Reader.made,.bool x.Reader.bad]]:=by
 unfold XfH at h;split at h<;>try (cases h;done)
 split at h<;>try (cases h;done)
 rename_i x0 e0
 split at h<;>cases h
 rename_i hk
 subst hk
 obtain rfl:=Xc2 _ _ e0
 exact ⟨rfl,rfl⟩
theorem Xlg (k:Nat) (x:Xbn):XfH k (.agg ⟨[.pointer (some ⟨k+0,0,none⟩)]⟩) [some [.string ⟨⟨x.Reader.s⟩⟩,.bool x.Reader.made,.bool x.Reader.bad]]=some x:=by
 show (if k+0=k+0 then some x else none)=_
 simp
theorem XjC {P:Program} {f base fn nt:Nat} {e e':Env} {todo todo':List Xd7} {ds ds':List Nat} {ret:Bool} {up up':List Xbh} {H H':Hp} {top top':Nat} {R:Value→Hp→Nat→Prop}
 (h:XaK P f base ⟨⟨fn,nt,e',todo',ds',ret,none⟩,up',H',top'⟩ R) (m:List (Nat×Nat)) (hc:XwK base top' m=true) (he:reE (Xav m) e e':=by repeat' first|exact trivial|refine ⟨⟨_,rfl,rfl⟩,?_⟩|refine ⟨⟨_,_,rfl,rfl,.rowF (Xhu _ _) id⟩,?_⟩|refine ⟨⟨_,_,rfl,rfl,.rowF (Xoz _) id⟩,?_⟩|refine ⟨⟨_,_,rfl,rfl,.rowF (Xoo _) id⟩,?_⟩|refine ⟨⟨_,_,rfl,rfl,.rowF (Xmp (by first|exact Xgk|exact Xfw|exact XeT|exact Xeb|exact XeH|exact Xd9|exact XeS|exact Xgh|exact Xb6|exact Xgi|exact Xfq|exact Xd8|exact Xgd|exact XdR|exact XbU|exact Xgg|exact Xcs) _) id⟩,?_⟩|refine ⟨⟨_,_,rfl,rfl,.tyF (Xhu _ _)⟩,?_⟩|refine ⟨⟨_,_,rfl,rfl,.ty rfl⟩,?_⟩|refine ⟨⟨_,_,rfl,rfl,.cells rfl⟩,?_⟩|refine ⟨⟨_,_,rfl,rfl,.row rfl id⟩,?_⟩|refine ⟨⟨_,_,rfl,rfl,.cr rfl⟩,?_⟩|refine ⟨⟨_,_,rfl,rfl,.rc rfl⟩,?_⟩|refine ⟨⟨_,_,rfl,rfl,.marks⟩,?_⟩|refine ⟨⟨_,_,rfl,rfl,.siter _ _⟩,?_⟩|refine ⟨⟨_,_,rfl,rfl,.loop rfl rfl rfl rfl (by repeat' first|exact trivial|refine ⟨rfl,?_⟩) rfl rfl rfl rfl⟩,?_⟩) (hH:reH (Xav m) H H':=by repeat' first|exact trivial|refine ⟨⟨_,rfl,rfl⟩,?_⟩|refine ⟨⟨_,_,rfl,rfl,.rowF (Xhu _ _) id⟩,?_⟩|refine ⟨⟨_,_,rfl,rfl,.rowF (Xoz _) id⟩,?_⟩|refine ⟨⟨_,_,rfl,rfl,.rowF (Xoo _) id⟩,?_⟩|refine ⟨⟨_,_,rfl,rfl,.rowF (Xmp (by first|exact Xgk|exact Xfw|exact XeT|exact Xeb|exact XeH|exact Xd9|exact XeS|exact Xgh|exact Xb6|exact Xgi|exact Xfq|exact Xd8|exact Xgd|exact XdR|exact XbU|exact Xgg|exact Xcs) _) id⟩,?_⟩|refine ⟨⟨_,_,rfl,rfl,.tyF (Xhu _ _)⟩,?_⟩|refine ⟨⟨_,_,rfl,rfl,.ty rfl⟩,?_⟩|refine ⟨⟨_,_,rfl,rfl,.cells rfl⟩,?_⟩|refine ⟨⟨_,_,rfl,rfl,.row rfl id⟩,?_⟩|refine ⟨⟨_,_,rfl,rfl,.cr rfl⟩,?_⟩|refine ⟨⟨_,_,rfl,rfl,.rc rfl⟩,?_⟩|refine ⟨⟨_,_,rfl,rfl,.marks⟩,?_⟩|refine ⟨⟨_,_,rfl,rfl,.siter _ _⟩,?_⟩|refine ⟨⟨_,_,rfl,rfl,.loop rfl rfl rfl rfl (by repeat' first|exact trivial|refine ⟨rfl,?_⟩) rfl rfl rfl rfl⟩,?_⟩)
 (ht:XyQ (Xav m) todo'=some todo:=by rfl) (hd:Xxx (Xav m) ds'=some ds:=by rfl) (hu:reU (Xav m) up up':=by trivial) :
 XaK P f base ⟨⟨fn,nt,e,todo,ds,ret,none⟩,up,H,top⟩ R:=XaK.re h m hc he hH ht hd hu
theorem Xs8 {P:Program} {f base fn nt:Nat} {e e':Env} {todo todo':List Xd7} {ds ds':List Nat} {ret:Bool} {up up':List Xbh} {H H':Hp} {top top':Nat} {R:Value→Hp→Nat→Prop}
 (h:XaK P f base ⟨⟨fn,nt,e',todo',ds',ret,none⟩,up',H',top'⟩ R) (m:List (Nat×Nat)) (hc:XwK base top' m=true) (he:reE (Xav m) e e':=by repeat' first|exact trivial|refine ⟨⟨_,rfl,rfl⟩,?_⟩|refine ⟨⟨_,_,rfl,rfl,.rowF (Xhu _ _) id⟩,?_⟩|refine ⟨⟨_,_,rfl,rfl,.rowF (Xoz _) id⟩,?_⟩|refine ⟨⟨_,_,rfl,rfl,.rowF (Xoo _) id⟩,?_⟩|refine ⟨⟨_,_,rfl,rfl,.rowF (Xmp (by first|exact Xgk|exact Xfw|exact XeT|exact Xeb|exact XeH|exact Xd9|exact XeS|exact Xgh|exact Xb6|exact Xgi|exact Xfq|exact Xd8|exact Xgd|exact XdR|exact XbU|exact Xgg|exact Xcs) _) id⟩,?_⟩|refine ⟨⟨_,_,rfl,rfl,.tyF (Xhu _ _)⟩,?_⟩|refine ⟨⟨_,_,rfl,rfl,.ty rfl⟩,?_⟩|refine ⟨⟨_,_,rfl,rfl,.cells rfl⟩,?_⟩|refine ⟨⟨_,_,rfl,rfl,.row rfl id⟩,?_⟩|refine ⟨⟨_,_,rfl,rfl,.cr rfl⟩,?_⟩|refine ⟨⟨_,_,rfl,rfl,.rc rfl⟩,?_⟩|refine ⟨⟨_,_,rfl,rfl,.marks⟩,?_⟩|refine ⟨⟨_,_,rfl,rfl,.siter _ _⟩,?_⟩|refine ⟨⟨_,_,rfl,rfl,.loop rfl rfl rfl rfl (by repeat' first|exact trivial|refine ⟨rfl,?_⟩) rfl rfl rfl rfl⟩,?_⟩) (hH:reH (Xav m) H H':=by repeat' first|exact trivial|refine ⟨⟨_,rfl,rfl⟩,?_⟩|refine ⟨⟨_,_,rfl,rfl,.rowF (Xhu _ _) id⟩,?_⟩|refine ⟨⟨_,_,rfl,rfl,.rowF (Xoz _) id⟩,?_⟩|refine ⟨⟨_,_,rfl,rfl,.rowF (Xoo _) id⟩,?_⟩|refine ⟨⟨_,_,rfl,rfl,.rowF (Xmp (by first|exact Xgk|exact Xfw|exact XeT|exact Xeb|exact XeH|exact Xd9|exact XeS|exact Xgh|exact Xb6|exact Xgi|exact Xfq|exact Xd8|exact Xgd|exact XdR|exact XbU|exact Xgg|exact Xcs) _) id⟩,?_⟩|refine ⟨⟨_,_,rfl,rfl,.tyF (Xhu _ _)⟩,?_⟩|refine ⟨⟨_,_,rfl,rfl,.ty rfl⟩,?_⟩|refine ⟨⟨_,_,rfl,rfl,.cells rfl⟩,?_⟩|refine ⟨⟨_,_,rfl,rfl,.row rfl id⟩,?_⟩|refine ⟨⟨_,_,rfl,rfl,.cr rfl⟩,?_⟩|refine ⟨⟨_,_,rfl,rfl,.rc rfl⟩,?_⟩|refine ⟨⟨_,_,rfl,rfl,.marks⟩,?_⟩|refine ⟨⟨_,_,rfl,rfl,.siter _ _⟩,?_⟩|refine ⟨⟨_,_,rfl,rfl,.loop rfl rfl rfl rfl (by repeat' first|exact trivial|refine ⟨rfl,?_⟩) rfl rfl rfl rfl⟩,?_⟩)
 (ht:XyQ (Xav m) todo'=some todo:=by rfl) (hd:Xxx (Xav m) ds'=some ds:=by rfl) (hu:reU (Xav m) up up':=by repeat' first|exact trivial|refine ⟨⟨rfl,rfl,rfl,rfl,rfl,?_,rfl,rfl⟩,?_⟩|refine ⟨⟨_,rfl,rfl⟩,?_⟩) :
 XaK P f base ⟨⟨fn,nt,e,todo,ds,ret,none⟩,up,H,top⟩ R:=XaK.re h m hc he hH ht hd hu
def Xfy (n1:Int):Option (Sum Int Int):=
 cond (decide (n1>65535))
  (
  let t:=wI .i64 ((Xjp .i64 n1 65535)+(n1.fdiv (2^16)))
  some (.inl t))
  (
  some (.inr (n1)))
def XfV (n:Int):Option Int:=
 iter (fun st=>Xfy st) FUEL n
def XsC (x:Int):Xcw:=⟨.int .i64 x,[],[]⟩
def r128 (g:Int→Option Int):Dec:=dV (asI .i64) fun (y0:Int)=>Xdd (ofG (g y0) XsC)
theorem XHR {g:Int→Option Int} {y0:Int} {x:Int} (hx:g y0=some x):r128 g [.int .i64 y0] []=some (XsC x):=(XaX (Xcv _)).trans (Xa3 hx)
def XHt (g:Int→Option Int):Xbu:=⟨[.v],r128 g⟩
theorem Xqy {g:Int→Option Int} {y0:Int} {x:Int} (hx:g y0=some x):(XHt g).run [.int .i64 y0] []=some (XsC x):=XHR hx
abbrev XqP:List (Nat×Xbu):=[]
def XiQ (n1:Int):VM:=
 ⟨⟨128,11,[(0,.int .i64 n1)],[.code Xui,.inLoop Xui,.inBlock 0,.code Xub],[],false,none⟩,[],[],0⟩
theorem Xvg (hS:Xah Tryz.prog (Xav (XqP))) (res:Int):∀ fuel (st:Int) (o:Int),iter (fun st=>Xfy st) fuel st=some o→(o=res) →
 XaK Tryz.prog 128 0 (XiQ st) (fun v H _=>Res 0 (XsC res) v H):=by
 intro fuel st o h hc
 refine XbY (head:=fun st=>XiQ st) (C:=fun o=>(o=res)) ?_ fuel st o h hc
 clear h hc o st fuel
 intro n1 o h hc
 replace h:Xfy n1=some o:=h
 show XaK Tryz.prog 128 0 (XiQ n1) (fun v H _=>Res 0 (XsC res) v H)
 unfold Xfy at h
 refine Xbi Xan hS true 3000 ?_
 conv=>whnf
 refine br.h2 h (by rfl) ?_ ?_
 ·clear h;intro hb h;conv=>whnf
  all_goals (cases h;cases hc;exact Res.y)
 clear h;intro hb h;conv=>whnf
 let t:Int:=wI .i64 ((Xjp .i64 n1 65535)+(n1.fdiv (2^16)))
 cases h;simp only [Sum.elim_inl,XiQ] at hc
 exact XjC hc [] rfl
theorem Xyg (hS:Xah Tryz.prog (Xav (XqP))) (n:Int) (res:Int) (h:XfV n=some res) :
 XaK Tryz.prog 128 0 ⟨⟨128,11,[(0,.int .i64 n)],[.code Xvn],[],false,none⟩,[],[],0⟩ (fun v H _=>Res 0 (XsC res) v H):=by
 unfold XfV at h
 refine Xbi Xan hS true 3000 ?_
 conv=>whnf
 have hl:=Xvg hS res _ _ _ h rfl;simp only [XiQ] at hl
 exact XjC hl [] rfl
theorem ok128 (hS:Xah Tryz.prog (Xav (XqP))):Xar Tryz.prog 128 (XHt (XfV)):=by
 refine Xar.Xax Xan (fun ar os r ha hr=>?_) ⟨Tryz.f128,rfl,by decide,rfl⟩
 replace hr:r128 (XfV) ar (XaH os)=some r:=hr
 unfold r128 at hr
 generalize hc:XaH os=C at hr
 replace hr:=dV.elim hr;obtain ⟨v0,l1,y0,rfl,e0,hr⟩:=hr;obtain rfl:=XbF _ _ _ e0
 replace hr:=Xdw hr;obtain ⟨rfl,rfl,x,h,rfl⟩:=hr
 obtain rfl:=Xat hc
 exact ⟨_,rfl,Xyg hS _ x h⟩
def XaW:Int→Option Int:=XfV
theorem XtJ:Xar Tryz.prog 128 (XHt XaW):=ok128 (Xah.Xa0 trivial)
def XeX (XaW:Int→Option Int) (s:List UInt8) (xat:Int) (n:Int):Option (Sum (Int×Int) Int):=
 cond (decide (xat<(s.length:Int)))
  (
  XaE (decide (0≤xat)) <|
  (s[xat.toNat]?).bind fun (b:UInt8)=>
  let t:=wI .i64 ((wI .i64 (b.toNat:Int))*2^8)
  let t1:=decide ((wI .i64 (xat+1))<(s.length:Int))
  cond (t1)
   (
   XaE (decide (0≤(wI .i64 (xat+1)))) <|
   (s[(wI .i64 (xat+1)).toNat]?).bind fun (b1:UInt8)=>
   let t2:=wI .i64 (n+(XsB .i64 t (wI .i64 (b1.toNat:Int))))
   (XaW t2).bind fun f=>
   some (.inl (wI .i64 (xat+2),f)))
   (
   (XaW (wI .i64 (n+t))).bind fun f1=>
   some (.inl (wI .i64 (xat+2),f1))))
  (
  some (.inr (n)))
def XgV (XaW:Int→Option Int) (s:List UInt8):Option Int:=
 iter (fun st=>XeX XaW s st.1 st.2) FUEL (0,0)
def XsF (x:Int):Xcw:=⟨.int .i64 x,[],[]⟩
def r112 (g:(List UInt8)→Option Int):Dec:=dV asS fun (y0:List UInt8)=>Xdd (ofG (g y0) XsF)
theorem XKt {g:(List UInt8)→Option Int} {y0:List UInt8} {x:Int} (hx:g y0=some x):r112 g [.string ⟨⟨y0⟩⟩] []=some (XsF x):=(XaX (XcI)).trans (Xa3 hx)
def s112 (g:(List UInt8)→Option Int):Xbu:=⟨[.v],r112 g⟩
theorem XGd {g:(List UInt8)→Option Int} {y0:List UInt8} {x:Int} (hx:g y0=some x):(s112 g).run [.string ⟨⟨y0⟩⟩] []=some (XsF x):=XKt hx
abbrev XqE (XaW:Int→Option Int):List (Nat×Xbu):=[(128,XHt XaW)]
def XhO (s:List UInt8) (xat:Int) (n:Int):VM:=
 ⟨⟨126,32,[(0,.func (.yield 3) #[] #[]),(1,.pointer (some ⟨1,0,none⟩)),(3,.int .i64 xat)],[.code Xm3,.inLoop Xm3,.inBlock 0],[],false,none⟩,[⟨112,13,[(3,.pointer (some ⟨0,0,none⟩))],[.inRangeFunc 3,.inBlock 0,.code Xu7],[2],false,none⟩],[(0,.cells [.int .i64 n]),(1,.cells [.string ⟨⟨s⟩⟩]),(2,.marks),(3,.loop ⟨.ready,none,112,13,[(3,.pointer (some ⟨0,0,none⟩))],[7],Xzs,XAY,2⟩)],4⟩
theorem Xt1 (XaW:Int→Option Int) (hS:Xah Tryz.prog (Xav (XqE XaW))) (s:List UInt8) (res:Int):∀ fuel (st:Int×Int) (o:Int),iter (fun st=>XeX XaW s st.1 st.2) fuel st=some o→(o=res) →
 XaK Tryz.prog 112 0 (XhO s st.1 st.2) (fun v H _=>Res 0 (XsF res) v H):=by
 intro fuel st o h hc
 refine XbY (head:=fun st=>XhO s st.1 st.2) (C:=fun o=>(o=res)) ?_ fuel st o h hc
 clear h hc o st fuel
 intro st o h hc
 obtain ⟨xat,n⟩:=st
 replace h:XeX XaW s xat n=some o:=h
 show XaK Tryz.prog 112 0 (XhO s xat n) (fun v H _=>Res 0 (XsF res) v H)
 unfold XeX at h
 refine Xbi Xan hS true 3000 ?_
 conv=>whnf
 refine br.h2 h (by rfl) ?_ ?_
 ·clear h;intro hb h;conv=>whnf
  all_goals (cases h;cases hc;exact Res.y)
 clear h;intro hb h;conv=>whnf
 replace h:=XaE.elim h;obtain ⟨hb,h⟩:=h
 try (refine req.intro hb ?_;conv=>whnf)
 replace h:=Xai.elim h;obtain ⟨b,hy,h⟩:=h
 refine rdS.intro hy ?_
 conv=>whnf
 let t:Int:=wI .i64 ((wI .i64 (b.toNat:Int))*2^8)
 let t1:Bool:=decide ((wI .i64 (xat+1))<(s.length:Int))
 refine br.h2 h (by rfl) ?_ ?_
 ·clear h;intro hb h;conv=>whnf
  replace h:=Xai.elim h;obtain ⟨f1,hy,h⟩:=h
  refine XaJ.p (Xqy hy) ?_
  conv=>whnf
  cases h;simp only [Sum.elim_inl,XhO] at hc
  exact Xs8 hc [(0,0),(1,1),(2,2),(3,3)] rfl
 clear h;intro hb h;conv=>whnf
 replace h:=XaE.elim h;obtain ⟨hb,h⟩:=h
 try (refine req.intro hb ?_;conv=>whnf)
 replace h:=Xai.elim h;obtain ⟨b1,hy,h⟩:=h
 refine rdS.intro hy ?_
 conv=>whnf
 let t2:Int:=wI .i64 (n+(XsB .i64 t (wI .i64 (b1.toNat:Int))))
 replace h:=Xai.elim h;obtain ⟨f,hy,h⟩:=h
 refine XaJ.p (Xqy hy) ?_
 conv=>whnf
 cases h;simp only [Sum.elim_inl,XhO] at hc
 exact Xs8 hc [(0,0),(1,1),(2,2),(3,3)] rfl
theorem XxG (XaW:Int→Option Int) (hS:Xah Tryz.prog (Xav (XqE XaW))) (s:List UInt8) (res:Int) (h:XgV XaW s=some res) :
 XaK Tryz.prog 112 0 ⟨⟨112,13,[(0,.string ⟨⟨s⟩⟩)],[.code XuJ],[],false,none⟩,[],[],0⟩ (fun v H _=>Res 0 (XsF res) v H):=by
 unfold XgV at h
 refine Xbi Xan hS true 3000 ?_
 conv=>whnf
 have hl:=Xt1 XaW hS _ res _ _ _ h rfl;simp only [XhO] at hl
 exact Xs8 hl [(0,0),(1,1),(2,2),(3,3)] rfl
theorem ok112 (XaW:Int→Option Int) (hS:Xah Tryz.prog (Xav (XqE XaW))):Xar Tryz.prog 112 (s112 (XgV XaW)):=by
 refine Xar.Xax Xan (fun ar os r ha hr=>?_) ⟨Tryz.f112,rfl,by decide,rfl⟩
 replace hr:r112 (XgV XaW) ar (XaH os)=some r:=hr
 unfold r112 at hr
 generalize hc:XaH os=C at hr
 replace hr:=dV.elim hr;obtain ⟨v0,l1,y0,rfl,e0,hr⟩:=hr;obtain rfl:=XbM _ _ e0
 replace hr:=Xdw hr;obtain ⟨rfl,rfl,x,h,rfl⟩:=hr
 obtain rfl:=Xat hc
 exact ⟨_,rfl,XxG XaW hS _ x h⟩
def XcL:(List UInt8)→Option Int:=XgV XaW
theorem XDP:Xar Tryz.prog 112 (s112 XcL):=ok112 XaW (Xah.Xa0 ⟨XtJ,trivial⟩)
end Go.Vm.Code
