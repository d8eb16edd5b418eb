import Derived.Test.YtgmodbbcnfdpdaaGreatNShimEchob
namespace Go.Vm
open Go Go.RowKit
def req (b:Bool) (p:Prop):Prop:=match b with|true=>p|false=>False
theorem req.intro {b:Bool} {p:Prop} (h:b=true) (k:p):req b p:=by subst h;exact k
theorem req.elim {b:Bool} {p:Prop} (h:req b p):b=true∧p:=by cases b;exact h.elim;exact ⟨rfl,h⟩
def br (b:Bool) (p q:Prop):Prop:=match b with|true=>p|false=>q
theorem br.intro {b:Bool} {p q:Prop} (h:b=true→p) (k:b=false→q):br b p q:=by cases b;exact k rfl;exact h rfl
theorem br.pos {b:Bool} {p q:Prop} (e:b=true) (h:p):br b p q:=by subst e;exact h
theorem br.neg {b:Bool} {p q:Prop} (e:b=false) (h:q):br b p q:=by subst e;exact h
def Xg8 (v:Value) (K:Value→Prop):Prop:=
 match v with
 | .bool b=>K (.bool b)
 | .int k n=>K (.int k n)
 | .float k n=>K (.float k n)
 | .string s=>K (.string s)
 | .pointer none=>K (.pointer none)
 | .pointer (some a)=>K (.pointer (some a))
 | .slice none n c=>K (.slice none n c)
 | .slice (some a) n c=>K (.slice (some a) n c)
 | .func f a b=>K (.func f a b)
 | .nilFunc=>K .nilFunc
 | .nilIface=>K .nilIface
 | .iface t v=>K (.iface t v)
 | .agg a=>K (.agg a)
 | .tuple a=>K (.tuple a)
 | .map none=>K (.map none)
 | .map (some b)=>K (.map (some b))
 | v=>K v
theorem XgU (v:Value) (K:Value→Prop):Xg8 v K=K v:=by
 unfold Xg8;split<;>rfl
def Xn7 (l:List Value) (K:List Value→Prop):Prop:=
 match l with
 | []=>K []
 | v::l=>Xn7 l (fun l'=>K (v::l'))
theorem Xkc:∀ (l:List Value) (K:List Value→Prop),Xn7 l K=K l
 | [],_=>rfl
 | v::l,K=>by rw [Xn7,Xkc l]
def XtU {α:Type} (l:List (Nat×α)) (j:Nat) (K:List (Nat×α)→Prop):Prop:=
 match l with
 | []=>K []
 | (i,x)::l=>cond (Nat.beq i j) (XtU l j K) (XtU l j (fun l'=>K ((i,x)::l')))
theorem XmK {α:Type}:∀ (l:List (Nat×α)) (j:Nat) (K:List (Nat×α)→Prop),XtU l j K=K (Xn5 l j)
 | [],_,_=>rfl
 | (i,x)::l,j,K=>by
   simp only [XtU,Xn5]
   cases Nat.beq i j
   ·simp only [cond_false];rw [XmK l]
   ·simp only [cond_true];rw [XmK l]
def Xrv {α:Type} (l:List (Nat×α)) (i:Nat) (x:α) (K:List (Nat×α)→Prop):Prop:=XtU l i (fun l'=>K ((i,x)::l'))
theorem XiO {α:Type} (l:List (Nat×α)) (i:Nat) (x:α) (K:List (Nat×α)→Prop):Xrv l i x K=K (Xfr l i x):=XmK _ _ _
def rd (cs:List Value) (o:Nat) (K:Value→Prop):Prop:=match cs[o]? with|some v=>Xg8 v K|none=>False
theorem rd.intro {cs:List Value} {o:Nat} {K:Value→Prop} {v:Value} (h:cs[o]?=some v) (k:Xg8 v K):rd cs o K:=by unfold rd;rw [h];exact k
theorem rd.elim {cs:List Value} {o:Nat} {K:Value→Prop} (h:rd cs o K):∃ v,cs[o]?=some v∧K v:=by
 unfold rd at h
 split at h
 ·rename_i v hv;rw [XgU] at h;exact ⟨v,hv,h⟩
 ·exact h.elim
def rdN (cs:List Value) (o:Nat) (n:Nat) (K:List Value→Prop):Prop:=
 match n with
 | 0=>K []
 | n+1=>rd cs o fun v=>rdN cs (o+1) n fun l=>K (v::l)
theorem rdN.elim:∀ {n:Nat} {cs:List Value} {o:Nat} {K:List Value→Prop},rdN cs o n K→(o+n≤cs.length∨n=0)∧K ((cs.drop o).take n)
 | 0,cs,o,K,h=>⟨.inr rfl,by simpa [rdN] using h⟩
 | n+1,cs,o,K,h=>by
   obtain ⟨v,hv,h2⟩:=rd.elim h
   obtain ⟨h3,h4⟩:=rdN.elim h2
   have hlt:o<cs.length:=by
    rcases Nat.lt_or_ge o cs.length with h|h
    ·exact h
    ·rw [List.getElem?_eq_none h] at hv;cases hv
   refine ⟨.inl (by omega),?_⟩
   have:(cs.drop o).take (n+1)=v::(cs.drop (o+1)).take n:=by
    rw [List.drop_eq_getElem_cons hlt,List.take_succ_cons]
    rw [List.getElem?_eq_getElem hlt,Option.some.injEq] at hv
    rw [hv]
   rw [this];exact h4
abbrev CK:=Option Value→List (Option Xbj)→Option Xbj→Prop
def XF8 (r:Option XcI) (K:CK):Prop:=
 match r with
 | some ⟨some v,os,fr⟩=>Xg8 v fun v=>K (some v) os fr
 | some ⟨none,os,fr⟩=>K none os fr
 | none=>False
def Good (r:Option XcI) (K:CK):Prop:=∃ v os fr,r=some ⟨v,os,fr⟩∧K v os fr
theorem XF8.good {r:Option XcI} {K:CK} (h:XF8 r K):Good r K:=by
 unfold XF8 at h
 split at h
 ·rw [XgU] at h;exact ⟨_,_,_,rfl,h⟩
 ·exact ⟨_,_,_,rfl,h⟩
 ·exact h.elim
def valK (v:Value) (K:CK):Prop:=Xg8 v fun v=>K (some v) [] none
def Xuj:List (Nat×Nat×Value)→List Value→(List Value→Prop)→Prop
 | [],cs,K=>K cs
 | (off,size,v)::rest,cs,K=>cond (Nat.beq (Xa1 v).length size&&Nat.ble (off+size) cs.length) (Xn7 (setAt cs off (Xa1 v)) fun cs'=>Xuj rest cs' K) False
theorem Xuj.elim:∀ {l:List (Nat×Nat×Value)} {cs:List Value} {K:List Value→Prop},Xuj l cs K→∃ cs',Xo6 cs l=some cs'∧K cs'
 | [],cs,K,h=>⟨cs,rfl,h⟩
 | (off,size,v)::rest,cs,K,h=>by
   rw [Xuj] at h
   cases hb:(Nat.beq (Xa1 v).length size&&Nat.ble (off+size) cs.length)
   ·rw [hb] at h;exact h.elim
   ·rw [hb,cond_true,Xkc] at h
    obtain ⟨cs',h1,h2⟩:=Xuj.elim h
    rw [Bool.and_eq_true] at hb
    exact ⟨cs',by rw [Xo6,if_pos ⟨Nat.eq_of_beq_eq_true hb.1,Nat.le_of_ble_eq_true hb.2⟩,h1],h2⟩
def XtI (z:List Value) (ps:List (Nat×Nat×Operand)) (vals:List Value) (objs:List Xbj) (K:CK):Prop:=
 match objs with
 | []=>cond (Nat.beq vals.length ps.length) (Xuj (XGA ps vals) z fun cs=>K (some (.agg ⟨cs⟩)) [] none) False
 | _=>False
def XoZ (len sz:Nat) (z:List Value) (ps:List (Nat×Nat×Operand)) (vals:List Value) (objs:List Xbj) (top:Nat) (K:CK):Prop:=
 match objs with
 | []=>cond (Nat.beq vals.length ps.length) (Xuj (XGA ps vals) z fun cs=>K (some (.slice (some ⟨top,0,none⟩) len sz)) [] (some (.row true cs))) False
 | _=>False
theorem Xsh {z:List Value} {ps:List (Nat×Nat×Operand)} {vals:List Value} {objs:List Xbj} {K:CK} (h:XtI z ps vals objs K):Good (Xkr z ps vals objs) K:=by
 unfold XtI at h
 split at h
 ·cases hb:Nat.beq vals.length ps.length
  ·rw [hb] at h;exact h.elim
  ·rw [hb,cond_true] at h
   obtain ⟨cs,h1,h2⟩:=h.elim
   exact ⟨_,_,_,by simp only [Xkr,if_pos (Nat.eq_of_beq_eq_true hb),h1];rfl,h2⟩
 ·exact h.elim
theorem Xp4 {len sz:Nat} {z:List Value} {ps:List (Nat×Nat×Operand)} {vals:List Value} {objs:List Xbj} {top:Nat} {K:CK} (h:XoZ len sz z ps vals objs top K):Good (Xkd len sz z ps vals objs top) K:=by
 unfold XoZ at h
 split at h
 ·cases hb:Nat.beq vals.length ps.length
  ·rw [hb] at h;exact h.elim
  ·rw [hb,cond_true] at h
   obtain ⟨cs,h1,h2⟩:=h.elim
   exact ⟨_,_,_,by simp only [Xkd,if_pos (Nat.eq_of_beq_eq_true hb),h1],h2⟩
 ·exact h.elim
def Xyt (vals:List Value) (objs:List Xbj) (K:CK):Prop:=
 match vals,objs with
 | [.bool c,a,b],[]=>br c (valK a K) (valK b K)
 | _,_=>False
def Xt4 (vals:List Value) (objs:List Xbj) (K:CK):Prop:=
 match vals,objs with
 | [.pointer (some ⟨_,o,none⟩)],[.cells cs]=>rd cs o fun v=>K (some v) [some (.cells cs)] none
 | [.pointer (some ⟨_,o,none⟩)],[.row w cs]=>rd cs o fun v=>K (some v) [some (.row w cs)] none
 | [.pointer (some ⟨_,o,none⟩)],[.ty t cs]=>rd cs o fun v=>K (some v) [some (.ty t cs)] none
 | _,_=>False
def Xto (n:Nat) (vals:List Value) (objs:List Xbj) (K:CK):Prop:=
 match vals,objs with
 | [.pointer (some ⟨_,o,none⟩)],[.cells cs]=>req (decide (o+n≤cs.length)) (rdN cs o n fun l=>K (some (.agg ⟨l⟩)) [some (.cells cs)] none)
 | [.pointer (some ⟨_,o,none⟩)],[.row w cs]=>req (decide (o+n≤cs.length)) (rdN cs o n fun l=>K (some (.agg ⟨l⟩)) [some (.row w cs)] none)
 | [.pointer (some ⟨_,o,none⟩)],[.ty t cs]=>req (decide (o+n≤cs.length)) (rdN cs o n fun l=>K (some (.agg ⟨l⟩)) [some (.ty t cs)] none)
 | _,_=>False
def XtV (n:Nat) (vals:List Value) (objs:List Xbj) (K:CK):Prop:=
 match vals,objs with
 | [.pointer (some ⟨_,o,none⟩),v],[.cells cs]=>req (decide ((Xa1 v).length=n∧o+n≤cs.length)&&(Xa1 v).all Xh9) (Xn7 (setAt cs o (Xa1 v)) fun cs'=>K none [some (.cells cs')] none)
 | [.pointer (some ⟨_,o,none⟩),v],[.ty t cs]=>req (decide ((Xa1 v).length=n∧o+n≤cs.length)&&(Xa1 v).all Xh9) (Xn7 (setAt cs o (Xa1 v)) fun cs'=>K none [some (.ty t cs')] none)
 | [.pointer (some ⟨_,o,none⟩),v],[.row true cs]=>req (decide ((Xa1 v).length=n∧o+n≤cs.length)&&(Xa1 v).all Xh9) (∃ cs',setAt cs o (Xa1 v)=cs'∧K none [some (.row true cs')] none)
 | _,_=>False
def binK (op:BinOp) (x y:Value) (K:CK):Prop:=
 match x,y with
 | .int k a,.int k' b=>match op with
   | .shl=>req (decide (0≤b)) (K (some (.int k (k.wrap (a*2^(min b.toNat k.bits))))) [] none)
   | .shr=>req (decide (0≤b)) (K (some (.int k (a.fdiv (2^(min b.toNat k.bits))))) [] none)
   | .quo=>req (decide (k=k')&&!(decide (b=0))) (K (some (.int k (k.wrap (a.tdiv b)))) [] none)
   | .rem=>req (decide (k=k')&&!(decide (b=0))) (K (some (.int k (a.tmod b))) [] none)
   | op=>XF8 (match Xwf op (.int k a) (.int k' b) with|some v=>val v|none=>none) K
 | .string a,.string b=>match op with
   | .add=>req (decide (a.data.toList.length+b.data.toList.length<2^63)) (K (some (.string ⟨⟨a.data.toList++b.data.toList⟩⟩)) [] none)
   | op=>XF8 (match Xwf op (.string a) (.string b) with|some v=>val v|none=>none) K
 | _,_=>False
def XJs (op:BinOp) (vals:List Value) (objs:List Xbj) (K:CK):Prop:=
 match vals,objs with
 | [x,y],[]=>binK op x y K
 | _,_=>False
def Xtl (k:Nat) (neg:Bool) (vals:List Value) (objs:List Xbj) (K:CK):Prop:=
 match k,vals,objs with
 | 1,[.slice (some _) n _],[]=>req (Nat.blt 0 n) (K (some (.bool neg)) [] none)
 | k,vals,objs=>XF8 (XlH k neg vals objs) K
def XKz (vals:List Value) (objs:List Xbj) (K:CK):Prop:=
 match vals,objs with
 | [.slice none 0 _],[]=>K (some (.string ⟨⟨[]⟩⟩)) [] none
 | [.slice (some ⟨_,o,none⟩) n 1],[ob]=>match ob.cs with
    | some cs=>req (decide (o+n≤cs.length)) (∃ bs,Xf0 ((cs.drop o).take n)=some bs∧K (some (.string ⟨⟨bs⟩⟩)) [some ob] none)
    | none=>False
 | _,_=>False
def XKq (vals:List Value) (objs:List Xbj) (top:Nat) (K:CK):Prop:=
 match vals,objs with
 | [.string s],[]=>∃ cs',ofBytes s.data.toList=cs'∧K (some (.slice (some ⟨top,0,none⟩) s.data.toList.length 1)) [] (some (.row true cs'))
 | _,_=>False
def XAv (sz bytes:Nat) (z:List Value) (vals:List Value) (objs:List Xbj) (top:Nat) (K:CK):Prop:=
 match vals,objs with
 | [.int _ l,.int _ c],[]=>req (decide (0≤l∧l≤c∧c<2^63∧(bytes:Int)*c≤2^48))
    (∃ cs',(List.replicate c.toNat z).flatten=cs'∧K (some (.slice (some ⟨top,0,none⟩) l.toNat sz)) [] (some (.row true cs')))
 | _,_=>False
def XoK (n:Nat) (hasLo hasHi:Bool) (bs:List Value) (K:Nat→Nat→Prop):Prop:=
 match hasLo,hasHi,bs with
 | false,false,[]=>K 0 n
 | true,false,[.int _ l]=>req (decide (0≤l∧l≤n)) (K l.toNat n)
 | false,true,[.int _ h]=>req (decide (0≤h∧h≤n)) (K 0 h.toNat)
 | true,true,[.int _ l,.int _ h]=>req (decide (0≤h∧h≤n∧0≤l∧l≤h.toNat)) (K l.toNat h.toNat)
 | _,_,_=>False
theorem XoK.elim {n:Nat} {hl hh:Bool} {bs:List Value} {K:Nat→Nat→Prop} (h:XoK n hl hh bs K):∃ l u,XAM n hl hh bs=some (l,u)∧K l u:=by
 unfold XoK at h
 split at h
 ·exact ⟨_,_,rfl,h⟩
 ·obtain ⟨h1,h2⟩:=h.elim;exact ⟨_,_,by simp only [XAM];rw [if_pos (of_decide_eq_true h1)],h2⟩
 ·obtain ⟨h1,h2⟩:=h.elim;exact ⟨_,_,by simp only [XAM];rw [if_pos (of_decide_eq_true h1)],h2⟩
 ·obtain ⟨h1,h2⟩:=h.elim;exact ⟨_,_,by simp only [XAM];rw [if_pos (of_decide_eq_true h1)],h2⟩
 ·exact h.elim
def Xrx (bl bh:Bool) (vals:List Value) (objs:List Xbj) (K:CK):Prop:=
 match vals,objs with
 | .string s::bs,[]=>XoK s.data.toList.length bl bh bs fun l h=>K (some (.string ⟨⟨(s.data.toList.drop l).take (h - l)⟩⟩)) [] none
 | _,_=>False
def Xrb (sz:Nat) (bl bh:Bool) (vals:List Value) (objs:List Xbj) (K:CK):Prop:=
 match vals,objs with
 | .slice none 0 c::bs,[]=>XoK 0 bl bh bs fun _ _=>K (some (.slice none 0 c)) [] none
 | .slice (some ⟨b,o,none⟩) n sz'::bs,[]=>req (Nat.beq sz sz') (XoK n bl bh bs fun l h=>K (some (.slice (some ⟨b,o+l*sz,none⟩) (h - l) sz)) [] none)
 | _,_=>False
def XrU (n sz:Nat) (bl bh:Bool) (vals:List Value) (objs:List Xbj) (K:CK):Prop:=
 match vals,objs with
 | .pointer (some ⟨b,o,none⟩)::bs,[ob]=>match ob.cs with
   | some cs=>req (decide (o+n*sz≤cs.length)) (XoK n bl bh bs fun l h=>K (some (.slice (some ⟨b,o+l*sz,none⟩) (h - l) sz)) [some ob] none)
   | none=>False
 | _,_=>False
def XtK (n sz:Nat) (vals:List Value) (objs:List Xbj) (K:CK):Prop:=
 match vals,objs with
 | [.pointer (some ⟨b,o,none⟩),.int _ i],[]=>req (decide (0≤i∧i<n)) (K (some (.pointer (some ⟨b,o+i.toNat*sz,none⟩))) [] none)
 | _,_=>False
def XtX (sz:Nat) (vals:List Value) (objs:List Xbj) (K:CK):Prop:=
 match vals,objs with
 | [.slice (some ⟨b,o,none⟩) n _,.int _ i],[]=>req (decide (0≤i∧i<n)) (K (some (.pointer (some ⟨b,o+i.toNat*sz,none⟩))) [] none)
 | _,_=>False
def XtZ (n:Nat) (vals:List Value) (objs:List Xbj) (K:CK):Prop:=
 match vals,objs with
 | [.agg ⟨cs⟩,.int _ i],[]=>req (decide (0≤i∧i<n)) (rd cs i.toNat fun v=>K (some v) [] none)
 | _,_=>False
def Xuh (n sz:Nat) (vals:List Value) (objs:List Xbj) (K:CK):Prop:=
 match vals,objs with
 | [.agg ⟨cs⟩,.int _ i],[]=>req (decide (0≤i∧i<n∧i.toNat*sz+sz≤cs.length)) (rdN cs (i.toNat*sz) sz fun l=>K (some (.agg ⟨l⟩)) [] none)
 | _,_=>False
def rdS (s:List UInt8) (i:Nat) (K:UInt8→Prop):Prop:=match s[i]? with|some b=>K b|none=>False
theorem rdS.intro {s:List UInt8} {i:Nat} {K:UInt8→Prop} {b:UInt8} (h:s[i]?=some b) (k:K b):rdS s i K:=by unfold rdS;rw [h];exact k
theorem rdS.elim {s:List UInt8} {i:Nat} {K:UInt8→Prop} (h:rdS s i K):∃ b,s[i]?=some b∧K b:=by
 unfold rdS at h;split at h
 ·exact ⟨_,by assumption,h⟩
 ·exact h.elim
def XyS (vals:List Value) (objs:List Xbj) (K:CK):Prop:=
 match vals,objs with
 | [.string s,.int _ i],[]=>req (decide (0≤i)) (rdS s.data.toList i.toNat fun b=>K (some (.int .u8 b.toNat)) [] none)
 | _,_=>False
def XH9 (vals:List Value) (objs:List Xbj) (K:CK):Prop:=
 match vals,objs with
 | [.string s,.int .u8 c],[]=>K (some (.int .i64 (ixB s.data.toList c))) [] none
 | _,_=>False
def XzS (sz:Nat) (y:Value) (objs:List Xbj) (K:List Value→Nat→Prop):Prop:=
 match y,objs with
 | .string s,_=>K (ofBytes s.data.toList) s.data.toList.length
 | .slice none 0 _,_=>K [] 0
 | .slice (some a) n _,[o]=>match o.cs with
   | some cs=>req (decide (a.off+n*sz≤cs.length)) (K ((cs.drop a.off).take (n*sz)) n)
   | none=>False
 | _,_=>False
theorem XzS.elim {sz:Nat} {y:Value} {objs:List Xbj} {K:List Value→Nat→Prop} (h:XzS sz y objs K):∃ c n,XiU sz y objs=some c∧Xmw y=some n∧K c n:=by
 unfold XzS at h
 split at h
 ·exact ⟨_,_,rfl,rfl,h⟩
 ·exact ⟨_,_,rfl,rfl,h⟩
 ·split at h
  ·rename_i cs hcs
   obtain ⟨h1,h2⟩:=h.elim
   exact ⟨_,_,by simp only [XiU,hcs];rw [if_pos (of_decide_eq_true h1)],rfl,h2⟩
  ·exact h.elim
 ·exact h.elim
def XG6 (t sz bytes:Nat) (vals:List Value) (objs:List Xbj) (top:Nat) (K:CK):Prop:=
 match vals,objs with
 | [.slice none 0 _,y],objs=>XzS sz y objs fun new m=>req (decide (m*bytes≤2^47∧new.length=m*sz)) (∃ cs' n',new=cs'∧m=n'∧K (some (.slice (some ⟨top,0,none⟩) n' sz)) (objs.map some) (some (.row true cs')))
 | [.slice (some ⟨b,o,none⟩) n sz',y],.row true cs::objs=>XzS sz y objs fun new m=>
    req (decide ((n+m)*bytes≤2^47∧o+n*sz≤cs.length∧sz=sz'∧new.length=m*sz)&&new.all Xh9&&(Xef y).all (fun c=>!Nat.beq b c))
     (∃ cs' n',(cs.drop o).take (n*sz)++new=cs'∧n+m=n'∧K (some (.slice (some ⟨top,0,none⟩) n' sz)) (none::objs.map some) (some (.row true cs')))
 | [.func (.method _) ⟨[.slice none 0 e]⟩ ⟨[]⟩, y], objs => XzS sz y objs fun new m => req (decide (m * bytes ≤ 2 ^ 47 ∧ new.length = m * sz ∧ sz = 1 ∧ e = t)) (∃ cs' n', new = cs' ∧ m = n' ∧ K (some (.func (.method "") ⟨[.slice (some ⟨top, 0, none⟩) n' 1]⟩ ⟨[]⟩)) (objs.map some) (some (.ty t cs')))
 | [.func (.method _) ⟨[.slice (some ⟨b,0,none⟩) n 1]⟩ ⟨[]⟩,y],.ty e cs::objs=>XzS sz y objs fun new m=>
    req (decide ((n+m)*bytes≤2^47∧n≤cs.length∧sz=1∧e=t∧new.length=m)&&new.all Xh9&&(Xef y).all (fun c=>!Nat.beq b c))
     (∃ cs' n', cs.take n ++ new = cs' ∧ n + m = n' ∧ K (some (.func (.method "") ⟨[.slice (some ⟨top, 0, none⟩) n' 1]⟩ ⟨[]⟩)) (none :: objs.map some) (some (.ty t cs')))
 | _,_=>False
def XyK (t:Nat) (vals:List Value) (objs:List Xbj) (K:CK):Prop:=
 match vals,objs with
 | [.pointer none,.int .i64 0],[]=>K (some (.string ⟨⟨[]⟩⟩)) [] none
 | [.func (.method _) ⟨[.slice (some ⟨_,0,none⟩) n 1]⟩ ⟨[.bool true]⟩,.int .i64 m],[.ty e cs]=>req (decide (e=t∧m=n∧n≤cs.length∧n<2^63))
    (∃ bs,Xf0 (cs.take n)=some bs∧K (some (.string ⟨⟨bs⟩⟩)) [some (.row false cs)] none)
 | _,_=>False
def XKY (sz:Nat) (vals:List Value) (objs:List Xbj) (K:CK):Prop:=
 match vals,objs with
 | [.slice none 0 _],[]=>K (some (.tuple ⟨[]⟩)) [] none
 | [.slice (some ⟨_,o,none⟩) n sz'],[.row true cs]=>req (decide (sz=sz'∧o+n*sz=cs.length)) (∃ cs',cs.take o=cs'∧K (some (.tuple ⟨[]⟩)) [some (.row true cs')] none)
 | _,_=>False
def Xt3 (vals:List Value) (objs:List Xbj) (K:CK):Prop:=
 match vals,objs with
 | [.pointer (some ⟨_,0,none⟩)],[.siter s pos]=>
    br (decide (pos<s.size)) (K (some (.tuple #[.bool true,.int .i64 pos,.int .i32 (Utf8.decode s pos).1])) [some (.siter s (pos+(Utf8.decode s pos).2))] none)
     (K (some (.tuple #[.bool false])) [some (.siter s pos)] none)
 | _,_=>False
def XzG (os:List (Nat×SK)) (z:Value) (ok:Bool) (vals:List Value) (objs:List Xbj) (K:CK):Prop:=
 match vals,objs with
 | [.map none,.agg ⟨k⟩],[]=>req (XbL k k os).isSome (K (some (cond ok (.tuple ⟨[z,.bool false]⟩) z)) [] none)
 | [.map (some _),.agg ⟨k⟩],[.mp cs]=>∃ v b,Xv3 os z k cs=some (v,b)∧K (some (cond ok (.tuple ⟨[v,.bool b]⟩) v)) [some (.mp cs)] none
 | _,_=>False
def XAb (os:List (Nat×SK)) (vals:List Value) (objs:List Xbj) (K:CK):Prop:=
 match vals,objs with
 | [.map (some _),.agg ⟨k⟩,x],[.mp cs]=>∃ cs',Xwn os k x cs=some cs'∧K none [some (.mp cs')] none
 | _,_=>False
def XyT (os:List (Nat×SK)) (vals:List Value) (objs:List Xbj) (K:CK):Prop:=
 match vals,objs with
 | [.map none,.agg ⟨k⟩],[]=>req (XbL k k os).isSome (K (some (.tuple ⟨[]⟩)) [] none)
 | [.map (some _),.agg ⟨k⟩],[.mp cs]=>∃ cs',XwA os k cs=some cs'∧K (some (.tuple ⟨[]⟩)) [some (.mp cs')] none
 | _,_=>False
def Xw8 (vals:List Value) (objs:List Xbj) (K:CK):Prop:=
 match vals,objs with
 | [.map none],[]=>K (some (.int .i64 0)) [] none
 | [.map (some _)],[.mp cs]=>∃ n:Nat,cs.length=2*n∧K (some (.int .i64 n)) [some (.mp cs)] none
 | _,_=>False
def XKG (op:VOp) (vals:List Value) (objs:List Xbj) (top:Nat) (K:CK):Prop:=
 match op with
 | .pick _ _ _=>Xyt vals objs K
 | .load1 _ _=>Xt4 vals objs K
 | .loadN ks _=>Xto ks.length vals objs K
 | .store n _ _=>XtV n vals objs K
 | .bin op _ _=>XJs op vals objs K
 | .isNil k neg _=>Xtl k neg vals objs K
 | .b2s _=>XKz vals objs K
 | .s2b _=>XKq vals objs top K
 | .mkSl sz bytes z _ _=>XAv sz bytes z vals objs top K
 | .sliceS _ lo hi=>Xrx lo.isSome hi.isSome vals objs K
 | .sliceL sz _ lo hi=>Xrb sz lo.isSome hi.isSome vals objs K
 | .sliceA n sz _ lo hi=>XrU n sz lo.isSome hi.isSome vals objs K
 | .idxAA n sz _ _=>XtK n sz vals objs K
 | .idxAL sz _ _=>XtX sz vals objs K
 | .idxV1 n _ _=>XtZ n vals objs K
 | .idxVN n sz _ _=>Xuh n sz vals objs K
 | .idxS _ _=>XyS vals objs K
 | .ixb _ _=>XH9 vals objs K
 | .app t sz bytes _ _=>XG6 t sz bytes vals objs top K
 | .ustr t _ _=>XyK t vals objs K
 | .clr sz _=>XKY sz vals objs K
 | .build z ps=>XtI z ps vals objs K
 | .buildSl len sz z ps=>XoZ len sz z ps vals objs top K
 | .nextS _=>Xt3 vals objs K
 | .mget os z ok _ _=>XzG os z ok vals objs K
 | .mput os _ _ _=>XAb os vals objs K
 | .mdel os _ _=>XyT os vals objs K
 | .lenM _=>Xw8 vals objs K
 | op=>XF8 (core op vals objs top) K
theorem Xt5 {vals:List Value} {objs:List Xbj} {K:CK} (h:Xyt vals objs K):Good (Xte vals objs) K:=by
 unfold Xyt at h
 split at h
 ·rename_i c _ _
  cases c
  ·simp only [br,valK,XgU] at h;exact ⟨_,_,_,rfl,h⟩
  ·simp only [br,valK,XgU] at h;exact ⟨_,_,_,rfl,h⟩
 ·exact h.elim
theorem Xso {vals:List Value} {objs:List Xbj} {K:CK} (h:Xt4 vals objs K):Good (Xi5 vals objs) K:=by
 unfold Xt4 at h
 split at h
 ·obtain ⟨v,h1,h2⟩:=rd.elim h;exact ⟨_,_,_,by simp only [Xi5,Xbj.cs,h1],h2⟩
 ·obtain ⟨v,h1,h2⟩:=rd.elim h;exact ⟨_,_,_,by simp only [Xi5,Xbj.cs,h1],h2⟩
 ·obtain ⟨v,h1,h2⟩:=rd.elim h;exact ⟨_,_,_,by simp only [Xi5,Xbj.cs,h1],h2⟩
 ·exact h.elim
theorem Xsm {n:Nat} {vals:List Value} {objs:List Xbj} {K:CK} (h:Xto n vals objs K):Good (Xjb n vals objs) K:=by
 unfold Xto at h
 split at h
 ·obtain ⟨h1,h2⟩:=req.elim h
  obtain ⟨_,h3⟩:=rdN.elim h2
  exact ⟨_,_,_,by simp only [Xjb,Xbj.cs,if_pos (of_decide_eq_true h1)],h3⟩
 ·obtain ⟨h1,h2⟩:=req.elim h
  obtain ⟨_,h3⟩:=rdN.elim h2
  exact ⟨_,_,_,by simp only [Xjb,Xbj.cs,if_pos (of_decide_eq_true h1)],h3⟩
 ·obtain ⟨h1,h2⟩:=req.elim h
  obtain ⟨_,h3⟩:=rdN.elim h2
  exact ⟨_,_,_,by simp only [Xjb,Xbj.cs,if_pos (of_decide_eq_true h1)],h3⟩
 ·exact h.elim
theorem Xr6 {n:Nat} {vals:List Value} {objs:List Xbj} {K:CK} (h:XtV n vals objs K):Good (Xke n vals objs) K:=by
 unfold XtV at h
 split at h
 ·obtain ⟨h1,h2⟩:=req.elim h
  rw [Xkc] at h2
  simp only [Bool.and_eq_true,decide_eq_true_eq] at h1
  exact ⟨_,_,_,by simp only [Xke,Xbj.cs,Xbj.wr];rw [if_pos ⟨h1.1.1,h1.1.2,h1.2⟩],h2⟩
 ·obtain ⟨h1,h2⟩:=req.elim h
  rw [Xkc] at h2
  simp only [Bool.and_eq_true,decide_eq_true_eq] at h1
  exact ⟨_,_,_,by simp only [Xke,Xbj.cs,Xbj.wr];rw [if_pos ⟨h1.1.1,h1.1.2,h1.2⟩],h2⟩
 ·obtain ⟨h1,cs',rfl,h2⟩:=req.elim h
  simp only [Bool.and_eq_true,decide_eq_true_eq] at h1
  exact ⟨_,_,_,by simp only [Xke,Xbj.cs,Xbj.wr];rw [if_pos ⟨h1.1.1,h1.1.2,h1.2⟩],h2⟩
 ·exact h.elim
theorem Xv2 {op:BinOp} {vals:List Value} {objs:List Xbj} {K:CK} (h:XJs op vals objs K):Good (XtY op vals objs) K:=by
 unfold XJs at h
 split at h
 ·rename_i x y
  have key:∀ v,Xwf op x y=some v→K (some v) [] none→Good (XtY op [x,y] []) K:=fun v h1 h2=>⟨_,_,_,by simp only [XtY,h1,val],h2⟩
  unfold binK at h
  split at h
  ·split at h
   ·obtain ⟨h1,h2⟩:=req.elim h
    exact key _ (by simp only [Xwf];rw [if_pos (of_decide_eq_true h1)]) h2
   ·obtain ⟨h1,h2⟩:=req.elim h
    exact key _ (by simp only [Xwf];rw [if_pos (of_decide_eq_true h1)]) h2
   ·obtain ⟨h1,h2⟩:=req.elim h
    simp only [Bool.and_eq_true,decide_eq_true_eq,Bool.not_eq_true',decide_eq_false_iff_not] at h1
    exact key _ (by simp only [Xwf];rw [if_pos h1.1,if_neg h1.2]) h2
   ·obtain ⟨h1,h2⟩:=req.elim h
    simp only [Bool.and_eq_true,decide_eq_true_eq,Bool.not_eq_true',decide_eq_false_iff_not] at h1
    exact key _ (by simp only [Xwf];rw [if_pos h1.1,if_neg h1.2]) h2
   ·exact h.good
  ·split at h
   ·obtain ⟨h1,h2⟩:=req.elim h
    exact key _ (by simp only [Xwf];rw [if_pos (of_decide_eq_true h1)]) h2
   ·exact h.good
  ·exact h.elim
 ·exact h.elim
theorem XsG {k:Nat} {neg:Bool} {vals:List Value} {objs:List Xbj} {K:CK} (h:Xtl k neg vals objs K):Good (XlH k neg vals objs) K:=by
 unfold Xtl at h
 split at h
 ·rename_i n _
  obtain ⟨h1,h2⟩:=req.elim h
  cases n with
  | zero=>simp at h1
  | succ n=>exact ⟨_,_,_,by simp only [XlH,XGt,val];cases neg<;>rfl,h2⟩
 ·exact h.good
theorem XwP {vals:List Value} {objs:List Xbj} {K:CK} (h:XKz vals objs K):Good (Xq7 vals objs) K:=by
 unfold XKz at h
 split at h
 ·exact ⟨_,_,_,rfl,h⟩
 ·split at h
  ·rename_i cs hcs
   obtain ⟨h1,bs,h2,h3⟩:=req.elim h
   exact ⟨_,_,_,by simp only [Xq7,hcs];rw [if_pos (of_decide_eq_true h1)];simp only [h2],h3⟩
  ·exact h.elim
 ·exact h.elim
theorem Xv9 {vals:List Value} {objs:List Xbj} {top:Nat} {K:CK} (h:XKq vals objs top K):Good (XCS vals objs top) K:=by
 unfold XKq at h
 split at h
 ·obtain ⟨cs',rfl,h⟩:=h;exact ⟨_,_,_,rfl,h⟩
 ·exact h.elim
theorem XtQ {sz bytes:Nat} {z:List Value} {vals:List Value} {objs:List Xbj} {top:Nat} {K:CK} (h:XAv sz bytes z vals objs top K):Good (Xr8 sz bytes z vals objs top) K:=by
 unfold XAv at h
 split at h
 ·obtain ⟨h1,cs',rfl,h2⟩:=req.elim h
  exact ⟨_,_,_,by simp only [Xr8];rw [if_pos (of_decide_eq_true h1)],h2⟩
 ·exact h.elim
theorem XqZ {bl bh:Bool} {vals:List Value} {objs:List Xbj} {K:CK} (h:Xrx bl bh vals objs K):Good (Xk4 bl bh vals objs) K:=by
 unfold Xrx at h
 split at h
 ·obtain ⟨l,u,h1,h2⟩:=XoK.elim h
  exact ⟨_,_,_,by simp only [Xk4,h1,val],h2⟩
 ·exact h.elim
theorem XrM {sz:Nat} {bl bh:Bool} {vals:List Value} {objs:List Xbj} {K:CK} (h:Xrb sz bl bh vals objs K):Good (XjH sz bl bh vals objs) K:=by
 unfold Xrb at h
 split at h
 ·obtain ⟨l,u,h1,h2⟩:=XoK.elim h
  exact ⟨_,_,_,by simp only [XjH,h1,val],h2⟩
 ·obtain ⟨h0,h⟩:=req.elim h
  obtain ⟨l,u,h1,h2⟩:=XoK.elim h
  exact ⟨_,_,_,by simp only [XjH];rw [if_pos (Nat.eq_of_beq_eq_true h0)];simp only [h1,val],h2⟩
 ·exact h.elim
theorem Xq4 {n sz:Nat} {bl bh:Bool} {vals:List Value} {objs:List Xbj} {K:CK} (h:XrU n sz bl bh vals objs K):Good (XiX n sz bl bh vals objs) K:=by
 unfold XrU at h
 split at h
 ·split at h
  ·rename_i cs hcs
   obtain ⟨h0,h⟩:=req.elim h
   obtain ⟨l,u,h1,h2⟩:=XoK.elim h
   exact ⟨_,_,_,by simp only [XiX,hcs];rw [if_pos (of_decide_eq_true h0)];simp only [h1],h2⟩
  ·exact h.elim
 ·exact h.elim
theorem Xsb {n sz:Nat} {vals:List Value} {objs:List Xbj} {K:CK} (h:XtK n sz vals objs K):Good (Xnz n sz vals objs) K:=by
 unfold XtK at h
 split at h
 ·obtain ⟨h1,h2⟩:=req.elim h
  exact ⟨_,_,_,by simp only [Xnz,val];rw [if_pos (of_decide_eq_true h1)],h2⟩
 ·exact h.elim
theorem Xsx {sz:Nat} {vals:List Value} {objs:List Xbj} {K:CK} (h:XtX sz vals objs K):Good (Xm6 sz vals objs) K:=by
 unfold XtX at h
 split at h
 ·obtain ⟨h1,h2⟩:=req.elim h
  exact ⟨_,_,_,by simp only [Xm6,val];rw [if_pos (of_decide_eq_true h1)],h2⟩
 ·exact h.elim
theorem XsB {n:Nat} {vals:List Value} {objs:List Xbj} {K:CK} (h:XtZ n vals objs K):Good (Xnw n vals objs) K:=by
 unfold XtZ at h
 split at h
 ·obtain ⟨h1,h2⟩:=req.elim h
  obtain ⟨v,h3,h4⟩:=rd.elim h2
  exact ⟨_,_,_,by simp only [Xnw];rw [if_pos (of_decide_eq_true h1)];simp only [h3,val],h4⟩
 ·exact h.elim
theorem Xs6 {n sz:Nat} {vals:List Value} {objs:List Xbj} {K:CK} (h:Xuh n sz vals objs K):Good (XnH n sz vals objs) K:=by
 unfold Xuh at h
 split at h
 ·obtain ⟨h1,h2⟩:=req.elim h
  obtain ⟨_,h3⟩:=rdN.elim h2
  exact ⟨_,_,_,by simp only [XnH,val];rw [if_pos (of_decide_eq_true h1)],h3⟩
 ·exact h.elim
theorem Xum {vals:List Value} {objs:List Xbj} {K:CK} (h:XyS vals objs K):Good (Xqj vals objs) K:=by
 unfold XyS at h
 split at h
 ·obtain ⟨h1,h2⟩:=req.elim h
  obtain ⟨v,h3,h4⟩:=rdS.elim h2
  exact ⟨_,_,_,by simp only [Xqj];rw [if_pos (of_decide_eq_true h1)];simp only [h3,val],h4⟩
 ·exact h.elim
theorem XwL {vals:List Value} {objs:List Xbj} {K:CK} (h:XH9 vals objs K):Good (Xza vals objs) K:=by
 unfold XH9 at h
 split at h
 ·exact ⟨_,_,_,rfl,h⟩
 ·exact h.elim
theorem Xt8 {t:Nat} {vals:List Value} {objs:List Xbj} {K:CK} (h:XyK t vals objs K):Good (XqC t vals objs) K:=by
 unfold XyK at h
 split at h
 ·exact ⟨_,_,_,rfl,h⟩
 ·obtain ⟨h1,bs,h2,h3⟩:=req.elim h
  exact ⟨_,_,_,by simp only [XqC];rw [if_pos (of_decide_eq_true h1)];simp only [h2],h3⟩
 ·exact h.elim
theorem Xwl {sz:Nat} {vals:List Value} {objs:List Xbj} {K:CK} (h:XKY sz vals objs K):Good (XwH sz vals objs) K:=by
 unfold XKY at h
 split at h
 ·exact ⟨_,_,_,rfl,h⟩
 ·obtain ⟨h1,cs',rfl,h3⟩:=req.elim h
  exact ⟨_,_,_,by simp only [XwH];rw [if_pos (of_decide_eq_true h1)],h3⟩
 ·exact h.elim
theorem Xwr {t sz bytes:Nat} {vals:List Value} {objs:List Xbj} {top:Nat} {K:CK} (h:XG6 t sz bytes vals objs top K):Good (Xtn t sz bytes vals objs top) K:=by
 unfold XG6 at h
 split at h
 ·obtain ⟨c,m,h1,h2,h3⟩:=XzS.elim h
  obtain ⟨h4,cs',n',rfl,rfl,h5⟩:=req.elim h3
  exact ⟨_,_,_,by simp only [Xtn,h1,h2];rw [if_pos (of_decide_eq_true h4)],h5⟩
 ·obtain ⟨c,m,h1,h2,h3⟩:=XzS.elim h
  obtain ⟨h4,cs',n',rfl,rfl,h5⟩:=req.elim h3
  simp only [Bool.and_eq_true,decide_eq_true_eq] at h4
  exact ⟨_,_,_,by simp only [Xtn,h1,h2];rw [if_pos ⟨h4.1.1.1,h4.1.1.2.1,h4.1.1.2.2.1,h4.1.1.2.2.2,h4.1.2,h4.2⟩],h5⟩
 ·obtain ⟨c,m,h1,h2,h3⟩:=XzS.elim h
  obtain ⟨h4,cs',n',rfl,rfl,h5⟩:=req.elim h3
  exact ⟨_,_,_,by simp only [Xtn,h1,h2,bSl];rw [if_pos (of_decide_eq_true h4)],h5⟩
 ·obtain ⟨c,m,h1,h2,h3⟩:=XzS.elim h
  obtain ⟨h4,cs',n',rfl,rfl,h5⟩:=req.elim h3
  simp only [Bool.and_eq_true,decide_eq_true_eq] at h4
  exact ⟨_,_,_,by simp only [Xtn,h1,h2,bSl];rw [if_pos ⟨h4.1.1.1,h4.1.1.2.1,h4.1.1.2.2.1,h4.1.1.2.2.2.1,h4.1.1.2.2.2.2,h4.1.2,h4.2⟩],h5⟩
 ·exact h.elim
theorem XsN {vals:List Value} {objs:List Xbj} {K:CK} (h:Xt3 vals objs K):Good (XlG vals objs) K:=by
 unfold Xt3 at h
 split at h
 ·rename_i s pos
  cases hb:decide (pos<s.size) with
  | true=>rw [hb] at h;exact ⟨_,_,_,by simp only [XlG];rw [if_pos (of_decide_eq_true hb)],h⟩
  | false=>rw [hb] at h;exact ⟨_,_,_,by simp only [XlG];rw [if_neg (of_decide_eq_false hb)],h⟩
 ·exact h.elim
theorem Xt9 {os:List (Nat×SK)} {z:Value} {ok:Bool} {vals:List Value} {objs:List Xbj} {K:CK} (h:XzG os z ok vals objs K):Good (Xmy os z ok vals objs) K:=by
 unfold XzG at h
 split at h
 ·obtain ⟨h1,h2⟩:=h.elim
  exact ⟨_,_,_,by simp only [Xmy];rw [if_pos h1];cases ok<;>rfl,h2⟩
 ·obtain ⟨v,b,h1,h2⟩:=h
  exact ⟨_,_,_,by simp only [Xmy,h1];cases ok<;>rfl,h2⟩
 ·exact h.elim
theorem XtF {os:List (Nat×SK)} {vals:List Value} {objs:List Xbj} {K:CK} (h:XAb os vals objs K):Good (Xqp os vals objs) K:=by
 unfold XAb at h
 split at h
 ·obtain ⟨cs',h1,h2⟩:=h
  exact ⟨_,_,_,by simp only [Xqp,h1],h2⟩
 ·exact h.elim
theorem Xtt {os:List (Nat×SK)} {vals:List Value} {objs:List Xbj} {K:CK} (h:XyT os vals objs K):Good (Xpo os vals objs) K:=by
 unfold XyT at h
 split at h
 ·obtain ⟨h1,h2⟩:=h.elim
  exact ⟨_,_,_,by simp only [Xpo];rw [if_pos h1];rfl,h2⟩
 ·obtain ⟨cs',h1,h2⟩:=h
  exact ⟨_,_,_,by simp only [Xpo,h1],h2⟩
 ·exact h.elim
theorem Xtv {vals:List Value} {objs:List Xbj} {K:CK} (h:Xw8 vals objs K):Good (XnN vals objs) K:=by
 unfold Xw8 at h
 split at h
 ·exact ⟨_,_,_,rfl,h⟩
 ·obtain ⟨n,h1,h2⟩:=h
  exact ⟨_,_,_,by simp only [XnN,h1];rw [show 2*n/2=n by omega],h2⟩
 ·exact h.elim
theorem XKG.good {op:VOp} {vals:List Value} {objs:List Xbj} {top:Nat} {K:CK} (h:XKG op vals objs top K):Good (core op vals objs top) K:=by
 cases op with
 | pick=>exact Xt5 h
 | load1=>exact Xso h
 | loadN=>exact Xsm h
 | store=>exact Xr6 h
 | bin=>exact Xv2 h
 | isNil=>exact XsG h
 | b2s=>exact XwP h
 | s2b=>exact Xv9 h
 | mkSl=>exact XtQ h
 | sliceS=>exact XqZ h
 | sliceL=>exact XrM h
 | sliceA=>exact Xq4 h
 | idxAA=>exact Xsb h
 | idxAL=>exact Xsx h
 | idxV1=>exact XsB h
 | idxVN=>exact Xs6 h
 | idxS=>exact Xum h
 | ixb=>exact XwL h
 | app=>exact Xwr h
 | ustr=>exact Xt8 h
 | clr=>exact Xwl h
 | build=>exact Xsh h
 | buildSl=>exact Xp4 h
 | nextS=>exact XsN h
 | mget=>exact Xt9 h
 | mput=>exact XtF h
 | mdel=>exact Xtt h
 | lenM=>exact Xtv h
 | _=>exact XF8.good h
def XnR (h:Hp) (is:List Nat) (os:List (Option Xbj)) (K:Hp→Prop):Prop:=
 match is,os with
 | i::is,some o::os=>Xrv h i o fun h'=>XnR h' is os K
 | i::is,none::os=>XtU h i fun h'=>XnR h' is os K
 | _,_=>K h
theorem Xpq:∀ (is:List Nat) (os:List (Option Xbj)) (h:Hp) (K:Hp→Prop),XnR h is os K=K (Xfz h is os)
 | [],_,h,K=>by simp [XnR,Xfz]
 | i::is,[],h,K=>by simp [XnR,Xfz]
 | i::is,some o::os,h,K=>by rw [XnR,XiO,Xpq is os];simp [Xfz]
 | i::is,none::os,h,K=>by rw [XnR,XmK,Xpq is os];simp [Xfz]
def opK (op:VOp) (vals:List Value) (h:Hp) (top:Nat) (K:Option Value→Hp→Nat→Prop):Prop:=
 match Xij h (needs op vals) with
 | none=>False
 | some objs=>XKG op vals objs top fun v os fr=>XnR h (needs op vals) os fun h'=>match fr with
   | none=>K v h' top
   | some o=>Xrv h' top o fun h''=>K v h'' (top+1)
theorem opK.elim {op:VOp} {vals:List Value} {h:Hp} {top:Nat} {K:Option Value→Hp→Nat→Prop} (hk:opK op vals h top K):∃ v h' top',Xch op vals h top=some (v,h',top')∧K v h' top':=by
 unfold opK at hk
 split at hk
 ·exact hk.elim
 ·rename_i objs hobjs
  obtain ⟨v,os,fr,hc,hk⟩:=hk.good
  rw [Xpq] at hk
  cases fr with
  | none=>exact ⟨v,_,_,by simp only [Xch,hobjs,hc],hk⟩
  | some o=>simp only [XiO] at hk;exact ⟨v,_,_,by simp only [Xch,hobjs,hc],hk⟩
def Xr3 (n:Nat) (e:Env) (d:Option Nat) (v:Value) (K:Env→Prop):Prop:=
 match d with
 | some i=>cond (Nat.blt i n) (Xrv e i v K) (K e)
 | none=>K e
theorem Xhz (n:Nat) (e:Env) (d:Option Nat) (v:Value) (K:Env→Prop):Xr3 n e d v K=K (Xo2 n e d v):=by
 cases d with
 | none=>rfl
 | some i=>simp only [Xr3,Xo2];cases Nat.blt i n<;>simp [XiO]
def XCX (i:Nat) (vs:List Value) (K:Env→Prop):Prop:=
 match vs with
 | []=>K []
 | v::vs=>XCX (i+1) vs fun e=>K ((i,v)::e)
theorem Xvc:∀ (vs:List Value) (i:Nat) (K:Env→Prop),XCX i vs K=K (Xnr i vs)
 | [],_,_=>rfl
 | v::vs,i,K=>by rw [XCX,Xvc vs];rfl
def XoW (F:Fns) (f:Nat) (args:List Value) (K:Xbx→Prop):Prop:=
 match F f with
 | some ⟨nt,body,_⟩=>cond (Nat.ble args.length nt) (XCX 0 args fun e=>K ⟨f,nt,e,[.code body],[],false,none⟩) False
 | none=>False
theorem XoW.elim {F:Fns} {f:Nat} {args:List Value} {K:Xbx→Prop} (h:XoW F f args K):∃ c,Xi0 F f args=some c∧K c:=by
 unfold XoW at h
 split at h
 ·rename_i nt body rs hf
  cases hb:Nat.ble args.length nt with
  | false=>rw [hb] at h;exact h.elim
  | true=>
    rw [hb,cond_true,Xvc] at h
    exact ⟨_,by simp only [Xi0,hf];rw [if_pos (Nat.le_of_ble_eq_true hb)],h⟩
 ·exact h.elim
def XrJ (u:Xbx) (v:Value) (K:Xbx→Prop):Prop:=
 match u with
 | ⟨fn,nt,env,.inReg (⟨dst,_,_⟩::rest)::k,defers,ret,round⟩=>Xr3 nt env dst v fun e=>K ⟨fn,nt,e,.inReg rest::k,defers,ret,round⟩
 | ⟨fn,nt,env,.inRangeFunc l::k,defers,ret,round⟩=>K ⟨fn,nt,env,.endRangeFunc l::k,defers,ret,round⟩
 | _=>False
theorem XrJ.elim {u:Xbx} {v:Value} {K:Xbx→Prop} (h:XrJ u v K):∃ u',finish u v=some u'∧K u':=by
 unfold XrJ at h
 split at h
 ·rw [Xhz] at h;exact ⟨_,rfl,h⟩
 ·exact ⟨_,rfl,h⟩
 ·exact h.elim
def XAo (e:Env) (h:Hp) (rs:List XAQ) (K:List Value→Prop):Prop:=
 match rs with
 | []=>K []
 | .tmp t::rs=>match XaE e t with
   | some v=>XAo e h rs fun vs=>K (v::vs)
   | none=>False
 | .cell t ks agg::rs=>match XaE e t with
   | some (.pointer (some ⟨b,o,none⟩))=>match XaE h b with
     | some ob=>match ob.cs with
       | some cs=>cond agg (req (decide (o+ks.length≤cs.length)) (rdN cs o ks.length fun l=>XAo e h rs fun vs=>K (.agg ⟨l⟩::vs))) (rd cs o fun v=>XAo e h rs fun vs=>K (v::vs))
       | none=>False
     | none=>False
   | _=>False
theorem XAo.elim {e:Env} {h:Hp}:∀ {rs:List XAQ} {K:List Value→Prop},XAo e h rs K→∃ vs,Xpi e h rs=some vs∧K vs
 | [],K,hk=>⟨[],rfl,hk⟩
 | .tmp t::rs,K,hk=>by
   simp only [XAo] at hk
   split at hk
   ·rename_i v hv
    obtain ⟨vs,h1,h2⟩:=XAo.elim hk
    exact ⟨v::vs,by simp only [Xpi,resV,hv,h1],h2⟩
   ·exact hk.elim
 | .cell t ks agg::rs,K,hk=>by
   simp only [XAo] at hk
   split at hk
   ·rename_i b o hp
    split at hk
    ·rename_i ob hob
     split at hk
     ·rename_i cs hcs
      cases agg with
      | true=>
        obtain ⟨h1,h2⟩:=req.elim hk
        obtain ⟨_,h3⟩:=rdN.elim h2
        obtain ⟨vs,h4,h5⟩:=XAo.elim h3
        exact ⟨_,by simp only [Xpi,resV,hp,hob,hcs,↓reduceIte,if_pos (of_decide_eq_true h1),h4],h5⟩
      | false=>
        obtain ⟨v,h1,h2⟩:=rd.elim hk
        obtain ⟨vs,h4,h5⟩:=XAo.elim h2
        exact ⟨_,by simp only [Xpi,resV,hp,hob,hcs,Bool.false_eq_true,↓reduceIte,h1,h4],h5⟩
     ·exact hk.elim
    ·exact hk.elim
   ·exact hk.elim
def Xx0 (o:Xbj) (K:Xbj→Prop):Prop:=
 match o with
 | .cells cs=>K (.cells cs)
 | .row own cs=>K (.row own cs)
 | .ty t cs=>K (.ty t cs)
 | .siter s p=>K (.siter s p)
 | .mp cs=>K (.mp cs)
 | .loop l=>K (.loop l)
 | .marks=>K .marks
theorem XsC (o:Xbj) (K:Xbj→Prop):Xx0 o K=K o:=by cases o<;>rfl
def XuF (h:Hp) (K:Hp→Prop):Prop:=
 match h with
 | []=>K []
 | (i,o)::l=>Xx0 o fun o=>XuF l fun l=>K ((i,o)::l)
theorem XoY:∀ (h:Hp) (K:Hp→Prop),XuF h K=K h
 | [],K=>rfl
 | (i,o)::l,K=>by rw [XuF,XsC,XoY l]
def Xgn (s:Xbs) (vals:List Value) (h:Hp) (top:Nat) (K:Value→Hp→Nat→Prop):Prop:=
 match Xif s vals h top with
 | some (v,h',top')=>Xg8 v fun v=>XuF h' fun h'=>K v h' top'
 | none=>False
theorem Xgn.elim {s:Xbs} {vals:List Value} {h:Hp} {top:Nat} {K:Value→Hp→Nat→Prop} (hk:Xgn s vals h top K):∃ v h' top',Xif s vals h top=some (v,h',top')∧K v h' top':=by
 unfold Xgn at hk
 split at hk
 ·rw [XgU,XoY] at hk;exact ⟨_,_,_,by assumption,hk⟩
 ·exact hk.elim
def XjX (F:Fns) (S:XlR) (o:XcH) (rest:List XcH) (k:List Xfq) (fn nt:Nat) (env:Env) (defers:List Nat) (round:Option Nat) (up:List Xbx) (h:Hp) (top:Nat) (K:VM→Prop):Prop:=
 match o with
 | ⟨dst,op,g⟩=>match Xl4 env op.ops with
   | none=>False
   | some vals=>match op with
     | .callF f _=>match S f with
       | some s=>Xgn s vals h top fun v h' top'=>Xr3 nt env dst v fun e=>K ⟨⟨fn,nt,e,.inReg rest::k,defers,false,round⟩,up,h',top'⟩
       | none=>XoW F f vals fun c=>K ⟨c,⟨fn,nt,env,.inReg (⟨dst,op,g⟩::rest)::k,defers,false,round⟩::up,h,top⟩
     | .callV _ _=>match vals with
       | .func (.func f) ⟨first⟩ ⟨caps⟩::args=>match S f with
         | some s=>Xgn s (first++args++caps) h top fun v h' top'=>Xr3 nt env dst v fun e=>K ⟨⟨fn,nt,e,.inReg rest::k,defers,false,round⟩,up,h',top'⟩
         | none=>XoW F f (first++args++caps) fun c=>K ⟨c,⟨fn,nt,env,.inReg (⟨dst,op,g⟩::rest)::k,defers,false,round⟩::up,h,top⟩
       | .func (.yield l) ⟨[]⟩ ⟨[]⟩::args=>match XmF l args h with
         | some c=>K ⟨c,⟨fn,nt,env,.inReg (⟨dst,op,g⟩::rest)::k,defers,false,round⟩::up,h,top⟩
         | none=>False
       | _=>False
     | op=>opK op vals h top fun v h' top'=>match v with
       | some v=>Xr3 nt env dst v fun e=>K ⟨⟨fn,nt,e,.inReg rest::k,defers,false,round⟩,up,h',top'⟩
       | none=>Xr3 nt env dst Xg0 fun e=>K ⟨⟨fn,nt,e,.inReg rest::k,defers,false,round⟩,up,h',top'⟩
theorem XjX.elim {F:Fns} {S:XlR} {o:XcH} {rest:List XcH} {k:List Xfq} {fn nt:Nat} {env:Env} {todo:List Xfq} {defers:List Nat} {round:Option Nat} {up:List Xbx} {h:Hp} {top:Nat} {K:VM→Prop}
 (hk:XjX F S o rest k fn nt env defers round up h top K):∃ vm',XsM F S o rest k ⟨fn,nt,env,todo,defers,false,round⟩ up h top=some vm'∧K vm':=by
 obtain ⟨dst,op,g⟩:=o
 unfold XjX at hk
 unfold XsM
 simp only at hk ⊢
 split at hk
 ·exact hk.elim
 ·rename_i vals hv
  simp only [hv]
  split at hk
  ·rename_i f xs
   split at hk
   ·rename_i s hs
    obtain ⟨v,h',top',h1,h2⟩:=hk.elim
    rw [Xhz] at h2
    exact ⟨_,by simp only [hs,h1],h2⟩
   ·rename_i hs
    obtain ⟨c,h1,h2⟩:=hk.elim
    exact ⟨_,by simp only [hs,h1],h2⟩
  ·split at hk
   ·split at hk
    ·rename_i s hs
     obtain ⟨v,h',top',h1,h2⟩:=hk.elim
     rw [Xhz] at h2
     exact ⟨_,by simp only [hs,h1],h2⟩
    ·rename_i hs
     obtain ⟨c,h1,h2⟩:=hk.elim
     exact ⟨_,by simp only [hs,h1],h2⟩
   ·split at hk
    ·rename_i c hc
     exact ⟨_,by simp only [hc],hk⟩
    ·exact hk.elim
   ·exact hk.elim
  ·rename_i hne1 hne2
   obtain ⟨v,h',top',h1,h2⟩:=hk.elim
   refine ⟨⟨⟨fn,nt,Xo2 nt env dst (v.getD Xg0),.inReg rest::k,defers,false,round⟩,up,h',top'⟩,?_,?_⟩
   ·split
    ·exact absurd rfl (hne1 _ _)
    ·exact absurd rfl (hne2 _ _)
    ·simp only [h1]
   ·cases v with
    | none=>simp only [Xhz] at h2;exact h2
    | some v=>simp only [Xhz] at h2;exact h2
def Xo9 (e:Env) (d:Nat) (x:Bool) (K:Env→Prop):Prop:=
 match e with
 | []=>K []
 | (i,v)::l=>cond (Nat.beq i d) (K ((i,.bool x)::l)) (Xo9 l d x fun l'=>K ((i,v)::l'))
theorem XmJ:∀ {e:Env} {d:Nat} {x:Bool} {K:Env→Prop},XaE e d=some (.bool x)→Xo9 e d x K=K e
 | [],d,x,K,h=>rfl
 | (i,v)::l,d,x,K,h=>by
   simp only [XaE] at h
   simp only [Xo9]
   cases hb:Nat.beq i d with
   | true=>rw [hb,cond_true,Option.some.injEq] at h;subst h;rfl
   | false=>rw [hb,cond_false] at h;simp only [cond_false];rw [XmJ h]
def XhD (l:Nat) (jump:Option VC) (up:List Xbx) (h:Hp) (top:Nat) (K:VM→Prop):Prop:=
 match Xhj l jump up h top with
 | some ⟨u,us,h',top'⟩=>K ⟨u,us,h',top'⟩
 | none=>False
theorem XhD.elim {l:Nat} {jump:Option VC} {up:List Xbx} {h:Hp} {top:Nat} {K:VM→Prop} (hk:XhD l jump up h top K):∃ vm',Xhj l jump up h top=some vm'∧K vm':=by
 unfold XhD at hk
 split at hk
 ·exact ⟨_,by assumption,hk⟩
 ·exact hk.elim
def XlE (l:List Nat) (K:List Nat→Prop):Prop:=
 match l with
 | []=>K []
 | n::l=>XlE l (fun l'=>K (n::l'))
theorem Xjo:∀ (l:List Nat) (K:List Nat→Prop),XlE l K=K l
 | [],_=>rfl
 | v::l,K=>by rw [XlE,Xjo l]
def Xkl (S:XlR) (nt:Nat) (o:XcH) (e:Env) (h:Hp) (m:Nat) (K:Env→Hp→Nat→List Nat→List Nat→Prop):Prop:=
 match o with
 | ⟨dst,op,_⟩=>match Xl4 e op.ops with
   | none=>False
   | some vals=>match op with
     | .callF f _=>match S f with
       | some s=>Xgn s vals h m fun v h' m'=>Xr3 nt e dst v fun e=>XlE (Xc7 (Xj2 h s.modes vals)) fun r=>XlE (XlJ (Xj2 h s.modes vals)) fun w=>K e h' m' r w
       | none=>False
     | .callV _ _=>match vals with
       | .func (.func f) ⟨first⟩ ⟨caps⟩::args=>match S f with
         | some s=>Xgn s (first++args++caps) h m fun v h' m'=>Xr3 nt e dst v fun e=>XlE (Xc7 (Xj2 h s.modes (first++args++caps))) fun r=>XlE (XlJ (Xj2 h s.modes (first++args++caps))) fun w=>K e h' m' r w
         | none=>False
       | _=>False
     | op=>opK op vals h m fun v h' m'=>match v with
       | some v=>Xr3 nt e dst v fun e=>K e h' m' (needs op vals) (cond (XxN op) (needs op vals) [])
       | none=>Xr3 nt e dst Xg0 fun e=>K e h' m' (needs op vals) (cond (XxN op) (needs op vals) [])
theorem Xkl.elim {S:XlR} {nt:Nat} {o:XcH} {e:Env} {h:Hp} {m:Nat} {K:Env→Hp→Nat→List Nat→List Nat→Prop} (hk:Xkl S nt o e h m K) (hw:XdO e o.g=some true) :
 ∃ e' h' m' r w,stepD S nt o e h m=some (e',h',m',r,w)∧K e' h' m' r w:=by
 obtain ⟨dst,op,g⟩:=o
 unfold Xkl at hk
 simp only at hk hw
 unfold stepD
 simp only [hw]
 split at hk
 ·exact hk.elim
 ·rename_i vals hv
  simp only [hv]
  split at hk
  ·split at hk
   ·rename_i s hs
    obtain ⟨v,h',m',h1,h2⟩:=hk.elim
    rw [Xhz,Xjo,Xjo] at h2
    exact ⟨_,_,_,_,_,by simp only [hs,h1],h2⟩
   ·exact hk.elim
  ·split at hk
   ·split at hk
    ·rename_i s hs
     obtain ⟨v,h',m',h1,h2⟩:=hk.elim
     rw [Xhz,Xjo,Xjo] at h2
     exact ⟨_,_,_,_,_,by simp only [hs,h1],h2⟩
    ·exact hk.elim
   ·exact hk.elim
  ·rename_i hne1 hne2
   obtain ⟨v,h',m',h1,h2⟩:=hk.elim
   refine ⟨Xo2 nt e dst (v.getD Xg0),h',m',needs op vals,cond (XxN op) (needs op vals) [],?_,?_⟩
   ·split
    ·exact absurd rfl (hne1 _ _)
    ·exact absurd rfl (hne2 _ _)
    ·simp only [h1]
   ·cases v with
    | none=>simp only [Xhz] at h2;exact h2
    | some v=>simp only [Xhz] at h2;exact h2
def XuB (S:XlR) (nt:Nat) (o:XcH) (e:Env) (h:Hp) (m:Nat) (K:Env→Hp→Nat→List Nat→List Nat→Prop):Prop:=
 match o with
 | ⟨dst,op,none⟩=>Xkl S nt ⟨dst,op,none⟩ e h m K
 | ⟨dst,op,some (d,x)⟩=>match XaE e d with
   | some (.bool b)=>cond x
      (br b (Xo9 e d true fun e=>Xkl S nt ⟨dst,op,some (d,x)⟩ e h m K) (Xo9 e d false fun e=>Xr3 nt e dst Xg0 fun e=>K e h m [] []))
      (br b (Xo9 e d true fun e=>Xr3 nt e dst Xg0 fun e=>K e h m [] []) (Xo9 e d false fun e=>Xkl S nt ⟨dst,op,some (d,x)⟩ e h m K))
   | some (.tuple ⟨[]⟩)=>Xr3 nt e dst Xg0 fun e=>K e h m [] []
   | _=>False
def XwE (S:XlR) (nt:Nat) (os:List XcH) (e:Env) (h:Hp) (m:Nat) (K:List Fp→Env→Hp→Nat→Prop):Prop:=
 match os with
 | []=>K [] e h m
 | o::os=>XuB S nt o e h m fun e1 h1 m1 r w=>XwE S nt os e1 h1 (m1+1) fun fps e h m'=>K ((r,w++List.range' m (m1 - m))::fps) e h m'
theorem br.cases {b:Bool} {p q:Prop} (h:br b p q):(b=true∧p)∨(b=false∧q):=by cases b;exact .inr ⟨rfl,h⟩;exact .inl ⟨rfl,h⟩
theorem XuB.elim {S:XlR} {nt:Nat} {o:XcH} {e:Env} {h:Hp} {m:Nat} {K:Env→Hp→Nat→List Nat→List Nat→Prop} (hk:XuB S nt o e h m K) :
 ∃ e' h' m' r w,stepD S nt o e h m=some (e',h',m',r,w)∧K e' h' m' r w:=by
 obtain ⟨dst,op,g⟩:=o
 cases g with
 | none=>exact Xkl.elim (o:=⟨dst,op,none⟩) hk rfl
 | some p=>
   obtain ⟨d,x⟩:=p
   simp only [XuB] at hk
   have skip:XdO e (some (d,x))=some false→(Xr3 nt e dst Xg0 fun e=>K e h m [] [])→∃ e' h' m' r w,stepD S nt ⟨dst,op,some (d,x)⟩ e h m=some (e',h',m',r,w)∧K e' h' m' r w:=fun hw hk=>by
    rw [Xhz] at hk
    exact ⟨_,_,_,_,_,by simp only [stepD,hw],hk⟩
   split at hk
   ·rename_i b hb
    cases x with
    | true=>
      rw [cond_true] at hk
      rcases hk.cases with ⟨rfl,hk⟩|⟨rfl,hk⟩<;>rw [XmJ hb] at hk
      ·exact Xkl.elim (show Xkl S nt ⟨dst,op,some (d,true)⟩ e h m K from hk) (by simp [XdO,hb])
      ·exact skip (by simp [XdO,hb]) hk
    | false=>
      rw [cond_false] at hk
      rcases hk.cases with ⟨rfl,hk⟩|⟨rfl,hk⟩<;>rw [XmJ hb] at hk
      ·exact skip (by simp [XdO,hb]) hk
      ·exact Xkl.elim (show Xkl S nt ⟨dst,op,some (d,false)⟩ e h m K from hk) (by simp [XdO,hb])
   ·rename_i hb
    exact skip (by simp [XdO,hb]) hk
   ·exact hk.elim
theorem XwE.elim {S:XlR} {nt:Nat}:∀ {os:List XcH} {e:Env} {h:Hp} {m:Nat} {K:List Fp→Env→Hp→Nat→Prop},XwE S nt os e h m K→∃ fps e' h' m',XFE S nt os e h m=some (fps,e',h',m')∧K fps e' h' m'
 | [],e,h,m,K,hk=>⟨_,_,_,_,rfl,hk⟩
 | o::os,e,h,m,K,hk=>by
   simp only [XwE] at hk
   obtain ⟨e1,h1,m1,r,w,g1,g2⟩:=hk.elim
   obtain ⟨fps,e',h',m',k1,k2⟩:=XwE.elim g2
   exact ⟨_,_,_,_,by simp only [XFE,g1,k1],k2⟩
def XzP (F:Fns) (S:XlR) (f:Nat) (lp:Bool) (L:VM→Prop) (E:Value→Hp→Nat→Prop) (K:VM→Prop):VM→Prop
 | ⟨⟨fn,nt,env,todo,defers,ret,round⟩,up,h,top⟩=>
   match ret with
   | true=>match defers with
     | r::ds=>match XaE h r with
       | some .marks=>XtU h r fun h'=>K ⟨⟨fn,nt,env,todo,ds,true,round⟩,up,h',top⟩
       | _=>False
     | []=>match F fn with
       | some ⟨_,_,rs⟩=>XAo env h rs fun vs=>match up with
         | u::us=>Xg8 (XFX vs) fun v=>XrJ u v fun u'=>K ⟨u',us,h,top⟩
         | []=>cond (Nat.beq fn f) (Xg8 (XFX vs) fun v=>E v h top) False
       | none=>False
   | false=>match todo with
     | []=>match round with
       | none=>K ⟨⟨fn,nt,env,[],defers,true,none⟩,up,h,top⟩
       | some l=>XhD l none up h top K
     | .code .ret::k=>match round with
       | none=>K ⟨⟨fn,nt,env,.code .ret::k,defers,true,none⟩,up,h,top⟩
       | some l=>XhD l (some .ret) up h top K
     | .code .skip::k=>K ⟨⟨fn,nt,env,k,defers,false,round⟩,up,h,top⟩
     | .inScope::k=>K ⟨⟨fn,nt,env,k,defers,false,round⟩,up,h,top⟩
     | .code (.scope b)::k=>K ⟨⟨fn,nt,env,.code b::.inScope::k,defers,false,round⟩,up,h,top⟩
     | .inBlock _::k=>K ⟨⟨fn,nt,env,k,defers,false,round⟩,up,h,top⟩
     | .code (.seq a b)::k=>K ⟨⟨fn,nt,env,.code a::.code b::k,defers,false,round⟩,up,h,top⟩
     | .code (.cond c a b)::k=>match Xm5 env c with
       | some (.bool x)=>br x (K ⟨⟨fn,nt,env,.code a::k,defers,false,round⟩,up,h,top⟩) (K ⟨⟨fn,nt,env,.code b::k,defers,false,round⟩,up,h,top⟩)
       | _=>False
     | .code (.block id b)::k=>K ⟨⟨fn,nt,env,.code b::.inBlock id::k,defers,false,round⟩,up,h,top⟩
     | .code (.loop b)::k=>cond lp (L ⟨⟨fn,nt,env,.code b::.inLoop b::k,defers,false,round⟩,up,h,top⟩) (K ⟨⟨fn,nt,env,.code b::.inLoop b::k,defers,false,round⟩,up,h,top⟩)
     | .inLoop b::k=>cond lp (L ⟨⟨fn,nt,env,.code b::.inLoop b::k,defers,false,round⟩,up,h,top⟩) (K ⟨⟨fn,nt,env,.code b::.inLoop b::k,defers,false,round⟩,up,h,top⟩)
     | .code (.exit id)::k=>match exitTo id k with
       | some k'=>K ⟨⟨fn,nt,env,k',defers,false,round⟩,up,h,top⟩
       | none=>match round with
         | none=>False
         | some l=>XhD l (some (.exit id)) up h top K
     | .code (.reg ops)::k=>K ⟨⟨fn,nt,env,.inReg ops::k,defers,false,round⟩,up,h,top⟩
     | .code .stuck::_=>False
     | .code (.regD ops ord post)::k=>XwE S nt ops env h top fun fps e h m=>req (Xnv fps ord) (K ⟨⟨fn,nt,e,.inReg post::k,defers,false,round⟩,up,h,m⟩)
     | .inReg []::k=>K ⟨⟨fn,nt,env,k,defers,false,round⟩,up,h,top⟩
     | .inReg (⟨dst,op,none⟩::rest)::k=>XjX F S ⟨dst,op,none⟩ rest k fn nt env defers round up h top K
     | .inReg (⟨dst,op,some (d,w)⟩::rest)::k=>match XaE env d with
       | some (.bool b)=>cond w
          (br b (Xo9 env d true fun env=>XjX F S ⟨dst,op,some (d,w)⟩ rest k fn nt env defers round up h top K) (Xo9 env d false fun env=>Xr3 nt env dst Xg0 fun e=>K ⟨⟨fn,nt,e,.inReg rest::k,defers,false,round⟩,up,h,top⟩))
          (br b (Xo9 env d true fun env=>Xr3 nt env dst Xg0 fun e=>K ⟨⟨fn,nt,e,.inReg rest::k,defers,false,round⟩,up,h,top⟩) (Xo9 env d false fun env=>XjX F S ⟨dst,op,some (d,w)⟩ rest k fn nt env defers round up h top K))
       | some (.tuple ⟨[]⟩)=>Xr3 nt env dst Xg0 fun e=>K ⟨⟨fn,nt,e,.inReg rest::k,defers,false,round⟩,up,h,top⟩
       | _=>False
     | .code (.rangeF f ps asg body)::k=>match Xm5 env f,round with
       | some (.func (.func g) ⟨first⟩ ⟨caps⟩),none=>
         XoW F g (first++[.func (.yield (top+1)) #[] #[]]++caps) fun c=>Xrv h top .marks fun h1=>Xrv h1 (top+1) (.loop ⟨.ready,none,fn,nt,env,ps,asg,body,top⟩) fun h2=>
          K ⟨c,⟨fn,nt,env,.inRangeFunc (top+1)::k,top::defers,false,none⟩::up,h2,top+2⟩
       | some (.func (.func g) ⟨first⟩ ⟨caps⟩),some l0=>match XaE h l0 with
         | some (.loop r0)=>XoW F g (first++[.func (.yield top) #[] #[]]++caps) fun c=>Xrv h top (.loop ⟨.ready,none,fn,nt,env,ps,asg,body,r0.defers⟩) fun h2=>
            K ⟨c,⟨fn,nt,env,.inRangeFunc top::k,defers,false,some l0⟩::up,h2,top+1⟩
         | _=>False
       | _,_=>False
     | .inRangeFunc _::_=>False
     | .endRangeFunc l::k=>match XaE h l with
       | some (.loop ⟨st,pend,fn',nt',env',ps,asg,body,ds⟩)=>match st with
         | .busy=>False
         | _=>Xrv h l (.loop ⟨.exhausted,pend,fn',nt',env',ps,asg,body,ds⟩) fun h'=>match pend with
           | some c=>K ⟨⟨fn,nt,env,.code c::k,defers,false,round⟩,up,h',top⟩
           | none=>K ⟨⟨fn,nt,env,k,defers,false,round⟩,up,h',top⟩
       | _=>False
     | .beginRound::k=>match round with
       | some l=>match XaE h l with
         | some (.loop ⟨st,pend,fn',nt',env',ps,asg,body,ds⟩)=>match st with
           | .ready=>Xrv h l (.loop ⟨.busy,pend,fn',nt',env',ps,asg,body,ds⟩) fun h'=>K ⟨⟨fn,nt,env,k,defers,false,some l⟩,up,h',top⟩
           | _=>False
         | _=>False
       | none=>False
section
variable {P:Program} {F:Fns} {S:XlR}
theorem Xye (hF:Xkw P F) (hS:Xal P S) {f base:Nat} {lp:Bool} {R:Value→Hp→Nat→Prop} {K:VM→Prop} (hK:∀ vm,K vm→XaK P f base vm R) {vm:VM}
 (h:XzP F S f lp (fun vm=>XaK P f base vm R) R K vm):XaK P f base vm R:=by
 obtain ⟨⟨fn,nt,env,todo,defers,ret,round⟩,up,H,top⟩:=vm
 unfold XzP at h
 simp only at h
 have go:∀ vm',XcX F S ⟨⟨fn,nt,env,todo,defers,ret,round⟩,up,H,top⟩=some vm'→K vm'→XaK P f base ⟨⟨fn,nt,env,todo,defers,ret,round⟩,up,H,top⟩ R:=
  fun vm' h1 h2=>XaK.next hF hS h1 (hK _ h2)
 split at h
 ·split at h
  ·split at h
   ·rename_i hm
    rw [XmK] at h
    exact go _ (by simp only [XcX,hm]) h
   ·exact h.elim
  ·split at h
   ·rename_i nt' b' rs hf
    obtain ⟨vs,h1,h2⟩:=h.elim
    split at h2
    ·rw [XgU] at h2
     obtain ⟨u',h3,h4⟩:=h2.elim
     exact go _ (by simp only [XcX,hf,h1,h3]) h4
    ·cases hb:Nat.beq fn f with
     | false=>rw [hb] at h2;exact h2.elim
     | true=>
       rw [hb,cond_true,XgU] at h2
       have:=Nat.eq_of_beq_eq_true hb
       subst this
       exact XaK.stop hF hf h1 h2
   ·exact h.elim
 ·split at h
  ·split at h
   ·exact go _ (by simp only [XcX]) h
   ·obtain ⟨vm',h1,h2⟩:=h.elim
    exact go _ (by simp only [XcX,h1]) h2
  ·split at h
   ·exact go _ (by simp only [XcX]) h
   ·obtain ⟨vm',h1,h2⟩:=h.elim
    exact go _ (by simp only [XcX,h1]) h2
  ·exact go _ (by simp only [XcX]) h
  ·exact go _ (by simp only [XcX]) h
  ·exact go _ (by simp only [XcX]) h
  ·exact go _ (by simp only [XcX]) h
  ·exact go _ (by simp only [XcX]) h
  ·split at h
   ·rename_i x hx
    rcases h.cases with ⟨rfl,h⟩|⟨rfl,h⟩
    ·exact go _ (by simp only [XcX,hx];rfl) h
    ·exact go _ (by simp only [XcX,hx];rfl) h
   ·exact h.elim
  ·exact go _ (by simp only [XcX]) h
  ·cases lp
   ·exact go _ (by simp only [XcX]) h
   ·exact XaK.next hF hS (vm':=_) (by simp only [XcX]) h
  ·cases lp
   ·exact go _ (by simp only [XcX]) h
   ·exact XaK.next hF hS (vm':=_) (by simp only [XcX]) h
  ·split at h
   ·rename_i k' hk'
    exact go _ (by simp only [XcX,hk']) h
   ·rename_i hk'
    split at h
    ·exact h.elim
    ·obtain ⟨vm',h1,h2⟩:=h.elim
     exact go _ (by simp only [XcX,hk',h1]) h2
  ·exact go _ (by simp only [XcX]) h
  ·exact h.elim
  ·obtain ⟨fps,e',h',m',g1,g2⟩:=h.elim
   obtain ⟨g3,g4⟩:=g2.elim
   exact go _ (by simp only [XcX,g1,g3]) g4
  ·exact go _ (by simp only [XcX]) h
  ·obtain ⟨vm',h1,h2⟩:=XjX.elim (todo:=_) h
   exact go _ (by simp only [XcX,XdO];exact h1) h2
  ·split at h
   ·rename_i b hb
    rename_i w _ _ _
    cases w
    ·rcases h.cases with ⟨rfl,h'⟩|⟨rfl,h'⟩<;>rw [XmJ hb] at h'
     ·rw [Xhz] at h'
      replace h:=h'
      exact go _ (by simp only [XcX,XdO,hb];rfl) h
     ·obtain ⟨vm',h1,h2⟩:=XjX.elim (todo:=_) h'
      exact go _ (by simp only [XcX,XdO,hb];exact h1) h2
    ·rcases h.cases with ⟨rfl,h'⟩|⟨rfl,h'⟩<;>rw [XmJ hb] at h'
     ·obtain ⟨vm',h1,h2⟩:=XjX.elim (todo:=_) h'
      exact go _ (by simp only [XcX,XdO,hb];exact h1) h2
     ·rw [Xhz] at h'
      replace h:=h'
      exact go _ (by simp only [XcX,XdO,hb];rfl) h
   ·rename_i hb
    rw [Xhz] at h
    exact go _ (by simp only [XcX,XdO,hb]) h
   ·exact h.elim
  ·split at h
   ·rename_i hfv
    obtain ⟨c,h1,h2⟩:=h.elim
    rw [XiO,XiO] at h2
    exact go _ (by simp only [XcX,hfv,h1]) h2
   ·rename_i hfv
    split at h
    ·rename_i r0 hr0
     obtain ⟨c,h1,h2⟩:=h.elim
     rw [XiO] at h2
     exact go _ (by simp only [XcX,hfv,hr0,h1]) h2
    ·exact h.elim
   ·exact h.elim
  ·exact h.elim
  ·split at h
   ·rename_i hl
    split at h
    ·exact h.elim
    ·rename_i hb
     rw [XiO] at h
     split at h
     ·rename_i st _ _ _ _ _ _ _ _ _ _
      exact go _ (by simp only [XcX,hl];cases st<;>first|exact absurd rfl hb|rfl) h
     ·rename_i st _ _ _ _ _ _ _ _ _
      exact go _ (by simp only [XcX,hl];cases st<;>first|exact absurd rfl hb|rfl) h
   ·exact h.elim
  ·split at h
   ·split at h
    ·rename_i hl
     split at h
     ·rw [XiO] at h
      exact go _ (by simp only [XcX,hl]) h
     ·exact h.elim
    ·exact h.elim
   ·exact h.elim
def ev (F:Fns) (S:XlR) (f:Nat) (lp:Bool) (L:VM→Prop) (E:Value→Hp→Nat→Prop):Nat→VM→Prop
 | 0,vm=>L vm
 | n+1,vm=>XzP F S f lp L E (ev F S f lp L E n) vm
theorem Xbg (hF:Xkw P F) (hS:Xal P S) {f base:Nat} (lp:Bool) {R:Value→Hp→Nat→Prop}:∀ (n:Nat) {vm:VM},ev F S f lp (fun vm=>XaK P f base vm R) R n vm→XaK P f base vm R
 | 0,_,h=>h
 | n+1,_,h=>Xye hF hS (fun _ h=>Xbg hF hS lp n h) h
end
end Go.Vm
namespace Go.Vm
open Go
def XQA (P:Program):List (Nat×VFn)→Prop
 | []=>True
 | (i,vf)::l=>(P.funcs[i]?).bind (XaR P)=some vf∧XQA P l
theorem Xkw.XaV {P:Program}:∀ {l:List (Nat×VFn)},XQA P l→Xkw P (XaE l)
 | [],_,f,vf,h=>by simp [XaE] at h
 | (i,v)::l,hl,f,vf,h=>by
   obtain ⟨h1,h2⟩:=hl
   simp only [XaE] at h
   cases hb:Nat.beq i f with
   | true=>
     rw [hb,cond_true,Option.some.injEq] at h
     subst h
     have:=Nat.eq_of_beq_eq_true hb
     subst this
     cases hf:P.funcs[i]? with
     | none=>simp [hf] at h1
     | some fn=>rw [hf,Option.bind_some] at h1;exact ⟨fn,rfl,h1⟩
   | false=>
     rw [hb,cond_false] at h
     exact Xkw.XaV h2 f vf h
theorem Xal.none {P:Program}:Xal P (fun _=>none):=fun _ _ h=>by cases h
end Go.Vm
namespace Go.Vm
open Go
def subE (e:Env):Env→Prop
 | []=>True
 | (i,v)::l=>XaE e i=some v∧subE e l
theorem Xvk {e:Env}:∀ {l:Env},subE e l→∀ i v,XaE l i=some v→XaE e i=some v
 | [],_,i,v,h=>by simp [XaE] at h
 | (j,u)::l,h,i,v,hv=>by
   obtain ⟨h1,h2⟩:=h
   simp only [XaE] at hv
   cases hb:Nat.beq j i with
   | true=>
     rw [hb,cond_true,Option.some.injEq] at hv
     subst hv
     have:=Nat.eq_of_beq_eq_true hb;subst this
     exact h1
   | false=>
     rw [hb,cond_false] at hv
     exact Xvk h2 i v hv
theorem XaK.env {P:Program} {f base fn nt:Nat} {e e':Env} {todo:List Xfq} {defers:List Nat} {ret:Bool} {round:Option Nat} {up:List Xbx} {H:Hp} {top:Nat} {R:Value→Hp→Nat→Prop}
 (h:XaK P f base ⟨⟨fn,nt,e',todo,defers,ret,round⟩,up,H,top⟩ R) (hs:subE e e'):XaK P f base ⟨⟨fn,nt,e,todo,defers,ret,round⟩,up,H,top⟩ R:=by
 refine ⟨fun w0 U ρ rf rfs w cs hr=>?_⟩
 exact h.get w0 U ρ rf rfs w cs ⟨{ hr.cur with env:=fun i v hv=>hr.cur.env i v (Xvk hs i v hv) },hr.up,hr.heap⟩
end Go.Vm
namespace Go.Vm
open Go Go.RowKit
inductive XKV where
 | v (x:Value)
 | sl (n:Nat) (cs:List Value)
def entry (k:Nat):List Md→List XKV→List Value
 | .v::ms,.v x::aqs=>x::entry k ms aqs
 | .sl sz::ms,.sl n _::aqs=>.slice (some ⟨k,0,none⟩) n sz::entry (k+1) ms aqs
 | _,_=>[]
def rowsOf (k:Nat):List XKV→Hp
 | .sl _ cs::aqs=>(k,.row false cs)::rowsOf (k+1) aqs
 | .v _::aqs=>rowsOf k aqs
 | []=>[]
def wins:List XKV→Nat
 | .sl _ _::aqs=>wins aqs+1
 | .v _::aqs=>wins aqs
 | []=>0
def ArgR (w:World):Md→XKV→Value→Prop
 | .v,.v x,rv=>Xa6 x=true∧rv=x
 | .sl sz,.sl n cs,rv=>((∃ a,rv=.slice a 0 0)∧n=0∧cs=[])∨∃ b o c,rv=.slice (some ⟨b,o,none⟩) n c∧n≤c∧∀ ρ,Xbh ρ w ⟨b,o,c*sz⟩ false cs
 | _,_,_=>False
inductive XyE (w:World):List Md→List XKV→List Value→Prop
 | nil:XyE w [] [] []
 | cons {m ms a aqs v vs} (h:ArgR w m a v) (t:XyE w ms aqs vs):XyE w (m::ms) (a::aqs) (v::vs)
theorem Xzp {k n:Nat} {ρc:Ren} {vs rvs:List Value} {Hr:Hp} {w:World} (c1:∀ i l,ρc i=some l→k+1≤i∧i<k+1+n) (c2:VRL ρc vs rvs)
 (c3:∀ i o,XaE Hr i=some o→∃ cs l,o=.row false cs∧ρc i=some l∧∀ ρ',Xbh ρ' w l false cs) (l:Loc) (cs:List Value) (hc:∀ ρ',Xbh ρ' w l false cs) :
 (∀ i l',upd ρc k l i=some l'→k≤i∧i<k+1+n)∧VRL (upd ρc k l) vs rvs ∧
   (∀ i o,XaE ((k,.row false cs)::Hr) i=some o→∃ cs l',o=.row false cs∧upd ρc k l i=some l'∧∀ ρ',Xbh ρ' w l' false cs)∧upd ρc k l k=some l:=by
 have hoff:ρc k=none:=by
  cases e:ρc k with
  | none=>rfl
  | some l=>have:=(c1 k l e).1;omega
 refine ⟨fun i l' e=>?_,c2.mono (Ext.upd hoff),fun i o e=>?_,upd_same _ _ _⟩
 ·by_cases hi:k=i
  ·subst hi;omega
  ·rw [upd_ne _ _ hi] at e;have:=c1 i l' e;omega
 ·rw [XkF] at e
  split at e
  ·rename_i hk
   cases e;subst hk
   exact ⟨cs,l,rfl,upd_same _ _ _,hc⟩
  ·rename_i hk
   obtain ⟨cs',l',a,b,c⟩:=c3 i o e
   exact ⟨cs',l',a,by rw [upd_ne _ _ hk];exact b,c⟩
theorem Xpv {w:World}:∀ {ms:List Md} {aqs:List XKV} {rvals:List Value} (k:Nat),XyE w ms aqs rvals →
 ∃ ρc:Ren,(∀ i l,ρc i=some l→k≤i∧i<k+wins aqs)∧VRL ρc (entry k ms aqs) rvals ∧
  (∀ i o,XaE (rowsOf k aqs) i=some o→∃ cs l,o=.row false cs∧ρc i=some l∧∀ ρ',Xbh ρ' w l false cs)
 | _,_,_,k,.nil=>⟨fun _=>none,fun i l e=>by simp at e,.nil,fun i o e=>by simp [rowsOf,XaE] at e⟩
 | _,_,_,k,.cons (m:=m) (a:=a) (v:=v) h t=>by
   cases m with
   | v=>
     cases a with
     | v x=>
       obtain ⟨hf,rfl⟩:=h
       obtain ⟨ρc,c1,c2,c3⟩:=Xpv k t
       exact ⟨ρc,c1,.cons (VR.flat _ _ hf) c2,c3⟩
     | _=>exact h.elim
   | sl sz=>
     cases a with
     | sl n cs=>
       obtain ⟨ρc,c1,c2,c3⟩:=Xpv (k+1) t
       rcases h with ⟨⟨a,rfl⟩,rfl,rfl⟩|⟨b,o,c,rfl,hn,hc⟩
       ·obtain ⟨d1,d2,d3,d4⟩:=Xzp c1 c2 c3 ⟨0,0,0⟩ [] (fun ρ'=>⟨Nat.zero_le _,fun i v e=>by simp at e,fun i hi=>absurd hi (Nat.not_lt_zero _)⟩)
        exact ⟨_,by simpa [wins,Nat.add_assoc,Nat.add_comm 1] using d1,.cons (.slice0 _) d2,d3⟩
       ·obtain ⟨d1,d2,d3,d4⟩:=Xzp c1 c2 c3 ⟨b,o,c*sz⟩ cs hc
        exact ⟨_,by simpa [wins,Nat.add_assoc,Nat.add_comm 1] using d1,.cons (.slice d4 hn (by simp)) d2,d3⟩
     | _=>exact h.elim
   | pt n=>cases a<;>exact h.elim
   | tr ps=>cases a<;>exact h.elim
theorem XAK {P:Program} {F:Fns} (hF:Xkw P F) {f:Nat} {ms:List Md} {aqs:List XKV} {rvals:List Value} {w:World} {c:Xbx} {r:Bool}
 (ha:XyE w ms aqs rvals) (hc:Xi0 F f (entry 0 ms aqs)=some c) (hl:XaK P f (wins aqs) ⟨c,[],rowsOf 0 aqs,wins aqs⟩ (fun v _ _=>v=.bool r)) :
 Calls P f ⟨rvals⟩ w fun e w'=>e=.returned (.bool r)∧Below w.heap.size w w':=by
 intro cs
 obtain ⟨ρc,c1,c2,c3⟩:=Xpv 0 ha
 have hpc:HpR P w UG.no ρc (rowsOf 0 aqs) (wins aqs) w:=
  { obj:=fun i o e=>by obtain ⟨cs',l,rfl,a,b⟩:=c3 i o e;exact ⟨l,a,b ρc,fun e=>by cases e⟩
    dis:=fun i j oi oj li lj _ hi _ _ _ hw=>by obtain ⟨cs',l,rfl,a,b⟩:=c3 i oi hi;cases hw
    lt:=fun i l e=>by have:=c1 i l e;exact .inr ⟨Nat.zero_le _,by omega⟩
    keep:=Keep.refl _ _ }
 obtain ⟨ρ',rv,fr',w',v',Hc,tc,g1,g2,g3,g4,g5,g6,g7⟩:=hl.get w _ ρc _ [] w cs ⟨(XjK hF hc c2).1,.nil,hpc⟩
 subst g7
 obtain rfl:=g4.Xyv
 exact ⟨.returned (.bool r),w',fr',⟨rfl,g5.keep.toBelow⟩,g1,g2,g3⟩
end Go.Vm
namespace Go.Vm
open Go
def XEZ (P:Program):List (Nat×Xbs)→Prop
 | []=>True
 | (i,s)::l=>XbA P i s∧XEZ P l
theorem Xal.XaV {P:Program}:∀ {l:List (Nat×Xbs)},XEZ P l→Xal P (XaE l)
 | [],_,f,s,h=>by simp [XaE] at h
 | (i,v)::l,hl,f,s,h=>by
   obtain ⟨h1,h2⟩:=hl
   simp only [XaE] at h
   cases hb:Nat.beq i f with
   | true=>
     rw [hb,cond_true,Option.some.injEq] at h
     subst h
     have:=Nat.eq_of_beq_eq_true hb
     subst this
     exact h1
   | false=>
     rw [hb,cond_false] at h
     exact Xal.XaV h2 f s h
theorem Xgn.intro {s:Xbs} {vals:List Value} {h:Hp} {top:Nat} {K:Value→Hp→Nat→Prop} {v:Value} {h':Hp} {top':Nat} (e:Xif s vals h top=some (v,h',top')) (k:Xg8 v fun v=>K v h' top'):Xgn s vals h top K:=by
 unfold Xgn;rw [e];simp only [XgU,XoY] at *;exact k
def unL {α:Type} (f:Value→Option α):List Value→Option (List α)
 | []=>some []
 | v::l=>match f v with
   | some x=>match unL f l with
     | some xs=>some (x::xs)
     | none=>none
   | none=>none
theorem Xx2 {α:Type} {f:Value→Option α} {g:α→Value} (h:∀ x,f (g x)=some x):∀ (xs:List α),unL f (xs.map g)=some xs
 | []=>rfl
 | x::xs=>by rw [List.map_cons,unL,h,Xx2 h xs]
theorem XuS {α:Type} {f:Value→Option α} {g:α→Value} (h:∀ v x,f v=some x→v=g x):∀ {cs:List Value} {xs:List α},unL f cs=some xs→cs=xs.map g
 | [],xs,e=>by simp only [unL,Option.some.injEq] at e;subst e;rfl
 | v::cs,xs,e=>by
   simp only [unL] at e
   split at e<;>try (cases e;done)
   rename_i x hx
   split at e<;>cases e
   rename_i ys hys
   rw [List.map_cons,←h v x hx,←XuS h hys]
theorem XmI {α:Type} {g:α→Value} (h:∀ x,Xa6 (g x)=true):∀ (xs:List α),Xa6.flatL (xs.map g)=true
 | []=>rfl
 | x::xs=>by rw [List.map_cons,Xa6.flatL,h,XmI h xs];rfl
def asB:Value→Option Bool|.bool b=>some b|_=>none
theorem XzZ (v:Value) (x:Bool) (h:asB v=some x):v=.bool x:=by cases v<;>simp [asB] at h;subst h;rfl
def asI (k:IntKind):Value→Option Int|.int k' n=>if k'=k then some n else none|_=>none
theorem Xxq (k:IntKind) (v:Value) (x:Int) (h:asI k v=some x):v=.int k x:=by
 cases v<;>simp [asI] at h
 obtain ⟨rfl,rfl⟩:=h;rfl
def reE (m:Nat→Option Nat) (e:Env):Env→Prop
 | []=>True
 | (i,v)::l=>(∃ v',Xei m v=some v'∧XaE e i=some v')∧reE m e l
theorem Xtw {m:Nat→Option Nat} {e:Env}:∀ {l:Env},reE m e l→XMo m e l
 | [],_=>trivial
 | (i,v)::l,⟨⟨v',h1,h2⟩,h3⟩=>⟨by rw [h1];exact h2,Xtw h3⟩
def reH (m:Nat→Option Nat) (H:Hp):Hp→Prop
 | []=>True
 | (i,o')::l=>(∃ j o,m i=some j∧XaE H j=some o∧Xqz m o o')∧reH m H l
theorem Xzy {m:Nat→Option Nat} {H:Hp}:∀ {l:Hp},reH m H l→HSub m H l
 | [],_,i,o,h=>by simp [XaE] at h
 | (k,x)::l,⟨h1,h2⟩,i,o,h=>by
   rw [XkF] at h
   split at h
   ·rename_i e;cases h;subst e;exact h1
   ·exact Xzy h2 i o h
def reU (m:Nat→Option Nat):List Xbx→List Xbx→Prop
 | [],[]=>True
 | ⟨fn,nt,e,td,ds,ret,rd⟩::l,⟨fn',nt',e',td',ds',ret',rd'⟩::l'=>(fn'=fn∧nt'=nt∧ret'=ret∧rd=none∧rd'=none∧reE m e e'∧XBA m td'=some td∧XD7 m ds'=some ds)∧reU m l l'
 | _,_=>False
theorem Xxo {m:Nat→Option Nat}:∀ {l l':List Xbx},reU m l l'→XkG (FSub m) l l'
 | [],[],_=>.nil
 | ⟨_,_,_,_,_,_,_⟩::l,⟨_,_,_,_,_,_,_⟩::l',⟨⟨h1,h2,h3,h4,h5,h6,h7,h8⟩,h9⟩=>.cons ⟨h1,h2,Xtw h6,h7,h8,h3,by simp only;rw [h4,h5];trivial⟩ (Xxo h9)
 | [],_::_,h=>h.elim
 | _::_,[],h=>h.elim
def Xrf (j:Nat):List (Nat×Nat)→Bool
 | []=>true
 | (_,k)::l=>cond (Nat.beq j k) false (Xrf j l)
def XAO (base top':Nat):List (Nat×Nat)→Bool
 | m=>injM m&&ltM m&&fixM m base
where
 injM:List (Nat×Nat)→Bool
  | []=>true
  | (_,j)::l=>Xrf j l&&injM l
 ltM:List (Nat×Nat)→Bool
  | []=>true
  | (i,_)::l=>Nat.blt i top'&&ltM l
 fixM (m:List (Nat×Nat)):Nat→Bool
  | 0=>true
  | n+1=>(match XaE m n with|some j=>Nat.beq j n|none=>false)&&fixM m n
theorem Xkn {j:Nat}:∀ {l:List (Nat×Nat)},Xrf j l=true→∀ i,XaE l i≠some j
 | [],_,i,h=>by simp [XaE] at h
 | (a,k)::l,hv,i,h=>by
   simp only [Xrf] at hv
   cases hb:Nat.beq j k with
   | true=>rw [hb] at hv;cases hv
   | false=>
     rw [hb,cond_false] at hv
     rw [XkF] at h
     split at h
     ·cases h;simp at hb
     ·exact Xkn hv i h
theorem XsQ {top':Nat}:∀ {l:List (Nat×Nat)},XAO.injM l=true→∀ i j k,XaE l i=some k→XaE l j=some k→i=j
 | [],_,i,j,k,h,_=>by simp [XaE] at h
 | (a,b)::l,hv,i,j,k,h1,h2=>by
   simp only [XAO.injM,Bool.and_eq_true] at hv
   rw [XkF] at h1 h2
   split at h1<;>split at h2
   ·omega
   ·cases h1;exact absurd h2 (Xkn hv.1 j)
   ·cases h2;exact absurd h1 (Xkn hv.1 i)
   ·exact XsQ (top':=top') hv.2 i j k h1 h2
theorem Xuo {top':Nat}:∀ {l:List (Nat×Nat)},XAO.ltM top' l=true→∀ i j,XaE l i=some j→i<top'
 | [],_,i,j,h=>by simp [XaE] at h
 | (a,b)::l,hv,i,j,h=>by
   simp only [XAO.ltM,Bool.and_eq_true] at hv
   rw [XkF] at h
   split at h
   ·rename_i e;subst e;exact Nat.blt_eq.mp hv.1
   ·exact Xuo hv.2 i j h
theorem Xsk {m:List (Nat×Nat)}:∀ {n:Nat},XAO.fixM m n=true→∀ i,i<n→XaE m i=some i
 | 0,_,i,h=>absurd h (Nat.not_lt_zero _)
 | n+1,hv,i,h=>by
   simp only [XAO.fixM,Bool.and_eq_true] at hv
   by_cases hi:i=n
   ·subst hi
    have:=hv.1
    split at this
    ·rename_i j hj;rw [hj,Nat.eq_of_beq_eq_true this]
    ·cases this
   ·exact Xsk hv.2 i (by omega)
theorem XaK.re {P:Program} {f base fn nt:Nat} {e e':Env} {todo todo':List Xfq} {ds ds':List Nat} {ret:Bool} {up up':List Xbx} {H H':Hp} {top top':Nat} {R:Value→Hp→Nat→Prop}
 (h:XaK P f base ⟨⟨fn,nt,e',todo',ds',ret,none⟩,up',H',top'⟩ R) (m:List (Nat×Nat)) (hc:XAO base top' m=true) (he:reE (XaE m) e e') (hH:reH (XaE m) H H')
 (ht:XBA (XaE m) todo'=some todo:=by rfl) (hd:XD7 (XaE m) ds'=some ds:=by rfl) (hu:reU (XaE m) up up':=by trivial) :
 XaK P f base ⟨⟨fn,nt,e,todo,ds,ret,none⟩,up,H,top⟩ R:=by
 simp only [XAO,Bool.and_eq_true] at hc
 refine XaK.sub (s:=XaE m) ?_ h
 exact ⟨⟨rfl,rfl,Xtw he,ht,hd,rfl,trivial⟩,Xxo hu,Xzy hH,XsQ (top':=top') hc.1.1,Xuo hc.1.2,Xsk hc.2⟩
end Go.Vm
namespace Go.Vm
open Go Go.RowKit Go.WideShapes
def XpG (g:TypeId→Option (List SK)) (P:Program) (o:Nat):List Field→Option (List SK)
 | []=>some []
 | f::fs=>if f.offset=o then match g f.type with
   | some a=>if a.length=P.cellsOf f.type then match XpG g P (o+a.length) fs with
     | some b=>some (a++b)
     | none=>none
     else none
   | none=>none
   else none
def Xze (P:Program):Nat→TypeId→Option (List SK)
 | 0,_=>none
 | n+1,t=>match P.underlying t with
   | some .bool=>some [.bool]
   | some (.int k)=>some [.int k]
   | some .string=>some [.str]
   | some (.struct fs)=>match XpG (Xze P n) P 0 fs.toList with
     | some ks=>if ks.length=P.cellsOf t then some ks else none
     | none=>none
   | _=>none
def Xps:SK→Value→Prop
 | .bool,v=>∃ b,v=.bool b
 | .int k,v=>∃ n,v=.int k n∧(Lit.int k n).wf=true
 | .str,v=>∃ s,v=.string s∧s.size≤maxLen
 | .oth,_=>False
def Xfg:List SK→List Value→Prop
 | [],[]=>True
 | k::ks,v::vs=>Xps k v∧Xfg ks vs
 | _,_=>False
theorem Xfg.append:∀ {a b:List SK} {x y:List Value},Xfg a x→Xfg b y→Xfg (a++b) (x++y)
 | [],_,[],_,_,k=>k
 | [],_,_::_,_,h,_=>h.elim
 | _::_,_,[],_,h,_=>h.elim
 | _::_,_,_::_,_,h,k=>⟨h.1,Xfg.append h.2 k⟩
theorem Xfg.length:∀ {a:List SK} {x:List Value},Xfg a x→x.length=a.length
 | [],[],_=>rfl
 | [],_::_,h=>h.elim
 | _::_,[],h=>h.elim
 | _::_,_::_,h=>by simp [Xfg.length h.2]
theorem Xfg.inv {k:SK} {ks:List SK} {cs:List Value} (h:Xfg (k::ks) cs):∃ v vs,cs=v::vs∧Xps k v∧Xfg ks vs:=by
 cases cs with
 | nil=>exact h.elim
 | cons v vs=>exact ⟨v,vs,rfl,h⟩
theorem Xfg.inv0 {cs:List Value} (h:Xfg [] cs):cs=[]:=by
 cases cs with
 | nil=>rfl
 | cons=>exact h.elim
section
variable {H:Type} {enc:TypeId×Value→H} {P:Program} {w:World} {base:Nat} {spare:Nat→Bool} {held:Bool}
theorem Xqh {g:TypeId→Option (List SK)} {F:TypeId→List Value→Prop} (hg:∀ t ks cs,g t=some ks→F t cs→Xfg ks cs) {cs:List Value} :
 ∀ {fs:List Field} {o:Nat} {ks:List SK},XpG g P o fs=some ks→(∀ f∈fs,F f.type ((cs.drop f.offset).take (P.cellsOf f.type)))→Xfg ks ((cs.drop o).take ks.length)
 | [],o,ks,h,_=>by simp only [XpG,Option.some.injEq] at h;subst h;simp [Xfg]
 | f::fs,o,ks,h,hm=>by
   simp only [XpG] at h
   split at h<;>try (cases h;done)
   rename_i ho
   split at h<;>try (cases h;done)
   rename_i a ha
   split at h<;>try (cases h;done)
   rename_i hl
   split at h<;>cases h
   rename_i b hb
   have h1:=hg f.type a _ ha (hm f (by simp))
   have h2:=Xqh hg hb (fun f' hf=>hm f' (by simp [hf]))
   have h3:=h1.append h2
   rw [ho,←hl] at h3
   rw [List.length_append,List.take_add,List.drop_drop]
   exact h3
theorem Xr7:∀ {n:Nat} {t:TypeId} {ks:List SK} {fuel:Nat} {cs:List Value} {x:DataW H×List MemPlace},Xze P n t=some ks→DataW.trod enc P w base spare held fuel t cs=some x→Xfg ks cs
 | 0,t,ks,fuel,cs,x,h,_=>by simp [Xze] at h
 | n+1,t,ks,fuel,cs,x,h,hd=>by
   simp only [Xze] at h
   split at h
   ·rename_i ht
    cases h
    obtain ⟨b,rfl,_⟩:=DataW.trod_bool ht hd
    exact ⟨⟨_,rfl⟩,trivial⟩
   ·rename_i k ht
    cases h
    obtain ⟨b,rfl,_,hw⟩:=DataW.trod_int ht hd
    exact ⟨⟨_,rfl,hw⟩,trivial⟩
   ·rename_i ht
    cases h
    obtain ⟨b,rfl,_,hw⟩:=DataW.trod_string ht hd
    exact ⟨⟨_,rfl,hw⟩,trivial⟩
   ·rename_i fs ht
    split at h<;>try (cases h;done)
    rename_i ks' hks
    split at h<;>cases h
    rename_i hlen
    obtain ⟨xs,m,_,_,hcl,hxl,hf⟩:=DataW.trod_struct ht hd
    have:=Xqh (P:=P) (cs:=cs) (F:=fun t cs=>∃ x,DataW.trod enc P w base spare held m t cs=some x) (fun t ks cs h1 ⟨x,h2⟩=>Xr7 h1 h2) hks (fun f hfm=>by
     obtain ⟨i,hi⟩:=List.getElem?_of_mem hfm
     rw [Array.getElem?_toList] at hi
     have hlt:i<xs.length:=by rw [hxl];exact (Array.getElem?_eq_some_iff.1 hi).1
     exact ⟨xs[i],by rw [hf i f hi,List.getElem?_eq_getElem hlt]⟩)
    rw [List.drop_zero,List.take_of_length_le (by omega)] at this
    exact this
   ·cases h
theorem XNp {r:Reach} {b0 n:Nat} {t:TypeId} {ks:List SK} {v:Value} {d:DataW H} {ps:List MemPlace} (hk:Xze P n t=some ks) (hval:Value.okWide P w r b0 t v) (hd:DataW.Trod enc P w base spare held t v d ps) :
 Xfg ks (Xa1 v)∧((Xd7 P t=true∧v=.agg ⟨Xa1 v⟩)∨Xd7 P t=false):=by
 obtain ⟨fuel,hf⟩:=hd
 refine ⟨Xr7 hk hf,?_⟩
 unfold Value.okWide at hval
 unfold Xd7
 split at hval
 ·rename_i hu;rw [hu]
  obtain ⟨cs,rfl,_⟩:=hval
  exact .inl ⟨rfl,rfl⟩
 ·rename_i hu;rw [hu]
  obtain ⟨cs,rfl,_⟩:=hval
  exact .inl ⟨rfl,rfl⟩
 ·rename_i h1 h2
  right
  split
  ·rename_i hu;exact absurd hu (h1 _)
  ·rename_i hu;exact absurd hu (h2 _ _)
  ·rfl
def RowR (w:World) (k:SK) (a:Option Addr) (len cap:Nat) (zs:List Value):Prop:=
 (a=none∧len=0∧cap=0∧zs=[])∨∃ x,a=some x∧len≤cap∧cap≤maxLen∧zs.length=cap∧∀ (i:Nat) v,zs[i]?=some v→w.cell? (x.add i)=some v∧Xps k v
theorem Xps.flat {k:SK} {v:Value} (h:Xps k v):Xa6 v=true:=by
 cases k with
 | bool=>obtain ⟨b,rfl⟩:=h;rfl
 | int k=>obtain ⟨b,rfl,_⟩:=h;rfl
 | str=>obtain ⟨b,rfl,_⟩:=h;rfl
 | oth=>exact h.elim
theorem ArgR.row {k:SK} {w:World} {a:Option Addr} {len cap:Nat} {zs:List Value} (h:RowR w k a len cap zs):ArgR w (.sl 1) (.sl len (zs.take len)) (.slice a len cap)∧(zs.take len).length=len∧(∀ v∈zs.take len,Xps k v)∧len≤maxLen:=by
 rcases h with ⟨rfl,rfl,rfl,rfl⟩|⟨x,rfl,hl,hm,hz,hc⟩
 ·exact ⟨.inl ⟨⟨_,rfl⟩,rfl,rfl⟩,rfl,fun v hv=>by simp at hv,by simp [maxLen]⟩
 ·have hleaf:∀ v∈zs.take len,Xps k v:=fun v hv=>by
   obtain ⟨i,hi⟩:=List.getElem?_of_mem (List.mem_of_mem_take hv)
   exact (hc i v hi).2
  refine ⟨?_,by simp;omega,hleaf,by omega⟩
  rcases Nat.eq_zero_or_pos cap with h0|h0
  ·subst h0
   obtain rfl:len=0:=by omega
   exact .inl ⟨⟨_,rfl⟩,rfl,by simp⟩
  ·have hs:x.spot=none:=by
    have:=(hc 0 zs[0] (List.getElem?_eq_getElem (by omega))).1
    cases hx:x.spot with
    | none=>rfl
    | some q=>
      simp only [Addr.add,↓reduceIte,World.cell?] at this
      split at this
      ·simp [hx] at this
      ·cases this
   obtain ⟨b,o,q⟩:=x
   simp only at hs
   subst hs
   have hadd:∀ i,(⟨b,o,none⟩:Addr).add i=⟨b,o+i,none⟩:=fun i=>by
    unfold Addr.add;split
    ·rename_i e;subst e;rfl
    ·rfl
   refine .inr ⟨b,o,cap,rfl,hl,fun ρ=>⟨by simp;omega,fun i v e=>?_,fun i hi=>?_⟩⟩
   ·have hi:i<len:=by
     rcases Nat.lt_or_ge i len with h|h
     ·exact h
     ·rw [List.getElem?_eq_none (by simp;omega)] at e;cases e
    rw [List.getElem?_take_of_lt hi] at e
    obtain ⟨h1,h2⟩:=hc i v e
    rw [hadd] at h1
    exact ⟨v,h1,VR.flat ρ v h2.flat⟩
   ·have hi':i<zs.length:=by simp at hi;omega
    obtain ⟨h1,_⟩:=hc i zs[i] (List.getElem?_eq_getElem hi')
    rw [hadd] at h1
    exact ⟨by simp [h1],fun e=>by cases e⟩
end
theorem wf_u8 {n:Int} (h:(Lit.int .u8 n).wf=true):0≤n∧n<256:=by simp [Lit.wf,IntKind.min,IntKind.max,IntKind.signed,IntKind.bits] at h;omega
theorem wf_u16 {n:Int} (h:(Lit.int .u16 n).wf=true):0≤n∧n<65536:=by simp [Lit.wf,IntKind.min,IntKind.max,IntKind.signed,IntKind.bits] at h;omega
theorem wf_u32 {n:Int} (h:(Lit.int .u32 n).wf=true):0≤n∧n<4294967296:=by simp [Lit.wf,IntKind.min,IntKind.max,IntKind.signed,IntKind.bits] at h;omega
theorem wf_u64 {n:Int} (h:(Lit.int .u64 n).wf=true):0≤n∧n<18446744073709551616:=by simp [Lit.wf,IntKind.min,IntKind.max,IntKind.signed,IntKind.bits] at h;omega
end Go.Vm
namespace Go.Vm
open Go Go.RowKit
abbrev wI (k:IntKind) (n:Int):Int:=IntKind.wrap k n
abbrev Xl7 (k:IntKind) (a b:Int):Int:=IntKind.wrap k (BitVec.ofInt k.bits a &&& BitVec.ofInt k.bits b).toNat
abbrev XuZ (k:IntKind) (a b:Int):Int:=IntKind.wrap k (BitVec.ofInt k.bits a ||| BitVec.ofInt k.bits b).toNat
abbrev Xj6 (k:IntKind) (a b:Int):Int:=IntKind.wrap k (BitVec.ofInt k.bits a &&& ~~~ BitVec.ofInt k.bits b).toNat
def Xa9 {α:Type} (b:Bool) (x:Option α):Option α:=match b with|true=>x|false=>none
theorem Xa9.elim {α:Type} {b:Bool} {x:Option α} {r:α} (h:Xa9 b x=some r):b=true∧x=some r:=by cases b;cases h;exact ⟨rfl,h⟩
theorem Xa9.mk {α:Type} {b:Bool} {x:Option α} (h:b=true):Xa9 b x=x:=by subst h;rfl
theorem Xdv.elim {α β:Type} {x:Option α} {F:α→Option β} {r:β} (h:x.bind F=some r):∃ a,x=some a∧F a=some r:=by cases x with|none=>cases h|some a=>exact ⟨a,rfl,h⟩
def FUEL:Nat:=2^64
def iter {σ ρ:Type} (f:σ→Option (Sum σ ρ)):Nat→σ→Option ρ
 | 0,_=>none
 | n+1,s=>match f s with
   | none=>none
   | some (.inl s')=>iter f n s'
   | some (.inr r)=>some r
theorem XcZ {σ ρ:Type} {P:Program} {f base:Nat} {R:Value→Hp→Nat→Prop} {step:σ→Option (Sum σ ρ)} {head:σ→VM} {C:ρ→Prop}
 (h:∀ s o,step s=some o→Sum.elim (fun s'=>XaK P f base (head s') R) C o→XaK P f base (head s) R) :
 ∀ n s r,iter step n s=some r→C r→XaK P f base (head s) R
 | 0,_,_,e,_=>by cases e
 | n+1,s,r,e,hc=>by
   rw [iter] at e
   split at e
   ·cases e
   ·rename_i s' hs
    exact h s _ hs (XcZ h n s' r e hc)
   ·rename_i r' hs
    cases e
    exact h s _ hs hc
def vI (k:IntKind) (xs:List Int):List Value:=xs.map (Value.int k)
def vB (xs:List Bool):List Value:=xs.map Value.bool
def vS (xs:List (List UInt8)):List Value:=xs.map fun s=>Value.string ⟨⟨s⟩⟩
def bI (l:List UInt8):List Int:=l.map fun b=>(b.toNat:Int)
def iB (xs:List Int):List UInt8:=xs.map fun n=>UInt8.ofNat n.toNat
@[simp] theorem vI_len (k:IntKind) (xs:List Int):(vI k xs).length=xs.length:=List.length_map _
@[simp] theorem vB_len (xs:List Bool):(vB xs).length=xs.length:=List.length_map _
@[simp] theorem vS_len (xs:List (List UInt8)):(vS xs).length=xs.length:=List.length_map _
@[simp] theorem bI_len (l:List UInt8):(bI l).length=l.length:=List.length_map _
@[simp] theorem iB_len (l:List Int):(iB l).length=l.length:=List.length_map _
theorem Xi4 (k:IntKind) (xs:List Int):Xa6.flatL (vI k xs)=true:=XmI (fun _=>rfl) xs
theorem Xm7 (xs:List Bool):Xa6.flatL (vB xs)=true:=XmI (fun _=>rfl) xs
theorem XnA (xs:List (List UInt8)):Xa6.flatL (vS xs)=true:=XmI (fun _=>rfl) xs
theorem Xjr (k:IntKind):∀ (xs:List Int),(vI k xs).all Xh9=true
 | []=>rfl
 | _::xs=>by simp only [vI,List.map_cons,List.all_cons,Xh9,Bool.true_and];exact Xjr k xs
theorem XmX:∀ (xs:List Bool),(vB xs).all Xh9=true
 | []=>rfl
 | _::xs=>by simp only [vB,List.map_cons,List.all_cons,Xh9,Bool.true_and];exact XmX xs
theorem Xmz:∀ (xs:List (List UInt8)),(vS xs).all Xh9=true
 | []=>rfl
 | _::xs=>by simp only [vS,List.map_cons,List.all_cons,Xh9,Bool.true_and];exact Xmz xs
theorem Xhw (l:List UInt8):ofBytes l=vI .u8 (bI l):=by simp [ofBytes,vI,bI,List.map_map]
theorem Xno:∀ (xs:List Int),Xf0 (vI .u8 xs)=some (iB xs)
 | []=>rfl
 | x::xs=>by simp only [vI,List.map_cons,Xf0];rw [show Xf0 (xs.map (Value.int .u8))=_ from Xno xs];rfl
theorem XOb (k:IntKind) (xs:List Int) (i:Nat) (x:Int):(vI k xs).set i (.int k x)=vI k (xs.set i x):=by simp [vI,List.map_set]
theorem XnF (k:IntKind) (xs:List Int) (n:Nat):(vI k xs).drop n=vI k (xs.drop n):=by simp [vI,List.map_drop]
theorem Xng (k:IntKind) (xs:List Int) (n:Nat):(vI k xs).take n=vI k (xs.take n):=by simp [vI,List.map_take]
theorem XGX (xs:List Bool) (n:Nat):(vB xs).drop n=vB (xs.drop n):=by simp [vB,List.map_drop]
theorem XJ1 (xs:List Bool) (n:Nat):(vB xs).take n=vB (xs.take n):=by simp [vB,List.map_take]
theorem XpP (xs:List (List UInt8)) (n:Nat):(vS xs).drop n=vS (xs.drop n):=by simp [vS,List.map_drop]
theorem Xpj (xs:List (List UInt8)) (n:Nat):(vS xs).take n=vS (xs.take n):=by simp [vS,List.map_take]
theorem XEU (k:IntKind) (xs ys:List Int):vI k xs++vI k ys=vI k (xs++ys):=by simp [vI]
theorem br.h {α:Type} {b b':Bool} {X Y:Option α} {r:α} {p q:Prop} (h:cond b' X Y=some r) (e:b=b') (k1:b'=true→X=some r→p) (k2:b'=false→Y=some r→q):br b p q:=by
 subst e;cases b;exact k2 rfl h;exact k1 rfl h
theorem rd.I {k:IntKind} {xs:List Int} {o i:Nat} {x:Int} {K:Value→Prop} (hx:xs[i]?=some x) (e:o=i) (h:Xg8 (.int k x) K):rd (vI k xs) o K:=by
 subst e;exact rd.intro (v:=.int k x) (by simp [vI,hx]) h
theorem rd.B {xs:List Bool} {o i:Nat} {x:Bool} {K:Value→Prop} (hx:xs[i]?=some x) (e:o=i) (h:Xg8 (.bool x) K):rd (vB xs) o K:=by
 subst e;exact rd.intro (v:=.bool x) (by simp [vB,hx]) h
theorem rd.S {xs:List (List UInt8)} {o i:Nat} {x:List UInt8} {K:Value→Prop} (hx:xs[i]?=some x) (e:o=i) (h:Xg8 (.string ⟨⟨x⟩⟩) K):rd (vS xs) o K:=by
 subst e;exact rd.intro (v:=.string ⟨⟨x⟩⟩) (by simp [vS,hx]) h
theorem XHD {k:IntKind} {xs:List Int} {o i:Nat} {x:Int} (hb:decide (i<xs.length)=true) (e:o=i):(decide ((Xa1 (.int k x)).length=1∧o+1≤(vI k xs).length)&&(Xa1 (.int k x)).all Xh9)=true:=by
 subst e;have:=of_decide_eq_true hb;simp [Xa1,Value.cells,Xh9];omega
theorem XQG {k:IntKind} {xs:List Int} {o i:Nat} {x:Int} {K:List Value→Prop} (e:o=i) (h:K (vI k (xs.set i x))):∃ cs',setAt (vI k xs) o (Xa1 (.int k x))=cs'∧K cs':=
 ⟨_,by subst e;exact XOb k xs o x,h⟩
theorem XP4 {k:IntKind} {n:Nat} {z:Int} {K:List Value→Prop} (h:K (vI k (List.replicate n z))):∃ cs',(List.replicate n [Value.int k z]).flatten=cs'∧K cs':=
 ⟨_,by simp [vI,List.flatten_replicate_singleton],h⟩
theorem XS4 {l:List UInt8} {K:List Value→Prop} (h:K (vI .u8 (bI l))):∃ cs',ofBytes l=cs'∧K cs':=⟨_,Xhw l,h⟩
theorem XM5 {xs:List Int} {o n:Nat} {K:List UInt8→Prop} (h:K (iB ((xs.drop o).take n))):∃ bs,Xf0 (((vI .u8 xs).drop o).take n)=some bs∧K bs:=
 ⟨_,by rw [XnF,Xng];exact Xno _,h⟩
theorem XLG {l:List Value} {bs:List UInt8} {K:List UInt8→Prop} (e:Xf0 l=some bs) (h:K bs):∃ bs,Xf0 l=some bs∧K bs:=⟨_,e,h⟩
theorem XJh {k:IntKind} {new:List Value} {m:Nat} {ys:List Int} {K:List Value→Nat→Prop} (e:new=vI k ys) (em:m=ys.length) (h:K (vI k ys) ys.length):∃ cs' n',new=cs'∧m=n'∧K cs' n':=⟨_,_,e,em,h⟩
theorem XM4 {k:IntKind} {new:List Value} {xs:List Int} {o c n m:Nat} {ys:List Int} {K:List Value→Nat→Prop} (e:new=vI k ys) (h0:o=0) (hc:c=xs.length) (hn:n+m=(xs++ys).length) (h:K (vI k (xs++ys)) (xs++ys).length) :
 ∃ cs' n',((vI k xs).drop o).take c++new=cs'∧n+m=n'∧K cs' n':=
 ⟨_,_,by subst h0;rw [List.drop_zero,List.take_of_length_le (by simp [hc]),e,XEU],hn,h⟩
def vT {α:Type} (f:α→List Value) (xs:List α):List Value:=xs.flatMap f
section
variable {α:Type} {f:α→List Value} {c:Nat}
theorem XpE (hf:∀ x,(f x).length=c) (xs:List α):(vT f xs).length=xs.length*c:=by
 induction xs with
 | nil=>simp [vT]
 | cons x xs ih=>
   have:vT f (x::xs)=f x++vT f xs:=rfl
   rw [this,List.length_append,hf,ih,List.length_cons,Nat.succ_mul];omega
theorem Xnp (hf:∀ x,Xa6.flatL (f x)=true) (xs:List α):Xa6.flatL (vT f xs)=true:=by
 have app:∀ a b:List Value,Xa6.flatL a=true→Xa6.flatL b=true→Xa6.flatL (a++b)=true:=by
  intro a b ha hb
  induction a with
  | nil=>exact hb
  | cons v a ih=>simp only [Xa6.flatL,Bool.and_eq_true,List.cons_append] at ha ⊢;exact ⟨ha.1,ih ha.2⟩
 induction xs with
 | nil=>rfl
 | cons x xs ih=>exact app _ _ (hf x) ih
theorem XnV (hf:∀ x,(f x).all Xh9=true) (xs:List α):(vT f xs).all Xh9=true:=by
 induction xs with
 | nil=>rfl
 | cons x xs ih=>have:vT f (x::xs)=f x++vT f xs:=rfl;rw [this,List.all_append,hf,ih];rfl
theorem XFx (xs ys:List α):vT f xs++vT f ys=vT f (xs++ys):=by simp [vT]
theorem XrW (hf:∀ x,(f x).length=c) (xs:List α) (n:Nat):(vT f xs).drop (n*c)=vT f (xs.drop n):=by
 induction xs generalizing n with
 | nil=>simp [vT]
 | cons x xs ih=>
   cases n with
   | zero=>simp
   | succ n=>
     have:vT f (x::xs)=f x++vT f xs:=rfl
     rw [this,List.drop_succ_cons,Nat.succ_mul,Nat.add_comm,List.drop_append,hf,List.drop_eq_nil_of_le (by rw [hf];omega),List.nil_append,show c+n*c - c=n*c by omega,ih]
theorem Xri (hf:∀ x,(f x).length=c) (xs:List α) (n:Nat):(vT f xs).take (n*c)=vT f (xs.take n):=by
 induction xs generalizing n with
 | nil=>simp [vT]
 | cons x xs ih=>
   cases n with
   | zero=>simp [vT]
   | succ n=>
     have:vT f (x::xs)=f x++vT f xs:=rfl
     have h2:vT f ((x::xs).take (n+1))=f x++vT f (xs.take n):=rfl
     rw [this,h2,Nat.succ_mul,Nat.add_comm,List.take_append,hf,List.take_of_length_le (by rw [hf];omega),show c+n*c - c=n*c by omega,ih]
theorem XMY (hf:∀ x,(f x).length=c) {xs:List α} {i j:Nat} {x:α} (hx:xs[i]?=some x) (hj:j<c):(vT f xs)[i*c+j]?=(f x)[j]?:=by
 induction xs generalizing i with
 | nil=>simp at hx
 | cons y xs ih=>
   have:vT f (y::xs)=f y++vT f xs:=rfl
   rw [this]
   cases i with
   | zero=>
     simp at hx;subst hx
     rw [Nat.zero_mul,Nat.zero_add,List.getElem?_append_left (by rw [hf];exact hj)]
   | succ i=>
     rw [List.getElem?_append_right (by rw [hf,Nat.succ_mul];omega),hf,show (i+1)*c+j - c=i*c+j by rw [Nat.succ_mul];omega]
     exact ih (by simpa using hx)
theorem rd.T (hf:∀ x,(f x).length=c) {xs:List α} {o i j:Nat} {x:α} {v:Value} {K:Value→Prop} (hx:xs[i]?=some x) (e:o=i*c+j) (hj:j<c) (hv:(f x)[j]?=some v) (h:Xg8 v K):rd (vT f xs) o K:=by
 subst e;exact rd.intro (by rw [XMY hf hx hj];exact hv) h
theorem rd.U (hf:∀ x,(f x).length=c) {xs:List α} {o i j:Nat} {x:α} {v:Value} {K:Value→Prop} (hx:xs[i]?=some x) (h:Xg8 v K) (e:o=i*c+j:=by first|omega|exact Nat.zero_add _|exact congrArg (·+_) (Nat.zero_add _)) (hj:j<c:=by decide) (hv:(f x)[j]?=some v:=by exact rfl):rd (vT f xs) o K:=rd.T hf hx e hj hv h
theorem XF1 (hf:∀ x,(f x).length=c) {new:List Value} {xs:List α} {o k n m:Nat} {ys:List α} {K:List Value→Nat→Prop} (e:new=vT f ys) (h0:o=0) (hc:k=xs.length*c) (hn:n+m=(xs++ys).length) (h:K (vT f (xs++ys)) (xs++ys).length) :
 ∃ cs' n',((vT f xs).drop o).take k++new=cs'∧n+m=n'∧K cs' n':=
 ⟨_,_,by subst h0;rw [List.drop_zero,List.take_of_length_le (by rw [XpE hf,hc];omega),e,XFx],hn,h⟩
def unT (sz:Nat) (un:List Value→Option α):Nat→List Value→Option (List α)
 | 0,[]=>some []
 | 0,_::_=>none
 | _+1,[]=>some []
 | n+1,v::cs=>match un ((v::cs).take sz) with
   | some x=>match unT sz un n ((v::cs).drop sz) with
     | some xs=>some (x::xs)
     | none=>none
   | none=>none
theorem XFz {un:List Value→Option α} (hf:∀ x,(f x).length=c) (h0:0<c) (hu:∀ x,un (f x)=some x):∀ (xs:List α) (n:Nat),xs.length≤n→unT c un n (vT f xs)=some xs
 | [],0,_=>rfl
 | [],n+1,_=>rfl
 | x::xs,0,h=>by simp at h
 | x::xs,n+1,h=>by
   have e:vT f (x::xs)=f x++vT f xs:=rfl
   obtain ⟨v,l,hv⟩:∃ v l,vT f (x::xs)=v::l:=by
    cases hx:f x with
    | nil=>have:=hf x;rw [hx] at this;simp at this;omega
    | cons v l=>exact ⟨v,l++vT f xs,by rw [e,hx];rfl⟩
   rw [hv,unT,←hv,e,List.take_append_of_le_length (by rw [hf];exact Nat.le_refl _),List.take_of_length_le (by rw [hf];exact Nat.le_refl _),hu,List.drop_append,hf,List.drop_eq_nil_of_le (by rw [hf];exact Nat.le_refl _),Nat.sub_self,List.drop_zero,List.nil_append,XFz hf h0 hu xs n (by simpa using h)]
theorem Xsl {un:List Value→Option α} (hu:∀ cs x,un cs=some x→cs=f x):∀ {n:Nat} {cs:List Value} {xs:List α},unT c un n cs=some xs→cs=vT f xs
 | 0,[],xs,h=>by simp only [unT,Option.some.injEq] at h;subst h;rfl
 | 0,_::_,xs,h=>by simp [unT] at h
 | n+1,[],xs,h=>by simp only [unT,Option.some.injEq] at h;subst h;rfl
 | n+1,v::cs,xs,h=>by
   simp only [unT] at h
   split at h<;>try (cases h;done)
   rename_i x hx
   split at h<;>cases h
   rename_i ys hys
   have e1:=hu _ _ hx
   have e2:=Xsl hu hys
   have:vT f (x::ys)=f x++vT f ys:=rfl
   rw [this,←e1,←e2,List.take_append_drop]
def unR (sz:Nat) (un:List Value→Option α) (cs:List Value):Option (List α):=unT sz un cs.length cs
theorem XQg {un:List Value→Option α} (hf:∀ x,(f x).length=c) (h0:0<c) (hu:∀ x,un (f x)=some x) (xs:List α):unR c un (vT f xs)=some xs:=
 XFz hf h0 hu xs _ (by rw [XpE hf];exact Nat.le_mul_of_pos_right _ h0)
end
theorem XsS {s:Xbs} {vals aqs:List Value} {os:List (Option Xbj)} {h h1 h2:Hp} {top n m t':Nat} {ws:List Wd} {r:Xcu} {v':Value} (e1:Xda h 0 s.modes vals=some (aqs,os)) (ew:Xj2 h s.modes vals=ws) {cw:List (Option (List Value))} (ec:Xj5 os=cw) (e2:s.run aqs cw=some r) (e3:apartB ws=true)
 (hn:r.new.length=n) (hm:Xk0 ws=m) (ht:top+n+m=t') (e4:XcR h (XtE top n ws) ws r.wr=some h1) (e5:XiB h1 (XtE top n ws) top r.new=some h2) (e6:Xei (XtE top n ws) r.v=some v'):Xif s vals h top=some (v',Xi3 h2 (top+n) m,t'):=by
 subst hn hm ht ec
 simp only [Xif,e1,e2,ew,e3,e4,e5,e6]
theorem XNy {h:Hp} {k:Nat}:Xda h k [] []=some ([],[]):=rfl
theorem XLY {h:Hp} {k k':Nat} {m:Md} {ms:List Md} {v a:Value} {vs aqs:List Value} {os os':List (Option Xbj)} (e:XcK h k m v=some (a,os)) (hk:k+os.length=k') (t:Xda h k' ms vs=some (aqs,os')):Xda h k (m::ms) (v::vs)=some (a::aqs,os++os'):=by
 subst hk
 simp only [Xda,e,t]
theorem XDS {h:Hp} {k b o n m sz sz':Nat} {ob:Xbj} {cs cs':List Value} (ho:XaE h b=some ob) (hc:ob.cs=some cs) (hs:sz=sz') (en:n=m) (hle:o+n*sz≤cs.length) (e:(cs.drop o).take (n*sz)=cs') (hf:Xa6.flatL cs'=true) :
 XcK h k (.sl sz) (.slice (some ⟨b,o,none⟩) n sz')=some (.slice (some ⟨k,0,none⟩) m sz,[some (.row false cs')]):=by
 subst hs en e
 simp only [XcK,ho,hc,hle,hf,↓reduceIte]
theorem XFK {h:Hp} {b o n i m sz kk:Nat} {k:IntKind} {own:Bool} {xs:List Int} (ho:XaE h b=some (.row own (vI k xs))) (hs:sz=1) (e0:o=i) (en:n=m) (hle:i+m≤xs.length):XcK h kk (.sl 1) (.slice (some ⟨b,o,none⟩) n sz)=some (.slice (some ⟨kk,0,none⟩) m 1,[some (.row false (vI k ((xs.drop i).take m)))]):=by
 subst hs e0 en
 exact XDS ho rfl rfl rfl (by simp;omega) (by rw [XnF,Xng,Nat.mul_one]) (Xi4 _ _)
theorem XGM {h:Hp} {b o n i m sz kk:Nat} {own:Bool} {xs:List (List UInt8)} (ho:XaE h b=some (.row own (vS xs))) (hs:sz=1) (e0:o=i) (en:n=m) (hle:i+m≤xs.length):XcK h kk (.sl 1) (.slice (some ⟨b,o,none⟩) n sz)=some (.slice (some ⟨kk,0,none⟩) m 1,[some (.row false (vS ((xs.drop i).take m)))]):=by
 subst hs e0 en
 exact XDS ho rfl rfl rfl (by simp;omega) (by rw [XpP,Xpj,Nat.mul_one]) (XnA _)
theorem XFt {h:Hp} {b o n i m sz kk:Nat} {own:Bool} {xs:List Bool} (ho:XaE h b=some (.row own (vB xs))) (hs:sz=1) (e0:o=i) (en:n=m) (hle:i+m≤xs.length):XcK h kk (.sl 1) (.slice (some ⟨b,o,none⟩) n sz)=some (.slice (some ⟨kk,0,none⟩) m 1,[some (.row false (vB ((xs.drop i).take m)))]):=by
 subst hs e0 en
 exact XDS ho rfl rfl rfl (by simp;omega) (by rw [XGX,XJ1,Nat.mul_one]) (Xm7 _)
theorem XJF {h:Hp} {b o n sz kk:Nat} {k:IntKind} {own:Bool} {xs:List Int} (ho:XaE h b=some (.row own (vI k xs))) (hs:sz=1) (e0:o=0) (en:n=xs.length):XcK h kk (.sl 1) (.slice (some ⟨b,o,none⟩) n sz)=some (.slice (some ⟨kk,0,none⟩) xs.length 1,[some (.row false (vI k xs))]):=by
 have:=XFK (kk:=kk) (i:=0) (m:=xs.length) ho hs e0 en (by omega)
 simpa using this
theorem XH2 {h:Hp} {b o n sz kk:Nat} {own:Bool} {xs:List (List UInt8)} (ho:XaE h b=some (.row own (vS xs))) (hs:sz=1) (e0:o=0) (en:n=xs.length):XcK h kk (.sl 1) (.slice (some ⟨b,o,none⟩) n sz)=some (.slice (some ⟨kk,0,none⟩) xs.length 1,[some (.row false (vS xs))]):=by
 have:=XGM (kk:=kk) (i:=0) (m:=xs.length) ho hs e0 en (by omega)
 simpa using this
theorem XI4 {h:Hp} {b o n sz kk:Nat} {own:Bool} {xs:List Bool} (ho:XaE h b=some (.row own (vB xs))) (hs:sz=1) (e0:o=0) (en:n=xs.length):XcK h kk (.sl 1) (.slice (some ⟨b,o,none⟩) n sz)=some (.slice (some ⟨kk,0,none⟩) xs.length 1,[some (.row false (vB xs))]):=by
 have:=XFt (kk:=kk) (i:=0) (m:=xs.length) ho hs e0 en (by omega)
 simpa using this
theorem XvA {α:Type} {f:α→List Value} {c:Nat} (hf:∀ x,(f x).length=c) (hfl:∀ x,Xa6.flatL (f x)=true) {h:Hp} {b o n i m sz kk:Nat} {own:Bool} {xs:List α} (ho:XaE h b=some (.row own (vT f xs))) (hs:sz=c) (e0:o=i*c) (en:n=m) (hle:i+m≤xs.length):XcK h kk (.sl c) (.slice (some ⟨b,o,none⟩) n sz)=some (.slice (some ⟨kk,0,none⟩) m c,[some (.row false (vT f ((xs.drop i).take m)))]):=by
 subst hs e0 en
 refine XDS ho rfl rfl rfl ?_ (by rw [XrW hf,Xri hf]) (Xnp hfl _)
 rw [XpE hf,←Nat.add_mul];exact Nat.mul_le_mul_right _ hle
theorem Xt0 {α:Type} {f:α→List Value} {c:Nat} (hf:∀ x,(f x).length=c) (hfl:∀ x,Xa6.flatL (f x)=true) {h:Hp} {b o n sz kk:Nat} {own:Bool} {xs:List α} (ho:XaE h b=some (.row own (vT f xs))) (hs:sz=c) (e0:o=0) (en:n=xs.length):XcK h kk (.sl c) (.slice (some ⟨b,o,none⟩) n sz)=some (.slice (some ⟨kk,0,none⟩) xs.length c,[some (.row false (vT f xs))]):=by
 have:=XvA hf hfl (kk:=kk) (i:=0) (m:=xs.length) ho hs (by simpa using e0) en (by omega)
 simpa using this
theorem ra_tr {h:Hp} {k:Nat} {ps:List Path} {bs:List PR} {v v' w:Value} {l:List (Option Xbj)} (e0:XgO h v ps []=bs) (e1:Xei (XwU k bs) v=some v') (e2:Xfi h (XwU k bs) (fun s=>XlO k s ps bs) 0 ps bs=some l) (e3:XuM v' (XlO k none ps bs)=w):XcK h k (.tr ps) v=some (w,l):=by
 subst e0 e3
 simp only [XcK,e1,e2]
theorem XMT {h:Hp} {s:Nat→Option Nat} {pat:Option Nat→List (Nat×Value)} {i:Nat}:Xfi h s pat i [] []=some []:=rfl
theorem vp_no {h:Hp} {s:Nat→Option Nat} {pat:Option Nat→List (Nat×Value)} {i:Nat} {p:Path} {ps:List Path} {bs:List PR} {l:List (Option Xbj)} (t:Xfi h s pat (i+1) ps bs=some l):Xfi h s pat i (p::ps) (.no::bs)=some (none::l):=by
 simp only [Xfi,t]
theorem XRc {h:Hp} {s:Nat→Option Nat} {pat:Option Nat→List (Nat×Value)} {i z:Nat} {p:Path} {ps:List Path} {bs:List PR} {l:List (Option Xbj)} (t:Xfi h s pat (i+1) ps bs=some l) (hk:Nat.beq p.kind 3=false:=by rfl):Xfi h s pat i (p::ps) (.nil z::bs)=some (some (mkObj p.kind [])::l):=by
 simp only [Xfi,t,hk,cond_false]
theorem vp_at {h:Hp} {s:Nat→Option Nat} {pat:Option Nat→List (Nat×Value)} {i b:Nat} {p:Path} {ps:List Path} {bs:List PR} {l:List (Option Xbj)} {ob:Xbj} {cs cs' cs'':List Value} (e1:XaE h b=some ob) (e2:(cond (isW p.kind) ob.wcs ob.cs)=some cs) (e3:Xei.renL s cs=some cs') (e4:Xsc cs' (pat (some i))=cs'')
 (t:Xfi h s pat (i+1) ps bs=some l) (hk:Nat.beq p.kind 3=false:=by rfl):Xfi h s pat i (p::ps) (.hit b::bs)=some (some (mkObj p.kind cs'')::l):=by
 subst e4
 simp only [Xfi,Xtg,e1,e2,e3,t,hk,cond_false]
theorem XQ4 {h:Hp} {s:Nat→Option Nat} {pat:Option Nat→List (Nat×Value)} {i b:Nat} {p:Path} {ps:List Path} {bs:List PR} {l:List (Option Xbj)} {cs:List Value} (e1:XaE h b=some (.mp cs)) (hk:Nat.beq p.kind 3=true)
 (t:Xfi h s pat (i+1) ps bs=some l):Xfi h s pat i (p::ps) (.hit b::bs)=some (some (.mp cs)::l):=by
 simp only [Xfi,Xtg,e1,t,hk,cond_true,mapB]
def skipW:Wd→Bool
 | .no|.emp _|.win _ _ _ false|.blk _ false=>true
 | _=>false
theorem XFl {h:Hp} {s:Nat→Option Nat}:XcR h s [] []=some h:=rfl
theorem XLv {h h':Hp} {s:Nat→Option Nat} {x:Wd} {ws:List Wd} {c:Option (List Value)} {cs:List (Option (List Value))} (hx:skipW x=true) (t:XcR h s ws cs=some h'):XcR h s (x::ws) (c::cs)=some h':=by
 cases x with
 | win b o n w=>cases w<;>first|(simp only [XcR];exact t)|cases hx
 | blk b w=>cases w<;>first|(simp only [XcR];exact t)|cases hx
 | _=>simp only [XcR];exact t
theorem XE7 {h h':Hp} {s:Nat→Option Nat} {b off n:Nat} {ws:List Wd} {c c' x y:List Value} {cs:List (Option (List Value))} {ob ob':Xbj} (e1:XaE h b=some ob) (e2:ob.wcs=some x) (e3:Xei.renL s c=some c') (e4:c'.length=n∧off+n≤x.length) (e5:setAt x off c'=y) (e6:ob.wr y=some ob') (t:XcR (Xfr h b ob') s ws cs=some h') (hm:mk3 c=none:=by rfl) :
 XcR h s (.win b off n true::ws) (some c::cs)=some h':=by
 subst e5
 have e4':c'.length=n∧off+n≤x.length∧mk3 c=none:=⟨e4.1,e4.2,hm⟩
 simp only [XcR,e1,e2,e3,e6,if_pos e4'];exact t
theorem XMV {h h':Hp} {s:Nat→Option Nat} {b:Nat} {ws:List Wd} {c c' x:List Value} {cs:List (Option (List Value))} {ob ob':Xbj} (e1:XaE h b=some ob) (e2:ob.wcs=some x) (e3:Xei.renL s c=some c') (e6:ob.wr c'=some ob') (t:XcR (Xfr h b ob') s ws cs=some h') (hm:mk3 c=none:=by rfl) :
 XcR h s (.blk b true::ws) (some c::cs)=some h':=by
 have:XFC s ob c=some ob':=by
  unfold XFC
  rw [hm]
  cases ob<;>first|(simp only [e2,e3];exact e6)|cases e2
 simp only [XcR,e1,this];exact t
theorem XSa {h h':Hp} {s:Nat→Option Nat} {b:Nat} {ws:List Wd} {c0 c:List Value} {cs:List (Option (List Value))} (e1:XaE h b=some (.mp c0)) (t:XcR (Xfr h b (.mp c)) s ws cs=some h') :
 XcR h s (.blk b true::ws) (some (.float .f64 0::c)::cs)=some h':=by
 simp only [XcR,e1,XFC,mk3];exact t
theorem XMP {h h':Hp} {s:Nat→Option Nat} {b:Nat} {ws:List Wd} {cs:List (Option (List Value))} (t:XcR (Xn5 h b) s ws cs=some h'):XcR h s (.blk b true::ws) (none::cs)=some h':=by
 simp only [XcR];exact t
theorem XGL {h:Hp} {s:Nat→Option Nat} {top:Nat}:XiB h s top []=some h:=rfl
theorem XJq {h h':Hp} {s:Nat→Option Nat} {top:Nat} {c c':List Value} {cs:List (List Value)} (e:Xei.renL s c=some c') (t:XiB (Xfr h top (.row true c')) s (top+1) cs=some h'):XiB h s top (c::cs)=some h':=by
 simp only [XiB,e];exact t
theorem XJy {s:Nat→Option Nat} {k:IntKind} {xs:List Int}:Xei.renL s (vI k xs)=some (vI k xs):=Xc3 _ _ (Xi4 _ _)
theorem XLV {s:Nat→Option Nat} {xs:List Bool}:Xei.renL s (vB xs)=some (vB xs):=Xc3 _ _ (Xm7 _)
theorem XIx {s:Nat→Option Nat} {xs:List (List UInt8)}:Xei.renL s (vS xs)=some (vS xs):=Xc3 _ _ (XnA _)
theorem Xlw {s:Nat→Option Nat} {α:Type} {f:α→List Value} (hfl:∀ x,Xa6.flatL (f x)=true) {xs:List α}:Xei.renL s (vT f xs)=some (vT f xs):=Xc3 _ _ (Xnp hfl _)
def XEc (n:Nat) (wr:List (Option (List Value))):List Nat→Prop
 | []=>True
 | j::js=>(n≤j∨wr[j]?=some none)∧XEc n wr js
theorem XvQ {n:Nat} {wr:List (Option (List Value))}:∀ {js:List Nat},XEc n wr js→∀ j∈js,n≤j∨wr[j]?=some none
 | [],_,j,h=>by cases h
 | k::js,h,j,hj=>by
   rcases List.mem_cons.1 hj with rfl|hj
   ·exact h.1
   ·exact XvQ h.2 j hj
theorem Res.of {n:Nat} {r:Xcu} {v':Value} {H':Hp} (js:List Nat) (e1:Xei (Xtj js n) r.v=some v') (e2:XsL H' (Xtj js n) js r.new) (e3:js.Nodup) (e4:XEc n r.wr js) (e5:Xwt H' (Xtj js n) 0 r.wr):Res n r v' H':=
 ⟨⟨js,e1,e2,e3,XvQ e4,e5⟩⟩
theorem Xjk {H:Hp} {j:Nat} {c:List Value} (h:XaE H j=some (.row true c)):Has H j c:=.inl h
theorem Xu6 {H:Hp} {j:Nat} {c:List Value} (h:XaE H j=some (.cells c)):Has H j c:=.inr (.inl h)
abbrev Dec:=List Value→List (Option (List Value))→Option Xcu
def dV {α:Type} (un:Value→Option α) (K:α→Dec):Dec:=fun vs cs=>match vs with
 | v::vs'=>match un v with
   | some x=>K x vs' cs
   | none=>none
 | []=>none
theorem XaY {α:Type} {un:Value→Option α} {K:α→Dec} {v:Value} {vs:List Value} {cs:List (Option (List Value))} {x:α} (h:un v=some x):dV un K (v::vs) cs=K x vs cs:=by simp only [dV,h]
theorem dV.elim {α:Type} {un:Value→Option α} {K:α→Dec} {vs:List Value} {cs:List (Option (List Value))} {r:Xcu} (h:dV un K vs cs=some r):∃ v vs' x,vs=v::vs'∧un v=some x∧K x vs' cs=some r:=by
 unfold dV at h
 split at h<;>try (cases h;done)
 split at h<;>try (cases h;done)
 exact ⟨_,_,_,rfl,by assumption,h⟩
def dSl {α:Type} (k sz:Nat) (un:List Value→Option (List α)) (K:List α→Dec):Dec:=fun vs cs=>match vs,cs with
 | .slice (some ⟨k',0,none⟩) n sz'::vs',some c::cs'=>match un c with
   | some xs=>if k'=k∧sz'=sz∧n=xs.length then K xs vs' cs' else none
   | none=>none
 | _,_=>none
theorem Xzi {α:Type} {k sz:Nat} {un:List Value→Option (List α)} {K:List α→Dec} {vs:List Value} {c:List Value} {cs:List (Option (List Value))} {xs:List α} (h:un c=some xs):dSl k sz un K (.slice (some ⟨k,0,none⟩) xs.length sz::vs) (some c::cs)=K xs vs cs:=by simp [dSl,h]
theorem dSl.elim {α:Type} {k sz:Nat} {un:List Value→Option (List α)} {K:List α→Dec} {vs:List Value} {cs:List (Option (List Value))} {r:Xcu} (h:dSl k sz un K vs cs=some r):∃ c vs' cs' xs,vs=.slice (some ⟨k,0,none⟩) xs.length sz::vs'∧cs=some c::cs'∧un c=some xs∧K xs vs' cs'=some r:=by
 unfold dSl at h
 split at h<;>try (cases h;done)
 split at h<;>try (cases h;done)
 split at h<;>try (cases h;done)
 rename_i hc
 obtain ⟨rfl,rfl,rfl⟩:=hc
 exact ⟨_,_,_,_,rfl,rfl,by assumption,h⟩
def dTr {α:Type} (n:Nat) (un:Value→List (Option (List Value))→Option α) (K:α→Dec):Dec:=fun vs cs=>match vs with
 | v::vs'=>match un v (cs.take n) with
   | some x=>K x vs' (cs.drop n)
   | none=>none
 | []=>none
theorem Xj3 {α:Type} {n:Nat} {un:Value→List (Option (List Value))→Option α} {K:α→Dec} {v:Value} {vs:List Value} {cs cs1 cs2:List (Option (List Value))} {x:α} (h1:cs.take n=cs1) (h2:cs.drop n=cs2) (h:un v cs1=some x):dTr n un K (v::vs) cs=K x vs cs2:=by
 subst h1 h2;simp only [dTr,h]
theorem dTr.elim {α:Type} {n:Nat} {un:Value→List (Option (List Value))→Option α} {K:α→Dec} {vs:List Value} {cs:List (Option (List Value))} {r:Xcu} (h:dTr n un K vs cs=some r):∃ v vs' cs1 cs2 x,vs=v::vs'∧cs=cs1++cs2∧un v cs1=some x∧K x vs' cs2=some r:=by
 unfold dTr at h
 split at h<;>try (cases h;done)
 split at h<;>try (cases h;done)
 exact ⟨_,_,_,_,_,rfl,(List.take_append_drop n cs).symm,by assumption,h⟩
def dPt {α:Type} (k:Nat) (un:List Value→Option α) (K:α→Dec):Dec:=fun vs cs=>match vs,cs with
 | .pointer (some ⟨k',0,none⟩)::vs',some c::cs'=>match un c with
   | some x=>if k'=k then K x vs' cs' else none
   | none=>none
 | _,_=>none
theorem Xma {α:Type} {k:Nat} {un:List Value→Option α} {K:α→Dec} {vs:List Value} {c:List Value} {cs:List (Option (List Value))} {x:α} (h:un c=some x):dPt k un K (.pointer (some ⟨k,0,none⟩)::vs) (some c::cs)=K x vs cs:=by simp [dPt,h]
theorem dPt.elim {α:Type} {k:Nat} {un:List Value→Option α} {K:α→Dec} {vs:List Value} {cs:List (Option (List Value))} {r:Xcu} (h:dPt k un K vs cs=some r):∃ c vs' cs' x,vs=.pointer (some ⟨k,0,none⟩)::vs'∧cs=some c::cs'∧un c=some x∧K x vs' cs'=some r:=by
 unfold dPt at h
 split at h<;>try (cases h;done)
 split at h<;>try (cases h;done)
 split at h<;>try (cases h;done)
 rename_i hc
 subst hc
 exact ⟨_,_,_,_,rfl,rfl,by assumption,h⟩
def dNo:Nat→Dec→Dec
 | 0,K=>K
 | n+1,K=>fun vs cs=>match cs with
   | none::cs'=>dNo n K vs cs'
   | _=>none
theorem dNo.elim {K:Dec} {vs:List Value} {r:Xcu}:∀ {n:Nat} {cs:List (Option (List Value))},dNo n K vs cs=some r→∃ cs',cs=List.replicate n none++cs'∧K vs cs'=some r
 | 0,cs,h=>⟨cs,rfl,h⟩
 | n+1,cs,h=>by
   simp only [dNo] at h
   split at h<;>try (cases h;done)
   obtain ⟨cs',rfl,h2⟩:=dNo.elim h
   exact ⟨cs',rfl,h2⟩
def dNl (n:Nat) (K:Dec):Dec:=fun vs cs=>match vs with
 | .pointer none::vs'=>dNo n K vs' cs
 | _=>none
theorem dNl.elim {n:Nat} {K:Dec} {vs:List Value} {cs:List (Option (List Value))} {r:Xcu} (h:dNl n K vs cs=some r):∃ vs' cs',vs=.pointer none::vs'∧cs=List.replicate n none++cs'∧K vs' cs'=some r:=by
 unfold dNl at h
 split at h<;>try (cases h;done)
 obtain ⟨cs',rfl,h2⟩:=dNo.elim h
 exact ⟨_,cs',rfl,rfl,h2⟩
def Xdm (r:Option Xcu):Dec:=fun vs cs=>match vs,cs with
 | [],[]=>r
 | _,_=>none
theorem Xdm.elim {o:Option Xcu} {vs:List Value} {cs:List (Option (List Value))} {r:Xcu} (h:Xdm o vs cs=some r):vs=[]∧cs=[]∧o=some r:=by
 unfold Xdm at h
 split at h<;>try (cases h;done)
 exact ⟨rfl,rfl,h⟩
def orD (a b:Dec):Dec:=fun vs cs=>match a vs cs with
 | some r=>some r
 | none=>b vs cs
theorem orD.elim {a b:Dec} {vs:List Value} {cs:List (Option (List Value))} {r:Xcu} (h:orD a b vs cs=some r):a vs cs=some r∨b vs cs=some r:=by
 unfold orD at h
 split at h
 ·cases h;left;assumption
 ·exact .inr h
def ofG {α:Type} (o:Option α) (f:α→Xcu):Option Xcu:=match o with
 | some x=>some (f x)
 | none=>none
theorem XaX {α:Type} {o:Option α} {f:α→Xcu} {x:α} (h:o=some x):ofG o f=some (f x):=by subst h;rfl
theorem ofG.elim {α:Type} {o:Option α} {f:α→Xcu} {r:Xcu} (h:ofG o f=some r):∃ x,o=some x∧f x=r:=by
 cases o with
 | none=>cases h
 | some x=>exact ⟨x,rfl,by cases h;rfl⟩
def asS:Value→Option (List UInt8)|.string s=>some s.data.toList|_=>none
theorem Xzl (v:Value) (x:List UInt8) (h:asS v=some x):v=.string ⟨⟨x⟩⟩:=by cases v<;>simp [asS] at h;subst h;rfl
theorem Xx1 (k:IntKind) (xs:List Int):unL (asI k) (vI k xs)=some xs:=Xx2 (fun x=>by simp [asI]) xs
theorem XSD {k:IntKind} {cs:List Value} {xs:List Int} (h:unL (asI k) cs=some xs):cs=vI k xs:=XuS (Xxq k) h
theorem XPU {cs:List Value} {xs:List Bool} (h:unL asB cs=some xs):cs=vB xs:=XuS XzZ h
theorem XSp {cs:List Value} {xs:List (List UInt8)} (h:unL asS cs=some xs):cs=vS xs:=XuS (g:=fun s=>Value.string ⟨⟨s⟩⟩) Xzl h
end Go.Vm
namespace Go.Vm
open Go Go.RowKit
end Go.Vm
namespace Go.Vm
open Go Go.RowKit
theorem st_I {k:IntKind} {xs:List Int} {o i:Nat} {x:Int} {K:List Value→Prop} (hb:decide (i<xs.length)=true) (e:o=i) (h:K (vI k (xs.set i x))) :
 req (decide ((Xa1 (.int k x)).length=1∧o+1≤(vI k xs).length)&&(Xa1 (.int k x)).all Xh9) (∃ cs',setAt (vI k xs) o (Xa1 (.int k x))=cs'∧K cs'):=req.intro (XHD hb e) (XQG e h)
end Go.Vm
namespace Go.Vm
theorem br.h2 {α:Type} {b b':Bool} {X Y:Option α} {r:α} {p q:Prop} (h:cond b' X Y=some r) (e:b=b') (k2:b'=false→Y=some r→q) (k1:b'=true→X=some r→p):br b p q:=br.h h e k1 k2
end Go.Vm
namespace Go.Vm
open Go Go.RowKit
theorem VR.ofNil {ρ:Ren} {s:Nat} {rv:Value} (h:VR ρ (.slice none 0 s) rv) (j sz:Nat):VR ρ (.slice (some ⟨j,0,none⟩) 0 sz) rv:=by
 cases h;exact .slice0 none
theorem XaK.nilT {P:Program} {f base fn nt s:Nat} {e:Env} {todo:List Xfq} {ds:List Nat} {ret:Bool} {rd:Option Nat} {up:List Xbx} {H:Hp} {top:Nat} {R:Value→Hp→Nat→Prop} (t sz:Nat)
 (h:XaK P f base ⟨⟨fn,nt,Xfr e t (.slice (some ⟨top,0,none⟩) 0 sz),todo,ds,ret,rd⟩,up,Xfr H top (.row true []),top+1⟩ R) (he:XaE e t=some (.slice none 0 s):=by rfl) :
 XaK P f base ⟨⟨fn,nt,e,todo,ds,ret,rd⟩,up,H,top⟩ R:=by
 refine ⟨fun w0 U ρ rf rfs w cs hr=>?_⟩
 have hx:=Ext.upd (l:=⟨0,0,0⟩) hr.heap.XnU
 have hcur:FrR P (upd ρ top ⟨0,0,0⟩) ⟨fn,nt,Xfr e t (.slice (some ⟨top,0,none⟩) 0 sz),todo,ds,ret,rd⟩ rf:=
  { hr.cur.mono hx with
    env:=fun i v hv=>by
     rw [Xa5] at hv
     split at hv
     ·rename_i hi;subst hi;cases hv
      obtain ⟨v',a,b⟩:=hr.cur.env t _ he
      exact ⟨v',a,(VR.ofNil b _ _).mono hx⟩
     ·exact (hr.cur.env.mono hx) i v hv }
 obtain ⟨ρ',rv,fr',w',v,H',top',h1,h2,h3,h4,h5,h6,h7⟩:=h.get w0 U _ rf rfs w cs ⟨hcur,hr.up.mono (fun _ _ x=>x.mono hx),Xjq hr.heap⟩
 exact ⟨ρ',rv,fr',w',v,H',top',h1,h2,h3,h4,h5,fun i l hi hl=>h6 i l hi (hx _ _ hl),h7⟩
theorem XaK.nilC {P:Program} {f base s:Nat} {fr:Xbx} {up:List Xbx} {H:Hp} {top:Nat} {R:Value→Hp→Nat→Prop} (b i sz:Nat) {cs:List Value}
 (h:XaK P f base ⟨fr,up,Xfr (Xfr H b (.cells (cs.set i (.slice (some ⟨top,0,none⟩) 0 sz)))) top (.row true []),top+1⟩ R) (hb:XaE H b=some (.cells cs):=by rfl) (hi:cs[i]?=some (.slice none 0 s):=by rfl) :
 XaK P f base ⟨fr,up,H,top⟩ R:=by
 refine ⟨fun w0 U ρ rf rfs w cs' hr=>?_⟩
 have hx:=Ext.upd (l:=⟨0,0,0⟩) hr.heap.XnU
 have hp:HpR P w0 (.of U) ρ (Xfr H b (.cells (cs.set i (.slice (some ⟨top,0,none⟩) 0 sz)))) top w:=
  { hr.heap with
    obj:=fun j o ho=>by
     rw [Xa5] at ho
     split at ho
     ·rename_i hj;subst hj;cases ho
      obtain ⟨l,hl,hc,hw⟩:=hr.heap.obj b _ hb
      refine ⟨l,hl,?_,fun _=>hw rfl⟩
      obtain ⟨g1,g2,g3⟩:=(hc:Xbh ρ w l true cs)
      refine ⟨by simpa using g1,fun k v hv=>?_,g3⟩
      rw [List.getElem?_set] at hv
      split at hv
      ·rename_i hk;subst hk
       split at hv
       ·cases hv
        obtain ⟨v',a,b'⟩:=g2 i _ hi
        exact ⟨v',a,VR.ofNil b' _ _⟩
       ·cases hv
      ·exact g2 k v hv
     ·exact hr.heap.obj j o ho
    dis:=fun j k oj ok lj lk hjk hj hk hlj hlk hw=>by
     have key:∀ j o,XaE (Xfr H b (.cells (cs.set i (.slice (some ⟨top,0,none⟩) 0 sz)))) j=some o→∃ o',XaE H j=some o'∧(writable o=true→writable o'=true):=fun j o ho=>by
      rw [Xa5] at ho
      split at ho
      ·rename_i hj;subst hj;exact ⟨_,hb,fun _=>rfl⟩
      ·exact ⟨o,ho,id⟩
     obtain ⟨oj',a1,a2⟩:=key j oj hj
     obtain ⟨ok',b1,_⟩:=key k ok hk
     exact hr.heap.dis j k oj' ok' lj lk hjk a1 b1 hlj hlk (a2 hw) }
 obtain ⟨ρ',rv,fr',w',v,H',top',h1,h2,h3,h4,h5,h6,h7⟩:=h.get w0 U _ rf rfs w cs' ⟨hr.cur.mono hx,hr.up.mono (fun _ _ x=>x.mono hx),Xjq hp⟩
 exact ⟨ρ',rv,fr',w',v,H',top',h1,h2,h3,h4,h5,fun i l hi hl=>h6 i l hi (hx _ _ hl),h7⟩
mutual
inductive Nv (j:Nat):Value→Value→Prop
 | same (v):Nv j v v
 | nil (s sz):Nv j (.slice none 0 s) (.slice (some ⟨j,0,none⟩) 0 sz)
 | tup {a b:List Value} (h:NvL j a b):Nv j (.tuple ⟨a⟩) (.tuple ⟨b⟩)
 | agg {a b:List Value} (h:NvL j a b):Nv j (.agg ⟨a⟩) (.agg ⟨b⟩)
inductive NvL (j:Nat):List Value→List Value→Prop
 | nil:NvL j [] []
 | cons {v v':Value} {l l':List Value} (h:Nv j v v') (t:NvL j l l'):NvL j (v::l) (v'::l')
end
mutual
theorem Nv.vr {j:Nat} {ρ:Ren}:∀ {v v':Value},Nv j v v'→∀ {rv:Value},VR ρ v rv→VR ρ v' rv
 | _,_,.same v,_,h=>h
 | _,_,.nil s sz,_,h=>VR.ofNil h _ _
 | _,_,.tup hl,_,h=>by cases h with|tuple ht=>exact .tuple (NvL.vr hl ht)
 | _,_,.agg hl,_,h=>by cases h with|agg ht=>exact .agg (NvL.vr hl ht)
theorem NvL.vr {j:Nat} {ρ:Ren}:∀ {l l':List Value},NvL j l l'→∀ {rl:List Value},VRL ρ l rl→VRL ρ l' rl
 | _,_,.nil,_,h=>h
 | _,_,.cons hv ht,_,h=>by cases h with|cons a b=>exact .cons (Nv.vr hv a) (NvL.vr ht b)
end
end Go.Vm
namespace Go.Vm
theorem Xxp {A B C D:Prop} [Decidable (A∧B∧C∧D)] {p q:Bool} (a:A) (b:B) (c:C) (d:D) (e:p=true) (g:q=true):(decide (A∧B∧C∧D)&&p&&q)=true:=by
 rw [decide_eq_true ⟨a,b,c,d⟩,e,g];rfl
end Go.Vm
namespace Go.Vm
open Go Go.RowKit
def Xub (o:Xbj) (K:Xbj→Prop):Prop:=
 match o with
 | .cells cs=>Xn7 cs fun cs=>K (.cells cs)
 | .row own cs=>Xn7 cs fun cs=>K (.row own cs)
 | .ty t cs=>K (.ty t cs)
 | .siter s p=>K (.siter s p)
 | .mp cs=>K (.mp cs)
 | .loop l=>K (.loop l)
 | .marks=>K .marks
theorem XvV (o:Xbj) (K:Xbj→Prop):Xub o K=K o:=by
 cases o<;>simp only [Xub,Xkc]
def XkA (bs:List Nat) (h:Hp) (K:Hp→Prop):Prop:=
 match h with
 | []=>K []
 | (i,o)::l=>cond (XGF i bs) (Xub o fun o=>XkA bs l fun l=>K ((i,o)::l)) (Xx0 o fun o=>XkA bs l fun l=>K ((i,o)::l))
theorem XnE (bs:List Nat):∀ (h:Hp) (K:Hp→Prop),XkA bs h K=K h
 | [],K=>rfl
 | (i,o)::l,K=>by
   rw [XkA]
   cases XGF i bs
   ·rw [cond_false,XsC,XnE bs l]
   ·rw [cond_true,XvV,XnE bs l]
theorem Xgn.XGD {s:Xbs} {vals:List Value} {h:Hp} {top:Nat} {K:Value→Hp→Nat→Prop} {v:Value} {h':Hp} {top':Nat} (bs:List Nat) (e:Xif s vals h top=some (v,h',top')) (k:Xg8 v fun v=>XkA bs h' fun h'=>K v h' top'):Xgn s vals h top K:=
 Xgn.intro e (by simpa only [XgU,XnE] using k)
end Go.Vm
namespace Go.Vm
open Go Go.RowKit
inductive XwT:Value→Hp→Nat→Value→Hp→Nat→Prop
 | refl (v:Value) (H:Hp) (t:Nat):XwT v H t v H t
 | val {v v' v2:Value} {H H2:Hp} {t t2:Nat} (h:Nv t v v') (k:XwT v' (Xfr H t (.row true [])) (t+1) v2 H2 t2):XwT v H t v2 H2 t2
 | cell {v v2:Value} {H H2:Hp} {t t2 s:Nat} (b i sz:Nat) {cs:List Value} (hb:XaE H b=some (.cells cs)) (hi:cs[i]?=some (.slice none 0 s)) (k:XwT v (Xfr (Xfr H b (.cells (cs.set i (.slice (some ⟨t,0,none⟩) 0 sz)))) t (.row true [])) (t+1) v2 H2 t2):XwT v H t v2 H2 t2
theorem XJl {P:Program} {w0:World} {U:UG} {ρ:Ren} {H:Hp} {top s:Nat} {w:World} (h:HpR P w0 U ρ H top w) {b i:Nat} (sz:Nat) {cs:List Value} (hb:XaE H b=some (.cells cs)) (hi:cs[i]?=some (.slice none 0 s)):HpR P w0 U ρ (Xfr H b (.cells (cs.set i (.slice (some ⟨top,0,none⟩) 0 sz)))) top w:=
 { h with
   obj:=fun j o ho=>by
    rw [Xa5] at ho
    split at ho
    ·rename_i hj;subst hj;cases ho
     obtain ⟨l,hl,hc,hw⟩:=h.obj b _ hb
     refine ⟨l,hl,?_,fun _=>hw rfl⟩
     obtain ⟨g1,g2,g3⟩:=(hc:Xbh ρ w l true cs)
     refine ⟨by simpa using g1,fun k v hv=>?_,g3⟩
     rw [List.getElem?_set] at hv
     split at hv
     ·rename_i hk;subst hk
      split at hv
      ·cases hv
       obtain ⟨v',a,b'⟩:=g2 i _ hi
       exact ⟨v',a,VR.ofNil b' _ _⟩
      ·cases hv
     ·exact g2 k v hv
    ·exact h.obj j o ho
   dis:=fun j k oj ok lj lk hjk hj hk hlj hlk hw=>by
    have key:∀ j o,XaE (Xfr H b (.cells (cs.set i (.slice (some ⟨top,0,none⟩) 0 sz)))) j=some o→∃ o',XaE H j=some o'∧(writable o=true→writable o'=true):=fun j o ho=>by
     rw [Xa5] at ho
     split at ho
     ·rename_i hj;subst hj;exact ⟨_,hb,fun _=>rfl⟩
     ·exact ⟨o,ho,id⟩
    obtain ⟨oj',a1,a2⟩:=key j oj hj
    obtain ⟨ok',b1,_⟩:=key k ok hk
    exact h.dis j k oj' ok' lj lk hjk a1 b1 hlj hlk (a2 hw) }
theorem XwT.ok {P:Program} {w0:World} {U:Nat→Nat→Prop} {v v2 rv:Value} {H H2:Hp} {t t2:Nat} (k:XwT v H t v2 H2 t2):∀ {ρ:Ren} {w:World},VR ρ v rv→HpR P w0 (.of U) ρ H t w→∃ ρ',Ext ρ ρ'∧VR ρ' v2 rv∧HpR P w0 (.of U) ρ' H2 t2 w:=by
 induction k with
 | refl=>intro ρ w h1 h2;exact ⟨ρ,Ext.refl ρ,h1,h2⟩
 | val h k ih=>
   intro ρ w h1 h2
   have hx:=Ext.upd (l:=⟨0,0,0⟩) h2.XnU
   obtain ⟨ρ',e1,e2,e3⟩:=ih ((h.vr h1).mono hx) (Xjq h2)
   exact ⟨ρ',hx.trans e1,e2,e3⟩
 | cell b i sz hb hi k ih=>
   intro ρ w h1 h2
   have hx:=Ext.upd (l:=⟨0,0,0⟩) h2.XnU
   obtain ⟨ρ',e1,e2,e3⟩:=ih (h1.mono hx) (Xjq (XJl h2 sz hb hi))
   exact ⟨ρ',hx.trans e1,e2,e3⟩
theorem XaK.nilW {P:Program} {f base:Nat} {vm:VM} {R:Value→Hp→Prop} (h:XaK P f base vm (fun v H t=>∃ v' H' t',XwT v H t v' H' t'∧R v' H')):XaK P f base vm (fun v H _=>R v H):=by
 refine ⟨fun w0 U ρ rf rfs w cs hr=>?_⟩
 obtain ⟨ρ',rv,fr',w',v,H',top',h1,h2,h3,h4,h5,h6,v2,H2,t2,hk,h7⟩:=h.get w0 U ρ rf rfs w cs hr
 obtain ⟨ρ2,e1,e2,e3⟩:=hk.ok h4 h5
 exact ⟨ρ2,rv,fr',w',v2,H2,t2,h1,h2,h3,e2,e3,fun i l hi hl=>e1 _ _ (h6 i l hi hl),h7⟩
end Go.Vm
namespace Go.Vm
end Go.Vm
namespace Go.Vm
open Go Go.RowKit
@[simp] theorem XHM (l:List UInt8):(ofBytes l).length=l.length:=by simp [ofBytes]
theorem pk_us {xs:List Int} {n:Nat} {K:List UInt8→Prop} (h:K (iB xs)) (hn:xs.length≤n:=by first|exact Nat.le_refl _|omega|(simp;done)|(simp;omega)):∃ bs,Xf0 ((vI .u8 xs).take n)=some bs∧K bs:=
 ⟨_,by rw [List.take_of_length_le (by simpa using hn)];exact Xno _,h⟩
theorem XRx {A B C D:Prop} [Decidable (A∧B∧C∧D)] (a:A) (b:B) (c:C) (d:D):decide (A∧B∧C∧D)=true:=decide_eq_true ⟨a,b,c,d⟩
theorem XD1 {A B C D:Prop} [Decidable (A∧B∧C∧D)] (a:A) (b:B) (c:C) (d:D):decide (A∧B∧C∧D)=true:=decide_eq_true ⟨a,b,c,d⟩
theorem XLB {A B C D E:Prop} [Decidable (A∧B∧C∧D∧E)] {p q:Bool} (a:A) (b:B) (c:C) (d:D) (e:E) (f:p=true) (g:q=true):(decide (A∧B∧C∧D∧E)&&p&&q)=true:=by
 rw [decide_eq_true ⟨a,b,c,d,e⟩,f,g];rfl
theorem XQF {new:List Value} {xs:List Int} {n m:Nat} {ys:List Int} {K:List Value→Nat→Prop} (e:new=vI .u8 ys) (hc:n=xs.length) (hn:n+m=(xs++ys).length) (h:K (vI .u8 (xs++ys)) (xs++ys).length) :
 ∃ cs' n',(vI .u8 xs).take n++new=cs'∧n+m=n'∧K cs' n':=
 ⟨_,_,by rw [List.take_of_length_le (by simp [hc]),e,XEU],hn,h⟩
def un1 {α:Type} (un:Value→Option α):List Value→Option α
 | [v]=>un v
 | _=>none
theorem XyL {α:Type} {un:Value→Option α} {g:α→Value} (h:∀ v x,un v=some x→v=g x) {cs:List Value} {x:α} (e:un1 un cs=some x):cs=[g x]:=by
 unfold un1 at e
 split at e
 ·rw [h _ _ e]
 ·cases e
theorem XOd {α:Type} {un:Value→Option α} {v:Value} {x:α} (h:un v=some x):un1 un [v]=some x:=h
theorem asB_c {b:Bool}:asB (.bool b)=some b:=rfl
theorem Xc2 (k:IntKind) {n:Int}:asI k (.int k n)=some n:=by simp [asI]
theorem XcY {s:List UInt8}:asS (.string ⟨⟨s⟩⟩)=some s:=rfl
def fvV:Option Nat→Value
 | none=>.nilFunc
 | some n=>.func (.func n) ⟨[]⟩ ⟨[]⟩
theorem XhG (x:Option Nat):Xa6 (fvV x)=true:=by cases x<;>rfl
theorem XGd {h:Hp} {k b o n:Nat} {ob:Xbj} {cs cs':List Value} (ho:XaE h b=some ob) (hc:ob.wcs=some cs) (hle:o+n≤cs.length) (e:(cs.drop o).take n=cs') (hf:Xa6.flatL cs'=true) :
 XcK h k (.pt n) (.pointer (some ⟨b,o,none⟩))=some (.pointer (some ⟨k,0,none⟩),[some (.cells cs')]):=by
 subst e
 simp only [XcK,ho,hc,hle,hf,↓reduceIte]
theorem fsp {α:Type} {x:Option Nat} {A:Option α} {B:Nat→Option α} {res:α} {G:Prop} (h:x.elim A B=some res) (t:x=none→A=some res→G) (f:∀ n,x=some n→B n=some res→G):G:=by
 cases x with
 | none=>exact t rfl h
 | some n=>exact f n rfl h
theorem fcase {α:Type} {x c:Nat} {A B:Option α} {res:α} {G:Prop} (h:cond (x==c) A B=some res) (t:x=c→A=some res→G) (f:B=some res→G):G:=by
 cases hx:(x==c)
 ·rw [hx] at h;exact f h
 ·rw [hx] at h;exact t (eq_of_beq hx) h
theorem XAD {K:Dec} {vs:List Value} {cs:List (Option (List Value))}:dNl 2 K (.pointer none::vs) (none::none::cs)=K vs cs:=rfl
def XDp (i:Nat) (a b:Dec):Dec:=fun vs cs=>match vs[i]? with
 | some (.pointer none)=>b vs cs
 | _=>a vs cs
theorem XDp.elim {i:Nat} {a b:Dec} {vs:List Value} {cs:List (Option (List Value))} {r:Xcu} (h:XDp i a b vs cs=some r):a vs cs=some r∨b vs cs=some r:=by
 unfold XDp at h
 split at h
 ·exact .inr h
 ·exact .inl h
theorem XwB {H:Hp} {s:Nat→Option Nat}:XsL H s [] []:=trivial
theorem XwZ {H:Hp} {s:Nat→Option Nat} {j:Nat} {js:List Nat} {c c':List Value} {cs:List (List Value)} (e:Xei.renL s c=some c') (h:Has H j c') (t:XsL H s js cs):XsL H s (j::js) (c::cs):=⟨⟨_,e,h⟩,t⟩
theorem Xwe {n:Nat} {wr:List (Option (List Value))}:XEc n wr []:=trivial
theorem XwX {n j:Nat} {wr:List (Option (List Value))} {js:List Nat} (h:n≤j) (t:XEc n wr js):XEc n wr (j::js):=⟨.inl h,t⟩
theorem js_r {n j:Nat} {wr:List (Option (List Value))} {js:List Nat} (h:wr[j]?=some none) (t:XEc n wr js):XEc n wr (j::js):=⟨.inr h,t⟩
theorem XwK {H:Hp} {s:Nat→Option Nat} {k:Nat}:Xwt H s k []:=trivial
theorem wr_n {H:Hp} {s:Nat→Option Nat} {k:Nat} {l:List (Option (List Value))} (t:Xwt H s (k+1) l):Xwt H s k (none::l):=t
theorem wr_s {H:Hp} {s:Nat→Option Nat} {k:Nat} {c c':List Value} {l:List (Option (List Value))} (e:Xei.renL s c=some c') (h:Has H k c') (t:Xwt H s (k+1) l) (hm:mk3 c=none:=by rfl):Xwt H s k (some c::l):=⟨by unfold HasW;rw [hm];exact ⟨_,e,h⟩,t⟩
theorem wr_m {H:Hp} {s:Nat→Option Nat} {k:Nat} {c:List Value} {l:List (Option (List Value))} (h:XaE H k=some (.mp c)) (t:Xwt H s (k+1) l):Xwt H s k (some (.float .f64 0::c)::l):=⟨h,t⟩
theorem Res.flat {n:Nat} {r:Xcu} {v':Value} {H':Hp} {b:Bool} (e:r.v=.bool b) (_:r.new=[]) (h:Res n r v' H'):v'=.bool b:=by
 obtain ⟨js,h1,h2,-⟩:=h.ex
 rw [e] at h1
 cases h1;rfl
theorem Xgn.q {s:Xbs} {vals:List Value} {h:Hp} {top:Nat} {K:Value→Hp→Nat→Prop} {r:Xcu} {v':Value} (e1:Xda h 0 s.modes vals=some (vals,[])) (ew:Xj2 h s.modes vals=[]) (e2:s.run vals []=some r) (hn:r.new=[]) (hw:r.wr=[]) (e6:Xei (XtE top 0 []) r.v=some v')
 (k:Xg8 v' fun v=>XkA [] h fun h'=>K v h' top):Xgn s vals h top K:=by
 refine Xgn.XGD [] (XsS (n:=0) (m:=0) (t':=top) e1 ew rfl e2 rfl (by rw [hn];rfl) rfl rfl (by rw [hw];exact XFl) (by rw [hn];exact XGL) e6) k
theorem dFin {α:Type} {o:Option α} {f:α→Xcu} {vs:List Value} {cs:List (Option (List Value))} {r:Xcu} (h:Xdm (ofG o f) vs cs=some r):vs=[]∧cs=[]∧∃ x,o=some x∧f x=r:=by
 obtain ⟨a,b,c⟩:=Xdm.elim h
 exact ⟨a,b,ofG.elim c⟩
theorem Res.z {n:Nat} {r:Xcu} {v':Value} {H':Hp} (e1:Xei (Xtj [] n) r.v=some v') (e2:r.new=[]) (e3:r.wr=[]):Res n r v' H':=
 Res.of [] e1 (by rw [e2];exact XwB) (by decide) Xwe (by rw [e3];exact XwK)
theorem Xgn.p {s:Xbs} {vals:List Value} {h:Hp} {top:Nat} {K:Value→Hp→Nat→Prop} {r:Xcu} {v':Value} (e2:s.run vals []=some r)
 (k:Xg8 v' fun v=>XkA [] h fun h'=>K v h' top) (e1:Xda h 0 s.modes vals=some (vals,[]):=by exact rfl) (ew:Xj2 h s.modes vals=[]:=by exact rfl) (hn:r.new=[]:=by exact rfl) (hw:r.wr=[]:=by exact rfl) (e6:Xei (XtE top 0 []) r.v=some v':=by exact rfl):Xgn s vals h top K:=Xgn.q e1 ew e2 hn hw e6 k
theorem Res.y {n:Nat} {r:Xcu} {v':Value} {H':Hp} (e1:Xei (Xtj [] n) r.v=some v':=by exact rfl) (e2:r.new=[]:=by exact rfl) (e3:r.wr=[]:=by exact rfl):Res n r v' H':=Res.z e1 e2 e3
end Go.Vm
namespace Go.Vm
open Go Go.RowKit
section
variable {α:Type} {f:α→List Value} {c:Nat}
end
end Go.Vm
namespace Go.Vm
end Go.Vm
namespace Go.Vm
open Go
theorem Xc5 {n:Int} (h1:-9223372036854775808≤n) (h2:n<9223372036854775808):wI .i64 n=n:=by
 show IntKind.wrap .i64 n=n;rw [IntKind.wrap_i64];omega
theorem XjF {n:Int} (h1:0≤n) (h2:n<18446744073709551616):wI .u64 n=n:=by
 show IntKind.wrap .u64 n=n
 simp only [IntKind.wrap,IntKind.bits,IntKind.signed];simp;omega
theorem Xvh {n:Int} (h1:0≤n) (h2:n<4294967296):wI .u32 n=n:=by
 show IntKind.wrap .u32 n=n
 simp only [IntKind.wrap,IntKind.bits,IntKind.signed];simp;omega
theorem wU8 {n:Int} (h1:0≤n) (h2:n<256):wI .u8 n=n:=by
 show IntKind.wrap .u8 n=n
 simp only [IntKind.wrap,IntKind.bits,IntKind.signed];simp;omega
theorem wU64m (n:Int):wI .u64 n=n%18446744073709551616:=by
 show IntKind.wrap .u64 n=_
 simp only [IntKind.wrap,IntKind.bits,IntKind.signed];simp
theorem XOG (n:Int):wI .u32 n=n%4294967296:=by
 show IntKind.wrap .u32 n=_
 simp only [IntKind.wrap,IntKind.bits,IntKind.signed];simp
theorem XDt (n:Int):wI .u16 n=n%65536:=by
 show IntKind.wrap .u16 n=_
 simp only [IntKind.wrap,IntKind.bits,IntKind.signed];simp
theorem wU8m (n:Int):wI .u8 n=n%256:=by
 show IntKind.wrap .u8 n=_
 simp only [IntKind.wrap,IntKind.bits,IntKind.signed];simp
theorem XK1 {n:Nat} (h:n<18446744073709551616):(BitVec.ofInt 64 (n:Int)).toNat=n:=by
 rw [BitVec.toNat_ofInt];omega
theorem XPP {a b:Nat} (ha:a<9223372036854775808) (hb:b<9223372036854775808):Xl7 .i64 (a:Int) (b:Int)=((a &&& b:Nat):Int):=by
 have h:a &&& b≤a:=Nat.and_le_left
 show IntKind.wrap .i64 _=_
 rw [show IntKind.bits .i64=64 from rfl,BitVec.toNat_and,XK1 (by omega),XK1 (by omega)]
 exact Xc5 (by omega) (by omega)
theorem XRE {a b:Nat} (ha:a<9223372036854775808) (hb:b<9223372036854775808):XuZ .i64 (a:Int) (b:Int)=((a ||| b:Nat):Int):=by
 have h:a ||| b<2^63:=Nat.or_lt_two_pow (by omega) (by omega)
 show IntKind.wrap .i64 _=_
 rw [show IntKind.bits .i64=64 from rfl,BitVec.toNat_or,XK1 (by omega),XK1 (by omega)]
 exact Xc5 (by omega) (by omega)
theorem XOJ {a b:Nat} (ha:a<18446744073709551616) (hb:b<18446744073709551616):XuZ .u64 (a:Int) (b:Int)=((a ||| b:Nat):Int):=by
 have h:a ||| b<2^64:=Nat.or_lt_two_pow (by omega) (by omega)
 show IntKind.wrap .u64 _=_
 rw [show IntKind.bits .u64=64 from rfl,BitVec.toNat_or,XK1 (by omega),XK1 (by omega)]
 exact XjF (by omega) (by omega)
theorem XBK (a k:Nat):a &&& (2^k - 1)=a%2^k:=Nat.and_two_pow_sub_one_eq_mod a k
theorem XyN {a b k:Nat} (hb:b<2^k):(a*2^k) ||| b=a*2^k+b:=by
 rw [Nat.mul_comm];exact (Nat.two_pow_add_eq_or_of_lt hb a).symm
theorem XiJ (k:Nat) {a m:Int} (hm:m=2^k - 1) (hk:k≤62) (h0:0≤a) (h1:a<9223372036854775808):Xl7 .i64 a m=a%2^k:=by
 obtain ⟨n,rfl⟩:=Int.eq_ofNat_of_zero_le h0
 have hp:2^k≤2^62:=Nat.pow_le_pow_right (by decide) hk
 have hp1:1≤2^k:=Nat.one_le_two_pow
 have:m=((2^k - 1:Nat):Int):=by rw [hm];push_cast [hp1];rfl
 rw [this,XPP (by omega) (by omega),XBK];push_cast;rfl
theorem XqG (k:Nat) {a b:Int} (h0:0≤a) (h1:a*2^k<9223372036854775808) (hb0:0≤b) (hb:b<2^k) (hb1:b<9223372036854775808):XuZ .i64 (a*2^k) b=a*2^k+b:=by
 obtain ⟨n,rfl⟩:=Int.eq_ofNat_of_zero_le h0
 obtain ⟨m,rfl⟩:=Int.eq_ofNat_of_zero_le hb0
 have e:((n:Int)*2^k)=((n*2^k:Nat):Int):=by push_cast;rfl
 rw [e] at h1 ⊢
 rw [XRE (by omega) (by omega),XyN (by exact_mod_cast hb)];push_cast;rfl
theorem XqF (k:Nat) {a b:Int} (h0:0≤a) (h1:a*2^k<18446744073709551616) (hb0:0≤b) (hb:b<2^k) (hb1:b<18446744073709551616):XuZ .u64 (a*2^k) b=a*2^k+b:=by
 obtain ⟨n,rfl⟩:=Int.eq_ofNat_of_zero_le h0
 obtain ⟨m,rfl⟩:=Int.eq_ofNat_of_zero_le hb0
 have e:((n:Int)*2^k)=((n*2^k:Nat):Int):=by push_cast;rfl
 rw [e] at h1 ⊢
 rw [XOJ (by omega) (by omega),XyN (by exact_mod_cast hb)];push_cast;rfl
theorem Xs8 (a:Int) (k:Nat):a.fdiv (2^k)=a/2^k:=Int.fdiv_eq_ediv_of_nonneg a (Int.le_of_lt (Int.pow_pos (by decide)))
theorem XaC {α:Type} {p:Prop} [Decidable p] {x:Option α} (h:p):Xa9 (decide p) x=x:=Xa9.mk (decide_eq_true h)
theorem Xa2 {α:Type} {p:Prop} [Decidable p] {x y:α} (h:p):cond (decide p) x y=x:=by rw [decide_eq_true h,cond_true]
theorem XaQ {α:Type} {p:Prop} [Decidable p] {x y:α} (h:¬ p):cond (decide p) x y=y:=by rw [decide_eq_false h,cond_false]
theorem Xu3 {α:Type} {p:Prop} [Decidable p] {x y:α}:cond (decide p) x y=if p then x else y:=by
 by_cases h:p<;>simp [h]
theorem iter_eq {σ ρ:Type} {step:σ→Option (Sum σ ρ)} (F:σ→ρ) (P:σ→Prop) (μ:σ→Nat)
 (h:∀ s,P s→step s=some (.inr (F s))∨∃ s',step s=some (.inl s')∧P s'∧μ s'<μ s∧F s'=F s):∀ n s,P s→μ s<n→iter step n s=some (F s)
 | 0,s,hp,hn=>by omega
 | n+1,s,hp,hn=>by
   rw [iter]
   rcases h s hp with e|⟨s',e,hp',hm,hf⟩
   ·rw [e]
   ·rw [e];exact hf▸iter_eq F P μ h n s' hp' (by omega)
theorem Xge:FUEL=18446744073709551616:=rfl
end Go.Vm
namespace Go.Vm.Code
open Go Go.Vm Go.Proofs
def τ0:Operand:=.tmp 0
def τ1:Operand:=.tmp 1
def τ2:Operand:=.tmp 2
def τ3:Operand:=.tmp 3
def τ4:Operand:=.tmp 4
def τ5:Operand:=.tmp 5
def τ6:Operand:=.tmp 6
def τ7:Operand:=.tmp 7
def τ8:Operand:=.tmp 8
def τ9:Operand:=.tmp 9
def XdG:Operand:=.tmp 10
def Xdt:Operand:=.tmp 11
def Xeg:Operand:=.tmp 12
def XdS:Operand:=.tmp 13
def XeX:Operand:=.tmp 14
def XeQ:Operand:=.tmp 15
def XeY:Operand:=.tmp 16
def Xe5:Operand:=.tmp 17
def XfK:Operand:=.tmp 18
def XfU:Operand:=.tmp 19
def Xf3:Operand:=.tmp 20
def Xf9:Operand:=.tmp 21
def XgR:Operand:=.tmp 22
def XgP:Operand:=.tmp 23
def Xf2:Operand:=.tmp 24
def Xhc:Operand:=.tmp 25
def Xg5:Operand:=.tmp 26
def Xhd:Operand:=.tmp 27
def Xhe:Operand:=.tmp 28
def Xha:Operand:=.tmp 29
def XhJ:Operand:=.tmp 30
def XhR:Operand:=.tmp 31
def Xho:Operand:=.tmp 32
def Xh8:Operand:=.tmp 33
def Xic:Operand:=.tmp 34
def Xig:Operand:=.tmp 35
def Xin:Operand:=.tmp 36
def XhW:Operand:=.tmp 37
def Xja:Operand:=.tmp 38
def Xi6:Operand:=.tmp 39
def Xj4:Operand:=.tmp 40
def XjR:Operand:=.tmp 41
def Xjs:Operand:=.tmp 42
def XjD:Operand:=.tmp 43
def Xka:Operand:=.tmp 44
def Xj8:Operand:=.tmp 45
def XkE:Operand:=.tmp 46
def Xj7:Operand:=.tmp 47
def Xlk:Operand:=.tmp 48
def Xle:Operand:=.tmp 49
def Xlj:Operand:=.tmp 50
def Xls:Operand:=.tmp 51
def XlY:Operand:=.tmp 52
def XlZ:Operand:=.tmp 53
def Xne:Operand:=.tmp 54
def Xnt:Operand:=.tmp 55
def Xna:Operand:=.tmp 56
def Xm4:Operand:=.tmp 57
def XnM:Operand:=.tmp 58
def XnP:Operand:=.tmp 59
def Xpe:Operand:=.tmp 60
def Xpr:Operand:=.tmp 61
def Xp0:Operand:=.tmp 62
def Xqd:Operand:=.tmp 63
def XrS:Operand:=.tmp 64
def Xr2:Operand:=.tmp 65
def Xta:Operand:=.tmp 66
def XrZ:Operand:=.tmp 67
def XrX:Operand:=.tmp 68
def XsJ:Operand:=.tmp 69
def Xtz:Operand:=.tmp 70
def XtW:Operand:=.tmp 71
def Xts:Operand:=.tmp 72
def XuI:Operand:=.tmp 73
def XwS:Operand:=.tmp 74
def XwW:Operand:=.tmp 75
def XAP:Operand:=.tmp 76
def Xv0:Operand:=.tmp 77
def XxI:Operand:=.tmp 78
def XAN:Operand:=.tmp 79
def XAL:Operand:=.tmp 80
def XEI:Operand:=.tmp 81
def XHu:Operand:=.tmp 82
def XAX:Operand:=.tmp 83
def XIg:Operand:=.tmp 84
def XMg:Operand:=.tmp 85
def XMu:Operand:=.tmp 86
def XMt:Operand:=.tmp 87
def XMk:Operand:=.tmp 88
def XMr:Operand:=.tmp 89
def XMy:Operand:=.tmp 90
def XMh:Operand:=.tmp 91
def XMl:Operand:=.tmp 92
def XMq:Operand:=.tmp 93
def XIy:Operand:=.tmp 94
def XMx:Operand:=.tmp 95
def XMn:Operand:=.tmp 96
def XPN:Operand:=.tmp 97
def τ98:Operand:=.tmp 98
def τ99:Operand:=.tmp 99
def XBP:Operand:=.tmp 100
def XKa:Operand:=.tmp 101
def XQ6:Operand:=.tmp 102
def XTd:Operand:=.tmp 103
def XOF:Operand:=.tmp 104
def XP0:Operand:=.tmp 105
def XON:Operand:=.tmp 106
def XMJ:Operand:=.tmp 107
def XOj:Operand:=.tmp 108
def XSP:Operand:=.tmp 109
def XNG:Operand:=.tmp 110
def XDf:Operand:=.tmp 111
def XSz:Operand:=.tmp 112
def XNX:Operand:=.tmp 113
def XRX:Operand:=.tmp 114
def XNI:Operand:=.tmp 115
def XPl:Operand:=.tmp 116
def XPr:Operand:=.tmp 117
def XOo:Operand:=.tmp 118
def XQh:Operand:=.tmp 119
def XNm:Operand:=.tmp 120
def XM9:Operand:=.tmp 121
def XNP:Operand:=.tmp 122
def XRK:Operand:=.tmp 123
def XOc:Operand:=.tmp 124
def XOz:Operand:=.tmp 125
def XOe:Operand:=.tmp 126
def XNt:Operand:=.tmp 127
def XPY:Operand:=.tmp 128
def XNr:Operand:=.tmp 129
def XP7:Operand:=.tmp 130
def XSZ:Operand:=.tmp 131
def XR5:Operand:=.tmp 132
def XOY:Operand:=.tmp 133
def XM0:Operand:=.tmp 134
def XTb:Operand:=.tmp 135
def XOa:Operand:=.tmp 136
def XO6:Operand:=.tmp 137
def XNi:Operand:=.tmp 138
def XQM:Operand:=.tmp 139
def XQL:Operand:=.tmp 140
def XN0:Operand:=.tmp 141
def XK5:Operand:=.tmp 142
def XOO:Operand:=.tmp 143
def XRQ:Operand:=.tmp 144
def τ145:Operand:=.tmp 145
def XJG:Operand:=.tmp 146
def XRL:Operand:=.tmp 147
def XQX:Operand:=.tmp 148
def XRV:Operand:=.tmp 149
def XOA:Operand:=.tmp 150
def XRG:Operand:=.tmp 151
def XPH:Operand:=.tmp 152
def XND:Operand:=.tmp 153
def XTe:Operand:=.tmp 154
def XHn:Operand:=.tmp 155
def XPE:Operand:=.tmp 156
def XQe:Operand:=.tmp 157
def XPh:Operand:=.tmp 158
def XNE:Operand:=.tmp 159
def XSQ:Operand:=.tmp 160
def τ161:Operand:=.tmp 161
def τ162:Operand:=.tmp 162
def τ163:Operand:=.tmp 163
def τ164:Operand:=.tmp 164
def τ165:Operand:=.tmp 165
def τ166:Operand:=.tmp 166
def τ167:Operand:=.tmp 167
def τ168:Operand:=.tmp 168
def τ169:Operand:=.tmp 169
def τ170:Operand:=.tmp 170
def τ171:Operand:=.tmp 171
def τ172:Operand:=.tmp 172
def τ173:Operand:=.tmp 173
def XSt:Operand:=.tmp 174
def τ175:Operand:=.tmp 175
def τ176:Operand:=.tmp 176
def τ177:Operand:=.tmp 177
def τ178:Operand:=.tmp 178
def τ179:Operand:=.tmp 179
def XML:Operand:=.tmp 180
def τ181:Operand:=.tmp 181
def τ182:Operand:=.tmp 182
def τ183:Operand:=.tmp 183
def τ184:Operand:=.tmp 184
def XPm:Operand:=.tmp 185
def τ186:Operand:=.tmp 186
def τ187:Operand:=.tmp 187
def τ188:Operand:=.tmp 188
def τ189:Operand:=.tmp 189
def τ190:Operand:=.tmp 190
def τ191:Operand:=.tmp 191
def τ192:Operand:=.tmp 192
def τ193:Operand:=.tmp 193
def τ194:Operand:=.tmp 194
def τ195:Operand:=.tmp 195
def τ196:Operand:=.tmp 196
def τ197:Operand:=.tmp 197
def τ198:Operand:=.tmp 198
def τ199:Operand:=.tmp 199
def τ200:Operand:=.tmp 200
def τ201:Operand:=.tmp 201
def τ202:Operand:=.tmp 202
def τ203:Operand:=.tmp 203
def τ204:Operand:=.tmp 204
def τ205:Operand:=.tmp 205
def τ206:Operand:=.tmp 206
def τ207:Operand:=.tmp 207
def τ208:Operand:=.tmp 208
def τ209:Operand:=.tmp 209
def τ210:Operand:=.tmp 210
def τ211:Operand:=.tmp 211
def τ212:Operand:=.tmp 212
def τ213:Operand:=.tmp 213
def τ214:Operand:=.tmp 214
def τ215:Operand:=.tmp 215
def τ216:Operand:=.tmp 216
def τ217:Operand:=.tmp 217
def τ218:Operand:=.tmp 218
def τ219:Operand:=.tmp 219
def τ220:Operand:=.tmp 220
def τ221:Operand:=.tmp 221
def τ222:Operand:=.tmp 222
def τ223:Operand:=.tmp 223
def τ224:Operand:=.tmp 224
def τ225:Operand:=.tmp 225
def oD (n:Nat) (o:VOp):XcH:=⟨some n,o,none⟩
def oN (o:VOp):XcH:=⟨none,o,none⟩
def oM (n:Nat) (x:Operand):XcH:=⟨some n,.mv x,none⟩
def oG (n:Nat) (o:VOp) (j:Nat) (b:Bool):XcH:=⟨some n,o,some (j,b)⟩
def oE (n i:Nat) (x:Operand):XcH:=⟨some n,.extract i x,none⟩
def k4_13:VC:=.regD [oD 45 (.loadN [(.int .i64),.bool,(.int .u64),(.int .u64),.bool,(.int .u64),(.int .u64),(.int .i64),(.int .i64)] τ6),oM 46 τ5,oD 47 (.callF 22 [XkE,(.const (.int .u32 0))]),oD 48 (.callF 21 [Xj8,(.const (.int .i64 2)),Xj7,(.const (.string ⟨⟨[]⟩⟩))]),oM 44 Xlk,oE 49 0 Xka,oE 50 1 Xka,oM 14 Xle] [(0,2)] [oM 15 Xlj]
def k4_30:VC:=.regD [oM 105 XgP,oD 106 (.bin .neq XP0 (.const (.int .i64 0))),oM 107 XON,oG 108 (.mv Xhc) 107 false,oG 109 (.bin .neq XOj (.const (.int .i64 0))) 107 false,oD 110 (.pick XMJ (.const (.bool true)) XSP),oM 111 XNG,oG 112 (.fieldA 11 Xf2) 111 false,oG 113 (.load1 (.int .u32) XSz) 111 false,oG 114 (.bin .shr XNX (.const (.int .u64 16))) 111 false,oG 115 (.mv τ1) 111 false,oG 116 (.conv .u32 XNI) 111 false,oG 117 (.bin .neq XRX XPl) 111 false,oD 118 (.pick XDf (.const (.bool true)) XPr),oM 119 XOo,oG 120 (.fieldA 11 Xf2) 119 false,oG 121 (.load1 (.int .u32) XNm) 119 false,oG 122 (.bin .rem XM9 (.const (.int .u32 65536))) 119 false,oG 123 (.mv τ2) 119 false,oG 124 (.bin .rem XRK (.const (.int .u32 65536))) 119 false,oG 125 (.bin .neq XNP XOc) 119 false,oD 126 (.pick XQh (.const (.bool true)) XOz),oM 127 XOe,oG 128 (.fieldA 12 Xf2) 127 false,oG 129 (.load1 (.int .u32) XPY) 127 false,oG 130 (.mv τ5) 127 false,oG 131 (.bin .neq XNr XP7) 127 false,oD 132 (.pick XNt (.const (.bool true)) XSZ),oM 133 XR5,oG 134 (.fieldA 0 Xf2) 133 false,oG 135 (.loadN [(.int .i64),.bool,(.int .u64),(.int .u64),.bool,(.int .u64),(.int .u64),(.int .i64),(.int .i64)] XM0) 133 false,oG 136 (.loadN [(.int .i64),.bool,(.int .u64),(.int .u64),.bool,(.int .u64),(.int .u64),(.int .i64),(.int .i64)] τ6) 133 false,oG 137 (.callF 24 [XOa]) 133 false] [(30,32)] [oG 138 (.eqAgg true [(0,(.int .i64)),(1,.bool),(2,(.int .u64)),(3,(.int .u64)),(4,.bool),(5,(.int .u64)),(6,(.int .u64)),(7,(.int .i64)),(8,(.int .i64))] XTb XO6) 133 false,oD 139 (.pick XOY (.const (.bool true)) XNi)]
def k4_36:VC:=.regD [oD 147 (.loadN [(.int .i64),.bool,(.int .u64),(.int .u64),.bool,(.int .u64),(.int .u64),(.int .i64),(.int .i64)] τ6),oM 148 τ5,oD 149 (.fieldA 11 Xf2),oD 150 (.load1 (.int .u32) XRV),oD 151 (.callF 22 [XQX,XOA]),oD 152 (.callF 21 [XRL,(.const (.int .i64 16)),XRG,(.const (.string ⟨⟨[]⟩⟩))]),oM 146 XPH,oE 153 0 XJG,oE 154 1 XJG,oM 26 XND] [(0,4)] [oM 27 XTe]
def XSB:VC:=.seq (.reg [oD 6 (.box τ0),oD 12 (.mv (.const (.bool false)))]) (.seq (.reg [oD 36 (.fieldA 0 τ6),oN (.store 1 Xin (.const (.int .i64 6)))]) (.seq (.seq (.reg [oD 37 (.loadN [(.int .i64),.bool,(.int .u64),(.int .u64),.bool,(.int .u64),(.int .u64),(.int .i64),(.int .i64)] τ6),oD 38 (.callF 20 [XhW]),oD 39 (.not Xja)]) (.cond Xi6 (.seq (.reg [oD 40 (.callF 7 []),oM 12 Xj4]) .ret) .skip)) (.seq (.reg [oD 41 (.callF 8 [(.const (.int .i64 7))]),oM 13 XjR]) (.seq (.seq (.reg [oM 42 XdS,oD 43 (.isNil 0 false Xjs)]) (.cond XjD (.seq (.reg [oD 12 (.mv (.const (.bool false)))]) .ret) .skip)) (.seq k4_13 (.seq (.reg [oD 52 (.fieldA 1 τ6),oD 53 (.fieldA 0 XlY),oD 54 (.load1 .bool XlZ),oM 55 τ1,oD 56 (.conv .u64 Xnt),oD 57 (.build [(.bool false),(.int .i64 0),(.int .u64 0),(.bool false),(.int .i64 0)] [(0,1,Xne),(1,1,(.const (.int .i64 7))),(2,1,Xna),(3,1,(.const (.bool true)))]),oM 58 XeX,oD 59 (.callF 23 [Xm4,XnM]),oM 51 XnP,oE 60 0 Xls,oE 61 1 Xls,oM 16 Xpe,oM 17 Xpr]) (.seq (.seq (.reg [oM 62 XeQ,oD 63 (.bin .neq Xp0 (.const (.int .i64 0))),oM 64 Xqd,oG 65 (.mv Xe5) 64 false,oG 66 (.bin .neq Xr2 (.const (.int .i64 0))) 64 false,oD 67 (.pick XrS (.const (.bool true)) Xta)]) (.cond XrZ (.seq (.reg [oD 12 (.mv (.const (.bool false)))]) .ret) .skip)) (.seq (.reg [oM 69 XdS,oM 70 XeY,oD 71 (.callF 10 [XsJ,Xtz]),oM 68 XtW,oE 72 0 XrX,oE 73 1 XrX,oM 18 Xts,oM 19 XuI]) (.seq (.reg [oM 74 XdS,oM 75 τ2,oD 76 (.callF 16 [XwS,XwW])]) (.seq (.reg [oD 78 (.loadN [(.int .i64),.bool,(.int .u64),(.int .u64),.bool,(.int .u64),(.int .u64),(.int .i64),(.int .i64)] τ6),oD 79 (.callF 24 [XxI]),oM 80 τ4,oD 81 (.conv .i64 XAL),oM 82 τ2,oM 83 τ5,oD 84 (.callF 22 [XHu,XAX]),oD 85 (.callF 21 [XAN,XEI,XIg,(.const (.string ⟨⟨[104,105]⟩⟩))]),oM 77 XMg,oE 86 0 Xv0,oE 87 1 Xv0,oM 20 XMu,oM 21 XMt]) (.seq (.seq (.reg [oM 88 XfU,oD 89 (.bin .neq XMk (.const (.int .i64 0))),oM 90 XMr,oG 91 (.mv Xf9) 90 false,oG 92 (.bin .neq XMh (.const (.int .i64 0))) 90 false,oD 93 (.pick XMy (.const (.bool true)) XMl)]) (.cond XMq (.seq (.reg [oD 12 (.mv (.const (.bool false)))]) .ret) .skip)) (.seq (.reg [oM 95 XdS,oM 96 Xf3,oD 97 (.callF 12 [XMx,XMn]),oM 94 XPN,oE 98 0 XIy,oE 99 1 XIy,oM 22 τ98,oM 23 τ99]) (.seq (.reg [oM 101 XgR,oD 102 (.callF 25 [XKa]),oM 100 XQ6,oE 103 0 XBP,oE 104 1 XBP,oD 24 (.alloc [(.int .i64 0),(.bool false),(.int .u64 0),(.int .u64 0),(.bool false),(.int .u64 0),(.int .u64 0),(.int .i64 0),(.int .i64 0),(.int .i64 0),(.bool false),(.int .u32 0),(.int .u32 0),(.bool false),(.string ⟨⟨[]⟩⟩),(.int .i64 0)]),oN (.store 16 Xf2 XTd),oM 25 XOF]) (.seq (.seq k4_30 (.cond XQM (.seq (.reg [oD 12 (.mv (.const (.bool false)))]) .ret) .skip)) (.seq (.reg [oM 140 XdS,oM 141 τ2,oM 142 τ3,oD 143 (.conv .u32 XK5),oD 144 (.bin .add XN0 XOO),oD 145 (.callF 16 [XQL,XRQ])]) (.seq k4_36 (.seq (.reg [oD 156 (.fieldA 1 τ6),oD 157 (.fieldA 0 XPE),oD 158 (.load1 .bool XQe),oD 159 (.fieldA 11 Xf2),oD 160 (.load1 (.int .u32) XNE),oD 161 (.bin .shr XSQ (.const (.int .u64 16))),oD 162 (.conv .u64 τ161),oD 163 (.build [(.bool false),(.int .i64 0),(.int .u64 0),(.bool false),(.int .i64 0)] [(0,1,XPh),(1,1,(.const (.int .i64 7))),(2,1,τ162)]),oM 164 Xg5,oD 165 (.callF 23 [τ163,τ164]),oM 155 τ165,oE 166 0 XHn,oE 167 1 XHn,oM 28 τ166,oM 29 τ167]) (.seq (.seq (.reg [oM 168 Xhd,oD 169 (.bin .neq τ168 (.const (.int .i64 0))),oM 170 τ169,oG 171 (.mv Xha) 170 false,oG 172 (.bin .neq τ171 (.const (.int .i64 0))) 170 false,oD 173 (.pick τ170 (.const (.bool true)) τ172)]) (.cond τ173 (.seq (.reg [oD 12 (.mv (.const (.bool false)))]) .ret) .skip)) (.seq (.reg [oM 175 XdS,oM 176 Xhe,oD 177 (.callF 10 [τ175,τ176]),oM 174 τ177,oE 178 0 XSt,oE 179 1 XSt,oM 30 τ178,oM 31 τ179]) (.seq (.reg [oM 181 XhJ,oD 182 (.callF 25 [τ181]),oM 180 τ182,oE 183 0 XML,oE 184 1 XML,oD 32 (.alloc [(.int .i64 0),(.bool false),(.int .u64 0),(.int .u64 0),(.bool false),(.int .u64 0),(.int .u64 0),(.int .i64 0),(.int .i64 0),(.int .i64 0),(.bool false),(.int .u32 0),(.int .u32 0),(.bool false),(.string ⟨⟨[]⟩⟩),(.int .i64 0)]),oN (.store 16 Xho τ183),oM 33 τ184]) (.seq (.reg [oM 186 XdS,oD 187 (.loadN [(.int .i64),.bool,(.int .u64),(.int .u64),.bool,(.int .u64),(.int .u64),(.int .i64),(.int .i64)] τ6),oD 188 (.callF 17 [τ186,τ187]),oM 185 τ188,oE 189 0 XPm,oE 190 1 XPm,oM 34 τ189,oM 35 τ190]) (.seq (.reg [oM 191 XhR,oD 192 (.bin .eql τ191 (.const (.int .i64 0))),oM 193 τ192,oG 194 (.mv Xh8) 193 true,oG 195 (.bin .eql τ194 (.const (.int .i64 0))) 193 true,oD 196 (.pick τ193 τ195 (.const (.bool false))),oM 197 τ196,oG 198 (.fieldA 12 Xho) 197 true,oG 199 (.load1 (.int .u32) τ198) 197 true,oG 200 (.mv τ2) 197 true,oG 201 (.bin .eql τ199 τ200) 197 true,oD 202 (.pick τ197 τ201 (.const (.bool false))),oM 203 τ202,oG 204 (.fieldA 0 Xho) 203 true,oG 205 (.loadN [(.int .i64),.bool,(.int .u64),(.int .u64),.bool,(.int .u64),(.int .u64),(.int .i64),(.int .i64)] τ204) 203 true,oG 206 (.loadN [(.int .i64),.bool,(.int .u64),(.int .u64),.bool,(.int .u64),(.int .u64),(.int .i64),(.int .i64)] τ6) 203 true,oG 207 (.eqAgg false [(0,(.int .i64)),(1,.bool),(2,(.int .u64)),(3,(.int .u64)),(4,.bool),(5,(.int .u64)),(6,(.int .u64)),(7,(.int .i64)),(8,(.int .i64))] τ205 τ206) 203 true,oD 208 (.pick τ203 τ207 (.const (.bool false))),oM 209 τ208,oG 210 (.mv Xig) 209 true,oD 211 (.pick τ209 τ210 (.const (.bool false))),oM 212 τ211,oG 213 (.mv Xic) 212 true,oG 214 (.mv τ1) 212 true,oG 215 (.conv .u64 τ214) 212 true,oG 216 (.bin .eql τ213 τ215) 212 true,oD 217 (.pick τ212 τ216 (.const (.bool false))),oM 218 τ217,oG 219 (.mv XdS) 218 true,oG 220 (.callF 19 [τ219]) 218 true,oG 221 (.bin .eql τ220 (.const (.int .i64 1))) 218 true,oD 222 (.pick τ218 τ221 (.const (.bool false))),oM 223 τ222,oG 224 (.callF 7 []) 223 true,oD 225 (.pick τ223 τ224 (.const (.bool false))),oM 12 τ225]) .ret))))))))))))))))))))))
def fn4:VFn:=⟨226,XSB,[.tmp 12]⟩
def XPk:VC:=.seq (.reg [oD 1 (.box τ0),oD 2 (.mv (.const (.bool false)))]) (.seq (.reg [oD 3 (.fieldA 0 τ1),oD 4 (.load1 (.int .i64) τ3),oD 5 (.callF 41 [τ4,(.const (.int .i64 255))]),oM 6 τ5,oG 7 (.fieldA 1 τ1) 6 true,oG 8 (.loadN [.bool,(.int .u64),(.int .u64)] τ7) 6 true,oG 9 (.callF 42 [τ8]) 6 true,oD 10 (.pick τ6 τ9 (.const (.bool false))),oM 11 XdG,oG 12 (.fieldA 4 τ1) 11 true,oG 13 (.loadN [.bool,(.int .u64),(.int .u64)] Xeg) 11 true,oG 14 (.callF 42 [XdS]) 11 true,oD 15 (.pick Xdt XeX (.const (.bool false))),oM 16 XeQ,oG 17 (.fieldA 1 τ1) 16 true,oG 18 (.fieldA 0 Xe5) 16 true,oG 19 (.load1 .bool XfK) 16 true,oG 20 (.fieldA 4 τ1) 16 true,oG 21 (.fieldA 0 Xf3) 16 true,oG 22 (.load1 .bool Xf9) 16 true,oG 23 (.eqB false XfU XgR) 16 true,oD 24 (.pick XeY XgP (.const (.bool false))),oM 25 Xf2,oG 26 (.fieldA 7 τ1) 25 true,oG 27 (.load1 (.int .i64) Xg5) 25 true,oG 28 (.callF 41 [Xhd,(.const (.int .i64 65535))]) 25 true,oD 29 (.pick Xhc Xhe (.const (.bool false))),oM 30 Xha,oG 31 (.fieldA 8 τ1) 30 true,oG 32 (.load1 (.int .i64) XhR) 30 true,oG 33 (.callF 41 [Xho,(.const (.int .i64 65535))]) 30 true,oD 34 (.pick XhJ Xh8 (.const (.bool false))),oM 2 Xic]) .ret)
def fn20:VFn:=⟨35,XPk,[.tmp 2]⟩
def XS7:VC:=.seq (.reg [oD 4 (.mv (.const (.bool false)))]) (.seq (.reg [oM 5 τ0,oD 6 (.bin .geq τ5 (.const (.int .i64 0))),oM 7 τ6,oG 8 (.mv τ0) 7 true,oG 9 (.mv τ1) 7 true,oG 10 (.bin .leq τ8 τ9) 7 true,oD 11 (.pick τ7 XdG (.const (.bool false))),oM 4 Xdt]) .ret)
def fn41:VFn:=⟨12,XS7,[.tmp 4]⟩
def XQf:VC:=.seq (.reg [oD 1 (.box τ0),oD 2 (.mv (.const (.bool false)))]) (.seq (.reg [oD 3 (.fieldA 0 τ1),oD 4 (.load1 .bool τ3),oM 5 τ4,oG 6 (.fieldA 1 τ1) 5 false,oG 7 (.load1 (.int .u64) τ6) 5 false,oG 8 (.bin .eql τ7 (.const (.int .u64 0))) 5 false,oG 9 (.mv τ8) 5 false,oG 10 (.fieldA 2 τ1) 9 true,oG 11 (.load1 (.int .u64) XdG) 9 true,oG 12 (.bin .lss Xdt (.const (.int .u64 4294967296))) 9 true,oG 13 (.pick τ9 Xeg (.const (.bool false))) 5 false,oD 14 (.pick τ5 (.const (.bool true)) XdS),oM 2 XeX]) .ret)
def fn42:VFn:=⟨15,XQf,[.tmp 2]⟩
def XNh:VC:=.seq (.reg [oD 0 (.mv (.const (.bool false)))]) (.seq (.reg [oD 14 (.callF 8 [(.const (.int .i64 7))]),oM 1 XeX]) (.seq (.reg [oM 16 τ1,oD 17 (.callF 10 [XeY,(.const (.string ⟨⟨[]⟩⟩))]),oM 15 Xe5,oE 18 0 XeQ,oE 19 1 XeQ,oM 2 XfK,oM 3 XfU]) (.seq (.reg [oM 21 τ1,oD 22 (.callF 12 [Xf9,(.const (.string ⟨⟨[]⟩⟩))]),oM 20 XgR,oE 23 0 Xf3,oE 24 1 Xf3,oM 4 XgP,oM 5 Xf2]) (.seq (.reg [oD 6 (.mv (.const (.pointer none)))]) (.seq (.reg [oD 25 (.build [(.int .i64 0),(.int .u32 0),(.map none)] []),oD 26 (.box Xhc),oM 7 Xg5]) (.seq (.reg [oM 27 τ6,oD 28 (.callF 16 [Xhd,(.const (.int .u32 1))])]) (.seq (.reg [oM 30 τ6,oD 31 (.callF 10 [XhJ,(.const (.string ⟨⟨[]⟩⟩))]),oM 29 XhR,oE 32 0 Xha,oE 33 1 Xha,oM 8 Xho,oM 9 Xh8]) (.seq (.reg [oM 35 τ7,oD 36 (.callF 12 [Xig,(.const (.string ⟨⟨[]⟩⟩))]),oM 34 Xin,oE 37 0 Xic,oE 38 1 Xic,oM 10 XhW,oM 11 Xja]) (.seq (.reg [oM 40 τ6,oD 41 (.build [(.int .i64 0),(.bool false),(.int .u64 0),(.int .u64 0),(.bool false),(.int .u64 0),(.int .u64 0),(.int .i64 0),(.int .i64 0)] []),oD 42 (.callF 17 [Xj4,XjR]),oM 39 Xjs,oE 43 0 Xi6,oE 44 1 Xi6,oM 12 XjD,oM 13 Xka]) (.seq (.reg [oM 45 τ3,oD 46 (.bin .eql Xj8 (.const (.int .i64 2))),oM 47 XkE,oG 48 (.mv τ5) 47 true,oG 49 (.bin .eql Xlk (.const (.int .i64 2))) 47 true,oD 50 (.pick Xj7 Xle (.const (.bool false))),oM 51 Xlj,oG 52 (.mv τ9) 51 true,oG 53 (.bin .eql XlY (.const (.int .i64 1))) 51 true,oD 54 (.pick Xls XlZ (.const (.bool false))),oM 55 Xne,oG 56 (.mv Xdt) 55 true,oG 57 (.bin .eql Xna (.const (.int .i64 1))) 55 true,oD 58 (.pick Xnt Xm4 (.const (.bool false))),oM 59 XnM,oG 60 (.mv XdS) 59 true,oG 61 (.not Xpe) 59 true,oD 62 (.pick XnP Xpr (.const (.bool false))),oM 63 Xp0,oG 64 (.mv τ7) 63 true,oG 65 (.build [(.int .i64 0),(.bool false),(.int .u64 0),(.int .u64 0),(.bool false),(.int .u64 0),(.int .u64 0),(.int .i64 0),(.int .i64 0)] []) 63 true,oG 66 (.callF 14 [XrS,Xr2]) 63 true,oG 67 (.not Xta) 63 true,oD 68 (.pick Xqd XrZ (.const (.bool false))),oM 69 XrX,oG 70 (.mv τ6) 69 true,oG 71 (.callF 19 [Xtz]) 69 true,oG 72 (.bin .eql XtW (.const (.int .i64 0))) 69 true,oD 73 (.pick XsJ Xts (.const (.bool false))),oM 74 XuI,oG 75 (.callF 8 [(.const (.int .i64 0))]) 74 true,oG 76 (.isNil 0 false XwW) 74 true,oD 77 (.pick XwS XAP (.const (.bool false))),oM 78 Xv0,oD 79 (.pick XxI (.const (.bool true)) (.const (.bool false))),oM 0 XAN]) .ret))))))))))
def fn7:VFn:=⟨80,XNh,[.tmp 0]⟩
def k8_9:VC:=.seq (.reg [oD 2 (.mv (.const (.pointer none)))]) (.seq (.seq (.reg [oM 3 τ0,oD 4 (.bin .lss τ3 (.const (.int .i64 1))),oM 5 τ4,oG 6 (.mv τ0) 5 false,oG 7 (.bin .gtr τ6 (.const (.int .i64 65535))) 5 false,oD 8 (.pick τ5 (.const (.bool true)) τ7)]) (.cond τ8 (.seq (.reg [oD 2 (.mv (.const (.pointer none)))]) .ret) .skip)) (.seq (.reg [oM 9 τ0,oD 10 (.mkMap 66),oD 11 (.build [(.int .i64 0),(.int .u32 0),(.map none)] [(0,1,τ9),(2,1,XdG)]),oD 12 (.box Xdt),oM 2 Xeg]) .ret))
def fn8:VFn:=⟨13,k8_9,[.tmp 2]⟩
def XPs:VC:=.regD [oD 22 (.fieldA 1 τ6),oD 23 (.load1 (.int .i64) XgR),oM 24 τ0,oD 25 (.nilCheck Xf2),oD 26 (.fieldA 0 Xhc),oD 27 (.load1 (.int .i64) Xg5)] [] [oD 28 (.bin .neq XgP Xhd)]
def XAa:VC:=.seq (.reg [oD 4 (.mv (.const (.string ⟨⟨[]⟩⟩))),oD 5 (.mv (.const (.int .i64 0)))]) (.seq (.seq (.reg [oM 10 τ0,oD 11 (.callF 28 [XdG]),oD 12 (.not Xdt)]) (.cond Xeg (.seq (.reg [oD 4 (.mv (.const (.string ⟨⟨[]⟩⟩))),oD 5 (.mv (.const (.int .i64 1)))]) .ret) .skip)) (.seq (.reg [oM 14 τ1,oD 15 (.callF 29 [XeX]),oM 13 XeQ,oE 16 0 XdS,oE 17 1 XdS,oE 18 2 XdS,oD 6 (.alloc [(.bool false),(.int .i64 0),(.int .u64 0),(.bool false),(.int .i64 0)]),oN (.store 5 τ6 XeY),oM 7 Xe5,oM 8 XfK]) (.seq (.seq (.reg [oM 19 τ8,oD 20 (.bin .neq XfU (.const (.int .i64 0)))]) (.cond Xf3 (.seq (.reg [oM 21 τ8,oD 4 (.mv (.const (.string ⟨⟨[]⟩⟩))),oM 5 Xf9]) .ret) .skip)) (.seq (.seq XPs (.cond Xhe (.seq (.reg [oD 4 (.mv (.const (.string ⟨⟨[]⟩⟩))),oD 5 (.mv (.const (.int .i64 16)))]) .ret) .skip)) (.seq (.reg [oM 30 τ7,oD 31 (.callF 30 [XhJ]),oM 29 XhR,oE 32 0 Xha,oE 33 1 Xha,oD 9 (.alloc [(.int .i64 0),(.bool false),(.int .u64 0),(.int .u64 0),(.bool false),(.int .u64 0),(.int .u64 0),(.int .i64 0),(.int .i64 0),(.int .i64 0),(.bool false),(.int .u32 0),(.int .u32 0),(.bool false),(.string ⟨⟨[]⟩⟩),(.int .i64 0)]),oN (.store 16 τ9 Xho),oM 8 Xh8]) (.seq (.seq (.reg [oM 34 τ8,oD 35 (.bin .eql Xic (.const (.int .i64 0)))]) (.cond Xig (.reg [oM 36 τ0,oD 37 (.fieldA 0 τ9),oD 38 (.loadN [(.int .i64),.bool,(.int .u64),(.int .u64),.bool,(.int .u64),(.int .u64),(.int .i64),(.int .i64)] XhW),oD 39 (.loadN [.bool,(.int .i64),(.int .u64),.bool,(.int .i64)] τ6),oD 40 (.callF 31 [Xin,Xja,Xi6]),oM 8 Xj4]) .skip)) (.seq (.block 0 (.seq (.reg [oM 42 τ8,oD 43 (.bin .neq Xjs (.const (.int .i64 0))),oM 41 XjD]) (.cond XjR (.seq (.reg [oM 44 τ8,oD 4 (.mv (.const (.string ⟨⟨[]⟩⟩))),oM 5 Xka]) .ret) (.seq (.reg [oD 46 (.fieldA 10 τ9),oD 47 (.load1 .bool XkE),oM 45 Xj7]) (.cond Xj8 (.seq (.reg [oM 48 τ7,oM 49 τ0,oD 50 (.nilCheck Xle),oD 51 (.fieldA 1 Xlj),oD 52 (.load1 (.int .u32) Xls),oD 53 (.callF 32 [Xlk,XlY]),oE 54 0 XlZ,oE 55 1 XlZ,oM 4 Xne,oM 5 Xnt]) .ret) .skip))))) (.seq (.reg [oM 56 τ7,oM 4 Xna,oD 5 (.mv (.const (.int .i64 0)))]) .ret))))))))
def fn10:VFn:=⟨57,XAa,[.tmp 4,.tmp 5]⟩
def XBU:VC:=.seq (.reg [oD 2 (.mv (.const (.bool false)))]) (.seq (.reg [oM 3 τ0,oD 4 (.isNil 0 true τ3),oM 5 τ4,oG 6 (.mv τ0) 5 true,oG 7 (.nilCheck τ6) 5 true,oG 8 (.fieldA 2 τ7) 5 true,oG 9 (.load1 .oth τ8) 5 true,oG 10 (.isNil 4 true τ9) 5 true,oD 11 (.pick τ5 XdG (.const (.bool false))),oM 2 Xdt]) .ret)
def fn28:VFn:=⟨12,XBU,[.tmp 2]⟩
def XNa:VC:=.regD [oD 78 (.loadN [.bool,(.int .i64),(.int .u64),.bool,(.int .i64)] τ9),oM 79 τ0,oD 80 (.sliceS XAN (some (.const (.int .i64 18))) none),oN (.store 5 τ2 XxI)] [] [oM 3 XAL,oD 4 (.mv (.const (.int .i64 0)))]
def XFQ:VC:=.seq (.reg [oD 2 (.alloc [(.bool false),(.int .i64 0),(.int .u64 0),(.bool false),(.int .i64 0)]),oD 3 (.mv (.const (.string ⟨⟨[]⟩⟩))),oD 4 (.mv (.const (.int .i64 0)))]) (.seq (.seq (.reg [oM 13 τ0,oD 14 (.lenS XdS),oD 15 (.bin .lss XeX (.const (.int .i64 18)))]) (.cond XeQ (.seq (.reg [oD 16 (.build [(.bool false),(.int .i64 0),(.int .u64 0),(.bool false),(.int .i64 0)] []),oN (.store 5 τ2 XeY),oD 3 (.mv (.const (.string ⟨⟨[]⟩⟩))),oD 4 (.mv (.const (.int .i64 2)))]) .ret) .skip)) (.seq (.reg [oM 18 τ0,oD 19 (.callF 50 [XfK,(.const (.string ⟨⟨[71,85,1]⟩⟩))]),oM 17 XfU,oE 20 0 Xe5,oE 21 1 Xe5,oM 5 Xf3,oM 6 Xf9]) (.seq (.reg [oM 22 τ5,oD 23 (.callF 51 [XgR]),oM 7 XgP]) (.seq (.reg [oM 24 τ7,oD 25 (.callF 52 [Xf2,(.const (.int .i64 1))]),oM 8 Xhc]) (.seq (.reg [oM 26 τ8,oD 27 (.bin .eql Xg5 (.const (.int .i64 41))),oM 28 τ7,oD 29 (.callF 52 [Xhe,(.const (.int .i64 2))]),oD 30 (.build [(.bool false),(.int .i64 0),(.int .u64 0),(.bool false),(.int .i64 0)] [(0,1,Xhd),(1,1,Xha)]),oD 9 (.alloc [(.bool false),(.int .i64 0),(.int .u64 0),(.bool false),(.int .i64 0)]),oN (.store 5 τ9 XhJ)]) (.seq (.reg [oM 31 τ7,oD 32 (.callF 52 [XhR,(.const (.int .i64 1))]),oM 10 Xho]) (.seq (.reg [oM 33 XdG,oD 34 (.bin .eql Xh8 (.const (.int .i64 1))),oM 35 τ7,oD 36 (.callF 52 [Xig,(.const (.int .i64 1))]),oD 37 (.fieldA 3 τ9),oN (.store 1 XhW Xic),oD 38 (.fieldA 4 τ9),oN (.store 1 Xja Xin)]) (.seq (.reg [oM 39 τ7,oD 40 (.callF 52 [Xi6,(.const (.int .i64 2))])]) (.seq (.reg [oM 41 τ7,oD 42 (.callF 52 [XjR,(.const (.int .i64 4))]),oM 43 τ7,oD 44 (.callF 52 [XjD,(.const (.int .i64 4))]),oM 11 Xjs,oM 12 Xka]) (.seq (.reg [oM 45 Xdt,oD 46 (.conv .u64 Xj8),oD 47 (.bin .shl XkE (.const (.int .u64 32))),oM 48 Xeg,oD 49 (.conv .u64 Xlk),oD 50 (.bin .or Xj7 Xle),oD 51 (.fieldA 2 τ9),oN (.store 1 Xls Xlj)]) (.seq (.block 0 (.seq (.reg [oM 53 τ6,oD 54 (.not XlZ),oM 55 Xne,oG 56 (.mv τ8) 55 false,oG 57 (.fieldA 0 τ9) 55 false,oG 58 (.load1 .bool Xm4) 55 false,oG 59 (.callF 53 [XnM]) 55 false,oG 60 (.bin .neq Xna XnP) 55 false,oD 61 (.pick Xnt (.const (.bool true)) Xpe),oM 62 Xpr,oG 63 (.mv XdG) 62 false,oG 64 (.bin .gtr Xqd (.const (.int .i64 1))) 62 false,oD 65 (.pick Xp0 (.const (.bool true)) XrS),oM 52 Xr2]) (.cond XlY (.seq (.reg [oD 66 (.build [(.bool false),(.int .i64 0),(.int .u64 0),(.bool false),(.int .i64 0)] []),oN (.store 5 τ2 Xta),oD 3 (.mv (.const (.string ⟨⟨[]⟩⟩))),oD 4 (.mv (.const (.int .i64 3)))]) .ret) (.seq (.reg [oM 68 τ0,oD 69 (.lenS XrX),oD 70 (.bin .gtr XsJ (.const (.int .i64 9018))),oM 67 Xtz]) (.cond XrZ (.seq (.reg [oD 71 (.build [(.bool false),(.int .i64 0),(.int .u64 0),(.bool false),(.int .i64 0)] []),oN (.store 5 τ2 XtW),oD 3 (.mv (.const (.string ⟨⟨[]⟩⟩))),oD 4 (.mv (.const (.int .i64 5)))]) .ret) (.seq (.reg [oM 73 τ0,oD 74 (.sliceS XuI none (some (.const (.int .i64 18)))),oD 75 (.callF 54 [XwS]),oD 76 (.not XwW),oM 72 XAP]) (.cond Xts (.seq (.reg [oD 77 (.build [(.bool false),(.int .i64 0),(.int .u64 0),(.bool false),(.int .i64 0)] []),oN (.store 5 τ2 Xv0),oD 3 (.mv (.const (.string ⟨⟨[]⟩⟩))),oD 4 (.mv (.const (.int .i64 4)))]) .ret) .skip))))))) (.seq XNa .ret))))))))))))
def fn29:VFn:=⟨81,XFQ,[.cell 2 [.bool,(.int .i64),(.int .u64),.bool,(.int .i64)] true,.tmp 3,.tmp 4]⟩
def XOK:VC:=.seq (.reg [oD 4 (.mv (.const (.string ⟨⟨[]⟩⟩))),oD 5 (.mv (.const (.bool false)))]) (.seq (.reg [oM 6 τ0,oM 7 τ1,oD 8 (.callF 85 [τ6,τ7]),oE 9 0 τ8,oE 10 1 τ8,oM 4 τ9,oM 5 XdG]) .ret)
def fn50:VFn:=⟨11,XOK,[.tmp 4,.tmp 5]⟩
def XSl:VC:=.seq (.reg [oD 4 (.mv (.const (.string ⟨⟨[]⟩⟩))),oD 5 (.mv (.const (.bool false)))]) (.seq (.seq (.reg [oM 6 τ0,oM 7 τ1,oD 8 (.callF 113 [τ6,τ7]),oD 9 (.not τ8)]) (.cond τ9 (.seq (.reg [oM 10 τ0,oM 4 XdG,oD 5 (.mv (.const (.bool false)))]) .ret) .skip)) (.seq (.reg [oM 11 τ0,oM 12 τ1,oD 13 (.lenS Xeg),oD 14 (.sliceS Xdt (some XdS) none),oM 4 XeX,oD 5 (.mv (.const (.bool true)))]) .ret))
def fn85:VFn:=⟨15,XSl,[.tmp 4,.tmp 5]⟩
def XFN:VC:=.seq (.reg [oD 4 (.mv (.const (.bool false)))]) (.seq (.reg [oM 5 τ0,oD 6 (.lenS τ5),oM 7 τ1,oD 8 (.lenS τ7),oD 9 (.bin .geq τ6 τ8),oM 10 τ9,oG 11 (.mv τ0) 10 true,oG 12 (.mv τ1) 10 true,oG 13 (.lenS Xeg) 10 true,oG 14 (.sliceS Xdt none (some XdS)) 10 true,oG 15 (.mv τ1) 10 true,oG 16 (.bin .eql XeX XeQ) 10 true,oD 17 (.pick XdG XeY (.const (.bool false))),oM 4 Xe5]) .ret)
def XPS:VFn:=⟨18,XFN,[.tmp 4]⟩
def XQr:VC:=.seq (.reg [oD 2 (.mv (.const (.pointer none)))]) (.seq (.reg [oM 3 τ0,oD 4 (.build [(.string ⟨⟨[]⟩⟩),(.bool false),(.bool false)] [(0,1,τ3),(1,1,(.const (.bool true)))]),oD 5 (.box τ4),oM 2 τ5]) .ret)
def fn51:VFn:=⟨6,XQr,[.tmp 2]⟩
def XGz:VC:=.seq (.reg [oD 4 (.mv (.const (.int .i64 0)))]) (.seq (.seq (.reg [oM 7 τ1,oD 8 (.bin .lss τ7 (.const (.int .i64 1))),oM 9 τ8,oG 10 (.mv τ1) 9 false,oG 11 (.bin .gtr XdG (.const (.int .i64 7))) 9 false,oD 12 (.pick τ9 (.const (.bool true)) Xdt)]) (.cond Xeg (.reg [oD 1 (.mv (.const (.int .i64 (-1))))]) .skip)) (.seq (.reg [oM 14 τ0,oM 15 τ1,oD 16 (.callF 86 [XeX,XeQ]),oM 17 τ1,oD 18 (.callF 69 [XeY,(.const (.int .i64 0)),Xe5]),oM 13 XfK,oE 19 0 XdS,oE 20 1 XdS,oM 5 XfU,oM 6 Xf3]) (.seq (.reg [oM 21 τ5,oD 22 (.conv .i64 Xf9),oM 4 XgR]) .ret)))
def fn52:VFn:=⟨23,XGz,[.tmp 4]⟩
def XEL:VC:=.seq (.reg [oD 4 (.mv (.const (.string ⟨⟨[]⟩⟩)))]) (.seq (.seq (.reg [oM 6 τ0,oD 7 (.callF 95 [τ6])]) (.cond τ7 (.seq (.reg [oD 4 (.mv (.const (.string ⟨⟨[]⟩⟩)))]) .ret) .skip)) (.seq (.seq (.reg [oM 8 τ1,oD 9 (.bin .lss τ8 (.const (.int .i64 0))),oM 10 τ9,oG 11 (.mv τ1) 10 false,oG 12 (.mv τ0) 10 false,oG 13 (.nilCheck Xeg) 10 false,oG 14 (.fieldA 0 XdS) 10 false,oG 15 (.load1 .str XeX) 10 false,oG 16 (.lenS XeQ) 10 false,oG 17 (.bin .gtr Xdt XeY) 10 false,oD 18 (.pick XdG (.const (.bool true)) Xe5)]) (.cond XfK (.seq (.reg [oM 19 τ0,oD 20 (.nilCheck XfU),oD 21 (.fieldA 2 Xf3),oN (.store 1 Xf9 (.const (.bool true)))]) (.seq (.reg [oD 4 (.mv (.const (.string ⟨⟨[]⟩⟩)))]) .ret)) .skip)) (.seq (.reg [oM 22 τ0,oD 23 (.nilCheck XgR),oD 24 (.fieldA 0 XgP),oD 25 (.load1 .str Xf2),oM 26 τ1,oD 27 (.sliceS Xhc none (some Xg5)),oM 5 Xhd]) (.seq (.reg [oM 28 τ0,oM 29 τ0,oD 30 (.nilCheck Xha),oD 31 (.fieldA 0 XhJ),oD 32 (.load1 .str XhR),oM 33 τ1,oD 34 (.sliceS Xho (some Xh8) none),oD 35 (.nilCheck Xhe),oD 36 (.fieldA 0 Xig),oN (.store 1 Xin Xic)]) (.seq (.reg [oM 37 τ5,oM 4 XhW]) .ret)))))
def fn86:VFn:=⟨38,XEL,[.tmp 4]⟩
def XNx:VC:=.seq (.reg [oD 2 (.mv (.const (.bool false)))]) (.seq (.reg [oM 3 τ0,oD 4 (.isNil 0 false τ3),oM 5 τ4,oG 6 (.mv τ0) 5 false,oG 7 (.nilCheck τ6) 5 false,oG 8 (.fieldA 1 τ7) 5 false,oG 9 (.load1 .bool τ8) 5 false,oG 10 (.not τ9) 5 false,oD 11 (.pick τ5 (.const (.bool true)) XdG),oM 12 Xdt,oG 13 (.mv τ0) 12 false,oG 14 (.nilCheck XdS) 12 false,oG 15 (.fieldA 2 XeX) 12 false,oG 16 (.load1 .bool XeQ) 12 false,oD 17 (.pick Xeg (.const (.bool true)) XeY),oM 2 Xe5]) .ret)
def fn95:VFn:=⟨18,XNx,[.tmp 2]⟩
def Xyn:VC:=.seq (.reg [oD 38 (.bin .lss XhW Xin)]) (.seq (.cond Xja .skip (.exit 0)) (.seq (.block 1 (.seq (.reg [oD 39 (.idxAL 1 Xig XhW),oD 40 (.load1 (.int .u8) Xi6),oM 10 Xj4]) (.reg [oM 41 τ8,oD 42 (.bin .shl XjR (.const (.int .u64 8))),oM 43 XdG,oD 44 (.conv .u64 XjD),oD 45 (.bin .or Xjs Xka),oM 8 Xj8]))) (.reg [oD 46 (.bin .add XhW (.const (.int .i64 1))),oM 37 XkE])))
def XGj:VC:=.seq (.reg [oM 47 τ8,oM 6 Xj7,oD 7 (.mv (.const (.bool true)))]) .ret
def XF0:VC:=.seq (.reg [oD 6 (.mv (.const (.int .u64 0))),oD 7 (.mv (.const (.bool false)))]) (.seq (.seq (.reg [oM 11 τ2,oD 12 (.bin .lss Xdt (.const (.int .i64 1))),oM 13 Xeg,oG 14 (.mv τ2) 13 false,oG 15 (.bin .gtr XeX (.const (.int .i64 8))) 13 false,oD 16 (.pick XdS (.const (.bool true)) XeQ),oM 17 XeY,oG 18 (.mv τ1) 17 false,oG 19 (.bin .lss XfK (.const (.int .i64 0))) 17 false,oD 20 (.pick Xe5 (.const (.bool true)) XfU),oM 21 Xf3,oG 22 (.mv τ0) 21 false,oG 23 (.lenS XgR) 21 false,oG 24 (.mv τ2) 21 false,oG 25 (.bin .sub XgP Xf2) 21 false,oG 26 (.mv τ1) 21 false,oG 27 (.bin .lss Xhc Xg5) 21 false,oD 28 (.pick Xf9 (.const (.bool true)) Xhd)]) (.cond Xhe (.seq (.reg [oD 6 (.mv (.const (.int .u64 0))),oD 7 (.mv (.const (.bool false)))]) .ret) .skip)) (.seq (.reg [oD 8 (.mv (.const (.int .u64 0)))]) (.seq (.seq (.reg [oM 29 τ0,oM 30 τ1,oM 31 τ1,oM 32 τ2,oD 33 (.bin .add XhR Xho),oD 34 (.sliceS Xha (some XhJ) (some Xh8)),oD 35 (.s2b Xic),oD 36 (.lenL Xig),oD 37 (.mv (.const (.int .i64 0)))]) (.block 0 (.loop Xyn))) XGj)))
def fn69:VFn:=⟨48,XF0,[.tmp 6,.tmp 7]⟩
def XPe:VC:=.seq (.reg [oD 2 (.mv (.const (.int .i64 0)))]) (.seq (.seq (.reg [oM 3 τ0]) (.cond τ3 (.seq (.reg [oD 2 (.mv (.const (.int .i64 41)))]) .ret) .skip)) (.seq (.reg [oD 2 (.mv (.const (.int .i64 4)))]) .ret))
def fn53:VFn:=⟨4,XPe,[.tmp 2]⟩
def XS0:VC:=.seq (.reg [oD 2 (.mv (.const (.bool false)))]) (.seq (.reg [oM 3 τ0,oD 4 (.callF 87 [τ3]),oD 5 (.bin .eql τ4 (.const (.int .i64 65535))),oM 2 τ5]) .ret)
def fn54:VFn:=⟨6,XS0,[.tmp 2]⟩
def XTa:VC:=.reg [oM 4 τ7]
def XNM:VC:=.block 1 (.reg [oD 8 (.load1 (.int .i64) τ3),oM 9 τ4,oD 10 (.bin .add τ8 τ9),oD 11 (.callF 115 [XdG]),oN (.store 1 τ3 Xdt)])
def k87_6:VC:=.rangeF τ6 [7] XTa XNM
def XGq:VC:=.seq (.reg [oD 12 (.load1 (.int .i64) τ3),oM 2 Xeg]) .ret
def XGc:VC:=.seq (.reg [oD 2 (.mv (.const (.int .i64 0)))]) (.seq (.reg [oD 3 (.alloc [(.int .i64 0)]),oN (.store 1 τ3 (.const (.int .i64 0)))]) (.seq (.seq (.reg [oM 5 τ0,oD 6 (.callF 114 [τ5])]) (.block 0 k87_6)) XGq))
def fn87:VFn:=⟨13,XGc,[.tmp 2]⟩
def XQY:VC:=.seq (.reg [oD 1 (.box τ0),oM 2 (.const .nilFunc)]) (.seq (.reg [oD 3 (.mkFunc 128 [] [τ1]),oM 2 τ3]) .ret)
def XSr:VFn:=⟨4,XQY,[.tmp 2]⟩
def XpT:VC:=.seq (.seq (.reg [oM 5 τ3,oD 6 (.load1 .str τ1),oD 7 (.lenS τ6),oD 8 (.bin .lss τ5 τ7)]) (.cond τ8 .skip (.exit 0))) (.seq (.block 1 (.seq (.reg [oD 11 (.load1 .str τ1),oM 12 τ3,oD 13 (.idxS Xdt Xeg),oD 14 (.conv .i64 XdS),oD 15 (.bin .shl XeX (.const (.int .u64 8))),oM 4 XeQ]) (.seq (.seq (.reg [oM 16 τ3,oD 17 (.bin .add XeY (.const (.int .i64 1))),oD 18 (.load1 .str τ1),oD 19 (.lenS XfK),oD 20 (.bin .lss Xe5 XfU)]) (.cond Xf3 (.reg [oM 21 τ4,oD 22 (.load1 .str τ1),oM 23 τ3,oD 24 (.bin .add XgP (.const (.int .i64 1))),oD 25 (.idxS XgR Xf2),oD 26 (.conv .i64 Xhc),oD 27 (.bin .or Xf9 Xg5),oM 4 Xhd]) .skip)) (.seq (.reg [oM 28 τ0,oM 29 τ4,oD 30 (.callV Xhe [Xha]),oD 31 (.not XhJ)]) (.cond XhR .ret .skip))))) (.reg [oM 9 τ3,oD 10 (.bin .add τ9 (.const (.int .i64 2))),oM 3 XdG]))
def XLi:VC:=.seq (.reg [oD 3 (.mv (.const (.int .i64 0)))]) (.block 0 (.loop XpT))
def XQd:VFn:=⟨32,XLi,[]⟩
def XzJ:VC:=.seq (.seq (.reg [oM 3 τ0,oD 4 (.bin .gtr τ3 (.const (.int .i64 65535)))]) (.cond τ4 .skip (.exit 0))) (.block 1 (.reg [oM 5 τ0,oD 6 (.bin .and τ5 (.const (.int .i64 65535))),oM 7 τ0,oD 8 (.bin .shr τ7 (.const (.int .u64 16))),oD 9 (.bin .add τ6 τ8),oM 0 τ9]))
def Xxw:VC:=.seq (.reg [oM 10 τ0,oM 2 XdG]) .ret
def XyD:VC:=.seq (.reg [oD 2 (.mv (.const (.int .i64 0)))]) (.seq (.block 0 (.loop XzJ)) Xxw)
def XSU:VFn:=⟨11,XyD,[.tmp 2]⟩
def XPf:VC:=.seq (.reg [oD 2 (.alloc [(.int .i64 0),(.bool false),(.int .u64 0),(.int .u64 0),(.bool false),(.int .u64 0),(.int .u64 0),(.int .i64 0),(.int .i64 0),(.int .i64 0),(.bool false),(.int .u32 0),(.int .u32 0),(.bool false),(.string ⟨⟨[]⟩⟩),(.int .i64 0)]),oD 3 (.mv (.const (.int .i64 0)))]) (.seq (.reg [oM 9 τ0,oD 10 (.callF 55 [τ9]),oM 8 XdG,oE 11 0 τ8,oE 12 1 τ8,oE 13 2 τ8,oE 14 3 τ8,oD 4 (.alloc [(.int .i64 0),(.bool false),(.int .u64 0),(.int .u64 0),(.bool false),(.int .u64 0),(.int .u64 0),(.int .i64 0),(.int .i64 0),(.int .i64 0),(.bool false),(.int .u32 0),(.int .u32 0),(.bool false),(.string ⟨⟨[]⟩⟩),(.int .i64 0)]),oN (.store 16 τ4 Xdt),oM 5 Xeg,oM 6 XdS,oM 7 XeX]) (.seq (.reg [oD 15 (.loadN [(.int .i64),.bool,(.int .u64),(.int .u64),.bool,(.int .u64),(.int .u64),(.int .i64),(.int .i64),(.int .i64),.bool,(.int .u32),(.int .u32),.bool,.str,(.int .i64)] τ4),oM 16 τ7,oN (.store 16 τ2 XeQ),oM 3 XeY]) .ret))
def fn30:VFn:=⟨17,XPf,[.cell 2 [(.int .i64),.bool,(.int .u64),(.int .u64),.bool,(.int .u64),(.int .u64),(.int .i64),(.int .i64),(.int .i64),.bool,(.int .u32),(.int .u32),.bool,.str,(.int .i64)] true,.tmp 3]⟩
def XRN:VC:=.regD [oD 58 (.loadN [(.int .i64),.bool,(.int .u64),(.int .u64),.bool,(.int .u64),(.int .u64),(.int .i64),(.int .i64),(.int .i64),.bool,(.int .u32),(.int .u32),.bool,.str,(.int .i64)] τ8),oD 59 (.fieldA 7 τ6),oD 60 (.load1 .str XnP),oD 61 (.lenS Xpe),oM 62 τ9,oN (.store 16 τ2 XnM),oM 3 Xpr] [(2,5)] [oM 4 Xp0,oD 5 (.mv (.const (.int .i64 0)))]
def XFW:VC:=.seq (.reg [oD 2 (.alloc [(.int .i64 0),(.bool false),(.int .u64 0),(.int .u64 0),(.bool false),(.int .u64 0),(.int .u64 0),(.int .i64 0),(.int .i64 0),(.int .i64 0),(.bool false),(.int .u32 0),(.int .u32 0),(.bool false),(.string ⟨⟨[]⟩⟩),(.int .i64 0)]),oD 3 (.mv (.const (.int .i64 0))),oD 4 (.mv (.const (.int .i64 0))),oD 5 (.mv (.const (.int .i64 0)))]) (.seq (.block 0 (.seq (.reg [oM 11 τ0,oD 12 (.lenS Xdt),oD 13 (.bin .gtr Xeg (.const (.int .i64 9000))),oM 10 XdS]) (.cond XdG (.seq (.reg [oD 14 (.build [(.int .i64 0),(.bool false),(.int .u64 0),(.int .u64 0),(.bool false),(.int .u64 0),(.int .u64 0),(.int .i64 0),(.int .i64 0),(.int .i64 0),(.bool false),(.int .u32 0),(.int .u32 0),(.bool false),(.string ⟨⟨[]⟩⟩),(.int .i64 0)] []),oN (.store 16 τ2 XeX),oD 3 (.mv (.const (.int .i64 0))),oD 4 (.mv (.const (.int .i64 0))),oD 5 (.mv (.const (.int .i64 5)))]) .ret) (.seq (.reg [oM 16 τ0,oD 17 (.bin .eql XeY (.const (.string ⟨⟨[]⟩⟩))),oM 15 Xe5]) (.cond XeQ (.seq (.reg [oD 18 (.build [(.int .i64 0),(.bool false),(.int .u64 0),(.int .u64 0),(.bool false),(.int .u64 0),(.int .u64 0),(.int .i64 0),(.int .i64 0),(.int .i64 0),(.bool false),(.int .u32 0),(.int .u32 0),(.bool false),(.string ⟨⟨[]⟩⟩),(.int .i64 0)] []),oN (.store 16 τ2 XfK),oD 3 (.mv (.const (.int .i64 0))),oD 4 (.mv (.const (.int .i64 0))),oD 5 (.mv (.const (.int .i64 2)))]) .ret) .skip))))) (.seq (.reg [oM 20 τ0,oD 21 (.callF 88 [Xf3]),oM 19 Xf9,oE 22 0 XfU,oE 23 1 XfU,oD 6 (.alloc [(.bool false),(.int .u64 0),(.int .u64 0),(.bool false),(.int .u64 0),(.int .u64 0),(.int .i64 0),(.string ⟨⟨[]⟩⟩)]),oN (.store 8 τ6 XgR),oM 7 XgP]) (.seq (.seq (.reg [oM 24 τ7,oD 25 (.bin .neq Xf2 (.const (.int .i64 0)))]) (.cond Xhc (.seq (.reg [oD 26 (.build [(.int .i64 0),(.bool false),(.int .u64 0),(.int .u64 0),(.bool false),(.int .u64 0),(.int .u64 0),(.int .i64 0),(.int .i64 0),(.int .i64 0),(.bool false),(.int .u32 0),(.int .u32 0),(.bool false),(.string ⟨⟨[]⟩⟩),(.int .i64 0)] []),oM 27 τ7,oN (.store 16 τ2 Xg5),oD 3 (.mv (.const (.int .i64 0))),oD 4 (.mv (.const (.int .i64 0))),oM 5 Xhd]) .ret) .skip)) (.seq (.reg [oM 28 τ0,oD 29 (.lenS Xhe),oD 30 (.fieldA 6 τ6),oD 31 (.load1 (.int .i64) XhJ),oD 32 (.fieldA 0 τ6),oD 33 (.loadN [.bool,(.int .u64),(.int .u64)] Xho),oD 34 (.fieldA 3 τ6),oD 35 (.loadN [.bool,(.int .u64),(.int .u64)] Xic),oD 36 (.build [(.int .i64 0),(.bool false),(.int .u64 0),(.int .u64 0),(.bool false),(.int .u64 0),(.int .u64 0),(.int .i64 0),(.int .i64 0)] [(0,1,XhR),(1,3,Xh8),(4,3,Xig)]),oD 37 (.build [(.int .i64 0),(.bool false),(.int .u64 0),(.int .u64 0),(.bool false),(.int .u64 0),(.int .u64 0),(.int .i64 0),(.int .i64 0),(.int .i64 0),(.bool false),(.int .u32 0),(.int .u32 0),(.bool false),(.string ⟨⟨[]⟩⟩),(.int .i64 0)] [(15,1,Xha),(0,9,Xin)]),oD 8 (.alloc [(.int .i64 0),(.bool false),(.int .u64 0),(.int .u64 0),(.bool false),(.int .u64 0),(.int .u64 0),(.int .i64 0),(.int .i64 0),(.int .i64 0),(.bool false),(.int .u32 0),(.int .u32 0),(.bool false),(.string ⟨⟨[]⟩⟩),(.int .i64 0)]),oN (.store 16 τ8 XhW)]) (.seq (.reg [oD 9 (.mv (.const (.int .i64 0)))]) (.seq (.seq (.reg [oD 38 (.fieldA 6 τ6),oD 39 (.load1 (.int .i64) Xja)]) (.block 1 (.seq (.reg [oD 41 (.bin .eql Xi6 (.const (.int .i64 6))),oM 40 XjR]) (.cond Xj4 (.reg [oD 43 (.loadN [.bool,(.int .u64),(.int .u64),.bool,(.int .u64),(.int .u64),(.int .i64),.str] τ6),oD 44 (.callF 89 [XjD,τ8]),oM 42 Xka,oE 45 0 Xjs,oE 46 1 Xjs,oM 9 Xj8,oM 7 XkE]) (.seq (.reg [oD 48 (.bin .eql Xi6 (.const (.int .i64 17))),oM 47 Xlk]) (.cond Xj7 (.reg [oD 50 (.loadN [.bool,(.int .u64),(.int .u64),.bool,(.int .u64),(.int .u64),(.int .i64),.str] τ6),oD 51 (.callF 90 [Xlj,τ8]),oM 49 Xls,oE 52 0 Xle,oE 53 1 Xle,oM 9 XlY,oM 7 XlZ]) (.reg [oD 7 (.mv (.const (.int .i64 6)))]))))))) (.seq (.seq (.reg [oM 54 τ7,oD 55 (.bin .neq Xne (.const (.int .i64 0)))]) (.cond Xnt (.seq (.reg [oD 56 (.build [(.int .i64 0),(.bool false),(.int .u64 0),(.int .u64 0),(.bool false),(.int .u64 0),(.int .u64 0),(.int .i64 0),(.int .i64 0),(.int .i64 0),(.bool false),(.int .u32 0),(.int .u32 0),(.bool false),(.string ⟨⟨[]⟩⟩),(.int .i64 0)] []),oM 57 τ7,oN (.store 16 τ2 Xna),oD 3 (.mv (.const (.int .i64 0))),oD 4 (.mv (.const (.int .i64 0))),oM 5 Xm4]) .ret) .skip)) (.seq XRN .ret))))))))
def fn55:VFn:=⟨63,XFW,[.cell 2 [(.int .i64),.bool,(.int .u64),(.int .u64),.bool,(.int .u64),(.int .u64),(.int .i64),(.int .i64),(.int .i64),.bool,(.int .u32),(.int .u32),.bool,.str,(.int .i64)] true,.tmp 3,.tmp 4,.tmp 5]⟩
def XGm:VC:=.seq (.reg [oD 2 (.alloc [(.bool false),(.int .u64 0),(.int .u64 0),(.bool false),(.int .u64 0),(.int .u64 0),(.int .i64 0),(.string ⟨⟨[]⟩⟩)]),oD 3 (.mv (.const (.int .i64 0)))]) (.seq (.reg [oM 10 τ0,oD 11 (.callF 116 [XdG]),oM 9 Xdt,oE 12 0 τ9,oE 13 1 τ9,oE 14 2 τ9,oM 4 Xeg,oM 5 XdS,oM 6 XeX]) (.seq (.seq (.reg [oM 15 τ6,oD 16 (.bin .neq XeQ (.const (.int .i64 0)))]) (.cond XeY (.seq (.reg [oD 17 (.build [(.bool false),(.int .u64 0),(.int .u64 0),(.bool false),(.int .u64 0),(.int .u64 0),(.int .i64 0),(.string ⟨⟨[]⟩⟩)] []),oM 18 τ6,oN (.store 8 τ2 Xe5),oM 3 XfK]) .ret) .skip)) (.seq (.seq (.reg [oM 19 τ4]) (.block 0 (.seq (.reg [oD 20 (.tassert 175 (.agg ⟨[(.int .i64 0),(.int .i64 0),(.bool false),(.int .i64 0),(.int .i64 0),(.bool false),(.int .u64 0),(.int .u64 0),(.bool false),(.int .u64 0),(.int .u64 0),(.string ⟨⟨[]⟩⟩)]⟩) XfU),oE 21 1 Xf3,oE 22 0 Xf3]) (.cond Xf9 (.seq (.reg [oD 7 (.alloc [(.int .i64 0),(.int .i64 0),(.bool false),(.int .i64 0),(.int .i64 0),(.bool false),(.int .u64 0),(.int .u64 0),(.bool false),(.int .u64 0),(.int .u64 0),(.string ⟨⟨[]⟩⟩)]),oN (.store 12 τ7 XgR)]) (.seq (.seq (.reg [oM 23 τ0,oD 24 (.lenS XgP),oD 25 (.fieldA 11 τ7),oD 26 (.load1 .str Xhc),oD 27 (.lenS Xg5),oD 28 (.bin .add (.const (.int .i64 20)) Xhd),oM 29 τ5,oD 30 (.lenS Xha),oD 31 (.bin .add Xhe XhJ),oD 32 (.bin .neq Xf2 XhR)]) (.cond Xho (.seq (.reg [oD 33 (.build [(.bool false),(.int .u64 0),(.int .u64 0),(.bool false),(.int .u64 0),(.int .u64 0),(.int .i64 0),(.string ⟨⟨[]⟩⟩)] []),oN (.store 8 τ2 Xh8),oD 3 (.mv (.const (.int .i64 5)))]) .ret) .skip)) (.seq (.reg [oD 34 (.fieldA 5 τ7),oD 35 (.loadN [.bool,(.int .u64),(.int .u64)] Xic),oD 36 (.fieldA 8 τ7),oD 37 (.loadN [.bool,(.int .u64),(.int .u64)] Xin),oD 38 (.fieldA 4 τ7),oD 39 (.load1 (.int .i64) Xja),oM 40 τ5,oD 41 (.build [(.bool false),(.int .u64 0),(.int .u64 0),(.bool false),(.int .u64 0),(.int .u64 0),(.int .i64 0),(.string ⟨⟨[]⟩⟩)] [(0,3,Xig),(3,3,XhW),(6,1,Xi6),(7,1,Xj4)]),oN (.store 8 τ2 XjR),oD 3 (.mv (.const (.int .i64 0)))]) .ret))) (.seq (.reg [oD 42 (.tassert 176 (.agg ⟨[(.int .i64 0),(.int .i64 0),(.int .i64 0),(.int .i64 0),(.bool false),(.int .u64 0),(.int .u64 0),(.bool false),(.int .u64 0),(.int .u64 0)]⟩) XfU),oE 43 1 Xjs,oE 44 0 Xjs]) (.cond XjD (.seq (.reg [oD 8 (.alloc [(.int .i64 0),(.int .i64 0),(.int .i64 0),(.int .i64 0),(.bool false),(.int .u64 0),(.int .u64 0),(.bool false),(.int .u64 0),(.int .u64 0)]),oN (.store 10 τ8 Xka)]) (.seq (.seq (.reg [oM 45 τ0,oD 46 (.lenS Xj8),oM 47 τ5,oD 48 (.lenS Xj7),oD 49 (.bin .add (.const (.int .i64 40)) Xlk),oD 50 (.bin .neq XkE Xle)]) (.cond Xlj (.seq (.reg [oD 51 (.build [(.bool false),(.int .u64 0),(.int .u64 0),(.bool false),(.int .u64 0),(.int .u64 0),(.int .i64 0),(.string ⟨⟨[]⟩⟩)] []),oN (.store 8 τ2 Xls),oD 3 (.mv (.const (.int .i64 5)))]) .ret) .skip)) (.seq (.reg [oD 52 (.fieldA 4 τ8),oD 53 (.loadN [.bool,(.int .u64),(.int .u64)] XlY),oD 54 (.fieldA 7 τ8),oD 55 (.loadN [.bool,(.int .u64),(.int .u64)] Xne),oD 56 (.fieldA 2 τ8),oD 57 (.load1 (.int .i64) Xna),oM 58 τ5,oD 59 (.build [(.bool false),(.int .u64 0),(.int .u64 0),(.bool false),(.int .u64 0),(.int .u64 0),(.int .i64 0),(.string ⟨⟨[]⟩⟩)] [(0,3,XlZ),(3,3,Xnt),(6,1,Xm4),(7,1,XnM)]),oN (.store 8 τ2 XnP),oD 3 (.mv (.const (.int .i64 0)))]) .ret))) .skip)))))) (.seq (.reg [oD 60 (.build [(.bool false),(.int .u64 0),(.int .u64 0),(.bool false),(.int .u64 0),(.int .u64 0),(.int .i64 0),(.string ⟨⟨[]⟩⟩)] []),oN (.store 8 τ2 Xpe),oD 3 (.mv (.const (.int .i64 3)))]) .ret))))
def fn88:VFn:=⟨61,XGm,[.cell 2 [.bool,(.int .u64),(.int .u64),.bool,(.int .u64),(.int .u64),(.int .i64),.str] true,.tmp 3]⟩
def XJz:VC:=.seq (.reg [oM 2 (.const .nilIface),oD 3 (.mv (.const (.string ⟨⟨[]⟩⟩))),oD 4 (.mv (.const (.int .i64 0)))]) (.seq (.seq (.reg [oM 11 τ0,oD 12 (.idxS Xdt (.const (.int .i64 0))),oD 13 (.bin .shr Xeg (.const (.int .u64 4)))]) (.block 0 (.seq (.reg [oD 15 (.bin .eql XdS (.const (.int .u8 4))),oM 14 XeQ]) (.cond XeX (.seq (.reg [oM 17 τ0,oD 18 (.callF 129 [Xe5]),oM 16 XfK,oE 19 0 XeY,oE 20 1 XeY,oE 21 2 XeY,oD 5 (.alloc [(.int .i64 0),(.int .i64 0),(.bool false),(.int .i64 0),(.int .i64 0),(.bool false),(.int .u64 0),(.int .u64 0),(.bool false),(.int .u64 0),(.int .u64 0),(.string ⟨⟨[]⟩⟩)]),oN (.store 12 τ5 XfU),oM 6 Xf3,oM 7 Xf9]) (.seq (.reg [oD 22 (.loadN [(.int .i64),(.int .i64),.bool,(.int .i64),(.int .i64),.bool,(.int .u64),(.int .u64),.bool,(.int .u64),(.int .u64),.str] τ5),oD 23 (.iface 175 XgR),oM 24 τ6,oM 25 τ7,oM 2 XgP,oM 3 Xf2,oM 4 Xhc]) .ret)) (.seq (.reg [oD 27 (.bin .eql XdS (.const (.int .u8 6))),oM 26 Xhd]) (.cond Xg5 (.seq (.reg [oM 29 τ0,oD 30 (.callF 130 [Xha]),oM 28 XhJ,oE 31 0 Xhe,oE 32 1 Xhe,oE 33 2 Xhe,oD 8 (.alloc [(.int .i64 0),(.int .i64 0),(.int .i64 0),(.int .i64 0),(.bool false),(.int .u64 0),(.int .u64 0),(.bool false),(.int .u64 0),(.int .u64 0)]),oN (.store 10 τ8 XhR),oM 9 Xho,oM 10 Xh8]) (.seq (.reg [oD 34 (.loadN [(.int .i64),(.int .i64),(.int .i64),(.int .i64),.bool,(.int .u64),(.int .u64),.bool,(.int .u64),(.int .u64)] τ8),oD 35 (.iface 176 Xic),oM 36 τ9,oM 37 XdG,oM 2 Xig,oM 3 Xin,oM 4 XhW]) .ret)) .skip)))))) (.seq (.reg [oM 2 (.const .nilIface),oD 3 (.mv (.const (.string ⟨⟨[]⟩⟩))),oD 4 (.mv (.const (.int .i64 3)))]) .ret))
def XRI:VFn:=⟨38,XJz,[.tmp 2,.tmp 3,.tmp 4]⟩
def XKW:VC:=.regD [oD 72 (.fieldA 0 τ5),oD 73 (.load1 .oth Xts),oD 74 (.callF 52 [XuI,(.const (.int .i64 1))]),oD 75 (.fieldA 0 τ5),oD 76 (.load1 .oth XwW),oD 77 (.callF 52 [XAP,(.const (.int .i64 1))]),oD 78 (.fieldA 3 τ7)] [(2,4)] [oN (.store 1 XxI XwS),oD 79 (.fieldA 4 τ7),oN (.store 1 XAN Xv0)]
def XJU:VC:=.regD [oD 83 (.loadN [.oth] τ5),oD 84 (.callF 135 [XAX]),oD 85 (.loadN [.oth] τ5),oD 86 (.callF 135 [XMg]),oD 87 (.fieldA 5 τ7)] [(1,2)] [oN (.store 3 XMt XIg),oD 88 (.fieldA 8 τ7),oN (.store 3 XMk XMu)]
def XHU:VC:=.regD [oD 95 (.loadN [(.int .i64),(.int .i64),.bool,(.int .i64),(.int .i64),.bool,(.int .u64),(.int .u64),.bool,(.int .u64),(.int .u64),.str] τ7),oD 96 (.fieldA 0 τ5),oD 97 (.load1 .oth XMn),oM 98 τ9,oM 99 τ8,oD 100 (.bin .sub τ98 τ99),oD 101 (.callF 86 [XPN,XBP])] [(0,6)] [oN (.store 12 τ2 XMx),oM 3 XKa,oD 4 (.mv (.const (.int .i64 0)))]
def Xxt:VC:=.seq (.reg [oD 2 (.alloc [(.int .i64 0),(.int .i64 0),(.bool false),(.int .i64 0),(.int .i64 0),(.bool false),(.int .u64 0),(.int .u64 0),(.bool false),(.int .u64 0),(.int .u64 0),(.string ⟨⟨[]⟩⟩)]),oD 3 (.mv (.const (.string ⟨⟨[]⟩⟩))),oD 4 (.mv (.const (.int .i64 0)))]) (.seq (.seq (.reg [oM 11 τ0,oD 12 (.lenS Xdt),oD 13 (.bin .lss Xeg (.const (.int .i64 20)))]) (.cond XdS (.seq (.reg [oD 14 (.build [(.int .i64 0),(.int .i64 0),(.bool false),(.int .i64 0),(.int .i64 0),(.bool false),(.int .u64 0),(.int .u64 0),(.bool false),(.int .u64 0),(.int .u64 0),(.string ⟨⟨[]⟩⟩)] []),oN (.store 12 τ2 XeX),oD 3 (.mv (.const (.string ⟨⟨[]⟩⟩))),oD 4 (.mv (.const (.int .i64 2)))]) .ret) .skip)) (.seq (.reg [oM 15 τ0,oD 16 (.callF 51 [XeQ]),oD 17 (.build [(.pointer none)] [(0,1,XeY)]),oD 5 (.alloc [(.pointer none)]),oN (.store 1 τ5 Xe5)]) (.seq (.reg [oD 18 (.fieldA 0 τ5),oD 19 (.load1 .oth XfK),oD 20 (.callF 52 [XfU,(.const (.int .i64 1))]),oM 6 Xf3]) (.seq (.reg [oD 21 (.fieldA 0 τ5),oD 22 (.load1 .oth Xf9),oD 23 (.callF 52 [XgR,(.const (.int .i64 1))]),oD 24 (.build [(.int .i64 0),(.int .i64 0),(.bool false),(.int .i64 0),(.int .i64 0),(.bool false),(.int .u64 0),(.int .u64 0),(.bool false),(.int .u64 0),(.int .u64 0),(.string ⟨⟨[]⟩⟩)] [(0,1,XgP)]),oD 7 (.alloc [(.int .i64 0),(.int .i64 0),(.bool false),(.int .i64 0),(.int .i64 0),(.bool false),(.int .u64 0),(.int .u64 0),(.bool false),(.int .u64 0),(.int .u64 0),(.string ⟨⟨[]⟩⟩)]),oN (.store 12 τ7 Xf2)]) (.seq (.reg [oM 25 τ6,oD 26 (.bin .and Xhc (.const (.int .i64 15))),oD 27 (.bin .mul Xg5 (.const (.int .i64 4))),oD 28 (.fieldA 0 τ5),oD 29 (.load1 .oth Xhe),oD 30 (.callF 52 [Xha,(.const (.int .i64 2))]),oM 8 Xhd,oM 9 XhJ]) (.seq (.block 0 (.seq (.reg [oM 32 τ6,oD 33 (.bin .shr Xho (.const (.int .u64 4))),oD 34 (.bin .neq Xh8 (.const (.int .i64 4))),oM 35 Xic,oG 36 (.mv τ8) 35 false,oG 37 (.bin .lss Xin (.const (.int .i64 20))) 35 false,oD 38 (.pick Xig (.const (.bool true)) XhW),oM 39 Xja,oG 40 (.mv τ9) 39 false,oG 41 (.mv τ8) 39 false,oG 42 (.bin .lss Xj4 XjR) 39 false,oD 43 (.pick Xi6 (.const (.bool true)) Xjs),oM 31 XjD]) (.cond XhR (.seq (.reg [oD 44 (.build [(.int .i64 0),(.int .i64 0),(.bool false),(.int .i64 0),(.int .i64 0),(.bool false),(.int .u64 0),(.int .u64 0),(.bool false),(.int .u64 0),(.int .u64 0),(.string ⟨⟨[]⟩⟩)] []),oN (.store 12 τ2 Xka),oD 3 (.mv (.const (.string ⟨⟨[]⟩⟩))),oD 4 (.mv (.const (.int .i64 3)))]) .ret) (.seq (.reg [oM 46 τ9,oM 47 τ0,oD 48 (.lenS Xj7),oD 49 (.bin .gtr XkE Xlk),oM 45 Xle]) (.cond Xj8 (.seq (.reg [oD 50 (.build [(.int .i64 0),(.int .i64 0),(.bool false),(.int .i64 0),(.int .i64 0),(.bool false),(.int .u64 0),(.int .u64 0),(.bool false),(.int .u64 0),(.int .u64 0),(.string ⟨⟨[]⟩⟩)] []),oN (.store 12 τ2 Xlj),oD 3 (.mv (.const (.string ⟨⟨[]⟩⟩))),oD 4 (.mv (.const (.int .i64 2)))]) .ret) (.seq (.reg [oM 52 τ0,oM 53 τ8,oD 54 (.sliceS XlY none (some XlZ)),oD 55 (.callF 54 [Xne]),oD 56 (.not Xnt),oM 51 Xna]) (.cond Xls (.seq (.reg [oD 57 (.build [(.int .i64 0),(.int .i64 0),(.bool false),(.int .i64 0),(.int .i64 0),(.bool false),(.int .u64 0),(.int .u64 0),(.bool false),(.int .u64 0),(.int .u64 0),(.string ⟨⟨[]⟩⟩)] []),oN (.store 12 τ2 Xm4),oD 3 (.mv (.const (.string ⟨⟨[]⟩⟩))),oD 4 (.mv (.const (.int .i64 4)))]) .ret) .skip))))))) (.seq (.reg [oD 58 (.fieldA 0 τ5),oD 59 (.load1 .oth XnM),oD 60 (.callF 52 [XnP,(.const (.int .i64 2))]),oD 61 (.fieldA 1 τ7),oN (.store 1 Xpr Xpe)]) (.seq (.reg [oD 62 (.fieldA 0 τ5),oD 63 (.load1 .oth Xp0),oD 64 (.callF 52 [Xqd,(.const (.int .i64 2))]),oM 10 XrS]) (.seq (.seq (.reg [oM 65 XdG,oD 66 (.bin .andNot Xr2 (.const (.int .i64 16384))),oD 67 (.bin .neq Xta (.const (.int .i64 0)))]) (.cond XrZ (.seq (.reg [oD 68 (.build [(.int .i64 0),(.int .i64 0),(.bool false),(.int .i64 0),(.int .i64 0),(.bool false),(.int .u64 0),(.int .u64 0),(.bool false),(.int .u64 0),(.int .u64 0),(.string ⟨⟨[]⟩⟩)] []),oN (.store 12 τ2 XrX),oD 3 (.mv (.const (.string ⟨⟨[]⟩⟩))),oD 4 (.mv (.const (.int .i64 7)))]) .ret) .skip)) (.seq (.reg [oM 69 XdG,oD 70 (.bin .neq XsJ (.const (.int .i64 0))),oD 71 (.fieldA 2 τ7),oN (.store 1 XtW Xtz)]) (.seq XKW (.seq (.reg [oD 80 (.fieldA 0 τ5),oD 81 (.load1 .oth XAL),oD 82 (.callF 52 [XEI,(.const (.int .i64 2))])]) (.seq XJU (.seq (.reg [oD 89 (.fieldA 0 τ5),oD 90 (.load1 .oth XMr),oM 91 τ8,oD 92 (.bin .sub XMh (.const (.int .i64 20))),oD 93 (.callF 86 [XMy,XMl]),oD 94 (.fieldA 11 τ7),oN (.store 1 XIy XMq)]) (.seq XHU .ret)))))))))))))))
def XSF:VFn:=⟨102,Xxt,[.cell 2 [(.int .i64),(.int .i64),.bool,(.int .i64),(.int .i64),.bool,(.int .u64),(.int .u64),.bool,(.int .u64),(.int .u64),.str] true,.tmp 3,.tmp 4]⟩
def XGx:VC:=.seq (.reg [oD 1 (.box τ0),oD 2 (.alloc [(.bool false),(.int .u64 0),(.int .u64 0)])]) (.seq (.reg [oD 6 (.fieldA 0 τ1),oD 7 (.load1 .oth τ6),oD 8 (.callF 86 [τ7,(.const (.int .i64 4))]),oD 9 (.callF 136 [τ8]),oM 5 τ9,oE 10 0 τ5,oE 11 1 τ5,oD 3 (.alloc [(.bool false),(.int .u64 0),(.int .u64 0)]),oN (.store 3 τ3 XdG),oM 4 Xdt]) (.seq (.reg [oD 12 (.loadN [.bool,(.int .u64),(.int .u64)] τ3),oN (.store 3 τ2 Xeg)]) .ret))
def XOy:VFn:=⟨13,XGx,[.cell 2 [.bool,(.int .u64),(.int .u64)] true]⟩
def XAu:VC:=.seq (.reg [oD 2 (.alloc [(.bool false),(.int .u64 0),(.int .u64 0)]),oD 3 (.mv (.const (.bool false)))]) (.seq (.seq (.reg [oM 7 τ0,oD 8 (.lenS τ7)]) (.block 0 (.seq (.reg [oD 10 (.bin .eql τ8 (.const (.int .i64 4))),oM 9 XdG]) (.cond τ9 (.seq (.reg [oM 12 τ0,oD 13 (.callF 69 [Xeg,(.const (.int .i64 0)),(.const (.int .i64 4))]),oM 11 XdS,oE 14 0 Xdt,oE 15 1 Xdt,oM 4 XeX,oM 5 XeQ]) (.seq (.reg [oM 16 τ4,oD 17 (.build [(.bool false),(.int .u64 0),(.int .u64 0)] [(2,1,XeY)]),oN (.store 3 τ2 Xe5),oD 3 (.mv (.const (.bool true)))]) .ret)) (.seq (.reg [oD 19 (.bin .eql τ8 (.const (.int .i64 16))),oM 18 XfU]) (.cond XfK (.seq (.reg [oD 20 (.build [(.bool false),(.int .u64 0),(.int .u64 0)] [(0,1,(.const (.bool true)))]),oD 6 (.alloc [(.bool false),(.int .u64 0),(.int .u64 0)]),oN (.store 3 τ6 Xf3)]) (.seq (.reg [oM 22 τ0,oD 23 (.callF 69 [XgR,(.const (.int .i64 0)),(.const (.int .i64 8))]),oM 21 XgP,oE 24 0 Xf9,oE 25 1 Xf9,oD 26 (.fieldA 1 τ6),oN (.store 1 Xg5 Xf2)]) (.seq (.reg [oM 28 τ0,oD 29 (.callF 69 [Xhe,(.const (.int .i64 8)),(.const (.int .i64 8))]),oM 27 Xha,oE 30 0 Xhd,oE 31 1 Xhd,oD 32 (.fieldA 2 τ6),oN (.store 1 Xho XhJ)]) (.seq (.reg [oD 33 (.loadN [.bool,(.int .u64),(.int .u64)] τ6),oN (.store 3 τ2 Xh8),oD 3 (.mv (.const (.bool true)))]) .ret)))) .skip)))))) (.seq (.reg [oD 34 (.build [(.bool false),(.int .u64 0),(.int .u64 0)] []),oN (.store 3 τ2 Xic),oD 3 (.mv (.const (.bool false)))]) .ret))
def XNL:VFn:=⟨35,XAu,[.cell 2 [.bool,(.int .u64),(.int .u64)] true,.tmp 3]⟩
def XzB:VC:=.seq (.reg [oD 2 (.alloc [(.int .i64 0),(.int .i64 0),(.int .i64 0),(.int .i64 0),(.bool false),(.int .u64 0),(.int .u64 0),(.bool false),(.int .u64 0),(.int .u64 0)]),oD 3 (.mv (.const (.string ⟨⟨[]⟩⟩))),oD 4 (.mv (.const (.int .i64 0)))]) (.seq (.reg [oM 12 τ0,oD 13 (.callF 51 [Xeg]),oM 5 XdS]) (.seq (.reg [oM 14 τ5,oD 15 (.callF 52 [XeX,(.const (.int .i64 4))]),oM 16 τ5,oD 17 (.callF 52 [XeY,(.const (.int .i64 2))]),oM 6 XeQ,oM 7 Xe5]) (.seq (.reg [oM 18 τ6,oD 19 (.bin .shr XfK (.const (.int .u64 20))),oD 20 (.bin .and XfU (.const (.int .i64 255))),oM 21 τ6,oD 22 (.bin .and Xf9 (.const (.int .i64 1048575))),oM 23 τ5,oD 24 (.callF 52 [XgP,(.const (.int .i64 1))]),oM 25 τ5,oD 26 (.callF 52 [Xhc,(.const (.int .i64 1))]),oD 27 (.build [(.int .i64 0),(.int .i64 0),(.int .i64 0),(.int .i64 0),(.bool false),(.int .u64 0),(.int .u64 0),(.bool false),(.int .u64 0),(.int .u64 0)] [(0,1,Xf3),(1,1,XgR),(2,1,Xf2),(3,1,Xg5)]),oD 8 (.alloc [(.int .i64 0),(.int .i64 0),(.int .i64 0),(.int .i64 0),(.bool false),(.int .u64 0),(.int .u64 0),(.bool false),(.int .u64 0),(.int .u64 0)]),oN (.store 10 τ8 Xhd)]) (.seq (.reg [oM 28 τ5,oD 29 (.callF 86 [Xhe,(.const (.int .i64 16))]),oM 30 τ5,oD 31 (.callF 86 [XhJ,(.const (.int .i64 16))]),oM 9 Xha,oM 10 XhR]) (.seq (.seq (.reg [oM 32 τ5,oD 33 (.callF 95 [Xho])]) (.cond Xh8 (.seq (.reg [oD 34 (.build [(.int .i64 0),(.int .i64 0),(.int .i64 0),(.int .i64 0),(.bool false),(.int .u64 0),(.int .u64 0),(.bool false),(.int .u64 0),(.int .u64 0)] []),oN (.store 10 τ2 Xic),oD 3 (.mv (.const (.string ⟨⟨[]⟩⟩))),oD 4 (.mv (.const (.int .i64 2)))]) .ret) .skip)) (.seq (.seq (.reg [oM 35 τ6,oD 36 (.bin .shr Xig (.const (.int .u64 28))),oD 37 (.bin .neq Xin (.const (.int .i64 6)))]) (.cond XhW (.seq (.reg [oD 38 (.build [(.int .i64 0),(.int .i64 0),(.int .i64 0),(.int .i64 0),(.bool false),(.int .u64 0),(.int .u64 0),(.bool false),(.int .u64 0),(.int .u64 0)] []),oN (.store 10 τ2 Xja),oD 3 (.mv (.const (.string ⟨⟨[]⟩⟩))),oD 4 (.mv (.const (.int .i64 3)))]) .ret) .skip)) (.seq (.reg [oM 40 τ9,oD 41 (.callF 136 [Xj4]),oM 39 XjR,oE 42 0 Xi6,oE 43 1 Xi6,oD 44 (.fieldA 4 τ8),oN (.store 3 Xka Xjs)]) (.seq (.reg [oM 46 XdG,oD 47 (.callF 136 [XkE]),oM 45 Xj7,oE 48 0 Xj8,oE 49 1 Xj8,oD 50 (.fieldA 7 τ8),oN (.store 3 Xlj Xlk)]) (.seq (.reg [oM 51 τ5,oM 52 τ7,oD 53 (.callF 86 [Xls,XlY]),oM 11 XlZ]) (.seq (.seq (.reg [oM 54 τ5,oD 55 (.callF 95 [Xne])]) (.cond Xnt (.seq (.reg [oD 56 (.build [(.int .i64 0),(.int .i64 0),(.int .i64 0),(.int .i64 0),(.bool false),(.int .u64 0),(.int .u64 0),(.bool false),(.int .u64 0),(.int .u64 0)] []),oN (.store 10 τ2 Xna),oD 3 (.mv (.const (.string ⟨⟨[]⟩⟩))),oD 4 (.mv (.const (.int .i64 2)))]) .ret) .skip)) (.seq (.reg [oD 57 (.loadN [(.int .i64),(.int .i64),(.int .i64),(.int .i64),.bool,(.int .u64),(.int .u64),.bool,(.int .u64),(.int .u64)] τ8),oM 58 Xdt,oN (.store 10 τ2 Xm4),oM 3 XnM,oD 4 (.mv (.const (.int .i64 0)))]) .ret)))))))))))
def XS9:VFn:=⟨59,XzB,[.cell 2 [(.int .i64),(.int .i64),(.int .i64),(.int .i64),.bool,(.int .u64),(.int .u64),.bool,(.int .u64),(.int .u64)] true,.tmp 3,.tmp 4]⟩
def k89_7:VC:=.regD [oM 26 τ1,oM 27 τ1,oM 28 τ1,oD 29 (.fieldA 0 τ6),oD 30 (.load1 (.int .i64) Xha),oD 31 (.fieldA 1 τ6),oD 32 (.load1 (.int .i64) XhR),oD 33 (.fieldA 4 τ6),oD 34 (.load1 (.int .i64) Xh8),oD 35 (.nilCheck Xg5),oD 36 (.fieldA 0 Xig),oD 37 (.fieldA 7 Xin),oN (.store 1 XhW XhJ),oD 38 (.nilCheck Xhd),oD 39 (.fieldA 0 Xja),oD 40 (.fieldA 8 Xi6),oN (.store 1 Xj4 Xho)] [(6,12),(8,12),(8,16)] [oD 41 (.nilCheck Xhe),oD 42 (.fieldA 9 XjR),oN (.store 1 Xjs Xic)]
def XFF:VC:=.seq (.reg [oD 2 (.box τ0),oD 4 (.mv (.const (.int .i64 0))),oD 5 (.mv (.const (.int .i64 0)))]) (.seq (.reg [oD 13 (.fieldA 7 τ2),oD 14 (.load1 .str XdS),oD 15 (.fieldA 0 τ2),oD 16 (.loadN [.bool,(.int .u64),(.int .u64)] XeQ),oD 17 (.fieldA 3 τ2),oD 18 (.loadN [.bool,(.int .u64),(.int .u64)] Xe5),oD 19 (.callF 117 [XeX,XeY,XfK]),oM 12 XfU,oE 20 0 Xeg,oE 21 1 Xeg,oE 22 2 Xeg,oD 6 (.alloc [(.int .i64 0),(.int .i64 0),(.int .u32 0),(.int .u32 0),(.int .i64 0),(.int .i64 0),(.int .i64 0),(.string ⟨⟨[]⟩⟩)]),oN (.store 8 τ6 Xf3),oM 7 Xf9,oM 8 XgR]) (.seq (.seq (.reg [oM 23 τ8,oD 24 (.bin .neq XgP (.const (.int .i64 0)))]) (.cond Xf2 (.seq (.reg [oM 25 τ8,oD 4 (.mv (.const (.int .i64 0))),oM 5 Xhc]) .ret) .skip)) (.seq k89_7 (.seq (.seq (.reg [oD 44 (.fieldA 7 τ6),oD 45 (.load1 .str Xka),oD 46 (.callF 91 [Xj8]),oM 43 XkE,oE 47 0 XjD,oE 48 1 XjD,oE 49 2 XjD,oM 9 Xj7,oM 10 Xlk,oM 11 Xle]) (.seq (.reg [oM 50 Xdt,oD 51 (.bin .geq Xlj (.const (.int .i64 0)))]) (.cond Xls (.reg [oM 52 τ1,oM 53 τ1,oM 54 τ1,oM 55 τ9,oM 56 XdG,oD 57 (.nilCheck XlY),oD 58 (.fieldA 10 Xm4),oN (.store 1 XnM (.const (.bool true))),oD 59 (.nilCheck XlZ),oD 60 (.fieldA 11 XnP),oN (.store 1 Xpe Xnt),oD 61 (.nilCheck Xne),oD 62 (.fieldA 12 Xpr),oN (.store 1 Xp0 Xna)]) .skip))) (.seq (.reg [oM 63 τ7,oD 64 (.lenS Xqd),oM 4 XrS,oD 5 (.mv (.const (.int .i64 0)))]) .ret)))))
def fn89:VFn:=⟨65,XFF,[.tmp 4,.tmp 5]⟩
def XSC:VC:=.regD [oM 20 τ0,oD 21 (.idxS Xf3 (.const (.int .i64 12))),oD 22 (.bin .shr Xf9 (.const (.int .u64 4))),oD 23 (.conv .i64 XgR),oM 24 τ0,oD 25 (.idxS Xf2 (.const (.int .i64 12))),oD 26 (.bin .and Xhc (.const (.int .u8 15))),oM 9 XgP] [] [oM 10 Xg5]
def XIE:VC:=.regD [oD 72 (.loadN [(.int .i64),(.int .i64),(.int .u32),(.int .u32),(.int .i64),(.int .i64),(.int .i64),.str] XdS),oM 73 τ0,oM 74 Xdt,oD 75 (.sliceS XuI (some XwS) none),oN (.store 8 τ6 Xts)] [] [oM 7 XwW,oD 8 (.mv (.const (.int .i64 0)))]
def XAG:VC:=.seq (.reg [oD 4 (.box τ1),oD 5 (.box τ2),oD 6 (.alloc [(.int .i64 0),(.int .i64 0),(.int .u32 0),(.int .u32 0),(.int .i64 0),(.int .i64 0),(.int .i64 0),(.string ⟨⟨[]⟩⟩)]),oD 7 (.mv (.const (.string ⟨⟨[]⟩⟩))),oD 8 (.mv (.const (.int .i64 0)))]) (.seq (.seq (.reg [oM 16 τ0,oD 17 (.lenS XeY),oD 18 (.bin .lss Xe5 (.const (.int .i64 20)))]) (.cond XfK (.seq (.reg [oD 19 (.build [(.int .i64 0),(.int .i64 0),(.int .u32 0),(.int .u32 0),(.int .i64 0),(.int .i64 0),(.int .i64 0),(.string ⟨⟨[]⟩⟩)] []),oN (.store 8 τ6 XfU),oD 7 (.mv (.const (.string ⟨⟨[]⟩⟩))),oD 8 (.mv (.const (.int .i64 2)))]) .ret) .skip)) (.seq XSC (.seq (.reg [oM 27 τ9,oD 28 (.bin .mul (.const (.int .i64 4)) Xhd),oM 11 Xhe]) (.seq (.block 0 (.seq (.reg [oM 30 Xdt,oD 31 (.bin .lss XhJ (.const (.int .i64 20))),oM 32 XhR,oG 33 (.mv XdG) 32 false,oG 34 (.bin .neq Xh8 (.const (.int .u8 0))) 32 false,oD 35 (.pick Xho (.const (.bool true)) Xic),oM 29 Xig]) (.cond Xha (.seq (.reg [oD 36 (.build [(.int .i64 0),(.int .i64 0),(.int .u32 0),(.int .u32 0),(.int .i64 0),(.int .i64 0),(.int .i64 0),(.string ⟨⟨[]⟩⟩)] []),oN (.store 8 τ6 Xin),oD 7 (.mv (.const (.string ⟨⟨[]⟩⟩))),oD 8 (.mv (.const (.int .i64 3)))]) .ret) (.seq (.reg [oM 38 Xdt,oM 39 τ0,oD 40 (.lenS Xi6),oD 41 (.bin .gtr Xja Xj4),oM 37 XjR]) (.cond XhW (.seq (.reg [oD 42 (.build [(.int .i64 0),(.int .i64 0),(.int .u32 0),(.int .u32 0),(.int .i64 0),(.int .i64 0),(.int .i64 0),(.string ⟨⟨[]⟩⟩)] []),oN (.store 8 τ6 Xjs),oD 7 (.mv (.const (.string ⟨⟨[]⟩⟩))),oD 8 (.mv (.const (.int .i64 2)))]) .ret) .skip))))) (.seq (.reg [oD 43 (.loadN [.bool,(.int .u64),(.int .u64)] τ4),oD 44 (.loadN [.bool,(.int .u64),(.int .u64)] τ5),oM 45 τ0,oD 46 (.lenS Xj8),oD 47 (.callF 131 [XjD,Xka,(.const (.int .i64 6)),XkE]),oM 12 Xj7]) (.seq (.block 1 (.seq (.reg [oM 49 Xeg,oD 50 (.bin .eql Xle (.const (.string ⟨⟨[]⟩⟩))),oM 48 Xlj]) (.cond Xlk (.seq (.reg [oD 51 (.build [(.int .i64 0),(.int .i64 0),(.int .u32 0),(.int .u32 0),(.int .i64 0),(.int .i64 0),(.int .i64 0),(.string ⟨⟨[]⟩⟩)] []),oN (.store 8 τ6 Xls),oD 7 (.mv (.const (.string ⟨⟨[]⟩⟩))),oD 8 (.mv (.const (.int .i64 1)))]) .ret) (.seq (.reg [oM 53 Xeg,oM 54 τ0,oD 55 (.bin .add XlZ Xne),oD 56 (.callF 54 [Xnt]),oD 57 (.not Xna),oM 52 Xm4]) (.cond XlY (.seq (.reg [oD 58 (.build [(.int .i64 0),(.int .i64 0),(.int .u32 0),(.int .u32 0),(.int .i64 0),(.int .i64 0),(.int .i64 0),(.string ⟨⟨[]⟩⟩)] []),oN (.store 8 τ6 XnM),oD 7 (.mv (.const (.string ⟨⟨[]⟩⟩))),oD 8 (.mv (.const (.int .i64 4)))]) .ret) .skip))))) (.seq (.reg [oM 59 τ0,oM 60 Xdt,oD 61 (.callF 132 [XnP,Xpe]),oD 13 (.alloc [(.int .i64 0),(.int .i64 0),(.int .u32 0),(.int .u32 0),(.int .i64 0),(.int .i64 0),(.int .i64 0),(.string ⟨⟨[]⟩⟩)]),oN (.store 8 XdS Xpr)]) (.seq (.seq (.reg [oD 63 (.fieldA 7 XdS),oD 64 (.load1 .str Xqd),oD 65 (.callF 119 [XrS]),oM 62 Xr2,oE 66 0 Xp0,oE 67 1 Xp0,oM 14 Xta,oM 15 XrZ]) (.seq (.reg [oM 68 XeQ,oD 69 (.bin .neq XrX (.const (.int .i64 0)))]) (.cond XsJ (.seq (.reg [oD 70 (.build [(.int .i64 0),(.int .i64 0),(.int .u32 0),(.int .u32 0),(.int .i64 0),(.int .i64 0),(.int .i64 0),(.string ⟨⟨[]⟩⟩)] []),oM 71 XeQ,oN (.store 8 τ6 Xtz),oD 7 (.mv (.const (.string ⟨⟨[]⟩⟩))),oM 8 XtW]) .ret) .skip))) (.seq XIE .ret)))))))))
def XOw:VFn:=⟨76,XAG,[.cell 6 [(.int .i64),(.int .i64),(.int .u32),(.int .u32),(.int .i64),(.int .i64),(.int .i64),.str] true,.tmp 7,.tmp 8]⟩
def XPw:VC:=.regD [oD 25 (.loadN [.bool,(.int .u64),(.int .u64)] τ4),oD 26 (.callF 138 [Xhc]),oD 27 (.loadN [.bool,(.int .u64),(.int .u64)] τ5)] [(1,2)] [oD 28 (.callF 138 [Xhd]),oD 29 (.bin .add Xg5 Xhe),oM 9 Xha]
def Xzb:VC:=.seq (.reg [oD 4 (.box τ0),oD 5 (.box τ1),oD 8 (.mv (.const (.string ⟨⟨[]⟩⟩)))]) (.seq (.seq (.reg [oD 10 (.loadN [.bool,(.int .u64),(.int .u64)] τ4),oD 11 (.callF 137 [XdG]),oD 12 (.not Xdt),oM 13 Xeg,oG 14 (.loadN [.bool,(.int .u64),(.int .u64)] τ5) 13 false,oG 15 (.callF 137 [XeX]) 13 false,oG 16 (.not XeQ) 13 false,oD 17 (.pick XdS (.const (.bool true)) XeY),oM 18 Xe5,oG 19 (.fieldA 0 τ4) 18 false,oG 20 (.load1 .bool XfU) 18 false,oG 21 (.fieldA 0 τ5) 18 false,oG 22 (.load1 .bool Xf9) 18 false,oG 23 (.eqB true Xf3 XgR) 18 false,oD 24 (.pick XfK (.const (.bool true)) XgP)]) (.cond Xf2 (.seq (.reg [oD 8 (.mv (.const (.string ⟨⟨[]⟩⟩)))]) .ret) .skip)) (.seq XPw (.seq (.seq (.reg [oD 30 (.fieldA 0 τ4),oD 31 (.load1 .bool XhJ)]) (.cond XhR (.seq (.reg [oM 32 τ9,oM 33 τ3,oM 34 τ2,oD 35 (.buildSl 6 1 [(.int .i64 0),(.int .i64 0),(.int .i64 0),(.int .i64 0),(.int .i64 0),(.int .i64 0)] [(0,1,Xh8),(1,1,(.const (.int .i64 4))),(2,1,(.const (.int .i64 0))),(3,1,(.const (.int .i64 3))),(4,1,Xic),(5,1,(.const (.int .i64 1)))]),oD 36 (.callF 139 [Xig]),oD 37 (.bin .add Xho Xin),oM 8 XhW]) .ret) .skip)) (.seq (.reg [oM 38 τ9,oM 39 τ2,oM 40 τ3,oD 41 (.buildSl 6 1 [(.int .i64 0),(.int .i64 0),(.int .i64 0),(.int .i64 0),(.int .i64 0),(.int .i64 0)] [(0,1,(.const (.int .i64 0))),(1,1,(.const (.int .i64 1))),(2,1,Xi6),(3,1,(.const (.int .i64 1))),(4,1,Xj4),(5,1,(.const (.int .i64 2)))]),oD 42 (.callF 139 [XjR]),oD 43 (.bin .add Xja Xjs),oM 8 XjD]) .ret))))
def XPp:VFn:=⟨44,Xzb,[.tmp 8]⟩
def XEG:VC:=.seq (.reg [oD 1 (.box τ0),oD 2 (.mv (.const (.bool false)))]) (.seq (.reg [oD 3 (.fieldA 0 τ1),oD 4 (.load1 .bool τ3),oM 5 τ4,oG 6 (.fieldA 1 τ1) 5 false,oG 7 (.load1 (.int .u64) τ6) 5 false,oG 8 (.bin .eql τ7 (.const (.int .u64 0))) 5 false,oG 9 (.mv τ8) 5 false,oG 10 (.fieldA 2 τ1) 9 true,oG 11 (.load1 (.int .u64) XdG) 9 true,oG 12 (.bin .lss Xdt (.const (.int .u64 4294967296))) 9 true,oG 13 (.pick τ9 Xeg (.const (.bool false))) 5 false,oD 14 (.pick τ5 (.const (.bool true)) XdS),oM 2 XeX]) .ret)
def XQ0:VFn:=⟨15,XEG,[.tmp 2]⟩
def XNs:VC:=.regD [oD 10 (.fieldA 1 τ1),oD 11 (.load1 (.int .u64) XdG),oD 12 (.callF 71 [Xdt,(.const (.int .i64 8))]),oD 13 (.fieldA 2 τ1),oD 14 (.load1 (.int .u64) XdS)] [(2,4)] [oD 15 (.callF 71 [XeX,(.const (.int .i64 8))]),oD 16 (.bin .add Xeg XeQ),oM 2 XeY]
def Xxc:VC:=.seq (.reg [oD 1 (.box τ0),oD 2 (.mv (.const (.string ⟨⟨[]⟩⟩)))]) (.seq (.block 0 (.seq (.reg [oD 4 (.loadN [.bool,(.int .u64),(.int .u64)] τ1),oD 5 (.callF 137 [τ4]),oD 6 (.not τ5),oM 3 τ6]) (.cond τ3 (.seq (.reg [oD 2 (.mv (.const (.string ⟨⟨[]⟩⟩)))]) .ret) (.seq (.reg [oD 8 (.fieldA 0 τ1),oD 9 (.load1 .bool τ8),oM 7 τ9]) (.cond τ7 (.seq XNs .ret) .skip))))) (.seq (.reg [oD 17 (.fieldA 2 τ1),oD 18 (.load1 (.int .u64) Xe5),oD 19 (.callF 71 [XfK,(.const (.int .i64 4))]),oM 2 XfU]) .ret))
def XNb:VFn:=⟨20,Xxc,[.tmp 2]⟩
def Xxr:VC:=.seq (.reg [oD 18 (.bin .lss Xe5 XeY)]) (.seq (.cond XfK .skip (.exit 0)) (.seq (.block 1 (.seq (.reg [oM 19 Xe5,oM 6 XfU]) (.reg [oM 20 τ5,oM 21 τ6,oM 22 τ0,oM 23 τ1,oD 24 (.bin .sub XgP (.const (.int .i64 1))),oM 25 τ6,oD 26 (.bin .sub Xf2 Xhc),oD 27 (.bin .mul (.const (.int .i64 8)) Xg5),oD 28 (.bin .shr XgR Xhd),oD 29 (.conv .u8 Xhe),oD 30 (.idxAL 1 Xf3 Xf9),oN (.store 1 XhJ Xha)]))) (.reg [oD 31 (.bin .add Xe5 (.const (.int .i64 1))),oM 17 XhR])))
def XFI:VC:=.seq (.reg [oM 32 τ5,oD 33 (.b2s Xho),oM 4 Xh8]) .ret
def XEM:VC:=.seq (.reg [oD 4 (.mv (.const (.string ⟨⟨[]⟩⟩)))]) (.seq (.seq (.reg [oM 7 τ1,oD 8 (.bin .lss τ7 (.const (.int .i64 1))),oM 9 τ8,oG 10 (.mv τ1) 9 false,oG 11 (.bin .gtr XdG (.const (.int .i64 8))) 9 false,oD 12 (.pick τ9 (.const (.bool true)) Xdt)]) (.cond Xeg (.seq (.reg [oD 4 (.mv (.const (.string ⟨⟨[]⟩⟩)))]) .ret) .skip)) (.seq (.reg [oM 13 τ1,oD 14 (.mkSl 1 1 [(.int .u8 0)] XdS XdS),oM 5 XeX]) (.seq (.seq (.reg [oM 15 τ5,oD 16 (.lenL XeQ),oD 17 (.mv (.const (.int .i64 0)))]) (.block 0 (.loop Xxr))) XFI)))
def fn71:VFn:=⟨34,XEM,[.tmp 4]⟩
def XOB:VC:=.regD [oM 12 τ0,oM 13 τ4,oD 14 (.idxAL 1 Xeg XdS),oD 15 (.load1 (.int .i64) XeX),oD 16 (.conv .u64 XeQ),oM 17 τ0,oM 18 τ4,oD 19 (.bin .add XfK (.const (.int .i64 1))),oD 20 (.idxAL 1 Xe5 XfU),oD 21 (.load1 (.int .i64) Xf3)] [] [oD 22 (.callF 71 [XeY,Xf9]),oD 23 (.callF 140 [τ3,XgR])]
def XtH:VC:=.seq (.seq (.reg [oM 5 τ4,oD 6 (.bin .add τ5 (.const (.int .i64 1))),oM 7 τ0,oD 8 (.lenL τ7),oD 9 (.bin .lss τ6 τ8)]) (.cond τ9 .skip (.exit 0))) (.seq (.block 1 XOB) (.reg [oM 10 τ4,oD 11 (.bin .add XdG (.const (.int .i64 2))),oM 4 Xdt]))
def XzH:VC:=.seq (.reg [oD 24 (.callF 141 [τ3]),oM 2 Xf2]) .ret
def XxJ:VC:=.seq (.reg [oD 2 (.mv (.const (.string ⟨⟨[]⟩⟩)))]) (.seq (.reg [oD 3 (.allocB 210 5)]) (.seq (.seq (.reg [oD 4 (.mv (.const (.int .i64 0)))]) (.block 0 (.loop XtH))) XzH))
def XSx:VFn:=⟨25,XxJ,[.tmp 2]⟩
def XOZ:VC:=.seq (.reg [oD 4 (.mv (.const (.int .i64 0))),oM 5 (.const .nilIface)]) (.seq (.reg [oM 6 τ0,oD 7 (.callF 142 [τ6])]) (.seq (.reg [oM 8 τ0,oM 9 τ0,oD 10 (.nilCheck τ9),oD 11 (.fieldA 1 XdG),oD 12 (.load1 .oth Xdt),oM 13 τ1,oD 14 (.app 5 1 1 Xeg XdS),oD 15 (.nilCheck τ8),oD 16 (.fieldA 1 XeQ),oN (.store 1 XeY XeX)]) (.seq (.reg [oM 17 τ1,oD 18 (.lenS Xe5),oM 4 XfK,oM 5 (.const .nilIface)]) .ret)))
def XR7:VFn:=⟨19,XOZ,[.tmp 4,.tmp 5]⟩
def XSm:VC:=.seq (.reg [oM 2 τ0,oD 3 (.nilCheck τ2),oD 4 (.fieldA 0 τ3),oD 5 (.load1 .oth τ4),oD 6 (.isNil 0 false τ5)]) (.cond τ6 (.reg [oM 7 τ0,oM 8 τ0,oD 9 (.toU τ8),oM 10 τ9,oD 11 (.ofU 210 2 XdG),oD 12 (.nilCheck τ7),oD 13 (.fieldA 0 Xeg),oN (.store 1 XdS Xdt)]) (.seq (.reg [oM 14 τ0,oD 15 (.nilCheck XeX),oD 16 (.fieldA 0 XeQ),oD 17 (.load1 .oth XeY),oM 18 τ0,oD 19 (.eqP true Xe5 XfK)]) (.cond XfU .stuck .skip)))
def XOs:VFn:=⟨20,XSm,[]⟩
def XQc:VC:=.regD [oM 3 τ0,oD 4 (.nilCheck τ3),oD 5 (.fieldA 1 τ4),oD 6 (.load1 .oth τ5),oD 7 (.sdata τ6),oM 8 τ0,oD 9 (.nilCheck τ8),oD 10 (.fieldA 1 τ9),oD 11 (.load1 .oth XdG),oD 12 (.lenL Xdt)] [] [oD 13 (.ustr 5 τ7 Xeg),oM 2 XdS]
def XNJ:VC:=.seq (.reg [oD 2 (.mv (.const (.string ⟨⟨[]⟩⟩)))]) (.seq XQc .ret)
def XPW:VFn:=⟨14,XNJ,[.tmp 2]⟩
def XxO:VC:=.seq (.reg [oD 4 (.alloc [(.int .i64 0),(.int .i64 0),(.int .u32 0),(.int .u32 0),(.int .i64 0),(.int .i64 0),(.int .i64 0),(.string ⟨⟨[]⟩⟩)])]) (.seq (.reg [oM 7 τ0,oD 8 (.callF 51 [τ7]),oM 5 τ8]) (.seq (.reg [oM 9 τ5,oD 10 (.callF 52 [τ9,(.const (.int .i64 2))]),oM 11 τ5,oD 12 (.callF 52 [Xdt,(.const (.int .i64 2))]),oM 13 τ5,oD 14 (.callF 52 [XdS,(.const (.int .i64 4))]),oD 15 (.conv .u32 XeX),oM 16 τ5,oD 17 (.callF 52 [XeY,(.const (.int .i64 4))]),oD 18 (.conv .u32 Xe5),oD 19 (.build [(.int .i64 0),(.int .i64 0),(.int .u32 0),(.int .u32 0),(.int .i64 0),(.int .i64 0),(.int .i64 0),(.string ⟨⟨[]⟩⟩)] [(0,1,XdG),(1,1,Xeg),(2,1,XeQ),(3,1,XfK)]),oD 6 (.alloc [(.int .i64 0),(.int .i64 0),(.int .u32 0),(.int .u32 0),(.int .i64 0),(.int .i64 0),(.int .i64 0),(.string ⟨⟨[]⟩⟩)]),oN (.store 8 τ6 XfU)]) (.seq (.reg [oM 20 τ5,oD 21 (.callF 52 [Xf3,(.const (.int .i64 2))]),oD 22 (.bin .and Xf9 (.const (.int .i64 255))),oD 23 (.fieldA 4 τ6),oN (.store 1 XgP XgR)]) (.seq (.reg [oM 24 τ5,oD 25 (.callF 52 [Xf2,(.const (.int .i64 2))]),oD 26 (.fieldA 5 τ6),oN (.store 1 Xg5 Xhc)]) (.seq (.reg [oM 27 τ5,oD 28 (.callF 52 [Xhd,(.const (.int .i64 2))])]) (.seq (.reg [oM 29 τ5,oD 30 (.callF 52 [Xha,(.const (.int .i64 2))]),oD 31 (.fieldA 6 τ6),oN (.store 1 XhR XhJ)]) (.seq (.reg [oM 32 τ5,oM 33 τ1,oD 34 (.bin .sub Xh8 (.const (.int .i64 20))),oD 35 (.callF 86 [Xho,Xic]),oD 36 (.fieldA 7 τ6),oN (.store 1 Xin Xig)]) (.seq (.reg [oD 37 (.loadN [(.int .i64),(.int .i64),(.int .u32),(.int .u32),(.int .i64),(.int .i64),(.int .i64),.str] τ6),oN (.store 8 τ4 XhW)]) .ret))))))))
def XPi:VFn:=⟨38,XxO,[.cell 4 [(.int .i64),(.int .i64),(.int .u32),(.int .u32),(.int .i64),(.int .i64),(.int .i64),.str] true]⟩
def XFH:VC:=.reg [oD 5 (.alloc [(.int .i64 0),(.string ⟨⟨[]⟩⟩),(.int .i64 0)]),oN (.store 3 τ5 τ8)]
def Xy5:VC:=.block 1 (.seq (.seq (.reg [oD 9 (.fieldA 2 τ5),oD 10 (.load1 (.int .i64) τ9),oD 11 (.bin .lss XdG (.const (.int .i64 0)))]) (.cond Xdt (.seq (.reg [oN (.store 1 τ2 (.const (.slice none 0 0))),oN (.store 1 τ3 (.const (.int .i64 3)))]) .ret) .skip)) (.reg [oD 12 (.load1 .oth τ4),oD 13 (.fieldA 0 τ5),oD 14 (.loadN [(.int .i64),.str] XdS),oD 15 (.buildSl 1 2 [(.int .i64 0),(.string ⟨⟨[]⟩⟩)] [(0,2,XeX)]),oD 16 (.app 190 2 24 Xeg XeQ),oN (.store 1 τ4 XeY)]))
def XLQ:VC:=.rangeF τ7 [8] XFH Xy5
def XAh:VC:=.seq (.reg [oD 17 (.load1 .oth τ4),oN (.store 1 τ2 Xe5),oN (.store 1 τ3 (.const (.int .i64 0)))]) .ret
def XyZ:VC:=.seq (.reg [oD 2 (.alloc [(.slice none 0 0)]),oD 3 (.alloc [(.int .i64 0)])]) (.seq (.reg [oD 4 (.alloc [(.slice none 0 0)])]) (.seq (.seq (.reg [oM 6 τ0,oD 7 (.callF 120 [τ6])]) (.block 0 XLQ)) XAh))
def XQB:VFn:=⟨18,XyZ,[.cell 2 [.oth] false,.cell 3 [(.int .i64)] false]⟩
def XQ1:VC:=.seq (.reg [oD 1 (.box τ0),oM 2 (.const .nilFunc)]) (.seq (.reg [oD 3 (.mkFunc 133 [] [τ1]),oM 2 τ3]) .ret)
def XN8:VFn:=⟨4,XQ1,[.tmp 2]⟩
def XJk:VC:=.regD [oM 41 τ0,oD 42 (.load1 .str τ1),oM 43 τ3,oD 44 (.idxS Xjs XjD),oD 45 (.conv .i64 Xka),oD 46 (.load1 .str τ1),oM 47 τ3,oD 48 (.bin .add Xj7 (.const (.int .i64 2))),oM 49 τ3,oM 50 τ4,oD 51 (.bin .add Xle Xlj),oD 52 (.sliceS XkE (some Xlk) (some Xls)),oD 53 (.build [(.int .i64 0),(.string ⟨⟨[]⟩⟩)] [(0,1,Xj8),(1,1,XlY)]),oM 54 τ3,oD 55 (.bin .add Xne (.const (.int .i64 2))),oD 56 (.build [(.int .i64 0),(.string ⟨⟨[]⟩⟩),(.int .i64 0)] [(0,2,XlZ),(2,1,Xnt)])] [] [oD 57 (.callV XjR [Xna]),oD 58 (.not Xm4)]
def Xpz:VC:=.seq (.seq (.reg [oM 5 τ3,oD 6 (.load1 .str τ1),oD 7 (.lenS τ6),oD 8 (.bin .lss τ5 τ7)]) (.cond τ8 .skip (.exit 0))) (.block 1 (.seq (.seq (.reg [oD 9 (.load1 .str τ1),oM 10 τ3,oD 11 (.idxS τ9 XdG)]) (.block 2 (.seq (.reg [oD 13 (.bin .eql Xdt (.const (.int .u8 0))),oM 12 XdS]) (.cond Xeg .ret (.seq (.reg [oD 15 (.bin .eql Xdt (.const (.int .u8 1))),oM 14 XeQ]) (.cond XeX (.seq (.reg [oM 16 τ3,oD 17 (.bin .add XeY (.const (.int .i64 1))),oM 3 Xe5]) (.exit 1)) .skip)))))) (.seq (.reg [oD 4 (.mv (.const (.int .i64 0)))]) (.seq (.seq (.reg [oM 18 τ3,oD 19 (.bin .add XfK (.const (.int .i64 1))),oD 20 (.load1 .str τ1),oD 21 (.lenS Xf3),oD 22 (.bin .lss XfU Xf9)]) (.cond XgR (.reg [oD 23 (.load1 .str τ1),oM 24 τ3,oD 25 (.bin .add Xf2 (.const (.int .i64 1))),oD 26 (.idxS XgP Xhc),oD 27 (.conv .i64 Xg5),oM 4 Xhd]) .skip)) (.seq (.seq (.reg [oM 28 τ4,oD 29 (.bin .lss Xhe (.const (.int .i64 2))),oM 30 Xha,oG 31 (.mv τ4) 30 false,oG 32 (.load1 .str τ1) 30 false,oG 33 (.lenS Xho) 30 false,oG 34 (.mv τ3) 30 false,oG 35 (.bin .sub Xh8 Xic) 30 false,oG 36 (.bin .gtr XhR Xig) 30 false,oD 37 (.pick XhJ (.const (.bool true)) Xin)]) (.cond XhW (.seq (.reg [oM 38 τ0,oD 39 (.build [(.int .i64 0),(.string ⟨⟨[]⟩⟩),(.int .i64 0)] [(2,1,(.const (.int .i64 (-1))))]),oD 40 (.callV Xja [Xi6])]) .ret) .skip)) (.seq (.seq XJk (.cond XnM .ret .skip)) (.reg [oM 59 τ3,oM 60 τ4,oD 61 (.bin .add XnP Xpe),oM 3 Xpr])))))))
def XLK:VC:=.seq (.reg [oD 3 (.mv (.const (.int .i64 0)))]) (.block 0 (.loop Xpz))
def XPQ:VFn:=⟨62,XLK,[]⟩
def XNB:VC:=.reg [oD 7 (.alloc [(.int .i64 0),(.string ⟨⟨[]⟩⟩),(.int .i64 0)]),oN (.store 3 τ7 XfU)]
def XQ7:VC:=.regD [oM 39 τ8,oD 40 (.bin .shr Xi6 (.const (.int .u64 32))),oD 41 (.conv .u32 Xj4),oM 42 τ8,oD 43 (.conv .u32 Xjs),oD 44 (.fieldA 2 τ7),oD 45 (.load1 (.int .i64) Xka),oN (.store 1 τ2 XjR),oN (.store 1 τ3 XjD)] [(6,7),(6,8)] [oN (.store 1 τ4 Xj8)]
def XGH:VC:=.block 1 (.seq (.seq (.reg [oD 20 (.fieldA 0 τ7),oD 21 (.fieldA 0 Xf3),oD 22 (.load1 (.int .i64) Xf9),oD 23 (.bin .neq XgR (.const (.int .i64 8)))]) (.cond XgP (.exit 1) .skip)) (.seq (.seq (.reg [oD 25 (.fieldA 0 τ7),oD 26 (.fieldA 1 Xhc),oD 27 (.load1 .str Xg5),oD 28 (.callF 69 [Xhd,(.const (.int .i64 0)),(.const (.int .i64 8))]),oM 24 Xhe,oE 29 0 Xf2,oE 30 1 Xf2,oM 8 Xha,oM 9 XhJ]) (.seq (.reg [oM 31 τ9,oM 32 XhR,oG 33 (.fieldA 0 τ7) 32 true,oG 34 (.fieldA 1 Xh8) 32 true,oG 35 (.load1 .str Xic) 32 true,oG 36 (.lenS Xig) 32 true,oG 37 (.bin .eql Xin (.const (.int .i64 8))) 32 true,oD 38 (.pick Xho XhW (.const (.bool false)))]) (.cond Xja (.seq XQ7 .ret) .skip))) (.exit 0)))
def XOk:VC:=.rangeF XfK [19] XNB XGH
def XFG:VC:=.seq (.reg [oN (.store 1 τ2 (.const (.int .u32 0))),oN (.store 1 τ3 (.const (.int .u32 0))),oN (.store 1 τ4 (.const (.int .i64 (-1))))]) .ret
def XGr:VC:=.seq (.reg [oD 2 (.alloc [(.int .u32 0)]),oD 3 (.alloc [(.int .u32 0)]),oD 4 (.alloc [(.int .i64 0)])]) (.seq (.seq (.reg [oM 11 τ0,oD 12 (.callF 119 [Xdt]),oM 10 Xeg,oE 13 0 XdG,oE 14 1 XdG,oM 5 XdS,oM 6 XeX]) (.seq (.reg [oM 15 τ6,oD 16 (.bin .neq XeQ (.const (.int .i64 0)))]) (.cond XeY (.seq (.reg [oN (.store 1 τ2 (.const (.int .u32 0))),oN (.store 1 τ3 (.const (.int .u32 0))),oN (.store 1 τ4 (.const (.int .i64 (-1))))]) .ret) .skip))) (.seq (.seq (.reg [oM 17 τ0,oD 18 (.callF 120 [Xe5])]) (.block 0 XOk)) XFG))
def fn91:VFn:=⟨46,XGr,[.cell 2 [(.int .u32)] false,.cell 3 [(.int .u32)] false,.cell 4 [(.int .i64)] false]⟩
def XPa:VC:=.regD [oM 34 τ1,oM 35 τ1,oD 36 (.fieldA 0 τ6),oD 37 (.load1 (.int .i64) Xin),oD 38 (.fieldA 1 τ6),oD 39 (.load1 (.int .i64) Xja),oD 40 (.nilCheck Xic),oD 41 (.fieldA 0 Xj4),oD 42 (.fieldA 7 XjR),oN (.store 1 Xjs XhW)] [(5,9)] [oD 43 (.nilCheck Xig),oD 44 (.fieldA 0 XjD),oD 45 (.fieldA 8 Xka),oN (.store 1 Xj8 Xi6)]
def XPT:VC:=.regD [oM 53 τ1,oM 54 τ1,oD 55 (.fieldA 0 τ9),oD 56 (.load1 .bool Xnt),oD 57 (.fieldA 3 τ9),oD 58 (.load1 .str Xm4),oD 59 (.nilCheck XlZ),oD 60 (.fieldA 13 XnP),oN (.store 1 Xpe Xna)] [(5,8)] [oD 61 (.nilCheck Xne),oD 62 (.fieldA 14 Xpr),oN (.store 1 Xp0 XnM)]
def XEQ:VC:=.seq (.reg [oD 2 (.box τ0),oD 4 (.mv (.const (.int .i64 0))),oD 5 (.mv (.const (.int .i64 0)))]) (.seq (.reg [oD 12 (.fieldA 7 τ2),oD 13 (.load1 .str Xeg),oD 14 (.fieldA 0 τ2),oD 15 (.loadN [.bool,(.int .u64),(.int .u64)] XeX),oD 16 (.fieldA 3 τ2),oD 17 (.loadN [.bool,(.int .u64),(.int .u64)] XeY),oD 18 (.callF 118 [XdS,XeQ,Xe5]),oM 11 XfK,oE 19 0 Xdt,oE 20 1 Xdt,oE 21 2 Xdt,oD 6 (.alloc [(.int .i64 0),(.int .i64 0)]),oN (.store 2 τ6 XfU),oM 7 Xf3,oM 8 Xf9]) (.seq (.block 0 (.seq (.reg [oM 23 τ8,oD 24 (.bin .neq XgP (.const (.int .i64 0))),oM 22 Xf2]) (.cond XgR (.seq (.reg [oM 25 τ8,oD 4 (.mv (.const (.int .i64 0))),oM 5 Xhc]) .ret) (.seq (.reg [oM 27 τ7,oD 28 (.lenS Xhd),oD 29 (.fieldA 7 τ2),oD 30 (.load1 .str Xha),oD 31 (.lenS XhJ),oD 32 (.bin .sub XhR (.const (.int .i64 8))),oD 33 (.bin .neq Xhe Xho),oM 26 Xh8]) (.cond Xg5 (.seq (.reg [oD 4 (.mv (.const (.int .i64 0))),oD 5 (.mv (.const (.int .i64 5)))]) .ret) .skip))))) (.seq XPa (.seq (.seq (.reg [oM 47 τ7,oD 48 (.callF 68 [Xj7]),oM 46 Xlk,oE 49 0 XkE,oE 50 1 XkE,oD 9 (.alloc [(.bool false),(.int .i64 0),(.int .u32 0),(.string ⟨⟨[]⟩⟩),(.string ⟨⟨[]⟩⟩),(.string ⟨⟨[]⟩⟩)]),oN (.store 6 τ9 Xle),oM 10 Xlj]) (.seq (.reg [oM 51 XdG,oD 52 (.bin .eql Xls (.const (.int .i64 0)))]) (.cond XlY XPT .skip))) (.seq (.reg [oM 63 τ7,oD 64 (.lenS Xqd),oM 4 XrS,oD 5 (.mv (.const (.int .i64 0)))]) .ret)))))
def fn90:VFn:=⟨65,XEQ,[.tmp 4,.tmp 5]⟩
def XI0:VC:=.regD [oD 66 (.loadN [(.int .i64),(.int .i64)] XdG),oM 67 τ0,oM 68 Xdt,oD 69 (.sliceS XrZ (some (.const (.int .i64 8))) (some XrX)),oN (.store 2 τ6 Xta)] [] [oM 7 XsJ,oD 8 (.mv (.const (.int .i64 0)))]
def Xzx:VC:=.seq (.reg [oD 4 (.box τ1),oD 5 (.box τ2),oD 6 (.alloc [(.int .i64 0),(.int .i64 0)]),oD 7 (.mv (.const (.string ⟨⟨[]⟩⟩))),oD 8 (.mv (.const (.int .i64 0)))]) (.seq (.reg [oM 14 τ0,oD 15 (.callF 51 [XeX]),oM 9 XeQ]) (.seq (.reg [oM 16 τ9,oD 17 (.callF 52 [XeY,(.const (.int .i64 2))]),oM 18 τ9,oD 19 (.callF 52 [XfK,(.const (.int .i64 2))]),oD 20 (.build [(.int .i64 0),(.int .i64 0)] [(0,1,Xe5),(1,1,XfU)]),oD 10 (.alloc [(.int .i64 0),(.int .i64 0)]),oN (.store 2 XdG Xf3)]) (.seq (.reg [oM 21 τ9,oD 22 (.callF 52 [Xf9,(.const (.int .i64 2))]),oM 23 τ9,oD 24 (.callF 52 [XgP,(.const (.int .i64 2))]),oM 11 XgR,oM 12 Xf2]) (.seq (.block 0 (.seq (.reg [oM 26 τ9,oD 27 (.callF 95 [Xg5]),oM 25 Xhd]) (.cond Xhc (.seq (.reg [oD 28 (.build [(.int .i64 0),(.int .i64 0)] []),oN (.store 2 τ6 Xhe),oD 7 (.mv (.const (.string ⟨⟨[]⟩⟩))),oD 8 (.mv (.const (.int .i64 2)))]) .ret) (.seq (.reg [oM 30 Xdt,oD 31 (.bin .lss XhJ (.const (.int .i64 8))),oM 29 XhR]) (.cond Xha (.seq (.reg [oD 32 (.build [(.int .i64 0),(.int .i64 0)] []),oN (.store 2 τ6 Xho),oD 7 (.mv (.const (.string ⟨⟨[]⟩⟩))),oD 8 (.mv (.const (.int .i64 3)))]) .ret) (.seq (.reg [oM 34 Xdt,oM 35 τ0,oD 36 (.lenS Xig),oD 37 (.bin .gtr Xic Xin),oM 33 XhW]) (.cond Xh8 (.seq (.reg [oD 38 (.build [(.int .i64 0),(.int .i64 0)] []),oN (.store 2 τ6 Xja),oD 7 (.mv (.const (.string ⟨⟨[]⟩⟩))),oD 8 (.mv (.const (.int .i64 2)))]) .ret) .skip))))))) (.seq (.reg [oD 39 (.loadN [.bool,(.int .u64),(.int .u64)] τ4),oD 40 (.loadN [.bool,(.int .u64),(.int .u64)] τ5),oM 41 Xdt,oD 42 (.callF 131 [Xi6,Xj4,(.const (.int .i64 17)),XjR]),oM 13 Xjs]) (.seq (.block 1 (.seq (.reg [oM 44 XdS,oD 45 (.bin .eql Xka (.const (.string ⟨⟨[]⟩⟩))),oM 43 Xj8]) (.cond XjD (.seq (.reg [oD 46 (.build [(.int .i64 0),(.int .i64 0)] []),oN (.store 2 τ6 XkE),oD 7 (.mv (.const (.string ⟨⟨[]⟩⟩))),oD 8 (.mv (.const (.int .i64 1)))]) .ret) (.seq (.seq (.reg [oM 48 Xeg,oD 49 (.bin .eql Xlk (.const (.int .i64 0))),oM 50 Xle,oG 51 (.fieldA 0 τ4) 50 true,oG 52 (.load1 .bool Xls) 50 true,oD 53 (.pick Xlj XlY (.const (.bool false))),oM 47 XlZ]) (.cond Xj7 .skip (.reg [oM 54 Xeg,oD 55 (.bin .neq Xne (.const (.int .i64 0))),oM 56 Xnt,oG 57 (.mv XdS) 56 true,oG 58 (.mv τ0) 56 true,oG 59 (.mv Xdt) 56 true,oG 60 (.sliceS XnM none (some XnP)) 56 true,oG 61 (.bin .add Xm4 Xpe) 56 true,oG 62 (.callF 54 [Xpr]) 56 true,oG 63 (.not Xp0) 56 true,oD 64 (.pick Xna Xqd (.const (.bool false))),oM 47 XrS]))) (.cond Xj7 (.seq (.reg [oD 65 (.build [(.int .i64 0),(.int .i64 0)] []),oN (.store 2 τ6 Xr2),oD 7 (.mv (.const (.string ⟨⟨[]⟩⟩))),oD 8 (.mv (.const (.int .i64 4)))]) .ret) .skip))))) (.seq XI0 .ret)))))))
def XMN:VFn:=⟨70,Xzx,[.cell 6 [(.int .i64),(.int .i64)] true,.tmp 7,.tmp 8]⟩
def XEJ:VC:=.seq (.reg [oD 2 (.alloc [(.bool false),(.int .i64 0),(.int .u32 0),(.string ⟨⟨[]⟩⟩),(.string ⟨⟨[]⟩⟩),(.string ⟨⟨[]⟩⟩)]),oD 3 (.mv (.const (.int .i64 0)))]) (.seq (.reg [oM 9 τ0,oD 10 (.callF 51 [τ9]),oM 4 XdG]) (.seq (.reg [oM 11 τ4,oD 12 (.callF 52 [Xdt,(.const (.int .i64 1))]),oM 5 Xeg]) (.seq (.block 0 (.seq (.reg [oM 14 τ4,oD 15 (.callF 95 [XeX]),oM 13 XeQ]) (.cond XdS (.seq (.reg [oD 16 (.build [(.bool false),(.int .i64 0),(.int .u32 0),(.string ⟨⟨[]⟩⟩),(.string ⟨⟨[]⟩⟩),(.string ⟨⟨[]⟩⟩)] []),oN (.store 6 τ2 XeY),oD 3 (.mv (.const (.int .i64 2)))]) .ret) (.seq (.reg [oM 18 τ5,oD 19 (.bin .and XfK (.const (.int .i64 64))),oD 20 (.bin .eql XfU (.const (.int .i64 0))),oM 17 Xf3]) (.cond Xe5 (.seq (.reg [oD 21 (.build [(.bool false),(.int .i64 0),(.int .u32 0),(.string ⟨⟨[]⟩⟩),(.string ⟨⟨[]⟩⟩),(.string ⟨⟨[]⟩⟩)] []),oN (.store 6 τ2 Xf9),oD 3 (.mv (.const (.int .i64 3)))]) .ret) .skip))))) (.seq (.reg [oM 22 τ5,oD 23 (.bin .and XgR (.const (.int .i64 128))),oD 24 (.bin .neq XgP (.const (.int .i64 0))),oM 25 τ5,oD 26 (.bin .and Xhc (.const (.int .i64 63))),oD 27 (.build [(.bool false),(.int .i64 0),(.int .u32 0),(.string ⟨⟨[]⟩⟩),(.string ⟨⟨[]⟩⟩),(.string ⟨⟨[]⟩⟩)] [(0,1,Xf2),(1,1,Xg5)]),oD 6 (.alloc [(.bool false),(.int .i64 0),(.int .u32 0),(.string ⟨⟨[]⟩⟩),(.string ⟨⟨[]⟩⟩),(.string ⟨⟨[]⟩⟩)]),oN (.store 6 τ6 Xhd)]) (.seq (.seq (.reg [oD 28 (.fieldA 0 τ6),oD 29 (.load1 .bool Xhe),oD 30 (.not Xha)]) (.cond XhJ (.seq (.reg [oM 31 τ4,oD 32 (.mkFunc 86 [XhR] []),oM 7 Xho]) (.seq (.seq (.reg [oM 33 τ7,oD 34 (.callV Xh8 [(.const (.int .i64 8))]),oD 35 (.fieldA 3 τ6),oN (.store 1 Xig Xic)]) (.seq (.reg [oM 36 τ4,oD 37 (.callF 95 [Xin])]) (.cond XhW (.seq (.reg [oD 38 (.build [(.bool false),(.int .i64 0),(.int .u32 0),(.string ⟨⟨[]⟩⟩),(.string ⟨⟨[]⟩⟩),(.string ⟨⟨[]⟩⟩)] []),oN (.store 6 τ2 Xja),oD 3 (.mv (.const (.int .i64 2)))]) .ret) .skip))) (.seq (.reg [oM 39 τ4,oD 40 (.callF 96 [Xi6]),oD 41 (.fieldA 5 τ6),oN (.store 1 XjR Xj4)]) (.seq (.reg [oD 42 (.loadN [.bool,(.int .i64),(.int .u32),.str,.str,.str] τ6),oN (.store 6 τ2 Xjs),oD 3 (.mv (.const (.int .i64 0)))]) .ret)))) .skip)) (.seq (.reg [oM 43 τ4,oD 44 (.callF 52 [XjD,(.const (.int .i64 4))]),oD 45 (.conv .u32 Xka),oD 46 (.fieldA 2 τ6),oN (.store 1 XkE Xj8)]) (.seq (.seq (.reg [oM 47 τ4,oD 48 (.fieldA 3 τ6),oD 49 (.fieldA 4 τ6),oD 50 (.buildSl 2 1 [(.pointer none),(.pointer none)] [(0,1,Xlk),(1,1,Xle)]),oD 51 (.callF 97 [(.func 98),Xj7,Xlj]),oM 8 Xls]) (.seq (.reg [oM 52 τ8,oD 53 (.bin .neq XlY (.const (.int .i64 0)))]) (.cond XlZ (.seq (.reg [oD 54 (.build [(.bool false),(.int .i64 0),(.int .u32 0),(.string ⟨⟨[]⟩⟩),(.string ⟨⟨[]⟩⟩),(.string ⟨⟨[]⟩⟩)] []),oM 55 τ8,oN (.store 6 τ2 Xne),oM 3 Xnt]) .ret) .skip))) (.seq (.reg [oM 56 τ4,oD 57 (.callF 96 [Xna]),oD 58 (.fieldA 5 τ6),oN (.store 1 XnM Xm4)]) (.seq (.reg [oD 59 (.loadN [.bool,(.int .i64),(.int .u32),.str,.str,.str] τ6),oN (.store 6 τ2 XnP),oD 3 (.mv (.const (.int .i64 0)))]) .ret)))))))))
def fn68:VFn:=⟨60,XEJ,[.cell 2 [.bool,(.int .i64),(.int .u32),.str,.str,.str] true,.tmp 3]⟩
def XOS:VC:=.seq (.reg [oD 2 (.mv (.const (.string ⟨⟨[]⟩⟩)))]) (.seq (.seq (.reg [oM 3 τ0,oD 4 (.callF 95 [τ3])]) (.cond τ4 (.seq (.reg [oD 2 (.mv (.const (.string ⟨⟨[]⟩⟩)))]) .ret) .skip)) (.seq (.reg [oM 5 τ0,oM 6 τ0,oD 7 (.nilCheck τ6),oD 8 (.fieldA 0 τ7),oD 9 (.load1 .str τ8),oD 10 (.lenS τ9),oD 11 (.callF 86 [τ5,XdG]),oM 2 Xdt]) .ret))
def fn96:VFn:=⟨12,XOS,[.tmp 2]⟩
def XMH:VC:=.seq (.reg [oD 6 (.mv (.const (.int .i64 0)))]) (.seq (.seq (.reg [oM 11 τ2,oD 12 (.lenL Xdt),oD 13 (.mv (.const (.int .i64 0)))]) (.block 0 (.loop (.seq (.reg [oD 14 (.bin .lss XdS Xeg)]) (.seq (.cond XeX .skip (.exit 0)) (.seq (.block 1 (.seq (.reg [oD 15 (.idxAL 1 Xdt XdS),oD 16 (.load1 .oth XeQ),oM 8 XeY]) (.seq (.reg [oM 18 τ0,oM 19 τ1,oD 20 (.callV XfK [XfU]),oM 17 Xf3,oE 21 0 Xe5,oE 22 1 Xe5,oM 9 Xf9,oM 10 XgR]) (.seq (.seq (.reg [oM 23 XdG,oD 24 (.bin .neq XgP (.const (.int .i64 0)))]) (.cond Xf2 (.seq (.reg [oM 25 XdG,oM 6 Xhc]) .ret) .skip)) (.reg [oM 26 τ8,oM 27 τ9,oD 28 (.nilCheck Xg5),oN (.store 1 Xhe Xhd)]))))) (.reg [oD 29 (.bin .add XdS (.const (.int .i64 1))),oM 13 Xha]))))))) (.seq (.reg [oD 6 (.mv (.const (.int .i64 0)))]) .ret))
def fn97:VFn:=⟨30,XMH,[.tmp 6]⟩
def XFa:VC:=.seq (.reg [oD 2 (.mv (.const (.string ⟨⟨[]⟩⟩))),oD 3 (.mv (.const (.int .i64 0)))]) (.seq (.reg [oM 6 τ0,oD 7 (.callF 52 [τ6,(.const (.int .i64 1))]),oM 4 τ7]) (.seq (.seq (.reg [oM 8 τ0,oD 9 (.callF 95 [τ8]),oD 10 (.not τ9),oM 11 XdG,oG 12 (.mv τ4) 11 true,oG 13 (.bin .gtr Xeg (.const (.int .i64 20))) 11 true,oD 14 (.pick Xdt XdS (.const (.bool false)))]) (.cond XeX (.seq (.reg [oD 2 (.mv (.const (.string ⟨⟨[]⟩⟩))),oD 3 (.mv (.const (.int .i64 3)))]) .ret) .skip)) (.seq (.reg [oM 15 τ0,oM 16 τ4,oD 17 (.callF 86 [XeQ,XeY]),oM 5 Xe5]) (.seq (.seq (.reg [oM 18 τ0,oD 19 (.callF 95 [XfK])]) (.cond XfU (.seq (.reg [oD 2 (.mv (.const (.string ⟨⟨[]⟩⟩))),oD 3 (.mv (.const (.int .i64 2)))]) .ret) .skip)) (.seq (.reg [oM 20 τ5,oM 2 Xf3,oD 3 (.mv (.const (.int .i64 0)))]) .ret)))))
def fn98:VFn:=⟨21,XFa,[.tmp 2,.tmp 3]⟩
def k31_1:VC:=.regD [oM 10 τ0,oD 11 (.nilCheck XdG),oD 12 (.fieldA 2 Xdt),oD 13 (.load1 .oth Xeg),oD 14 (.loadN [(.int .i64),.bool,(.int .u64),(.int .u64),.bool,(.int .u64),(.int .u64),(.int .i64),(.int .i64)] τ4),oD 15 (.mget [(0,(.int .i64)),(1,.bool),(2,(.int .u64)),(3,(.int .u64)),(4,.bool),(5,(.int .u64)),(6,(.int .u64)),(7,(.int .i64)),(8,(.int .i64))] (.int .u64 0) true XdS XeX),oM 9 XeQ,oE 16 0 τ9,oE 17 1 τ9,oM 7 XeY] [] [oM 8 Xe5]
def XOW:VC:=.regD [oM 36 τ0,oD 37 (.nilCheck Xin),oD 38 (.fieldA 2 XhW),oD 39 (.load1 .oth Xja),oD 40 (.loadN [(.int .i64),.bool,(.int .u64),(.int .u64),.bool,(.int .u64),(.int .u64),(.int .i64),(.int .i64)] τ4),oD 41 (.fieldA 2 τ5),oD 42 (.load1 (.int .u64) XjR)] [] [oN (.mput [(0,(.int .i64)),(1,.bool),(2,(.int .u64)),(3,(.int .u64)),(4,.bool),(5,(.int .u64)),(6,(.int .u64)),(7,(.int .i64)),(8,(.int .i64))] Xi6 Xj4 Xjs)]
def XGb:VC:=.seq (.reg [oD 4 (.box τ1),oD 5 (.box τ2),oD 6 (.mv (.const (.int .i64 0)))]) (.seq (.seq k31_1 (.block 0 (.seq (.reg [oM 19 τ8,oM 20 XfU,oG 21 (.fieldA 3 τ5) 20 true,oG 22 (.load1 .bool Xf9) 20 true,oG 23 (.not XgR) 20 true,oD 24 (.pick Xf3 XgP (.const (.bool false))),oM 18 Xf2]) (.cond XfK (.seq (.reg [oD 6 (.mv (.const (.int .i64 0)))]) .ret) (.seq (.reg [oM 26 τ8,oD 27 (.not Xg5),oM 28 Xhd,oG 29 (.mv τ0) 28 true,oG 30 (.nilCheck Xha) 28 true,oG 31 (.fieldA 2 XhJ) 28 true,oG 32 (.load1 .oth XhR) 28 true,oG 33 (.lenM Xho) 28 true,oG 34 (.bin .eql Xh8 (.const (.int .i64 64))) 28 true,oD 35 (.pick Xhe Xic (.const (.bool false))),oM 25 Xig]) (.cond Xhc (.seq (.reg [oD 6 (.mv (.const (.int .i64 9)))]) .ret) .skip)))))) (.seq XOW (.seq (.reg [oD 6 (.mv (.const (.int .i64 0)))]) .ret)))
def fn31:VFn:=⟨43,XGb,[.tmp 6]⟩
def XMK:VC:=.seq (.reg [oD 3 (.box τ1),oD 4 (.mv (.const (.string ⟨⟨[]⟩⟩))),oD 5 (.mv (.const (.int .i64 0)))]) (.seq (.reg [oM 6 τ0,oD 7 (.mkFunc 57 [] [τ3]),oD 8 (.callF 56 [τ6,(.const (.int .i64 4)),τ7]),oE 9 0 τ8,oE 10 1 τ8,oM 4 τ9,oM 5 XdG]) .ret)
def fn32:VFn:=⟨11,XMK,[.tmp 4,.tmp 5]⟩
def k57_1:VC:=.regD [oD 4 (.load1 (.int .u32) τ1),oD 5 (.fieldA 12 τ2),oD 6 (.load1 (.int .u32) τ5),oD 7 (.callF 59 [τ6])] [(0,3)] [oD 8 (.callF 58 [τ4,τ7]),oM 3 τ8]
def XNf:VC:=.seq (.reg [oD 2 (.box τ0),oD 3 (.mv (.const (.int .u32 0)))]) (.seq k57_1 .ret)
def fn57:VFn:=⟨9,XNf,[.tmp 3]⟩
def XMI:VC:=.seq (.reg [oD 2 (.mv (.const (.int .u16 0)))]) (.seq (.reg [oM 3 τ0,oD 4 (.conv .u16 τ3),oM 2 τ4]) .ret)
def fn59:VFn:=⟨5,XMI,[.tmp 2]⟩
def XMO:VC:=.seq (.reg [oD 4 (.mv (.const (.int .u32 0)))]) (.seq (.reg [oM 5 τ0,oM 6 τ0,oD 7 (.callF 59 [τ6]),oM 8 τ1,oD 9 (.bin .sub τ7 τ8),oD 10 (.conv .u32 τ9),oD 11 (.bin .sub τ5 XdG),oM 4 Xdt]) .ret)
def fn58:VFn:=⟨12,XMO,[.tmp 4]⟩
def XNe:VC:=.regD [oM 48 τ0,oM 49 XdG,oD 50 (.sliceS Xlk (some Xle) none),oM 51 XeQ,oD 52 (.bin .add (.const (.int .i64 20)) Xls),oM 53 τ1,oD 54 (.bin .add XlY XlZ),oM 55 τ2,oD 56 (.loadN [(.int .i64),.bool,(.int .u64),(.int .u64),.bool,(.int .u64),(.int .u64),(.int .i64),(.int .i64),(.int .i64),.bool,(.int .u32),(.int .u32),.bool,.str,(.int .i64)] τ8),oD 57 (.callV Xnt [Xna]),oD 58 (.conv .u64 Xm4),oD 59 (.callF 71 [XnM,(.const (.int .i64 4))]),oD 60 (.callF 70 [Xlj,Xne,XnP,(.const (.int .i64 16))]),oM 47 Xpe,oE 61 0 Xj7,oE 62 1 Xj7,oM 16 Xpr] [] [oM 17 Xp0]
def XR6:VC:=.seq (.reg [oD 6 (.mv (.const (.string ⟨⟨[]⟩⟩))),oD 7 (.mv (.const (.int .i64 0)))]) (.seq (.reg [oM 19 τ0,oD 20 (.callF 30 [XfU]),oM 18 Xf3,oE 21 0 XfK,oE 22 1 XfK,oD 8 (.alloc [(.int .i64 0),(.bool false),(.int .u64 0),(.int .u64 0),(.bool false),(.int .u64 0),(.int .u64 0),(.int .i64 0),(.int .i64 0),(.int .i64 0),(.bool false),(.int .u32 0),(.int .u32 0),(.bool false),(.string ⟨⟨[]⟩⟩),(.int .i64 0)]),oN (.store 16 τ8 Xf9),oM 9 XgR]) (.seq (.block 0 (.seq (.reg [oM 24 τ9,oD 25 (.bin .neq Xf2 (.const (.int .i64 0))),oM 23 Xhc]) (.cond XgP (.seq (.reg [oM 26 τ9,oD 6 (.mv (.const (.string ⟨⟨[]⟩⟩))),oM 7 Xg5]) .ret) (.seq (.reg [oD 28 (.fieldA 10 τ8),oD 29 (.load1 .bool Xhe),oD 30 (.not Xha),oM 27 XhJ]) (.cond Xhd (.seq (.reg [oD 6 (.mv (.const (.string ⟨⟨[]⟩⟩))),oD 7 (.mv (.const (.int .i64 6)))]) .ret) .skip))))) (.seq (.reg [oM 32 τ0,oD 33 (.callF 67 [Xho]),oM 31 Xh8,oE 34 0 XhR,oE 35 1 XhR,oE 36 2 XhR,oM 10 Xic,oM 11 Xig,oM 12 Xin]) (.seq (.reg [oM 38 τ0,oM 39 XdG,oD 40 (.bin .add Xi6 (.const (.int .i64 20))),oM 41 Xdt,oD 42 (.sliceS Xja (some Xj4) (some XjR)),oD 43 (.callF 91 [Xjs]),oM 37 XjD,oE 44 0 XhW,oE 45 1 XhW,oE 46 2 XhW,oM 13 Xka,oM 14 Xj8,oM 15 XkE]) (.seq XNe (.seq (.seq (.reg [oM 63 Xe5,oD 64 (.not Xqd)]) (.cond XrS (.seq (.reg [oD 6 (.mv (.const (.string ⟨⟨[]⟩⟩))),oD 7 (.mv (.const (.int .i64 3)))]) .ret) .skip)) (.seq (.reg [oM 65 τ0,oM 66 XdG,oD 67 (.sliceS Xr2 none (some Xta)),oM 68 XeY,oD 69 (.bin .add XrZ XrX),oM 6 XsJ,oD 7 (.mv (.const (.int .i64 0)))]) .ret)))))))
def fn56:VFn:=⟨70,XR6,[.tmp 6,.tmp 7]⟩
def XEN:VC:=.seq (.reg [oD 2 (.mv (.const (.int .i64 0))),oD 3 (.mv (.const (.int .i64 0))),oD 4 (.mv (.const (.int .i64 0)))]) (.seq (.reg [oM 10 τ0,oD 11 (.callF 55 [XdG]),oM 9 Xdt,oE 12 0 τ9,oE 13 1 τ9,oE 14 2 τ9,oE 15 3 τ9,oD 5 (.alloc [(.int .i64 0),(.bool false),(.int .u64 0),(.int .u64 0),(.bool false),(.int .u64 0),(.int .u64 0),(.int .i64 0),(.int .i64 0),(.int .i64 0),(.bool false),(.int .u32 0),(.int .u32 0),(.bool false),(.string ⟨⟨[]⟩⟩),(.int .i64 0)]),oN (.store 16 τ5 Xeg),oM 6 XdS,oM 7 XeX,oM 8 XeQ]) (.seq (.seq (.reg [oM 16 τ8,oD 17 (.bin .neq XeY (.const (.int .i64 0)))]) (.cond Xe5 (.seq (.reg [oM 18 τ8,oD 2 (.mv (.const (.int .i64 0))),oD 3 (.mv (.const (.int .i64 0))),oM 4 XfK]) .ret) .skip)) (.seq (.reg [oM 19 τ0,oD 20 (.lenS XfU),oM 21 τ6,oD 22 (.bin .sub Xf3 Xf9),oM 23 τ0,oD 24 (.lenS XgP),oM 25 τ7,oD 26 (.bin .sub Xf2 Xhc),oM 2 XgR,oM 3 Xg5,oD 4 (.mv (.const (.int .i64 0)))]) .ret)))
def fn67:VFn:=⟨27,XEN,[.tmp 2,.tmp 3,.tmp 4]⟩
def XRl:VC:=.regD [oM 63 τ0,oM 64 τ1,oD 65 (.sliceS Xqd none (some XrS)),oM 66 τ2,oD 67 (.bin .add Xr2 Xta),oM 68 τ0,oM 69 XdG,oD 70 (.sliceS XrX (some XsJ) none)] [] [oD 71 (.bin .add XrZ Xtz),oM 11 XtW]
def XFZ:VC:=.seq (.reg [oD 8 (.mv (.const (.string ⟨⟨[]⟩⟩))),oD 9 (.mv (.const (.bool false)))]) (.seq (.reg [oM 17 τ1,oM 18 τ2,oD 19 (.lenS XfK),oD 20 (.bin .add Xe5 XfU),oM 10 Xf3]) (.seq (.block 0 (.seq (.reg [oM 22 τ1,oD 23 (.bin .lss XgR (.const (.int .i64 0))),oM 24 XgP,oG 25 (.mv τ0) 24 false,oG 26 (.lenS Xhc) 24 false,oG 27 (.mv τ2) 24 false,oG 28 (.lenS Xhd) 24 false,oG 29 (.bin .sub Xg5 Xhe) 24 false,oG 30 (.mv τ1) 24 false,oG 31 (.bin .lss Xha XhJ) 24 false,oD 32 (.pick Xf2 (.const (.bool true)) XhR),oM 33 Xho,oG 34 (.mv τ3) 33 false,oG 35 (.bin .lss Xic (.const (.int .i64 0))) 33 false,oD 36 (.pick Xh8 (.const (.bool true)) Xig),oM 37 Xin,oG 38 (.mv τ3) 37 false,oG 39 (.bin .rem Xja (.const (.int .i64 2))) 37 false,oG 40 (.bin .eql Xi6 (.const (.int .i64 1))) 37 false,oD 41 (.pick XhW (.const (.bool true)) Xj4),oM 42 XjR,oG 43 (.mv τ0) 42 false,oG 44 (.lenS XjD) 42 false,oG 45 (.bin .sub Xka (.const (.int .i64 2))) 42 false,oG 46 (.mv τ3) 42 false,oG 47 (.bin .lss Xj8 XkE) 42 false,oD 48 (.pick Xjs (.const (.bool true)) Xj7),oM 21 Xlk]) (.cond Xf9 (.seq (.reg [oD 8 (.mv (.const (.string ⟨⟨[]⟩⟩))),oD 9 (.mv (.const (.bool false)))]) .ret) (.seq (.reg [oM 50 τ2,oD 51 (.bin .eql Xlj (.const (.string ⟨⟨[]⟩⟩))),oM 49 Xls]) (.cond Xle (.seq (.reg [oM 52 τ0,oM 8 XlY,oD 9 (.mv (.const (.bool true)))]) .ret) (.seq (.reg [oM 54 τ1,oM 55 τ3,oD 56 (.bin .add Xnt (.const (.int .i64 2))),oD 57 (.bin .lss Xne Xna),oM 58 Xm4,oG 59 (.mv τ3) 58 true,oG 60 (.mv XdG) 58 true,oG 61 (.bin .lss XnP Xpe) 58 true,oD 62 (.pick XnM Xpr (.const (.bool false))),oM 53 Xp0]) (.cond XlZ (.seq (.reg [oD 8 (.mv (.const (.string ⟨⟨[]⟩⟩))),oD 9 (.mv (.const (.bool false)))]) .ret) .skip))))))) (.seq XRl (.seq (.reg [oM 72 τ1,oD 73 (.bin .andNot Xts (.const (.int .i64 1))),oM 74 XdG,oD 75 (.bin .add XwS (.const (.int .i64 1))),oD 76 (.bin .andNot XwW (.const (.int .i64 1))),oM 12 XuI,oM 13 XAP]) (.seq (.reg [oM 78 τ0,oM 79 τ3,oD 80 (.callF 69 [XxI,XAN,(.const (.int .i64 2))]),oM 77 XAL,oE 81 0 Xv0,oE 82 1 Xv0,oM 14 XEI,oM 15 XHu]) (.seq (.reg [oM 83 XeX,oD 84 (.conv .i64 XAX),oM 85 τ0,oM 86 Xeg,oM 87 XdS,oD 88 (.callF 100 [XMg,XMu,XMt]),oM 89 Xdt,oM 90 Xeg,oM 91 XdS,oD 92 (.callF 100 [XMr,XMy,XMh]),oD 93 (.callF 99 [XIg,XMk,XMl]),oM 16 XMq]) (.seq (.reg [oM 94 Xdt,oM 95 τ3,oM 96 XeY,oD 97 (.conv .u64 XMn),oD 98 (.callF 72 [XIy,XMx,(.const (.int .i64 2)),XPN]),oM 8 τ98,oD 9 (.mv (.const (.bool true)))]) .ret)))))))
def fn70:VFn:=⟨99,XFZ,[.tmp 8,.tmp 9]⟩
def XGP:VC:=.seq (.reg [oD 6 (.mv (.const (.string ⟨⟨[]⟩⟩)))]) (.seq (.seq (.reg [oM 7 τ2,oM 8 τ0,oD 9 (.lenS τ8),oD 10 (.bin .gtr τ7 τ9)]) (.cond XdG (.seq (.reg [oM 11 τ0,oM 12 τ1,oD 13 (.sliceS Xdt (some Xeg) none),oD 14 (.bin .add XdS (.const (.string ⟨⟨[0]⟩⟩))),oM 6 XeX]) .ret) .skip)) (.seq (.reg [oM 15 τ0,oM 16 τ1,oM 17 τ2,oD 18 (.sliceS XeQ (some XeY) (some Xe5)),oM 6 XfK]) .ret))
def XRR:VFn:=⟨19,XGP,[.tmp 6]⟩
def XRu:VC:=.reg [oM 8 Xhc]
def XFJ:VC:=.block 1 (.seq (.reg [oD 27 (.load1 .str τ5),oD 28 (.load1 (.int .i64) τ7),oD 29 (.callF 69 [Xhd,Xhe,(.const (.int .i64 2))]),oM 26 Xha,oE 30 0 Xg5,oE 31 1 Xg5,oM 9 XhJ,oM 10 XhR]) (.seq (.reg [oD 32 (.load1 (.int .i64) τ3),oM 33 τ8,oM 34 τ9,oD 35 (.conv .i64 Xic),oD 36 (.callF 122 [Xho,Xh8,Xig]),oN (.store 1 τ3 Xin)]) (.reg [oD 37 (.load1 (.int .i64) τ7),oD 38 (.bin .add XhW (.const (.int .i64 2))),oN (.store 1 τ7 Xja)])))
def XMX:VC:=.rangeF Xf2 [25] XRu XFJ
def XGw:VC:=.seq (.reg [oD 39 (.load1 (.int .i64) τ3),oM 6 Xi6]) .ret
def XGR:VC:=.seq (.reg [oD 3 (.box τ0),oD 5 (.box τ2),oD 6 (.mv (.const (.int .i64 0)))]) (.seq (.seq (.reg [oM 11 τ1,oD 12 (.lenS Xdt),oD 13 (.load1 .str τ5),oD 14 (.lenS XdS),oD 15 (.bin .neq Xeg XeX),oM 16 XeQ,oG 17 (.mv τ1) 16 false,oG 18 (.lenS Xe5) 16 false,oG 19 (.bin .rem XfK (.const (.int .i64 2))) 16 false,oG 20 (.bin .gtr XfU (.const (.int .i64 0))) 16 false,oD 21 (.pick XeY (.const (.bool true)) Xf3)]) (.cond Xf9 (.seq (.reg [oD 22 (.load1 (.int .i64) τ3),oM 6 XgR]) .ret) .skip)) (.seq (.reg [oD 7 (.alloc [(.int .i64 0)]),oN (.store 1 τ7 (.const (.int .i64 0)))]) (.seq (.seq (.reg [oM 23 τ1,oD 24 (.callF 114 [XgP])]) (.block 0 XMX)) XGw)))
def fn99:VFn:=⟨40,XGR,[.tmp 6]⟩
def XGu:VC:=.seq (.reg [oD 6 (.mv (.const (.int .i64 0)))]) (.seq (.seq (.reg [oM 7 τ0,oM 8 τ1,oM 9 τ2,oD 10 (.buildSl 3 1 [(.int .i64 0),(.int .i64 0),(.int .i64 0)] [(0,1,τ7),(1,1,τ8),(2,1,τ9)]),oD 11 (.callF 134 [XdG]),oD 12 (.not Xdt)]) (.cond Xeg (.seq (.reg [oD 6 (.mv (.const (.int .i64 0)))]) .ret) .skip)) (.seq (.reg [oM 13 τ0,oD 14 (.bin .sub (.const (.int .i64 65535)) XdS),oD 15 (.bin .add XeX (.const (.int .i64 65535))),oM 16 τ1,oD 17 (.bin .sub XeQ XeY),oM 18 τ2,oD 19 (.bin .add Xe5 XfK),oD 20 (.callF 115 [XfU]),oD 21 (.bin .sub (.const (.int .i64 65535)) Xf3),oM 6 Xf9]) .ret))
def XSV:VFn:=⟨22,XGu,[.tmp 6]⟩
def XtS:VC:=.seq (.reg [oD 8 (.bin .lss τ7 τ6)]) (.seq (.cond τ8 .skip (.exit 0)) (.seq (.block 1 (.seq (.reg [oD 9 (.idxAL 1 τ5 τ7),oD 10 (.load1 (.int .i64) τ9),oM 4 XdG]) (.seq (.reg [oM 11 τ4,oD 12 (.bin .lss Xdt (.const (.int .i64 0))),oM 13 Xeg,oG 14 (.mv τ4) 13 false,oG 15 (.bin .gtr XeX (.const (.int .i64 65535))) 13 false,oD 16 (.pick XdS (.const (.bool true)) XeQ)]) (.cond XeY (.seq (.reg [oD 2 (.mv (.const (.bool false)))]) .ret) .skip)))) (.reg [oD 17 (.bin .add τ7 (.const (.int .i64 1))),oM 7 Xe5])))
def XyM:VC:=.seq (.reg [oD 2 (.mv (.const (.bool true)))]) .ret
def XAE:VC:=.seq (.reg [oD 2 (.mv (.const (.bool false)))]) (.seq (.seq (.reg [oM 5 τ0,oD 6 (.lenL τ5),oD 7 (.mv (.const (.int .i64 0)))]) (.block 0 (.loop XtS))) XyM)
def XRD:VFn:=⟨18,XAE,[.tmp 2]⟩
def k72_7:VC:=.regD [oM 28 τ0,oM 29 τ1,oD 30 (.sliceS Xhe none (some Xha)),oM 31 τ9,oD 32 (.bin .add XhJ XhR),oM 33 τ0,oM 34 τ1,oM 35 τ2,oD 36 (.bin .add Xic Xig),oD 37 (.sliceS Xh8 (some Xin) none)] [] [oD 38 (.bin .add Xho XhW),oM 8 Xja]
def XGn:VC:=.seq (.reg [oD 8 (.mv (.const (.string ⟨⟨[]⟩⟩)))]) (.seq (.reg [oM 10 τ3,oM 11 τ2,oD 12 (.callF 71 [XdG,Xdt]),oM 9 Xeg]) (.seq (.seq (.reg [oM 13 τ9,oD 14 (.bin .eql XdS (.const (.string ⟨⟨[]⟩⟩))),oM 15 XeX,oG 16 (.mv τ1) 15 false,oG 17 (.bin .lss XeY (.const (.int .i64 0))) 15 false,oD 18 (.pick XeQ (.const (.bool true)) Xe5),oM 19 XfK,oG 20 (.mv τ0) 19 false,oG 21 (.lenS Xf3) 19 false,oG 22 (.mv τ2) 19 false,oG 23 (.bin .sub Xf9 XgR) 19 false,oG 24 (.mv τ1) 19 false,oG 25 (.bin .lss XgP Xf2) 19 false,oD 26 (.pick XfU (.const (.bool true)) Xhc)]) (.cond Xg5 (.seq (.reg [oM 27 τ0,oM 8 Xhd]) .ret) .skip)) (.seq k72_7 .ret)))
def fn72:VFn:=⟨39,XGn,[.tmp 8]⟩
def XyF:VC:=.seq (.reg [oD 4 (.mv (.const (.string ⟨⟨[]⟩⟩))),oD 5 (.mv (.const (.int .i64 0)))]) (.seq (.seq (.reg [oM 12 τ0,oD 13 (.callF 28 [Xeg]),oD 14 (.not XdS)]) (.cond XeX (.seq (.reg [oD 4 (.mv (.const (.string ⟨⟨[]⟩⟩))),oD 5 (.mv (.const (.int .i64 1)))]) .ret) .skip)) (.seq (.reg [oM 16 τ1,oD 17 (.callF 30 [XeY]),oM 15 Xe5,oE 18 0 XeQ,oE 19 1 XeQ,oD 6 (.alloc [(.int .i64 0),(.bool false),(.int .u64 0),(.int .u64 0),(.bool false),(.int .u64 0),(.int .u64 0),(.int .i64 0),(.int .i64 0),(.int .i64 0),(.bool false),(.int .u32 0),(.int .u32 0),(.bool false),(.string ⟨⟨[]⟩⟩),(.int .i64 0)]),oN (.store 16 τ6 XfK),oM 7 XfU]) (.seq (.seq (.reg [oM 20 τ7,oD 21 (.bin .neq Xf3 (.const (.int .i64 0)))]) (.cond Xf9 (.seq (.reg [oM 22 τ7,oD 4 (.mv (.const (.string ⟨⟨[]⟩⟩))),oM 5 XgR]) .ret) .skip)) (.seq (.reg [oM 24 τ0,oD 25 (.fieldA 0 τ6),oD 26 (.loadN [(.int .i64),.bool,(.int .u64),(.int .u64),.bool,(.int .u64),(.int .u64),(.int .i64),(.int .i64)] Xhc),oD 27 (.callF 36 [Xg5]),oD 28 (.callF 17 [Xf2,Xhd]),oM 23 Xhe,oE 29 0 XgP,oE 30 1 XgP,oM 8 Xha,oM 9 XhJ]) (.seq (.block 0 (.seq (.reg [oM 32 τ9,oD 33 (.not Xho),oM 31 Xh8]) (.cond XhR (.seq (.reg [oD 4 (.mv (.const (.string ⟨⟨[]⟩⟩))),oD 5 (.mv (.const (.int .i64 13)))]) .ret) (.seq (.reg [oD 35 (.fieldA 10 τ6),oD 36 (.load1 .bool Xig),oM 34 Xin]) (.cond Xic (.seq (.reg [oM 37 τ1,oM 38 τ8,oD 39 (.conv .u16 Xja),oD 40 (.callF 37 [XhW,Xi6]),oE 41 0 Xj4,oE 42 1 Xj4,oM 4 XjR,oM 5 Xjs]) .ret) .skip))))) (.seq (.seq (.reg [oM 44 τ1,oM 45 τ8,oD 46 (.callF 38 [Xka,Xj8]),oM 43 XkE,oE 47 0 XjD,oE 48 1 XjD,oM 10 Xj7,oM 11 Xlk]) (.seq (.reg [oM 49 Xdt,oD 50 (.bin .eql Xle (.const (.int .i64 0)))]) (.cond Xlj (.seq (.reg [oM 51 XdG,oM 4 Xls,oD 5 (.mv (.const (.int .i64 0)))]) .ret) .skip))) (.seq (.reg [oM 52 τ1,oM 4 XlY,oD 5 (.mv (.const (.int .i64 0)))]) .ret)))))))
def fn12:VFn:=⟨53,XyF,[.tmp 4,.tmp 5]⟩
def XOP:VC:=.seq (.reg [oD 1 (.box τ0),oD 2 (.alloc [(.int .i64 0),(.bool false),(.int .u64 0),(.int .u64 0),(.bool false),(.int .u64 0),(.int .u64 0),(.int .i64 0),(.int .i64 0)])]) (.seq (.reg [oD 3 (.fieldA 4 τ1),oD 4 (.loadN [.bool,(.int .u64),(.int .u64)] τ3),oD 5 (.fieldA 1 τ1),oD 6 (.loadN [.bool,(.int .u64),(.int .u64)] τ5),oD 7 (.fieldA 8 τ1),oD 8 (.load1 (.int .i64) τ7),oD 9 (.fieldA 7 τ1),oD 10 (.load1 (.int .i64) τ9),oD 11 (.fieldA 1 τ1),oN (.store 3 Xdt τ4),oD 12 (.fieldA 4 τ1),oN (.store 3 Xeg τ6),oD 13 (.fieldA 7 τ1),oN (.store 1 XdS τ8),oD 14 (.fieldA 8 τ1),oN (.store 1 XeX XdG)]) (.seq (.reg [oD 15 (.loadN [(.int .i64),.bool,(.int .u64),(.int .u64),.bool,(.int .u64),(.int .u64),(.int .i64),(.int .i64)] τ1),oN (.store 9 τ2 XeQ)]) .ret))
def fn36:VFn:=⟨16,XOP,[.cell 2 [(.int .i64),.bool,(.int .u64),(.int .u64),.bool,(.int .u64),(.int .u64),(.int .i64),(.int .i64)] true]⟩
def k17_6:VC:=.regD [oM 12 τ0,oD 13 (.nilCheck Xeg),oD 14 (.fieldA 2 XdS),oD 15 (.load1 .oth XeX),oD 16 (.loadN [(.int .i64),.bool,(.int .u64),(.int .u64),.bool,(.int .u64),(.int .u64),(.int .i64),(.int .i64)] τ3),oD 17 (.mget [(0,(.int .i64)),(1,.bool),(2,(.int .u64)),(3,(.int .u64)),(4,.bool),(5,(.int .u64)),(6,(.int .u64)),(7,(.int .i64)),(8,(.int .i64))] (.int .u64 0) true XeQ XeY),oM 11 Xe5,oE 18 0 Xdt,oE 19 1 Xdt,oM 6 XfK] [] [oM 7 XfU]
def Xuv:VC:=.seq (.reg [oD 3 (.box τ1),oD 4 (.mv (.const (.int .u64 0))),oD 5 (.mv (.const (.bool false)))]) (.seq (.seq (.reg [oM 8 τ0,oD 9 (.callF 28 [τ8]),oD 10 (.not τ9)]) (.cond XdG (.seq (.reg [oD 4 (.mv (.const (.int .u64 0))),oD 5 (.mv (.const (.bool false)))]) .ret) .skip)) (.seq k17_6 (.seq (.reg [oM 20 τ6,oM 21 τ7,oM 4 Xf3,oM 5 Xf9]) .ret)))
def fn17:VFn:=⟨22,Xuv,[.tmp 4,.tmp 5]⟩
def XS5:VC:=.seq (.reg [oD 3 (.box τ1),oD 4 (.mv (.const (.string ⟨⟨[]⟩⟩))),oD 5 (.mv (.const (.int .i64 0)))]) (.seq (.reg [oM 6 τ0,oD 7 (.mkFunc 65 [] [τ3]),oD 8 (.callF 56 [τ6,(.const (.int .i64 0)),τ7]),oE 9 0 τ8,oE 10 1 τ8,oM 4 τ9,oM 5 XdG]) .ret)
def fn37:VFn:=⟨11,XS5,[.tmp 4,.tmp 5]⟩
def XRg:VC:=.seq (.reg [oD 2 (.box τ0),oD 3 (.mv (.const (.int .u32 0)))]) (.seq (.reg [oD 4 (.fieldA 11 τ2),oD 5 (.load1 (.int .u32) τ4),oD 6 (.load1 (.int .u16) τ1),oD 7 (.callF 66 [τ5,τ6]),oM 3 τ7]) .ret)
def fn65:VFn:=⟨8,XRg,[.tmp 3]⟩
def XPA:VC:=.seq (.reg [oD 4 (.mv (.const (.int .u32 0)))]) (.seq (.reg [oM 5 τ1,oD 6 (.conv .u32 τ5),oD 7 (.bin .shl τ6 (.const (.int .u64 16))),oM 8 τ0,oD 9 (.callF 59 [τ8]),oD 10 (.conv .u32 τ9),oD 11 (.bin .or τ7 XdG),oM 4 Xdt]) .ret)
def fn66:VFn:=⟨12,XPA,[.tmp 4]⟩
def XPn:VC:=.regD [oM 66 τ0,oM 67 τ8,oD 68 (.sliceS Xta (some XrZ) none),oD 69 (.fieldA 3 Xdt),oD 70 (.load1 .str XsJ),oD 71 (.lenS Xtz),oD 72 (.bin .add (.const (.int .i64 15)) XtW),oM 73 τ1,oD 74 (.callF 71 [XuI,(.const (.int .i64 8))]),oD 75 (.callF 70 [XrX,Xts,XwS,(.const (.int .i64 6))]),oM 65 XwW,oE 76 0 Xr2,oE 77 1 Xr2,oM 14 XAP] [(4,8)] [oM 15 Xv0]
def XRM:VC:=.regD [oM 91 τ0,oM 92 τ8,oD 93 (.sliceS XMh none (some XMl)),oM 94 XeX,oM 95 XeY,oD 96 (.callF 72 [XIy,(.const (.int .i64 6)),(.const (.int .i64 2)),XMx])] [] [oD 97 (.bin .add XMq XMn),oM 4 XPN,oD 5 (.mv (.const (.int .i64 0)))]
def XGi:VC:=.seq (.reg [oD 4 (.mv (.const (.string ⟨⟨[]⟩⟩))),oD 5 (.mv (.const (.int .i64 0)))]) (.seq (.reg [oM 19 τ0,oD 20 (.callF 30 [XfU]),oM 18 Xf3,oE 21 0 XfK,oE 22 1 XfK,oD 6 (.alloc [(.int .i64 0),(.bool false),(.int .u64 0),(.int .u64 0),(.bool false),(.int .u64 0),(.int .u64 0),(.int .i64 0),(.int .i64 0),(.int .i64 0),(.bool false),(.int .u32 0),(.int .u32 0),(.bool false),(.string ⟨⟨[]⟩⟩),(.int .i64 0)]),oN (.store 16 τ6 Xf9),oM 7 XgR]) (.seq (.seq (.reg [oM 23 τ7,oD 24 (.bin .neq XgP (.const (.int .i64 0)))]) (.cond Xf2 (.seq (.reg [oM 25 τ7,oD 4 (.mv (.const (.string ⟨⟨[]⟩⟩))),oM 5 Xhc]) .ret) .skip)) (.seq (.reg [oM 27 τ0,oD 28 (.callF 67 [Xhd]),oM 26 Xhe,oE 29 0 Xg5,oE 30 1 Xg5,oE 31 2 Xg5,oM 8 Xha,oM 9 XhJ,oM 10 XhR]) (.seq (.reg [oM 33 τ0,oM 34 τ9,oD 35 (.sliceS Xh8 (some Xic) none),oD 36 (.callF 68 [Xig]),oM 32 Xin,oE 37 0 Xho,oE 38 1 Xho,oD 11 (.alloc [(.bool false),(.int .i64 0),(.int .u32 0),(.string ⟨⟨[]⟩⟩),(.string ⟨⟨[]⟩⟩),(.string ⟨⟨[]⟩⟩)]),oN (.store 6 Xdt XhW),oM 7 Xja]) (.seq (.block 0 (.seq (.reg [oD 40 (.fieldA 0 τ6),oD 41 (.fieldA 0 Xj4),oD 42 (.load1 (.int .i64) XjR),oD 43 (.bin .neq Xjs (.const (.int .i64 17))),oM 44 XjD,oG 45 (.mv τ7) 44 false,oG 46 (.bin .neq Xj8 (.const (.int .i64 0))) 44 false,oD 47 (.pick Xka (.const (.bool true)) XkE),oM 48 Xj7,oG 49 (.fieldA 0 Xdt) 48 false,oG 50 (.load1 .bool Xle) 48 false,oG 51 (.not Xlj) 48 false,oD 52 (.pick Xlk (.const (.bool true)) Xls),oM 39 XlY]) (.cond Xi6 (.seq (.reg [oD 4 (.mv (.const (.string ⟨⟨[]⟩⟩))),oD 5 (.mv (.const (.int .i64 6)))]) .ret) (.seq (.reg [oD 54 (.fieldA 4 Xdt),oD 55 (.load1 .str Xne),oD 56 (.lenS Xnt),oD 57 (.bin .neq Xna (.const (.int .i64 8))),oM 53 Xm4]) (.cond XlZ (.seq (.reg [oD 4 (.mv (.const (.string ⟨⟨[]⟩⟩))),oD 5 (.mv (.const (.int .i64 3)))]) .ret) .skip))))) (.seq (.reg [oM 59 τ0,oM 60 τ8,oD 61 (.bin .add Xpe (.const (.int .i64 6))),oD 62 (.callF 69 [XnP,Xpr,(.const (.int .i64 2))]),oM 58 Xp0,oE 63 0 XnM,oE 64 1 XnM,oM 12 Xqd,oM 13 XrS]) (.seq XPn (.seq (.seq (.reg [oM 78 XeQ,oD 79 (.not XxI)]) (.cond XAN (.seq (.reg [oD 4 (.mv (.const (.string ⟨⟨[]⟩⟩))),oD 5 (.mv (.const (.int .i64 3)))]) .ret) .skip)) (.seq (.reg [oM 81 XeX,oD 82 (.callF 69 [XEI,(.const (.int .i64 6)),(.const (.int .i64 2))]),oM 80 XHu,oE 83 0 XAL,oE 84 1 XAL,oM 16 XAX,oM 17 XIg]) (.seq (.block 1 (.seq (.reg [oM 86 Xeg,oD 87 (.bin .eql XMu (.const (.int .u64 0))),oM 85 XMt]) (.cond XMg (.reg [oD 16 (.mv (.const (.int .u64 0)))]) (.seq (.reg [oM 89 XeY,oD 90 (.bin .eql XMr (.const (.int .u64 0))),oM 88 XMy]) (.cond XMk (.reg [oD 16 (.mv (.const (.int .u64 65535)))]) .skip))))) (.seq XRM .ret)))))))))))
def fn38:VFn:=⟨98,XGi,[.tmp 4,.tmp 5]⟩
def XHc:VC:=.seq (.reg [oM 4 τ0,oD 5 (.callF 28 [τ4])]) (.cond τ5 (.reg [oM 6 τ0,oM 7 τ1,oD 8 (.nilCheck τ6),oD 9 (.fieldA 1 τ8),oN (.store 1 τ9 τ7)]) .skip)
def fn16:VFn:=⟨10,XHc,[]⟩
def k14_3:VC:=.regD [oM 14 τ0,oD 15 (.nilCheck XeX),oD 16 (.fieldA 2 XeQ),oD 17 (.load1 .oth XeY),oD 18 (.loadN [(.int .i64),.bool,(.int .u64),(.int .u64),.bool,(.int .u64),(.int .u64),(.int .i64),(.int .i64)] τ3)] [] [oN (.mdel [(0,(.int .i64)),(1,.bool),(2,(.int .u64)),(3,(.int .u64)),(4,.bool),(5,(.int .u64)),(6,(.int .u64)),(7,(.int .i64)),(8,(.int .i64))] Xe5 XfK)]
def XFc:VC:=.seq (.reg [oD 3 (.box τ1),oD 4 (.mv (.const (.bool false)))]) (.seq (.reg [oM 8 τ0,oD 9 (.loadN [(.int .i64),.bool,(.int .u64),(.int .u64),.bool,(.int .u64),(.int .u64),(.int .i64),(.int .i64)] τ3),oD 10 (.callF 17 [τ8,τ9]),oM 7 XdG,oE 11 0 τ7,oE 12 1 τ7,oM 5 Xdt,oM 6 Xeg]) (.seq (.seq (.reg [oM 13 τ6]) (.cond XdS k14_3 .skip)) (.seq (.reg [oM 19 τ6,oM 4 XfU]) .ret)))
def fn14:VFn:=⟨20,XFc,[.tmp 4]⟩
def XJf:VC:=.seq (.reg [oD 2 (.mv (.const (.int .i64 0)))]) (.seq (.seq (.reg [oM 3 τ0,oD 4 (.callF 28 [τ3]),oD 5 (.not τ4)]) (.cond τ5 (.seq (.reg [oD 2 (.mv (.const (.int .i64 0)))]) .ret) .skip)) (.seq (.reg [oM 6 τ0,oD 7 (.nilCheck τ6),oD 8 (.fieldA 2 τ7),oD 9 (.load1 .oth τ8),oD 10 (.lenM τ9),oM 2 XdG]) .ret))
def fn19:VFn:=⟨11,XJf,[.tmp 2]⟩
def XN4:VC:=.seq (.reg [oD 4 (.mv (.const (.string ⟨⟨[]⟩⟩)))]) (.seq (.reg [oM 5 τ0,oD 6 (.conv .i64 τ5),oD 7 (.callF 45 [τ6,(.const (.int .i64 4))]),oD 8 (.bin .add (.const (.string ⟨⟨[1,1,8,10]⟩⟩)) τ7),oM 9 τ1,oD 10 (.conv .i64 τ9),oD 11 (.callF 45 [XdG,(.const (.int .i64 4))]),oD 12 (.bin .add τ8 Xdt),oM 4 Xeg]) .ret)
def fn22:VFn:=⟨13,XN4,[.tmp 4]⟩
def XSE:VC:=.seq (.reg [oD 4 (.mv (.const (.string ⟨⟨[]⟩⟩)))]) (.seq (.reg [oM 5 τ0,oD 6 (.conv .u64 τ5),oM 7 τ1,oD 8 (.callF 46 [τ6,τ7]),oM 4 τ8]) .ret)
def fn45:VFn:=⟨9,XSE,[.tmp 4]⟩
def Xx7:VC:=.seq (.seq (.reg [oM 7 τ6,oM 8 τ1,oD 9 (.bin .lss τ7 τ8),oM 10 τ9,oG 11 (.mv τ1) 10 true,oG 12 (.bin .leq Xdt (.const (.int .i64 8))) 10 true,oD 13 (.pick XdG Xeg (.const (.bool false)))]) (.cond XdS .skip (.exit 0))) (.seq (.block 1 (.seq (.reg [oM 16 τ0,oD 17 (.bin .rem XeY (.const (.int .u64 256))),oD 18 (.conv .u8 Xe5),oD 19 (.buildSl 1 1 [(.int .u8 0)] [(0,1,XfK)]),oD 20 (.b2s XfU),oM 21 τ5,oD 22 (.bin .add Xf3 Xf9),oM 5 XgR]) (.reg [oM 23 τ0,oD 24 (.bin .quo XgP (.const (.int .u64 256))),oM 0 Xf2]))) (.reg [oM 14 τ6,oD 15 (.bin .add XeX (.const (.int .i64 1))),oM 6 XeQ]))
def XE0:VC:=.seq (.reg [oM 25 τ5,oM 4 Xhc]) .ret
def XFh:VC:=.seq (.reg [oD 4 (.mv (.const (.string ⟨⟨[]⟩⟩)))]) (.seq (.reg [oD 5 (.mv (.const (.string ⟨⟨[]⟩⟩)))]) (.seq (.seq (.reg [oD 6 (.mv (.const (.int .i64 0)))]) (.block 0 (.loop Xx7))) XE0))
def fn46:VFn:=⟨26,XFh,[.tmp 4]⟩
def XEY:VC:=.seq (.reg [oD 4 (.box τ0),oD 8 (.mv (.const (.string ⟨⟨[]⟩⟩))),oD 9 (.mv (.const (.int .i64 0)))]) (.seq (.seq (.reg [oD 12 (.fieldA 0 τ4),oD 13 (.load1 (.int .i64) Xeg),oD 14 (.bin .neq XdS (.const (.int .i64 6)))]) (.cond XeX (.seq (.reg [oD 8 (.mv (.const (.string ⟨⟨[]⟩⟩))),oD 9 (.mv (.const (.int .i64 1)))]) .ret) .skip)) (.seq (.reg [oD 16 (.fieldA 7 τ4),oD 17 (.load1 (.int .i64) XeY),oD 18 (.fieldA 8 τ4),oD 19 (.load1 (.int .i64) XfK),oM 20 τ1,oM 21 τ2,oD 22 (.build [(.int .i64 0),(.int .i64 0),(.int .u32 0),(.int .u32 0),(.int .i64 0),(.int .i64 0),(.int .i64 0),(.string ⟨⟨[]⟩⟩)] [(0,1,Xe5),(1,1,XfU),(4,1,Xf3),(5,1,(.const (.int .i64 65535))),(7,1,Xf9)]),oD 23 (.fieldA 1 τ4),oD 24 (.loadN [.bool,(.int .u64),(.int .u64)] XgP),oD 25 (.fieldA 4 τ4),oD 26 (.loadN [.bool,(.int .u64),(.int .u64)] Xhc),oM 27 τ3,oD 28 (.callF 43 [XgR,Xf2,Xg5,Xhd]),oM 15 Xhe,oE 29 0 XeQ,oE 30 1 XeQ,oM 10 Xha,oM 11 XhJ]) (.seq (.seq (.reg [oM 31 Xdt,oD 32 (.bin .neq XhR (.const (.int .i64 0)))]) (.cond Xho (.seq (.reg [oM 33 Xdt,oD 8 (.mv (.const (.string ⟨⟨[]⟩⟩))),oM 9 Xh8]) .ret) .skip)) (.seq (.reg [oD 34 (.loadN [(.int .i64),.bool,(.int .u64),(.int .u64),.bool,(.int .u64),(.int .u64),(.int .i64),(.int .i64)] τ4),oM 35 XdG,oD 36 (.callF 44 [Xic,Xig]),oE 37 0 Xin,oE 38 1 Xin,oM 8 XhW,oM 9 Xja]) .ret))))
def fn21:VFn:=⟨39,XEY,[.tmp 8,.tmp 9]⟩
def XME:VC:=.regD [oD 36 (.fieldA 0 τ4),oD 37 (.load1 (.int .i64) Xin),oD 38 (.callF 45 [XhW,(.const (.int .i64 2))]),oD 39 (.fieldA 1 τ4),oD 40 (.load1 (.int .i64) Xi6),oD 41 (.callF 45 [Xj4,(.const (.int .i64 2))]),oD 42 (.bin .add Xja XjR),oD 43 (.fieldA 2 τ4),oD 44 (.load1 (.int .u32) XjD),oD 45 (.conv .i64 Xka),oD 46 (.callF 45 [Xj8,(.const (.int .i64 4))]),oD 47 (.bin .add Xjs XkE),oD 48 (.fieldA 3 τ4),oD 49 (.load1 (.int .u32) Xlk),oD 50 (.conv .i64 Xle),oD 51 (.callF 45 [Xlj,(.const (.int .i64 4))]),oD 52 (.bin .add Xj7 Xls),oM 53 XdG,oD 54 (.bin .mul (.const (.int .i64 4)) XlZ),oD 55 (.callF 45 [Xne,(.const (.int .i64 1))]),oD 56 (.bin .add XlY Xnt),oD 57 (.fieldA 4 τ4),oD 58 (.load1 (.int .i64) Xm4),oD 59 (.callF 45 [XnM,(.const (.int .i64 1))]),oD 60 (.bin .add Xna XnP),oD 61 (.fieldA 5 τ4),oD 62 (.load1 (.int .i64) Xpr),oD 63 (.callF 45 [Xp0,(.const (.int .i64 2))]),oD 64 (.bin .add Xpe Xqd),oD 65 (.callF 45 [(.const (.int .i64 0)),(.const (.int .i64 2))]),oD 66 (.bin .add XrS Xr2),oD 67 (.fieldA 6 τ4),oD 68 (.load1 (.int .i64) XrZ),oD 69 (.callF 45 [XrX,(.const (.int .i64 2))]),oD 70 (.bin .add Xta XsJ),oD 71 (.fieldA 7 τ4),oD 72 (.load1 .str XtW),oD 73 (.bin .add Xtz Xts),oM 74 τ3] [(2,4),(2,8),(2,13),(2,22),(2,26),(2,32),(2,36),(5,8),(5,13),(5,22),(5,26),(5,32),(5,36),(10,13),(10,22),(10,26),(10,32),(10,36),(15,22),(15,26),(15,32),(15,36),(19,22),(19,26),(19,32),(19,36),(23,26),(23,32),(23,36),(27,32),(27,36),(29,32),(29,36),(33,36)] [oD 75 (.bin .add XuI XwS),oM 12 XwW]
def XFM:VC:=.seq (.reg [oD 4 (.box τ0),oD 5 (.box τ1),oD 6 (.box τ2),oD 8 (.mv (.const (.string ⟨⟨[]⟩⟩))),oD 9 (.mv (.const (.int .i64 0)))]) (.seq (.reg [oD 13 (.fieldA 7 τ4),oD 14 (.load1 .str XdS),oD 15 (.lenS XeX),oD 16 (.bin .add (.const (.int .i64 20)) XeQ),oM 10 XeY]) (.seq (.reg [oD 17 (.loadN [.bool,(.int .u64),(.int .u64)] τ5),oD 18 (.loadN [.bool,(.int .u64),(.int .u64)] τ6),oM 19 XdG,oM 20 τ3,oD 21 (.lenS Xf3),oD 22 (.bin .add XfU Xf9),oD 23 (.callF 77 [Xe5,XfK,(.const (.int .i64 6)),XgR]),oM 11 XgP]) (.seq (.seq (.reg [oD 24 (.loadN [(.int .i64),(.int .i64),(.int .u32),(.int .u32),(.int .i64),(.int .i64),(.int .i64),.str] τ4),oD 25 (.callF 78 [Xf2]),oD 26 (.not Xhc),oM 27 Xg5,oG 28 (.mv Xdt) 27 false,oG 29 (.bin .eql Xhe (.const (.string ⟨⟨[]⟩⟩))) 27 false,oD 30 (.pick Xhd (.const (.bool true)) Xha)]) (.cond XhJ (.seq (.reg [oD 8 (.mv (.const (.string ⟨⟨[]⟩⟩))),oD 9 (.mv (.const (.int .i64 1)))]) .ret) .skip)) (.seq (.seq (.reg [oM 31 τ3,oD 32 (.lenS XhR),oM 33 XdG,oD 34 (.bin .sub (.const (.int .i64 65535)) Xh8),oD 35 (.bin .gtr Xho Xic)]) (.cond Xig (.seq (.reg [oD 8 (.mv (.const (.string ⟨⟨[]⟩⟩))),oD 9 (.mv (.const (.int .i64 5)))]) .ret) .skip)) (.seq XME (.seq (.reg [oM 76 Xeg,oM 77 Xdt,oM 78 Xeg,oD 79 (.bin .add Xv0 XxI),oD 80 (.callF 48 [XAN]),oD 81 (.conv .u64 XAL),oD 82 (.callF 47 [XAP,(.const (.int .i64 16)),(.const (.int .i64 2)),XEI]),oM 8 XHu,oD 9 (.mv (.const (.int .i64 0)))]) .ret))))))
def fn43:VFn:=⟨83,XFM,[.tmp 8,.tmp 9]⟩
def k77_7:VC:=.regD [oD 26 (.loadN [.bool,(.int .u64),(.int .u64)] τ4),oD 27 (.callF 104 [Xg5]),oD 28 (.loadN [.bool,(.int .u64),(.int .u64)] τ5),oD 29 (.callF 104 [Xhe]),oD 30 (.bin .add Xhd Xha),oM 31 τ3,oD 32 (.callF 105 [XhR,(.const (.int .i64 4))]),oD 33 (.bin .add XhJ Xho),oD 34 (.callF 105 [(.const (.int .i64 0)),(.const (.int .i64 3))]),oD 35 (.bin .add Xh8 Xic),oM 36 τ2,oD 37 (.callF 105 [Xin,(.const (.int .i64 1))])] [(1,2)] [oD 38 (.bin .add Xig XhW),oM 8 Xja]
def XQa:VC:=.regD [oD 39 (.loadN [.bool,(.int .u64),(.int .u64)] τ4),oD 40 (.callF 104 [Xi6]),oD 41 (.loadN [.bool,(.int .u64),(.int .u64)] τ5),oD 42 (.callF 104 [XjR]),oD 43 (.bin .add Xj4 Xjs),oD 44 (.callF 105 [(.const (.int .i64 0)),(.const (.int .i64 1))]),oD 45 (.bin .add XjD Xka),oM 46 τ2,oD 47 (.callF 105 [XkE,(.const (.int .i64 1))]),oD 48 (.bin .add Xj8 Xj7),oM 49 τ3,oD 50 (.callF 105 [Xle,(.const (.int .i64 2))])] [(1,2)] [oD 51 (.bin .add Xlk Xlj),oM 8 Xls]
def XFf:VC:=.seq (.reg [oD 4 (.box τ0),oD 5 (.box τ1),oD 8 (.mv (.const (.string ⟨⟨[]⟩⟩)))]) (.seq (.seq (.reg [oD 9 (.loadN [.bool,(.int .u64),(.int .u64)] τ4),oD 10 (.callF 42 [τ9]),oD 11 (.not XdG),oM 12 Xdt,oG 13 (.loadN [.bool,(.int .u64),(.int .u64)] τ5) 12 false,oG 14 (.callF 42 [XdS]) 12 false,oG 15 (.not XeX) 12 false,oD 16 (.pick Xeg (.const (.bool true)) XeQ),oM 17 XeY,oG 18 (.fieldA 0 τ4) 17 false,oG 19 (.load1 .bool XfK) 17 false,oG 20 (.fieldA 0 τ5) 17 false,oG 21 (.load1 .bool Xf3) 17 false,oG 22 (.eqB true XfU Xf9) 17 false,oD 23 (.pick Xe5 (.const (.bool true)) XgR)]) (.cond XgP (.seq (.reg [oD 8 (.mv (.const (.string ⟨⟨[]⟩⟩)))]) .ret) .skip)) (.seq (.seq (.reg [oD 24 (.fieldA 0 τ4),oD 25 (.load1 .bool Xf2)]) (.cond Xhc (.seq k77_7 .ret) .skip)) (.seq XQa .ret)))
def fn77:VFn:=⟨52,XFf,[.tmp 8]⟩
def XSv:VC:=.regD [oD 8 (.fieldA 1 τ1),oD 9 (.load1 (.int .u64) τ8),oD 10 (.callF 46 [τ9,(.const (.int .i64 8))]),oD 11 (.fieldA 2 τ1),oD 12 (.load1 (.int .u64) Xdt)] [(2,4)] [oD 13 (.callF 46 [Xeg,(.const (.int .i64 8))]),oD 14 (.bin .add XdG XdS),oM 2 XeX]
def Xxk:VC:=.seq (.reg [oD 1 (.box τ0),oD 2 (.mv (.const (.string ⟨⟨[]⟩⟩)))]) (.seq (.seq (.reg [oD 3 (.loadN [.bool,(.int .u64),(.int .u64)] τ1),oD 4 (.callF 42 [τ3]),oD 5 (.not τ4)]) (.cond τ5 (.seq (.reg [oD 2 (.mv (.const (.string ⟨⟨[]⟩⟩)))]) .ret) .skip)) (.seq (.seq (.reg [oD 6 (.fieldA 0 τ1),oD 7 (.load1 .bool τ6)]) (.cond τ7 (.seq XSv .ret) .skip)) (.seq (.reg [oD 15 (.fieldA 2 τ1),oD 16 (.load1 (.int .u64) XeQ),oD 17 (.callF 46 [XeY,(.const (.int .i64 4))]),oM 2 Xe5]) .ret)))
def XRb:VFn:=⟨18,Xxk,[.tmp 2]⟩
def XFo:VC:=.seq (.reg [oD 4 (.mv (.const (.string ⟨⟨[]⟩⟩)))]) (.seq (.reg [oM 5 τ0,oD 6 (.conv .u64 τ5),oM 7 τ1,oD 8 (.callF 46 [τ6,τ7]),oM 4 τ8]) .ret)
def XSh:VFn:=⟨9,XFo,[.tmp 4]⟩
def XNW:VC:=.seq (.reg [oD 1 (.box τ0),oD 2 (.mv (.const (.bool false)))]) (.seq (.reg [oD 3 (.fieldA 0 τ1),oD 4 (.load1 (.int .i64) τ3),oD 5 (.callF 106 [τ4,(.const (.int .i64 65535))]),oM 6 τ5,oG 7 (.fieldA 1 τ1) 6 true,oG 8 (.load1 (.int .i64) τ7) 6 true,oG 9 (.callF 106 [τ8,(.const (.int .i64 65535))]) 6 true,oD 10 (.pick τ6 τ9 (.const (.bool false))),oM 11 XdG,oG 12 (.fieldA 4 τ1) 11 true,oG 13 (.load1 (.int .i64) Xeg) 11 true,oG 14 (.callF 106 [XdS,(.const (.int .i64 255))]) 11 true,oD 15 (.pick Xdt XeX (.const (.bool false))),oM 16 XeQ,oG 17 (.fieldA 5 τ1) 16 true,oG 18 (.load1 (.int .i64) Xe5) 16 true,oG 19 (.callF 106 [XfK,(.const (.int .i64 65535))]) 16 true,oD 20 (.pick XeY XfU (.const (.bool false))),oM 21 Xf3,oG 22 (.fieldA 6 τ1) 21 true,oG 23 (.load1 (.int .i64) XgR) 21 true,oG 24 (.callF 106 [XgP,(.const (.int .i64 65535))]) 21 true,oD 25 (.pick Xf9 Xf2 (.const (.bool false))),oM 26 Xhc,oG 27 (.fieldA 7 τ1) 26 true,oG 28 (.load1 .str Xhd) 26 true,oG 29 (.lenS Xhe) 26 true,oG 30 (.bin .leq Xha (.const (.int .i64 40))) 26 true,oD 31 (.pick Xg5 XhJ (.const (.bool false))),oM 32 XhR,oG 33 (.fieldA 7 τ1) 32 true,oG 34 (.load1 .str Xh8) 32 true,oG 35 (.lenS Xic) 32 true,oG 36 (.bin .rem Xig (.const (.int .i64 4))) 32 true,oG 37 (.bin .eql Xin (.const (.int .i64 0))) 32 true,oD 38 (.pick Xho XhW (.const (.bool false))),oM 2 Xja]) .ret)
def fn78:VFn:=⟨39,XNW,[.tmp 2]⟩
def XGC:VC:=.seq (.reg [oD 4 (.mv (.const (.bool false)))]) (.seq (.reg [oM 5 τ0,oD 6 (.bin .geq τ5 (.const (.int .i64 0))),oM 7 τ6,oG 8 (.mv τ0) 7 true,oG 9 (.mv τ1) 7 true,oG 10 (.bin .leq τ8 τ9) 7 true,oD 11 (.pick τ7 XdG (.const (.bool false))),oM 4 Xdt]) .ret)
def XPM:VFn:=⟨12,XGC,[.tmp 4]⟩
def XRO:VC:=.seq (.reg [oD 2 (.mv (.const (.int .i64 0)))]) (.seq (.reg [oM 3 τ0,oD 4 (.callF 60 [τ3]),oD 5 (.bin .sub (.const (.int .i64 65535)) τ4),oM 2 τ5]) .ret)
def fn48:VFn:=⟨6,XRO,[.tmp 2]⟩
def XRd:VC:=.seq (.reg [oD 2 (.mv (.const (.int .i64 0)))]) (.seq (.reg [oM 3 τ0,oD 4 (.callF 93 [τ3]),oD 5 (.callF 92 [τ4]),oM 2 τ5]) .ret)
def fn60:VFn:=⟨6,XRd,[.tmp 2]⟩
def XxF:VC:=.seq (.seq (.reg [oM 11 τ4,oM 12 τ0,oD 13 (.lenS Xeg),oD 14 (.bin .lss Xdt XdS)]) (.cond XeX .skip (.exit 0))) (.seq (.block 1 (.reg [oM 17 τ3,oM 18 τ0,oM 19 τ4,oD 20 (.callF 62 [XfK,XfU,(.const (.int .i64 2))]),oD 21 (.buildSl 1 1 [(.int .i64 0)] [(0,1,Xf3)]),oD 22 (.app 3 1 8 Xe5 Xf9),oM 3 XgR])) (.reg [oM 15 τ4,oD 16 (.bin .add XeQ (.const (.int .i64 2))),oM 4 XeY]))
def XGv:VC:=.seq (.reg [oM 23 τ3,oM 2 XgP]) .ret
def XFe:VC:=.seq (.reg [oD 2 (.mv (.const (.slice none 0 0)))]) (.seq (.seq (.reg [oM 5 τ0,oD 6 (.lenS τ5),oD 7 (.bin .rem τ6 (.const (.int .i64 2))),oD 8 (.bin .eql τ7 (.const (.int .i64 1)))]) (.cond τ8 (.reg [oM 9 τ0,oD 10 (.bin .add τ9 (.const (.string ⟨⟨[0]⟩⟩))),oM 0 XdG]) .skip)) (.seq (.reg [oD 3 (.mv (.const (.slice none 0 0)))]) (.seq (.seq (.reg [oD 4 (.mv (.const (.int .i64 0)))]) (.block 0 (.loop XxF))) XGv)))
def fn93:VFn:=⟨24,XFe,[.tmp 2]⟩
theorem XQj:(Tryz.prog.funcs[4]?).bind (XaR Tryz.prog)=some fn4:=by kernel_rfl
theorem XJV:(Tryz.prog.funcs[20]?).bind (XaR Tryz.prog)=some fn20:=by kernel_rfl
theorem XJi:(Tryz.prog.funcs[41]?).bind (XaR Tryz.prog)=some fn41:=by kernel_rfl
theorem XKP:(Tryz.prog.funcs[42]?).bind (XaR Tryz.prog)=some fn42:=by kernel_rfl
theorem XSR:(Tryz.prog.funcs[7]?).bind (XaR Tryz.prog)=some fn7:=by kernel_rfl
theorem XMR:(Tryz.prog.funcs[8]?).bind (XaR Tryz.prog)=some fn8:=by kernel_rfl
theorem XKt:(Tryz.prog.funcs[10]?).bind (XaR Tryz.prog)=some fn10:=by kernel_rfl
theorem XL9:(Tryz.prog.funcs[28]?).bind (XaR Tryz.prog)=some fn28:=by kernel_rfl
theorem XL2:(Tryz.prog.funcs[29]?).bind (XaR Tryz.prog)=some fn29:=by kernel_rfl
theorem XLn:(Tryz.prog.funcs[50]?).bind (XaR Tryz.prog)=some fn50:=by kernel_rfl
theorem XHZ:(Tryz.prog.funcs[85]?).bind (XaR Tryz.prog)=some fn85:=by kernel_rfl
theorem XAT:(Tryz.prog.funcs[113]?).bind (XaR Tryz.prog)=some XPS:=by kernel_rfl
theorem XLC:(Tryz.prog.funcs[51]?).bind (XaR Tryz.prog)=some fn51:=by kernel_rfl
theorem XJP:(Tryz.prog.funcs[52]?).bind (XaR Tryz.prog)=some fn52:=by kernel_rfl
theorem XJ9:(Tryz.prog.funcs[86]?).bind (XaR Tryz.prog)=some fn86:=by kernel_rfl
theorem XKT:(Tryz.prog.funcs[95]?).bind (XaR Tryz.prog)=some fn95:=by kernel_rfl
theorem XKN:(Tryz.prog.funcs[69]?).bind (XaR Tryz.prog)=some fn69:=by kernel_rfl
theorem XIw:(Tryz.prog.funcs[53]?).bind (XaR Tryz.prog)=some fn53:=by kernel_rfl
theorem XLr:(Tryz.prog.funcs[54]?).bind (XaR Tryz.prog)=some fn54:=by kernel_rfl
theorem XKd:(Tryz.prog.funcs[87]?).bind (XaR Tryz.prog)=some fn87:=by kernel_rfl
theorem XAV:(Tryz.prog.funcs[114]?).bind (XaR Tryz.prog)=some XSr:=by kernel_rfl
theorem XCF:(Tryz.prog.funcs[128]?).bind (XaR Tryz.prog)=some XQd:=by kernel_rfl
theorem XEy:(Tryz.prog.funcs[115]?).bind (XaR Tryz.prog)=some XSU:=by kernel_rfl
theorem XIt:(Tryz.prog.funcs[30]?).bind (XaR Tryz.prog)=some fn30:=by kernel_rfl
theorem XL1:(Tryz.prog.funcs[55]?).bind (XaR Tryz.prog)=some fn55:=by kernel_rfl
theorem XIh:(Tryz.prog.funcs[88]?).bind (XaR Tryz.prog)=some fn88:=by kernel_rfl
theorem XCC:(Tryz.prog.funcs[116]?).bind (XaR Tryz.prog)=some XRI:=by kernel_rfl
theorem XA0:(Tryz.prog.funcs[129]?).bind (XaR Tryz.prog)=some XSF:=by kernel_rfl
theorem XBb:(Tryz.prog.funcs[135]?).bind (XaR Tryz.prog)=some XOy:=by kernel_rfl
theorem XB6:(Tryz.prog.funcs[136]?).bind (XaR Tryz.prog)=some XNL:=by kernel_rfl
theorem XBI:(Tryz.prog.funcs[130]?).bind (XaR Tryz.prog)=some XS9:=by kernel_rfl
theorem XIF:(Tryz.prog.funcs[89]?).bind (XaR Tryz.prog)=some fn89:=by kernel_rfl
theorem XEu:(Tryz.prog.funcs[117]?).bind (XaR Tryz.prog)=some XOw:=by kernel_rfl
theorem XBg:(Tryz.prog.funcs[131]?).bind (XaR Tryz.prog)=some XPp:=by kernel_rfl
theorem XDY:(Tryz.prog.funcs[137]?).bind (XaR Tryz.prog)=some XQ0:=by kernel_rfl
theorem XEs:(Tryz.prog.funcs[138]?).bind (XaR Tryz.prog)=some XNb:=by kernel_rfl
theorem XKm:(Tryz.prog.funcs[71]?).bind (XaR Tryz.prog)=some fn71:=by kernel_rfl
theorem XC5:(Tryz.prog.funcs[139]?).bind (XaR Tryz.prog)=some XSx:=by kernel_rfl
theorem XEd:(Tryz.prog.funcs[140]?).bind (XaR Tryz.prog)=some XR7:=by kernel_rfl
theorem XCi:(Tryz.prog.funcs[142]?).bind (XaR Tryz.prog)=some XOs:=by kernel_rfl
theorem XDq:(Tryz.prog.funcs[141]?).bind (XaR Tryz.prog)=some XPW:=by kernel_rfl
theorem XB8:(Tryz.prog.funcs[132]?).bind (XaR Tryz.prog)=some XPi:=by kernel_rfl
theorem XCY:(Tryz.prog.funcs[119]?).bind (XaR Tryz.prog)=some XQB:=by kernel_rfl
theorem XDu:(Tryz.prog.funcs[120]?).bind (XaR Tryz.prog)=some XN8:=by kernel_rfl
theorem XBf:(Tryz.prog.funcs[133]?).bind (XaR Tryz.prog)=some XPQ:=by kernel_rfl
theorem XKb:(Tryz.prog.funcs[91]?).bind (XaR Tryz.prog)=some fn91:=by kernel_rfl
theorem XLg:(Tryz.prog.funcs[90]?).bind (XaR Tryz.prog)=some fn90:=by kernel_rfl
theorem XDs:(Tryz.prog.funcs[118]?).bind (XaR Tryz.prog)=some XMN:=by kernel_rfl
theorem XIN:(Tryz.prog.funcs[68]?).bind (XaR Tryz.prog)=some fn68:=by kernel_rfl
theorem XLk:(Tryz.prog.funcs[96]?).bind (XaR Tryz.prog)=some fn96:=by kernel_rfl
theorem XIY:(Tryz.prog.funcs[97]?).bind (XaR Tryz.prog)=some fn97:=by kernel_rfl
theorem XIM:(Tryz.prog.funcs[98]?).bind (XaR Tryz.prog)=some fn98:=by kernel_rfl
theorem XLD:(Tryz.prog.funcs[31]?).bind (XaR Tryz.prog)=some fn31:=by kernel_rfl
theorem XJu:(Tryz.prog.funcs[32]?).bind (XaR Tryz.prog)=some fn32:=by kernel_rfl
theorem XH8:(Tryz.prog.funcs[57]?).bind (XaR Tryz.prog)=some fn57:=by kernel_rfl
theorem XJX:(Tryz.prog.funcs[59]?).bind (XaR Tryz.prog)=some fn59:=by kernel_rfl
theorem XLt:(Tryz.prog.funcs[58]?).bind (XaR Tryz.prog)=some fn58:=by kernel_rfl
theorem XJM:(Tryz.prog.funcs[56]?).bind (XaR Tryz.prog)=some fn56:=by kernel_rfl
theorem XJj:(Tryz.prog.funcs[67]?).bind (XaR Tryz.prog)=some fn67:=by kernel_rfl
theorem XIq:(Tryz.prog.funcs[70]?).bind (XaR Tryz.prog)=some fn70:=by kernel_rfl
theorem XDl:(Tryz.prog.funcs[100]?).bind (XaR Tryz.prog)=some XRR:=by kernel_rfl
theorem XGY:(Tryz.prog.funcs[99]?).bind (XaR Tryz.prog)=some fn99:=by kernel_rfl
theorem XC6:(Tryz.prog.funcs[122]?).bind (XaR Tryz.prog)=some XSV:=by kernel_rfl
theorem XCp:(Tryz.prog.funcs[134]?).bind (XaR Tryz.prog)=some XRD:=by kernel_rfl
theorem XL3:(Tryz.prog.funcs[72]?).bind (XaR Tryz.prog)=some fn72:=by kernel_rfl
theorem XJR:(Tryz.prog.funcs[12]?).bind (XaR Tryz.prog)=some fn12:=by kernel_rfl
theorem XH1:(Tryz.prog.funcs[36]?).bind (XaR Tryz.prog)=some fn36:=by kernel_rfl
theorem XG5:(Tryz.prog.funcs[17]?).bind (XaR Tryz.prog)=some fn17:=by kernel_rfl
theorem XJW:(Tryz.prog.funcs[37]?).bind (XaR Tryz.prog)=some fn37:=by kernel_rfl
theorem XIJ:(Tryz.prog.funcs[65]?).bind (XaR Tryz.prog)=some fn65:=by kernel_rfl
theorem XJb:(Tryz.prog.funcs[66]?).bind (XaR Tryz.prog)=some fn66:=by kernel_rfl
theorem XIL:(Tryz.prog.funcs[38]?).bind (XaR Tryz.prog)=some fn38:=by kernel_rfl
theorem XIn:(Tryz.prog.funcs[16]?).bind (XaR Tryz.prog)=some fn16:=by kernel_rfl
theorem XIS:(Tryz.prog.funcs[14]?).bind (XaR Tryz.prog)=some fn14:=by kernel_rfl
theorem XK9:(Tryz.prog.funcs[19]?).bind (XaR Tryz.prog)=some fn19:=by kernel_rfl
theorem XHx:(Tryz.prog.funcs[22]?).bind (XaR Tryz.prog)=some fn22:=by kernel_rfl
theorem XHK:(Tryz.prog.funcs[45]?).bind (XaR Tryz.prog)=some fn45:=by kernel_rfl
theorem XIm:(Tryz.prog.funcs[46]?).bind (XaR Tryz.prog)=some fn46:=by kernel_rfl
theorem XKg:(Tryz.prog.funcs[21]?).bind (XaR Tryz.prog)=some fn21:=by kernel_rfl
theorem XID:(Tryz.prog.funcs[43]?).bind (XaR Tryz.prog)=some fn43:=by kernel_rfl
theorem XKI:(Tryz.prog.funcs[77]?).bind (XaR Tryz.prog)=some fn77:=by kernel_rfl
theorem XCc:(Tryz.prog.funcs[104]?).bind (XaR Tryz.prog)=some XRb:=by kernel_rfl
theorem XDa:(Tryz.prog.funcs[105]?).bind (XaR Tryz.prog)=some XSh:=by kernel_rfl
theorem XJw:(Tryz.prog.funcs[78]?).bind (XaR Tryz.prog)=some fn78:=by kernel_rfl
theorem XEE:(Tryz.prog.funcs[106]?).bind (XaR Tryz.prog)=some XPM:=by kernel_rfl
theorem XJ0:(Tryz.prog.funcs[48]?).bind (XaR Tryz.prog)=some fn48:=by kernel_rfl
theorem XLW:(Tryz.prog.funcs[60]?).bind (XaR Tryz.prog)=some fn60:=by kernel_rfl
theorem XLh:(Tryz.prog.funcs[93]?).bind (XaR Tryz.prog)=some fn93:=by kernel_rfl
end Go.Vm.Code
