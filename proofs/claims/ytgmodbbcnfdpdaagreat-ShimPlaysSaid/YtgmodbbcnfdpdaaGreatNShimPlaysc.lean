import Derived.Test.YtgmodbbcnfdpdaaGreatNShimPlaysb
namespace Go.Vm
open Go Go.RowKit
def req (b:Bool) (p:Prop):Prop:=match b with|true=>p|false=>False
theorem req.intro {b:Bool} {p:Prop} (h:b=true) (k:p):req b p:=by subst h;exact k
theorem req.elim {b:Bool} {p:Prop} (h:req b p):b=true∧p:=by cases b;exact h.elim;exact ⟨rfl,h⟩
def br (b:Bool) (p q:Prop):Prop:=match b with|true=>p|false=>q
theorem br.intro {b:Bool} {p q:Prop} (h:b=true→p) (k:b=false→q):br b p q:=by cases b;exact k rfl;exact h rfl
theorem br.pos {b:Bool} {p q:Prop} (e:b=true) (h:p):br b p q:=by subst e;exact h
theorem br.neg {b:Bool} {p q:Prop} (e:b=false) (h:q):br b p q:=by subst e;exact h
def XhJ (v:Value) (K:Value→Prop):Prop:=
 match v with
 | .bool b=>K (.bool b)
 | .int k n=>K (.int k n)
 | .float k n=>K (.float k n)
 | .string s=>K (.string s)
 | .pointer none=>K (.pointer none)
 | .pointer (some a)=>K (.pointer (some a))
 | .slice none n c=>K (.slice none n c)
 | .slice (some a) n c=>K (.slice (some a) n c)
 | .func f a b=>K (.func f a b)
 | .nilFunc=>K .nilFunc
 | .nilIface=>K .nilIface
 | .iface t v=>K (.iface t v)
 | .agg a=>K (.agg a)
 | .tuple a=>K (.tuple a)
 | .map none=>K (.map none)
 | .map (some b)=>K (.map (some b))
 | v=>K v
theorem XgH (v:Value) (K:Value→Prop):XhJ v K=K v:=by
 unfold XhJ;split<;>rfl
def Xnx (l:List Value) (K:List Value→Prop):Prop:=
 match l with
 | []=>K []
 | v::l=>Xnx l (fun l'=>K (v::l'))
theorem XjQ:∀ (l:List Value) (K:List Value→Prop),Xnx l K=K l
 | [],_=>rfl
 | v::l,K=>by rw [Xnx,XjQ l]
def Xuo {α:Type} (l:List (Nat×α)) (j:Nat) (K:List (Nat×α)→Prop):Prop:=
 match l with
 | []=>K []
 | (i,x)::l=>cond (Nat.beq i j) (Xuo l j K) (Xuo l j (fun l'=>K ((i,x)::l')))
theorem XmW {α:Type}:∀ (l:List (Nat×α)) (j:Nat) (K:List (Nat×α)→Prop),Xuo l j K=K (XoD l j)
 | [],_,_=>rfl
 | (i,x)::l,j,K=>by
   simp only [Xuo,XoD]
   cases Nat.beq i j
   ·simp only [cond_false];rw [XmW l]
   ·simp only [cond_true];rw [XmW l]
def XrU {α:Type} (l:List (Nat×α)) (i:Nat) (x:α) (K:List (Nat×α)→Prop):Prop:=Xuo l i (fun l'=>K ((i,x)::l'))
theorem Xjv {α:Type} (l:List (Nat×α)) (i:Nat) (x:α) (K:List (Nat×α)→Prop):XrU l i x K=K (Xf0 l i x):=XmW _ _ _
def rd (cs:List Value) (o:Nat) (K:Value→Prop):Prop:=match cs[o]? with|some v=>XhJ v K|none=>False
theorem rd.intro {cs:List Value} {o:Nat} {K:Value→Prop} {v:Value} (h:cs[o]?=some v) (k:XhJ v K):rd cs o K:=by unfold rd;rw [h];exact k
theorem rd.elim {cs:List Value} {o:Nat} {K:Value→Prop} (h:rd cs o K):∃ v,cs[o]?=some v∧K v:=by
 unfold rd at h
 split at h
 ·rename_i v hv;rw [XgH] at h;exact ⟨v,hv,h⟩
 ·exact h.elim
def rdN (cs:List Value) (o:Nat) (n:Nat) (K:List Value→Prop):Prop:=
 match n with
 | 0=>K []
 | n+1=>rd cs o fun v=>rdN cs (o+1) n fun l=>K (v::l)
theorem rdN.elim:∀ {n:Nat} {cs:List Value} {o:Nat} {K:List Value→Prop},rdN cs o n K→(o+n≤cs.length∨n=0)∧K ((cs.drop o).take n)
 | 0,cs,o,K,h=>⟨.inr rfl,by simpa [rdN] using h⟩
 | n+1,cs,o,K,h=>by
   obtain ⟨v,hv,h2⟩:=rd.elim h
   obtain ⟨h3,h4⟩:=rdN.elim h2
   have hlt:o<cs.length:=by
    rcases Nat.lt_or_ge o cs.length with h|h
    ·exact h
    ·rw [List.getElem?_eq_none h] at hv;cases hv
   refine ⟨.inl (by omega),?_⟩
   have:(cs.drop o).take (n+1)=v::(cs.drop (o+1)).take n:=by
    rw [List.drop_eq_getElem_cons hlt,List.take_succ_cons]
    rw [List.getElem?_eq_getElem hlt,Option.some.injEq] at hv
    rw [hv]
   rw [this];exact h4
abbrev CK:=Option Value→List (Option XbF)→Option XbF→Prop
def XHl (r:Option Xdm) (K:CK):Prop:=
 match r with
 | some ⟨some v,os,fr⟩=>XhJ v fun v=>K (some v) os fr
 | some ⟨none,os,fr⟩=>K none os fr
 | none=>False
def Good (r:Option Xdm) (K:CK):Prop:=∃ v os fr,r=some ⟨v,os,fr⟩∧K v os fr
theorem XHl.good {r:Option Xdm} {K:CK} (h:XHl r K):Good r K:=by
 unfold XHl at h
 split at h
 ·rw [XgH] at h;exact ⟨_,_,_,rfl,h⟩
 ·exact ⟨_,_,_,rfl,h⟩
 ·exact h.elim
def valK (v:Value) (K:CK):Prop:=XhJ v fun v=>K (some v) [] none
def Xus:List (Nat×Nat×Value)→List Value→(List Value→Prop)→Prop
 | [],cs,K=>K cs
 | (off,size,v)::rest,cs,K=>cond (Nat.beq (Xbd v).length size&&Nat.ble (off+size) cs.length) (Xnx (setAt cs off (Xbd v)) fun cs'=>Xus rest cs' K) False
theorem Xus.elim:∀ {l:List (Nat×Nat×Value)} {cs:List Value} {K:List Value→Prop},Xus l cs K→∃ cs',XqG cs l=some cs'∧K cs'
 | [],cs,K,h=>⟨cs,rfl,h⟩
 | (off,size,v)::rest,cs,K,h=>by
   rw [Xus] at h
   cases hb:(Nat.beq (Xbd v).length size&&Nat.ble (off+size) cs.length)
   ·rw [hb] at h;exact h.elim
   ·rw [hb,cond_true,XjQ] at h
    obtain ⟨cs',h1,h2⟩:=Xus.elim h
    rw [Bool.and_eq_true] at hb
    exact ⟨cs',by rw [XqG,if_pos ⟨Nat.eq_of_beq_eq_true hb.1,Nat.le_of_ble_eq_true hb.2⟩,h1],h2⟩
def XuS (z:List Value) (ps:List (Nat×Nat×Operand)) (vals:List Value) (objs:List XbF) (K:CK):Prop:=
 match objs with
 | []=>cond (Nat.beq vals.length ps.length) (Xus (XF5 ps vals) z fun cs=>K (some (.agg ⟨cs⟩)) [] none) False
 | _=>False
def Xqj (len sz:Nat) (z:List Value) (ps:List (Nat×Nat×Operand)) (vals:List Value) (objs:List XbF) (top:Nat) (K:CK):Prop:=
 match objs with
 | []=>cond (Nat.beq vals.length ps.length) (Xus (XF5 ps vals) z fun cs=>K (some (.slice (some ⟨top,0,none⟩) len sz)) [] (some (.row true cs))) False
 | _=>False
theorem Xtr {z:List Value} {ps:List (Nat×Nat×Operand)} {vals:List Value} {objs:List XbF} {K:CK} (h:XuS z ps vals objs K):Good (Xle z ps vals objs) K:=by
 unfold XuS at h
 split at h
 ·cases hb:Nat.beq vals.length ps.length
  ·rw [hb] at h;exact h.elim
  ·rw [hb,cond_true] at h
   obtain ⟨cs,h1,h2⟩:=h.elim
   exact ⟨_,_,_,by simp only [Xle,if_pos (Nat.eq_of_beq_eq_true hb),h1];rfl,h2⟩
 ·exact h.elim
theorem XqJ {len sz:Nat} {z:List Value} {ps:List (Nat×Nat×Operand)} {vals:List Value} {objs:List XbF} {top:Nat} {K:CK} (h:Xqj len sz z ps vals objs top K):Good (XkQ len sz z ps vals objs top) K:=by
 unfold Xqj at h
 split at h
 ·cases hb:Nat.beq vals.length ps.length
  ·rw [hb] at h;exact h.elim
  ·rw [hb,cond_true] at h
   obtain ⟨cs,h1,h2⟩:=h.elim
   exact ⟨_,_,_,by simp only [XkQ,if_pos (Nat.eq_of_beq_eq_true hb),h1],h2⟩
 ·exact h.elim
def Xzb (vals:List Value) (objs:List XbF) (K:CK):Prop:=
 match vals,objs with
 | [.bool c,a,b],[]=>br c (valK a K) (valK b K)
 | _,_=>False
def Xvb (vals:List Value) (objs:List XbF) (K:CK):Prop:=
 match vals,objs with
 | [.pointer (some ⟨_,o,none⟩)],[.cells cs]=>rd cs o fun v=>K (some v) [some (.cells cs)] none
 | [.pointer (some ⟨_,o,none⟩)],[.row w cs]=>rd cs o fun v=>K (some v) [some (.row w cs)] none
 | [.pointer (some ⟨_,o,none⟩)],[.ty t cs]=>rd cs o fun v=>K (some v) [some (.ty t cs)] none
 | _,_=>False
def XuD (n:Nat) (vals:List Value) (objs:List XbF) (K:CK):Prop:=
 match vals,objs with
 | [.pointer (some ⟨_,o,none⟩)],[.cells cs]=>req (decide (o+n≤cs.length)) (rdN cs o n fun l=>K (some (.agg ⟨l⟩)) [some (.cells cs)] none)
 | [.pointer (some ⟨_,o,none⟩)],[.row w cs]=>req (decide (o+n≤cs.length)) (rdN cs o n fun l=>K (some (.agg ⟨l⟩)) [some (.row w cs)] none)
 | [.pointer (some ⟨_,o,none⟩)],[.ty t cs]=>req (decide (o+n≤cs.length)) (rdN cs o n fun l=>K (some (.agg ⟨l⟩)) [some (.ty t cs)] none)
 | _,_=>False
def XuY (n:Nat) (vals:List Value) (objs:List XbF) (K:CK):Prop:=
 match vals,objs with
 | [.pointer (some ⟨_,o,none⟩),v],[.cells cs]=>req (decide ((Xbd v).length=n∧o+n≤cs.length)&&(Xbd v).all Xir) (Xnx (setAt cs o (Xbd v)) fun cs'=>K none [some (.cells cs')] none)
 | [.pointer (some ⟨_,o,none⟩),v],[.ty t cs]=>req (decide ((Xbd v).length=n∧o+n≤cs.length)&&(Xbd v).all Xir) (Xnx (setAt cs o (Xbd v)) fun cs'=>K none [some (.ty t cs')] none)
 | [.pointer (some ⟨_,o,none⟩),v],[.row true cs]=>req (decide ((Xbd v).length=n∧o+n≤cs.length)&&(Xbd v).all Xir) (∃ cs',setAt cs o (Xbd v)=cs'∧K none [some (.row true cs')] none)
 | _,_=>False
def binK (op:BinOp) (x y:Value) (K:CK):Prop:=
 match x,y with
 | .int k a,.int k' b=>match op with
   | .shl=>req (decide (0≤b)) (K (some (.int k (k.wrap (a*2^(min b.toNat k.bits))))) [] none)
   | .shr=>req (decide (0≤b)) (K (some (.int k (a.fdiv (2^(min b.toNat k.bits))))) [] none)
   | .quo=>req (decide (k=k')&&!(decide (b=0))) (K (some (.int k (k.wrap (a.tdiv b)))) [] none)
   | .rem=>req (decide (k=k')&&!(decide (b=0))) (K (some (.int k (a.tmod b))) [] none)
   | op=>XHl (match XxK op (.int k a) (.int k' b) with|some v=>val v|none=>none) K
 | .string a,.string b=>match op with
   | .add=>req (decide (a.data.toList.length+b.data.toList.length<2^63)) (K (some (.string ⟨⟨a.data.toList++b.data.toList⟩⟩)) [] none)
   | op=>XHl (match XxK op (.string a) (.string b) with|some v=>val v|none=>none) K
 | _,_=>False
def XMc (op:BinOp) (vals:List Value) (objs:List XbF) (K:CK):Prop:=
 match vals,objs with
 | [x,y],[]=>binK op x y K
 | _,_=>False
def XuB (k:Nat) (neg:Bool) (vals:List Value) (objs:List XbF) (K:CK):Prop:=
 match k,vals,objs with
 | 1,[.slice (some _) n _],[]=>req (Nat.blt 0 n) (K (some (.bool neg)) [] none)
 | k,vals,objs=>XHl (Xmp k neg vals objs) K
def XMH (vals:List Value) (objs:List XbF) (K:CK):Prop:=
 match vals,objs with
 | [.slice none 0 _],[]=>K (some (.string ⟨⟨[]⟩⟩)) [] none
 | [.slice (some ⟨_,o,none⟩) n 1],[ob]=>match ob.cs with
    | some cs=>req (decide (o+n≤cs.length)) (∃ bs,XgA ((cs.drop o).take n)=some bs∧K (some (.string ⟨⟨bs⟩⟩)) [some ob] none)
    | none=>False
 | _,_=>False
def XKb (vals:List Value) (objs:List XbF) (top:Nat) (K:CK):Prop:=
 match vals,objs with
 | [.string s],[]=>∃ cs',ofBytes s.data.toList=cs'∧K (some (.slice (some ⟨top,0,none⟩) s.data.toList.length 1)) [] (some (.row true cs'))
 | _,_=>False
def XA7 (sz bytes:Nat) (z:List Value) (vals:List Value) (objs:List XbF) (top:Nat) (K:CK):Prop:=
 match vals,objs with
 | [.int _ l,.int _ c],[]=>req (decide (0≤l∧l≤c∧c<2^63∧(bytes:Int)*c≤2^48))
    (∃ cs',(List.replicate c.toNat z).flatten=cs'∧K (some (.slice (some ⟨top,0,none⟩) l.toNat sz)) [] (some (.row true cs')))
 | _,_=>False
def Xp4 (n:Nat) (hasLo hasHi:Bool) (bs:List Value) (K:Nat→Nat→Prop):Prop:=
 match hasLo,hasHi,bs with
 | false,false,[]=>K 0 n
 | true,false,[.int _ l]=>req (decide (0≤l∧l≤n)) (K l.toNat n)
 | false,true,[.int _ h]=>req (decide (0≤h∧h≤n)) (K 0 h.toNat)
 | true,true,[.int _ l,.int _ h]=>req (decide (0≤h∧h≤n∧0≤l∧l≤h.toNat)) (K l.toNat h.toNat)
 | _,_,_=>False
theorem Xp4.elim {n:Nat} {hl hh:Bool} {bs:List Value} {K:Nat→Nat→Prop} (h:Xp4 n hl hh bs K):∃ l u,XBw n hl hh bs=some (l,u)∧K l u:=by
 unfold Xp4 at h
 split at h
 ·exact ⟨_,_,rfl,h⟩
 ·obtain ⟨h1,h2⟩:=h.elim;exact ⟨_,_,by simp only [XBw];rw [if_pos (of_decide_eq_true h1)],h2⟩
 ·obtain ⟨h1,h2⟩:=h.elim;exact ⟨_,_,by simp only [XBw];rw [if_pos (of_decide_eq_true h1)],h2⟩
 ·obtain ⟨h1,h2⟩:=h.elim;exact ⟨_,_,by simp only [XBw];rw [if_pos (of_decide_eq_true h1)],h2⟩
 ·exact h.elim
def XrQ (bl bh:Bool) (vals:List Value) (objs:List XbF) (K:CK):Prop:=
 match vals,objs with
 | .string s::bs,[]=>Xp4 s.data.toList.length bl bh bs fun l h=>K (some (.string ⟨⟨(s.data.toList.drop l).take (h - l)⟩⟩)) [] none
 | _,_=>False
def Xsq (sz:Nat) (bl bh:Bool) (vals:List Value) (objs:List XbF) (K:CK):Prop:=
 match vals,objs with
 | .slice none 0 c::bs,[]=>Xp4 0 bl bh bs fun _ _=>K (some (.slice none 0 c)) [] none
 | .slice (some ⟨b,o,none⟩) n sz'::bs,[]=>req (Nat.beq sz sz') (Xp4 n bl bh bs fun l h=>K (some (.slice (some ⟨b,o+l*sz,none⟩) (h - l) sz)) [] none)
 | _,_=>False
def XrV (n sz:Nat) (bl bh:Bool) (vals:List Value) (objs:List XbF) (K:CK):Prop:=
 match vals,objs with
 | .pointer (some ⟨b,o,none⟩)::bs,[ob]=>match ob.cs with
   | some cs=>req (decide (o+n*sz≤cs.length)) (Xp4 n bl bh bs fun l h=>K (some (.slice (some ⟨b,o+l*sz,none⟩) (h - l) sz)) [some ob] none)
   | none=>False
 | _,_=>False
def Xup (n sz:Nat) (vals:List Value) (objs:List XbF) (K:CK):Prop:=
 match vals,objs with
 | [.pointer (some ⟨b,o,none⟩),.int _ i],[]=>req (decide (0≤i∧i<n)) (K (some (.pointer (some ⟨b,o+i.toNat*sz,none⟩))) [] none)
 | _,_=>False
def Xuy (sz:Nat) (vals:List Value) (objs:List XbF) (K:CK):Prop:=
 match vals,objs with
 | [.slice (some ⟨b,o,none⟩) n _,.int _ i],[]=>req (decide (0≤i∧i<n)) (K (some (.pointer (some ⟨b,o+i.toNat*sz,none⟩))) [] none)
 | _,_=>False
def Xva (n:Nat) (vals:List Value) (objs:List XbF) (K:CK):Prop:=
 match vals,objs with
 | [.agg ⟨cs⟩,.int _ i],[]=>req (decide (0≤i∧i<n)) (rd cs i.toNat fun v=>K (some v) [] none)
 | _,_=>False
def Xu6 (n sz:Nat) (vals:List Value) (objs:List XbF) (K:CK):Prop:=
 match vals,objs with
 | [.agg ⟨cs⟩,.int _ i],[]=>req (decide (0≤i∧i<n∧i.toNat*sz+sz≤cs.length)) (rdN cs (i.toNat*sz) sz fun l=>K (some (.agg ⟨l⟩)) [] none)
 | _,_=>False
def rdS (s:List UInt8) (i:Nat) (K:UInt8→Prop):Prop:=match s[i]? with|some b=>K b|none=>False
theorem rdS.intro {s:List UInt8} {i:Nat} {K:UInt8→Prop} {b:UInt8} (h:s[i]?=some b) (k:K b):rdS s i K:=by unfold rdS;rw [h];exact k
theorem rdS.elim {s:List UInt8} {i:Nat} {K:UInt8→Prop} (h:rdS s i K):∃ b,s[i]?=some b∧K b:=by
 unfold rdS at h;split at h
 ·exact ⟨_,by assumption,h⟩
 ·exact h.elim
def XyQ (vals:List Value) (objs:List XbF) (K:CK):Prop:=
 match vals,objs with
 | [.string s,.int _ i],[]=>req (decide (0≤i)) (rdS s.data.toList i.toNat fun b=>K (some (.int .u8 b.toNat)) [] none)
 | _,_=>False
def XIU (vals:List Value) (objs:List XbF) (K:CK):Prop:=
 match vals,objs with
 | [.string s,.int .u8 c],[]=>K (some (.int .i64 (ixB s.data.toList c))) [] none
 | _,_=>False
def XzS (sz:Nat) (y:Value) (objs:List XbF) (K:List Value→Nat→Prop):Prop:=
 match y,objs with
 | .string s,_=>K (ofBytes s.data.toList) s.data.toList.length
 | .slice none 0 _,_=>K [] 0
 | .slice (some a) n _,[o]=>match o.cs with
   | some cs=>req (decide (a.off+n*sz≤cs.length)) (K ((cs.drop a.off).take (n*sz)) n)
   | none=>False
 | _,_=>False
theorem XzS.elim {sz:Nat} {y:Value} {objs:List XbF} {K:List Value→Nat→Prop} (h:XzS sz y objs K):∃ c n,Xju sz y objs=some c∧XmH y=some n∧K c n:=by
 unfold XzS at h
 split at h
 ·exact ⟨_,_,rfl,rfl,h⟩
 ·exact ⟨_,_,rfl,rfl,h⟩
 ·split at h
  ·rename_i cs hcs
   obtain ⟨h1,h2⟩:=h.elim
   exact ⟨_,_,by simp only [Xju,hcs];rw [if_pos (of_decide_eq_true h1)],rfl,h2⟩
  ·exact h.elim
 ·exact h.elim
def XJG (t sz bytes:Nat) (vals:List Value) (objs:List XbF) (top:Nat) (K:CK):Prop:=
 match vals,objs with
 | [.slice none 0 _,y],objs=>XzS sz y objs fun new m=>req (decide (m*bytes≤2^47∧new.length=m*sz)) (∃ cs' n',new=cs'∧m=n'∧K (some (.slice (some ⟨top,0,none⟩) n' sz)) (objs.map some) (some (.row true cs')))
 | [.slice (some ⟨b,o,none⟩) n sz',y],.row true cs::objs=>XzS sz y objs fun new m=>
    req (decide ((n+m)*bytes≤2^47∧o+n*sz≤cs.length∧sz=sz'∧new.length=m*sz)&&new.all Xir&&(Xe2 y).all (fun c=>!Nat.beq b c))
     (∃ cs' n',(cs.drop o).take (n*sz)++new=cs'∧n+m=n'∧K (some (.slice (some ⟨top,0,none⟩) n' sz)) (none::objs.map some) (some (.row true cs')))
 | [.func (.method _) ⟨[.slice none 0 e]⟩ ⟨[]⟩, y], objs => XzS sz y objs fun new m => req (decide (m * bytes ≤ 2 ^ 47 ∧ new.length = m * sz ∧ sz = 1 ∧ e = t)) (∃ cs' n', new = cs' ∧ m = n' ∧ K (some (.func (.method "") ⟨[.slice (some ⟨top, 0, none⟩) n' 1]⟩ ⟨[]⟩)) (objs.map some) (some (.ty t cs')))
 | [.func (.method _) ⟨[.slice (some ⟨b,0,none⟩) n 1]⟩ ⟨[]⟩,y],.ty e cs::objs=>XzS sz y objs fun new m=>
    req (decide ((n+m)*bytes≤2^47∧n≤cs.length∧sz=1∧e=t∧new.length=m)&&new.all Xir&&(Xe2 y).all (fun c=>!Nat.beq b c))
     (∃ cs' n', cs.take n ++ new = cs' ∧ n + m = n' ∧ K (some (.func (.method "") ⟨[.slice (some ⟨top, 0, none⟩) n' 1]⟩ ⟨[]⟩)) (none :: objs.map some) (some (.ty t cs')))
 | _,_=>False
def XzN (t:Nat) (vals:List Value) (objs:List XbF) (K:CK):Prop:=
 match vals,objs with
 | [.pointer none,.int .i64 0],[]=>K (some (.string ⟨⟨[]⟩⟩)) [] none
 | [.func (.method _) ⟨[.slice (some ⟨_,0,none⟩) n 1]⟩ ⟨[.bool true]⟩,.int .i64 m],[.ty e cs]=>req (decide (e=t∧m=n∧n≤cs.length∧n<2^63))
    (∃ bs,XgA (cs.take n)=some bs∧K (some (.string ⟨⟨bs⟩⟩)) [some (.row false cs)] none)
 | _,_=>False
def XMP (sz:Nat) (vals:List Value) (objs:List XbF) (K:CK):Prop:=
 match vals,objs with
 | [.slice none 0 _],[]=>K (some (.tuple ⟨[]⟩)) [] none
 | [.slice (some ⟨_,o,none⟩) n sz'],[.row true cs]=>req (decide (sz=sz'∧o+n*sz=cs.length)) (∃ cs',cs.take o=cs'∧K (some (.tuple ⟨[]⟩)) [some (.row true cs')] none)
 | _,_=>False
def XuL (vals:List Value) (objs:List XbF) (K:CK):Prop:=
 match vals,objs with
 | [.pointer (some ⟨_,0,none⟩)],[.siter s pos]=>
    br (decide (pos<s.size)) (K (some (.tuple #[.bool true,.int .i64 pos,.int .i32 (Utf8.decode s pos).1])) [some (.siter s (pos+(Utf8.decode s pos).2))] none)
     (K (some (.tuple #[.bool false])) [some (.siter s pos)] none)
 | _,_=>False
def XzC (os:List (Nat×SK)) (z:Value) (ok:Bool) (vals:List Value) (objs:List XbF) (K:CK):Prop:=
 match vals,objs with
 | [.map none,.agg ⟨k⟩],[]=>req (Xck k k os).isSome (K (some (cond ok (.tuple ⟨[z,.bool false]⟩) z)) [] none)
 | [.map (some _),.agg ⟨k⟩],[.mp cs]=>∃ v b,XxL os z k cs=some (v,b)∧K (some (cond ok (.tuple ⟨[v,.bool b]⟩) v)) [some (.mp cs)] none
 | _,_=>False
def XzO (os:List (Nat×SK)) (vals:List Value) (objs:List XbF) (K:CK):Prop:=
 match vals,objs with
 | [.map (some _),.agg ⟨k⟩,x],[.mp cs]=>∃ cs',Xxw os k x cs=some cs'∧K none [some (.mp cs')] none
 | _,_=>False
def Xz3 (os:List (Nat×SK)) (vals:List Value) (objs:List XbF) (K:CK):Prop:=
 match vals,objs with
 | [.map none,.agg ⟨k⟩],[]=>req (Xck k k os).isSome (K (some (.tuple ⟨[]⟩)) [] none)
 | [.map (some _),.agg ⟨k⟩],[.mp cs]=>∃ cs',Xxk os k cs=some cs'∧K (some (.tuple ⟨[]⟩)) [some (.mp cs')] none
 | _,_=>False
def XAI (vals:List Value) (objs:List XbF) (K:CK):Prop:=
 match vals,objs with
 | [.map none],[]=>K (some (.int .i64 0)) [] none
 | [.map (some _)],[.mp cs]=>∃ n:Nat,cs.length=2*n∧K (some (.int .i64 n)) [some (.mp cs)] none
 | _,_=>False
def XLO (op:VOp) (vals:List Value) (objs:List XbF) (top:Nat) (K:CK):Prop:=
 match op with
 | .pick _ _ _=>Xzb vals objs K
 | .load1 _ _=>Xvb vals objs K
 | .loadN ks _=>XuD ks.length vals objs K
 | .store n _ _=>XuY n vals objs K
 | .bin op _ _=>XMc op vals objs K
 | .isNil k neg _=>XuB k neg vals objs K
 | .b2s _=>XMH vals objs K
 | .s2b _=>XKb vals objs top K
 | .mkSl sz bytes z _ _=>XA7 sz bytes z vals objs top K
 | .sliceS _ lo hi=>XrQ lo.isSome hi.isSome vals objs K
 | .sliceL sz _ lo hi=>Xsq sz lo.isSome hi.isSome vals objs K
 | .sliceA n sz _ lo hi=>XrV n sz lo.isSome hi.isSome vals objs K
 | .idxAA n sz _ _=>Xup n sz vals objs K
 | .idxAL sz _ _=>Xuy sz vals objs K
 | .idxV1 n _ _=>Xva n vals objs K
 | .idxVN n sz _ _=>Xu6 n sz vals objs K
 | .idxS _ _=>XyQ vals objs K
 | .ixb _ _=>XIU vals objs K
 | .app t sz bytes _ _=>XJG t sz bytes vals objs top K
 | .ustr t _ _=>XzN t vals objs K
 | .clr sz _=>XMP sz vals objs K
 | .build z ps=>XuS z ps vals objs K
 | .buildSl len sz z ps=>Xqj len sz z ps vals objs top K
 | .nextS _=>XuL vals objs K
 | .mget os z ok _ _=>XzC os z ok vals objs K
 | .mput os _ _ _=>XzO os vals objs K
 | .mdel os _ _=>Xz3 os vals objs K
 | .lenM _=>XAI vals objs K
 | op=>XHl (core op vals objs top) K
theorem XuZ {vals:List Value} {objs:List XbF} {K:CK} (h:Xzb vals objs K):Good (Xtj vals objs) K:=by
 unfold Xzb at h
 split at h
 ·rename_i c _ _
  cases c
  ·simp only [br,valK,XgH] at h;exact ⟨_,_,_,rfl,h⟩
  ·simp only [br,valK,XgH] at h;exact ⟨_,_,_,rfl,h⟩
 ·exact h.elim
theorem Xtb {vals:List Value} {objs:List XbF} {K:CK} (h:Xvb vals objs K):Good (XjG vals objs) K:=by
 unfold Xvb at h
 split at h
 ·obtain ⟨v,h1,h2⟩:=rd.elim h;exact ⟨_,_,_,by simp only [XjG,XbF.cs,h1],h2⟩
 ·obtain ⟨v,h1,h2⟩:=rd.elim h;exact ⟨_,_,_,by simp only [XjG,XbF.cs,h1],h2⟩
 ·obtain ⟨v,h1,h2⟩:=rd.elim h;exact ⟨_,_,_,by simp only [XjG,XbF.cs,h1],h2⟩
 ·exact h.elim
theorem XtO {n:Nat} {vals:List Value} {objs:List XbF} {K:CK} (h:XuD n vals objs K):Good (XjE n vals objs) K:=by
 unfold XuD at h
 split at h
 ·obtain ⟨h1,h2⟩:=req.elim h
  obtain ⟨_,h3⟩:=rdN.elim h2
  exact ⟨_,_,_,by simp only [XjE,XbF.cs,if_pos (of_decide_eq_true h1)],h3⟩
 ·obtain ⟨h1,h2⟩:=req.elim h
  obtain ⟨_,h3⟩:=rdN.elim h2
  exact ⟨_,_,_,by simp only [XjE,XbF.cs,if_pos (of_decide_eq_true h1)],h3⟩
 ·obtain ⟨h1,h2⟩:=req.elim h
  obtain ⟨_,h3⟩:=rdN.elim h2
  exact ⟨_,_,_,by simp only [XjE,XbF.cs,if_pos (of_decide_eq_true h1)],h3⟩
 ·exact h.elim
theorem Xs5 {n:Nat} {vals:List Value} {objs:List XbF} {K:CK} (h:XuY n vals objs K):Good (Xlr n vals objs) K:=by
 unfold XuY at h
 split at h
 ·obtain ⟨h1,h2⟩:=req.elim h
  rw [XjQ] at h2
  simp only [Bool.and_eq_true,decide_eq_true_eq] at h1
  exact ⟨_,_,_,by simp only [Xlr,XbF.cs,XbF.wr];rw [if_pos ⟨h1.1.1,h1.1.2,h1.2⟩],h2⟩
 ·obtain ⟨h1,h2⟩:=req.elim h
  rw [XjQ] at h2
  simp only [Bool.and_eq_true,decide_eq_true_eq] at h1
  exact ⟨_,_,_,by simp only [Xlr,XbF.cs,XbF.wr];rw [if_pos ⟨h1.1.1,h1.1.2,h1.2⟩],h2⟩
 ·obtain ⟨h1,cs',rfl,h2⟩:=req.elim h
  simp only [Bool.and_eq_true,decide_eq_true_eq] at h1
  exact ⟨_,_,_,by simp only [Xlr,XbF.cs,XbF.wr];rw [if_pos ⟨h1.1.1,h1.1.2,h1.2⟩],h2⟩
 ·exact h.elim
theorem Xxx {op:BinOp} {vals:List Value} {objs:List XbF} {K:CK} (h:XMc op vals objs K):Good (Xu0 op vals objs) K:=by
 unfold XMc at h
 split at h
 ·rename_i x y
  have key:∀ v,XxK op x y=some v→K (some v) [] none→Good (Xu0 op [x,y] []) K:=fun v h1 h2=>⟨_,_,_,by simp only [Xu0,h1,val],h2⟩
  unfold binK at h
  split at h
  ·split at h
   ·obtain ⟨h1,h2⟩:=req.elim h
    exact key _ (by simp only [XxK];rw [if_pos (of_decide_eq_true h1)]) h2
   ·obtain ⟨h1,h2⟩:=req.elim h
    exact key _ (by simp only [XxK];rw [if_pos (of_decide_eq_true h1)]) h2
   ·obtain ⟨h1,h2⟩:=req.elim h
    simp only [Bool.and_eq_true,decide_eq_true_eq,Bool.not_eq_true',decide_eq_false_iff_not] at h1
    exact key _ (by simp only [XxK];rw [if_pos h1.1,if_neg h1.2]) h2
   ·obtain ⟨h1,h2⟩:=req.elim h
    simp only [Bool.and_eq_true,decide_eq_true_eq,Bool.not_eq_true',decide_eq_false_iff_not] at h1
    exact key _ (by simp only [XxK];rw [if_pos h1.1,if_neg h1.2]) h2
   ·exact h.good
  ·split at h
   ·obtain ⟨h1,h2⟩:=req.elim h
    exact key _ (by simp only [XxK];rw [if_pos (of_decide_eq_true h1)]) h2
   ·exact h.good
  ·exact h.elim
 ·exact h.elim
theorem Xtg {k:Nat} {neg:Bool} {vals:List Value} {objs:List XbF} {K:CK} (h:XuB k neg vals objs K):Good (Xmp k neg vals objs) K:=by
 unfold XuB at h
 split at h
 ·rename_i n _
  obtain ⟨h1,h2⟩:=req.elim h
  cases n with
  | zero=>simp at h1
  | succ n=>exact ⟨_,_,_,by simp only [Xmp,XFK,val];cases neg<;>rfl,h2⟩
 ·exact h.good
theorem XxN {vals:List Value} {objs:List XbF} {K:CK} (h:XMH vals objs K):Good (Xsd vals objs) K:=by
 unfold XMH at h
 split at h
 ·exact ⟨_,_,_,rfl,h⟩
 ·split at h
  ·rename_i cs hcs
   obtain ⟨h1,bs,h2,h3⟩:=req.elim h
   exact ⟨_,_,_,by simp only [Xsd,hcs];rw [if_pos (of_decide_eq_true h1)];simp only [h2],h3⟩
  ·exact h.elim
 ·exact h.elim
theorem Xw3 {vals:List Value} {objs:List XbF} {top:Nat} {K:CK} (h:XKb vals objs top K):Good (XDa vals objs top) K:=by
 unfold XKb at h
 split at h
 ·obtain ⟨cs',rfl,h⟩:=h;exact ⟨_,_,_,rfl,h⟩
 ·exact h.elim
theorem Xuz {sz bytes:Nat} {z:List Value} {vals:List Value} {objs:List XbF} {top:Nat} {K:CK} (h:XA7 sz bytes z vals objs top K):Good (Xt9 sz bytes z vals objs top) K:=by
 unfold XA7 at h
 split at h
 ·obtain ⟨h1,cs',rfl,h2⟩:=req.elim h
  exact ⟨_,_,_,by simp only [Xt9];rw [if_pos (of_decide_eq_true h1)],h2⟩
 ·exact h.elim
theorem Xsp {bl bh:Bool} {vals:List Value} {objs:List XbF} {K:CK} (h:XrQ bl bh vals objs K):Good (XlQ bl bh vals objs) K:=by
 unfold XrQ at h
 split at h
 ·obtain ⟨l,u,h1,h2⟩:=Xp4.elim h
  exact ⟨_,_,_,by simp only [XlQ,h1,val],h2⟩
 ·exact h.elim
theorem XsA {sz:Nat} {bl bh:Bool} {vals:List Value} {objs:List XbF} {K:CK} (h:Xsq sz bl bh vals objs K):Good (Xj7 sz bl bh vals objs) K:=by
 unfold Xsq at h
 split at h
 ·obtain ⟨l,u,h1,h2⟩:=Xp4.elim h
  exact ⟨_,_,_,by simp only [Xj7,h1,val],h2⟩
 ·obtain ⟨h0,h⟩:=req.elim h
  obtain ⟨l,u,h1,h2⟩:=Xp4.elim h
  exact ⟨_,_,_,by simp only [Xj7];rw [if_pos (Nat.eq_of_beq_eq_true h0)];simp only [h1,val],h2⟩
 ·exact h.elim
theorem Xr9 {n sz:Nat} {bl bh:Bool} {vals:List Value} {objs:List XbF} {K:CK} (h:XrV n sz bl bh vals objs K):Good (Xjy n sz bl bh vals objs) K:=by
 unfold XrV at h
 split at h
 ·split at h
  ·rename_i cs hcs
   obtain ⟨h0,h⟩:=req.elim h
   obtain ⟨l,u,h1,h2⟩:=Xp4.elim h
   exact ⟨_,_,_,by simp only [Xjy,hcs];rw [if_pos (of_decide_eq_true h0)];simp only [h1],h2⟩
  ·exact h.elim
 ·exact h.elim
theorem XtP {n sz:Nat} {vals:List Value} {objs:List XbF} {K:CK} (h:Xup n sz vals objs K):Good (Xok n sz vals objs) K:=by
 unfold Xup at h
 split at h
 ·obtain ⟨h1,h2⟩:=req.elim h
  exact ⟨_,_,_,by simp only [Xok,val];rw [if_pos (of_decide_eq_true h1)],h2⟩
 ·exact h.elim
theorem Xuc {sz:Nat} {vals:List Value} {objs:List XbF} {K:CK} (h:Xuy sz vals objs K):Good (Xot sz vals objs) K:=by
 unfold Xuy at h
 split at h
 ·obtain ⟨h1,h2⟩:=req.elim h
  exact ⟨_,_,_,by simp only [Xot,val];rw [if_pos (of_decide_eq_true h1)],h2⟩
 ·exact h.elim
theorem Xta {n:Nat} {vals:List Value} {objs:List XbF} {K:CK} (h:Xva n vals objs K):Good (Xoj n vals objs) K:=by
 unfold Xva at h
 split at h
 ·obtain ⟨h1,h2⟩:=req.elim h
  obtain ⟨v,h3,h4⟩:=rd.elim h2
  exact ⟨_,_,_,by simp only [Xoj];rw [if_pos (of_decide_eq_true h1)];simp only [h3,val],h4⟩
 ·exact h.elim
theorem Xs2 {n sz:Nat} {vals:List Value} {objs:List XbF} {K:CK} (h:Xu6 n sz vals objs K):Good (Xoe n sz vals objs) K:=by
 unfold Xu6 at h
 split at h
 ·obtain ⟨h1,h2⟩:=req.elim h
  obtain ⟨_,h3⟩:=rdN.elim h2
  exact ⟨_,_,_,by simp only [Xoe,val];rw [if_pos (of_decide_eq_true h1)],h3⟩
 ·exact h.elim
theorem Xut {vals:List Value} {objs:List XbF} {K:CK} (h:XyQ vals objs K):Good (Xrq vals objs) K:=by
 unfold XyQ at h
 split at h
 ·obtain ⟨h1,h2⟩:=req.elim h
  obtain ⟨v,h3,h4⟩:=rdS.elim h2
  exact ⟨_,_,_,by simp only [Xrq];rw [if_pos (of_decide_eq_true h1)];simp only [h3,val],h4⟩
 ·exact h.elim
theorem Xxh {vals:List Value} {objs:List XbF} {K:CK} (h:XIU vals objs K):Good (Xx0 vals objs) K:=by
 unfold XIU at h
 split at h
 ·exact ⟨_,_,_,rfl,h⟩
 ·exact h.elim
theorem XuK {t:Nat} {vals:List Value} {objs:List XbF} {K:CK} (h:XzN t vals objs K):Good (XrD t vals objs) K:=by
 unfold XzN at h
 split at h
 ·exact ⟨_,_,_,rfl,h⟩
 ·obtain ⟨h1,bs,h2,h3⟩:=req.elim h
  exact ⟨_,_,_,by simp only [XrD];rw [if_pos (of_decide_eq_true h1)];simp only [h2],h3⟩
 ·exact h.elim
theorem Xxn {sz:Nat} {vals:List Value} {objs:List XbF} {K:CK} (h:XMP sz vals objs K):Good (Xw4 sz vals objs) K:=by
 unfold XMP at h
 split at h
 ·exact ⟨_,_,_,rfl,h⟩
 ·obtain ⟨h1,cs',rfl,h3⟩:=req.elim h
  exact ⟨_,_,_,by simp only [Xw4];rw [if_pos (of_decide_eq_true h1)],h3⟩
 ·exact h.elim
theorem Xxm {t sz bytes:Nat} {vals:List Value} {objs:List XbF} {top:Nat} {K:CK} (h:XJG t sz bytes vals objs top K):Good (Xu8 t sz bytes vals objs top) K:=by
 unfold XJG at h
 split at h
 ·obtain ⟨c,m,h1,h2,h3⟩:=XzS.elim h
  obtain ⟨h4,cs',n',rfl,rfl,h5⟩:=req.elim h3
  exact ⟨_,_,_,by simp only [Xu8,h1,h2];rw [if_pos (of_decide_eq_true h4)],h5⟩
 ·obtain ⟨c,m,h1,h2,h3⟩:=XzS.elim h
  obtain ⟨h4,cs',n',rfl,rfl,h5⟩:=req.elim h3
  simp only [Bool.and_eq_true,decide_eq_true_eq] at h4
  exact ⟨_,_,_,by simp only [Xu8,h1,h2];rw [if_pos ⟨h4.1.1.1,h4.1.1.2.1,h4.1.1.2.2.1,h4.1.1.2.2.2,h4.1.2,h4.2⟩],h5⟩
 ·obtain ⟨c,m,h1,h2,h3⟩:=XzS.elim h
  obtain ⟨h4,cs',n',rfl,rfl,h5⟩:=req.elim h3
  exact ⟨_,_,_,by simp only [Xu8,h1,h2,bSl];rw [if_pos (of_decide_eq_true h4)],h5⟩
 ·obtain ⟨c,m,h1,h2,h3⟩:=XzS.elim h
  obtain ⟨h4,cs',n',rfl,rfl,h5⟩:=req.elim h3
  simp only [Bool.and_eq_true,decide_eq_true_eq] at h4
  exact ⟨_,_,_,by simp only [Xu8,h1,h2,bSl];rw [if_pos ⟨h4.1.1.1,h4.1.1.2.1,h4.1.1.2.2.1,h4.1.1.2.2.2.1,h4.1.1.2.2.2.2,h4.1.2,h4.2⟩],h5⟩
 ·exact h.elim
theorem XtC {vals:List Value} {objs:List XbF} {K:CK} (h:XuL vals objs K):Good (XmE vals objs) K:=by
 unfold XuL at h
 split at h
 ·rename_i s pos
  cases hb:decide (pos<s.size) with
  | true=>rw [hb] at h;exact ⟨_,_,_,by simp only [XmE];rw [if_pos (of_decide_eq_true hb)],h⟩
  | false=>rw [hb] at h;exact ⟨_,_,_,by simp only [XmE];rw [if_neg (of_decide_eq_false hb)],h⟩
 ·exact h.elim
theorem Xvg {os:List (Nat×SK)} {z:Value} {ok:Bool} {vals:List Value} {objs:List XbF} {K:CK} (h:XzC os z ok vals objs K):Good (XnH os z ok vals objs) K:=by
 unfold XzC at h
 split at h
 ·obtain ⟨h1,h2⟩:=h.elim
  exact ⟨_,_,_,by simp only [XnH];rw [if_pos h1];cases ok<;>rfl,h2⟩
 ·obtain ⟨v,b,h1,h2⟩:=h
  exact ⟨_,_,_,by simp only [XnH,h1];cases ok<;>rfl,h2⟩
 ·exact h.elim
theorem Xvm {os:List (Nat×SK)} {vals:List Value} {objs:List XbF} {K:CK} (h:XzO os vals objs K):Good (XqZ os vals objs) K:=by
 unfold XzO at h
 split at h
 ·obtain ⟨cs',h1,h2⟩:=h
  exact ⟨_,_,_,by simp only [XqZ,h1],h2⟩
 ·exact h.elim
theorem XuN {os:List (Nat×SK)} {vals:List Value} {objs:List XbF} {K:CK} (h:Xz3 os vals objs K):Good (XpI os vals objs) K:=by
 unfold Xz3 at h
 split at h
 ·obtain ⟨h1,h2⟩:=h.elim
  exact ⟨_,_,_,by simp only [XpI];rw [if_pos h1];rfl,h2⟩
 ·obtain ⟨cs',h1,h2⟩:=h
  exact ⟨_,_,_,by simp only [XpI,h1],h2⟩
 ·exact h.elim
theorem Xuq {vals:List Value} {objs:List XbF} {K:CK} (h:XAI vals objs K):Good (XoR vals objs) K:=by
 unfold XAI at h
 split at h
 ·exact ⟨_,_,_,rfl,h⟩
 ·obtain ⟨n,h1,h2⟩:=h
  exact ⟨_,_,_,by simp only [XoR,h1];rw [show 2*n/2=n by omega],h2⟩
 ·exact h.elim
theorem XLO.good {op:VOp} {vals:List Value} {objs:List XbF} {top:Nat} {K:CK} (h:XLO op vals objs top K):Good (core op vals objs top) K:=by
 cases op with
 | pick=>exact XuZ h
 | load1=>exact Xtb h
 | loadN=>exact XtO h
 | store=>exact Xs5 h
 | bin=>exact Xxx h
 | isNil=>exact Xtg h
 | b2s=>exact XxN h
 | s2b=>exact Xw3 h
 | mkSl=>exact Xuz h
 | sliceS=>exact Xsp h
 | sliceL=>exact XsA h
 | sliceA=>exact Xr9 h
 | idxAA=>exact XtP h
 | idxAL=>exact Xuc h
 | idxV1=>exact Xta h
 | idxVN=>exact Xs2 h
 | idxS=>exact Xut h
 | ixb=>exact Xxh h
 | app=>exact Xxm h
 | ustr=>exact XuK h
 | clr=>exact Xxn h
 | build=>exact Xtr h
 | buildSl=>exact XqJ h
 | nextS=>exact XtC h
 | mget=>exact Xvg h
 | mput=>exact Xvm h
 | mdel=>exact XuN h
 | lenM=>exact Xuq h
 | _=>exact XHl.good h
def XoE (h:Hp) (is:List Nat) (os:List (Option XbF)) (K:Hp→Prop):Prop:=
 match is,os with
 | i::is,some o::os=>XrU h i o fun h'=>XoE h' is os K
 | i::is,none::os=>Xuo h i fun h'=>XoE h' is os K
 | _,_=>K h
theorem XqA:∀ (is:List Nat) (os:List (Option XbF)) (h:Hp) (K:Hp→Prop),XoE h is os K=K (Xf8 h is os)
 | [],_,h,K=>by simp [XoE,Xf8]
 | i::is,[],h,K=>by simp [XoE,Xf8]
 | i::is,some o::os,h,K=>by rw [XoE,Xjv,XqA is os];simp [Xf8]
 | i::is,none::os,h,K=>by rw [XoE,XmW,XqA is os];simp [Xf8]
def opK (op:VOp) (vals:List Value) (h:Hp) (top:Nat) (K:Option Value→Hp→Nat→Prop):Prop:=
 match XiR h (needs op vals) with
 | none=>False
 | some objs=>XLO op vals objs top fun v os fr=>XoE h (needs op vals) os fun h'=>match fr with
   | none=>K v h' top
   | some o=>XrU h' top o fun h''=>K v h'' (top+1)
theorem opK.elim {op:VOp} {vals:List Value} {h:Hp} {top:Nat} {K:Option Value→Hp→Nat→Prop} (hk:opK op vals h top K):∃ v h' top',XcO op vals h top=some (v,h',top')∧K v h' top':=by
 unfold opK at hk
 split at hk
 ·exact hk.elim
 ·rename_i objs hobjs
  obtain ⟨v,os,fr,hc,hk⟩:=hk.good
  rw [XqA] at hk
  cases fr with
  | none=>exact ⟨v,_,_,by simp only [XcO,hobjs,hc],hk⟩
  | some o=>simp only [Xjv] at hk;exact ⟨v,_,_,by simp only [XcO,hobjs,hc],hk⟩
def XsO (n:Nat) (e:Env) (d:Option Nat) (v:Value) (K:Env→Prop):Prop:=
 match d with
 | some i=>cond (Nat.blt i n) (XrU e i v K) (K e)
 | none=>K e
theorem Xid (n:Nat) (e:Env) (d:Option Nat) (v:Value) (K:Env→Prop):XsO n e d v K=K (XqE n e d v):=by
 cases d with
 | none=>rfl
 | some i=>simp only [XsO,XqE];cases Nat.blt i n<;>simp [Xjv]
def XEc (i:Nat) (vs:List Value) (K:Env→Prop):Prop:=
 match vs with
 | []=>K []
 | v::vs=>XEc (i+1) vs fun e=>K ((i,v)::e)
theorem Xvp:∀ (vs:List Value) (i:Nat) (K:Env→Prop),XEc i vs K=K (Xoh i vs)
 | [],_,_=>rfl
 | v::vs,i,K=>by rw [XEc,Xvp vs];rfl
def XpD (F:Fns) (f:Nat) (args:List Value) (K:Xb3→Prop):Prop:=
 match F f with
 | some ⟨nt,body,_⟩=>cond (Nat.ble args.length nt) (XEc 0 args fun e=>K ⟨f,nt,e,[.code body],[],false,none⟩) False
 | none=>False
theorem XpD.elim {F:Fns} {f:Nat} {args:List Value} {K:Xb3→Prop} (h:XpD F f args K):∃ c,Xjl F f args=some c∧K c:=by
 unfold XpD at h
 split at h
 ·rename_i nt body rs hf
  cases hb:Nat.ble args.length nt with
  | false=>rw [hb] at h;exact h.elim
  | true=>
    rw [hb,cond_true,Xvp] at h
    exact ⟨_,by simp only [Xjl,hf];rw [if_pos (Nat.le_of_ble_eq_true hb)],h⟩
 ·exact h.elim
def XrL (u:Xb3) (v:Value) (K:Xb3→Prop):Prop:=
 match u with
 | ⟨fn,nt,env,.inReg (⟨dst,_,_⟩::rest)::k,defers,ret,round⟩=>XsO nt env dst v fun e=>K ⟨fn,nt,e,.inReg rest::k,defers,ret,round⟩
 | ⟨fn,nt,env,.inRangeFunc l::k,defers,ret,round⟩=>K ⟨fn,nt,env,.endRangeFunc l::k,defers,ret,round⟩
 | _=>False
theorem XrL.elim {u:Xb3} {v:Value} {K:Xb3→Prop} (h:XrL u v K):∃ u',finish u v=some u'∧K u':=by
 unfold XrL at h
 split at h
 ·rw [Xid] at h;exact ⟨_,rfl,h⟩
 ·exact ⟨_,rfl,h⟩
 ·exact h.elim
def Xzt (e:Env) (h:Hp) (rs:List XBq) (K:List Value→Prop):Prop:=
 match rs with
 | []=>K []
 | .tmp t::rs=>match XaL e t with
   | some v=>Xzt e h rs fun vs=>K (v::vs)
   | none=>False
 | .cell t ks agg::rs=>match XaL e t with
   | some (.pointer (some ⟨b,o,none⟩))=>match XaL h b with
     | some ob=>match ob.cs with
       | some cs=>cond agg (req (decide (o+ks.length≤cs.length)) (rdN cs o ks.length fun l=>Xzt e h rs fun vs=>K (.agg ⟨l⟩::vs))) (rd cs o fun v=>Xzt e h rs fun vs=>K (v::vs))
       | none=>False
     | none=>False
   | _=>False
theorem Xzt.elim {e:Env} {h:Hp}:∀ {rs:List XBq} {K:List Value→Prop},Xzt e h rs K→∃ vs,Xqs e h rs=some vs∧K vs
 | [],K,hk=>⟨[],rfl,hk⟩
 | .tmp t::rs,K,hk=>by
   simp only [Xzt] at hk
   split at hk
   ·rename_i v hv
    obtain ⟨vs,h1,h2⟩:=Xzt.elim hk
    exact ⟨v::vs,by simp only [Xqs,resV,hv,h1],h2⟩
   ·exact hk.elim
 | .cell t ks agg::rs,K,hk=>by
   simp only [Xzt] at hk
   split at hk
   ·rename_i b o hp
    split at hk
    ·rename_i ob hob
     split at hk
     ·rename_i cs hcs
      cases agg with
      | true=>
        obtain ⟨h1,h2⟩:=req.elim hk
        obtain ⟨_,h3⟩:=rdN.elim h2
        obtain ⟨vs,h4,h5⟩:=Xzt.elim h3
        exact ⟨_,by simp only [Xqs,resV,hp,hob,hcs,↓reduceIte,if_pos (of_decide_eq_true h1),h4],h5⟩
      | false=>
        obtain ⟨v,h1,h2⟩:=rd.elim hk
        obtain ⟨vs,h4,h5⟩:=Xzt.elim h2
        exact ⟨_,by simp only [Xqs,resV,hp,hob,hcs,Bool.false_eq_true,↓reduceIte,h1,h4],h5⟩
     ·exact hk.elim
    ·exact hk.elim
   ·exact hk.elim
def Xy8 (o:XbF) (K:XbF→Prop):Prop:=
 match o with
 | .cells cs=>K (.cells cs)
 | .row own cs=>K (.row own cs)
 | .ty t cs=>K (.ty t cs)
 | .siter s p=>K (.siter s p)
 | .mp cs=>K (.mp cs)
 | .loop l=>K (.loop l)
 | .marks=>K .marks
theorem Xui (o:XbF) (K:XbF→Prop):Xy8 o K=K o:=by cases o<;>rfl
def Xv9 (h:Hp) (K:Hp→Prop):Prop:=
 match h with
 | []=>K []
 | (i,o)::l=>Xy8 o fun o=>Xv9 l fun l=>K ((i,o)::l)
theorem XpK:∀ (h:Hp) (K:Hp→Prop),Xv9 h K=K h
 | [],K=>rfl
 | (i,o)::l,K=>by rw [Xv9,Xui,XpK l]
def XeC (s:XbS) (vals:List Value) (h:Hp) (top:Nat) (K:Value→Hp→Nat→Prop):Prop:=
 match XiN s vals h top with
 | some (v,h',top')=>XhJ v fun v=>Xv9 h' fun h'=>K v h' top'
 | none=>False
theorem XeC.elim {s:XbS} {vals:List Value} {h:Hp} {top:Nat} {K:Value→Hp→Nat→Prop} (hk:XeC s vals h top K):∃ v h' top',XiN s vals h top=some (v,h',top')∧K v h' top':=by
 unfold XeC at hk
 split at hk
 ·rw [XgH,XpK] at hk;exact ⟨_,_,_,by assumption,hk⟩
 ·exact hk.elim
def Xkh (F:Fns) (S:Xmn) (o:Xdj) (rest:List Xdj) (k:List XfX) (fn nt:Nat) (env:Env) (defers:List Nat) (round:Option Nat) (up:List Xb3) (h:Hp) (top:Nat) (K:VM→Prop):Prop:=
 match o with
 | ⟨dst,op,g⟩=>match XmR env op.ops with
   | none=>False
   | some vals=>match op with
     | .callF f _=>match S f with
       | some s=>XeC s vals h top fun v h' top'=>XsO nt env dst v fun e=>K ⟨⟨fn,nt,e,.inReg rest::k,defers,false,round⟩,up,h',top'⟩
       | none=>XpD F f vals fun c=>K ⟨c,⟨fn,nt,env,.inReg (⟨dst,op,g⟩::rest)::k,defers,false,round⟩::up,h,top⟩
     | .callV _ _=>match vals with
       | .func (.func f) ⟨first⟩ ⟨caps⟩::args=>match S f with
         | some s=>XeC s (first++args++caps) h top fun v h' top'=>XsO nt env dst v fun e=>K ⟨⟨fn,nt,e,.inReg rest::k,defers,false,round⟩,up,h',top'⟩
         | none=>XpD F f (first++args++caps) fun c=>K ⟨c,⟨fn,nt,env,.inReg (⟨dst,op,g⟩::rest)::k,defers,false,round⟩::up,h,top⟩
       | .func (.yield l) ⟨[]⟩ ⟨[]⟩::args=>match Xm7 l args h with
         | some c=>K ⟨c,⟨fn,nt,env,.inReg (⟨dst,op,g⟩::rest)::k,defers,false,round⟩::up,h,top⟩
         | none=>False
       | _=>False
     | op=>opK op vals h top fun v h' top'=>match v with
       | some v=>XsO nt env dst v fun e=>K ⟨⟨fn,nt,e,.inReg rest::k,defers,false,round⟩,up,h',top'⟩
       | none=>XsO nt env dst XhI fun e=>K ⟨⟨fn,nt,e,.inReg rest::k,defers,false,round⟩,up,h',top'⟩
theorem Xkh.elim {F:Fns} {S:Xmn} {o:Xdj} {rest:List Xdj} {k:List XfX} {fn nt:Nat} {env:Env} {todo:List XfX} {defers:List Nat} {round:Option Nat} {up:List Xb3} {h:Hp} {top:Nat} {K:VM→Prop}
 (hk:Xkh F S o rest k fn nt env defers round up h top K):∃ vm',XtT F S o rest k ⟨fn,nt,env,todo,defers,false,round⟩ up h top=some vm'∧K vm':=by
 obtain ⟨dst,op,g⟩:=o
 unfold Xkh at hk
 unfold XtT
 simp only at hk ⊢
 split at hk
 ·exact hk.elim
 ·rename_i vals hv
  simp only [hv]
  split at hk
  ·rename_i f xs
   split at hk
   ·rename_i s hs
    obtain ⟨v,h',top',h1,h2⟩:=hk.elim
    rw [Xid] at h2
    exact ⟨_,by simp only [hs,h1],h2⟩
   ·rename_i hs
    obtain ⟨c,h1,h2⟩:=hk.elim
    exact ⟨_,by simp only [hs,h1],h2⟩
  ·split at hk
   ·split at hk
    ·rename_i s hs
     obtain ⟨v,h',top',h1,h2⟩:=hk.elim
     rw [Xid] at h2
     exact ⟨_,by simp only [hs,h1],h2⟩
    ·rename_i hs
     obtain ⟨c,h1,h2⟩:=hk.elim
     exact ⟨_,by simp only [hs,h1],h2⟩
   ·split at hk
    ·rename_i c hc
     exact ⟨_,by simp only [hc],hk⟩
    ·exact hk.elim
   ·exact hk.elim
  ·rename_i hne1 hne2
   obtain ⟨v,h',top',h1,h2⟩:=hk.elim
   refine ⟨⟨⟨fn,nt,XqE nt env dst (v.getD XhI),.inReg rest::k,defers,false,round⟩,up,h',top'⟩,?_,?_⟩
   ·split
    ·exact absurd rfl (hne1 _ _)
    ·exact absurd rfl (hne2 _ _)
    ·simp only [h1]
   ·cases v with
    | none=>simp only [Xid] at h2;exact h2
    | some v=>simp only [Xid] at h2;exact h2
def Xp3 (e:Env) (d:Nat) (x:Bool) (K:Env→Prop):Prop:=
 match e with
 | []=>K []
 | (i,v)::l=>cond (Nat.beq i d) (K ((i,.bool x)::l)) (Xp3 l d x fun l'=>K ((i,v)::l'))
theorem Xnz:∀ {e:Env} {d:Nat} {x:Bool} {K:Env→Prop},XaL e d=some (.bool x)→Xp3 e d x K=K e
 | [],d,x,K,h=>rfl
 | (i,v)::l,d,x,K,h=>by
   simp only [XaL] at h
   simp only [Xp3]
   cases hb:Nat.beq i d with
   | true=>rw [hb,cond_true,Option.some.injEq] at h;subst h;rfl
   | false=>rw [hb,cond_false] at h;simp only [cond_false];rw [Xnz h]
def Xib (l:Nat) (jump:Option VC) (up:List Xb3) (h:Hp) (top:Nat) (K:VM→Prop):Prop:=
 match Xic l jump up h top with
 | some ⟨u,us,h',top'⟩=>K ⟨u,us,h',top'⟩
 | none=>False
theorem Xib.elim {l:Nat} {jump:Option VC} {up:List Xb3} {h:Hp} {top:Nat} {K:VM→Prop} (hk:Xib l jump up h top K):∃ vm',Xic l jump up h top=some vm'∧K vm':=by
 unfold Xib at hk
 split at hk
 ·exact ⟨_,by assumption,hk⟩
 ·exact hk.elim
def Xmv (l:List Nat) (K:List Nat→Prop):Prop:=
 match l with
 | []=>K []
 | n::l=>Xmv l (fun l'=>K (n::l'))
theorem XjO:∀ (l:List Nat) (K:List Nat→Prop),Xmv l K=K l
 | [],_=>rfl
 | v::l,K=>by rw [Xmv,XjO l]
def Xk0 (S:Xmn) (nt:Nat) (o:Xdj) (e:Env) (h:Hp) (m:Nat) (K:Env→Hp→Nat→List Nat→List Nat→Prop):Prop:=
 match o with
 | ⟨dst,op,_⟩=>match XmR e op.ops with
   | none=>False
   | some vals=>match op with
     | .callF f _=>match S f with
       | some s=>XeC s vals h m fun v h' m'=>XsO nt e dst v fun e=>Xmv (XdJ (XkJ h s.modes vals)) fun r=>Xmv (Xmr (XkJ h s.modes vals)) fun w=>K e h' m' r w
       | none=>False
     | .callV _ _=>match vals with
       | .func (.func f) ⟨first⟩ ⟨caps⟩::args=>match S f with
         | some s=>XeC s (first++args++caps) h m fun v h' m'=>XsO nt e dst v fun e=>Xmv (XdJ (XkJ h s.modes (first++args++caps))) fun r=>Xmv (Xmr (XkJ h s.modes (first++args++caps))) fun w=>K e h' m' r w
         | none=>False
       | _=>False
     | op=>opK op vals h m fun v h' m'=>match v with
       | some v=>XsO nt e dst v fun e=>K e h' m' (needs op vals) (cond (XzX op) (needs op vals) [])
       | none=>XsO nt e dst XhI fun e=>K e h' m' (needs op vals) (cond (XzX op) (needs op vals) [])
theorem Xk0.elim {S:Xmn} {nt:Nat} {o:Xdj} {e:Env} {h:Hp} {m:Nat} {K:Env→Hp→Nat→List Nat→List Nat→Prop} (hk:Xk0 S nt o e h m K) (hw:Xet e o.g=some true) :
 ∃ e' h' m' r w,stepD S nt o e h m=some (e',h',m',r,w)∧K e' h' m' r w:=by
 obtain ⟨dst,op,g⟩:=o
 unfold Xk0 at hk
 simp only at hk hw
 unfold stepD
 simp only [hw]
 split at hk
 ·exact hk.elim
 ·rename_i vals hv
  simp only [hv]
  split at hk
  ·split at hk
   ·rename_i s hs
    obtain ⟨v,h',m',h1,h2⟩:=hk.elim
    rw [Xid,XjO,XjO] at h2
    exact ⟨_,_,_,_,_,by simp only [hs,h1],h2⟩
   ·exact hk.elim
  ·split at hk
   ·split at hk
    ·rename_i s hs
     obtain ⟨v,h',m',h1,h2⟩:=hk.elim
     rw [Xid,XjO,XjO] at h2
     exact ⟨_,_,_,_,_,by simp only [hs,h1],h2⟩
    ·exact hk.elim
   ·exact hk.elim
  ·rename_i hne1 hne2
   obtain ⟨v,h',m',h1,h2⟩:=hk.elim
   refine ⟨XqE nt e dst (v.getD XhI),h',m',needs op vals,cond (XzX op) (needs op vals) [],?_,?_⟩
   ·split
    ·exact absurd rfl (hne1 _ _)
    ·exact absurd rfl (hne2 _ _)
    ·simp only [h1]
   ·cases v with
    | none=>simp only [Xid] at h2;exact h2
    | some v=>simp only [Xid] at h2;exact h2
def Xww (S:Xmn) (nt:Nat) (o:Xdj) (e:Env) (h:Hp) (m:Nat) (K:Env→Hp→Nat→List Nat→List Nat→Prop):Prop:=
 match o with
 | ⟨dst,op,none⟩=>Xk0 S nt ⟨dst,op,none⟩ e h m K
 | ⟨dst,op,some (d,x)⟩=>match XaL e d with
   | some (.bool b)=>cond x
      (br b (Xp3 e d true fun e=>Xk0 S nt ⟨dst,op,some (d,x)⟩ e h m K) (Xp3 e d false fun e=>XsO nt e dst XhI fun e=>K e h m [] []))
      (br b (Xp3 e d true fun e=>XsO nt e dst XhI fun e=>K e h m [] []) (Xp3 e d false fun e=>Xk0 S nt ⟨dst,op,some (d,x)⟩ e h m K))
   | some (.tuple ⟨[]⟩)=>XsO nt e dst XhI fun e=>K e h m [] []
   | _=>False
def Xxe (S:Xmn) (nt:Nat) (os:List Xdj) (e:Env) (h:Hp) (m:Nat) (K:List Fp→Env→Hp→Nat→Prop):Prop:=
 match os with
 | []=>K [] e h m
 | o::os=>Xww S nt o e h m fun e1 h1 m1 r w=>Xxe S nt os e1 h1 (m1+1) fun fps e h m'=>K ((r,w++List.range' m (m1 - m))::fps) e h m'
theorem br.cases {b:Bool} {p q:Prop} (h:br b p q):(b=true∧p)∨(b=false∧q):=by cases b;exact .inr ⟨rfl,h⟩;exact .inl ⟨rfl,h⟩
theorem Xww.elim {S:Xmn} {nt:Nat} {o:Xdj} {e:Env} {h:Hp} {m:Nat} {K:Env→Hp→Nat→List Nat→List Nat→Prop} (hk:Xww S nt o e h m K) :
 ∃ e' h' m' r w,stepD S nt o e h m=some (e',h',m',r,w)∧K e' h' m' r w:=by
 obtain ⟨dst,op,g⟩:=o
 cases g with
 | none=>exact Xk0.elim (o:=⟨dst,op,none⟩) hk rfl
 | some p=>
   obtain ⟨d,x⟩:=p
   simp only [Xww] at hk
   have skip:Xet e (some (d,x))=some false→(XsO nt e dst XhI fun e=>K e h m [] [])→∃ e' h' m' r w,stepD S nt ⟨dst,op,some (d,x)⟩ e h m=some (e',h',m',r,w)∧K e' h' m' r w:=fun hw hk=>by
    rw [Xid] at hk
    exact ⟨_,_,_,_,_,by simp only [stepD,hw],hk⟩
   split at hk
   ·rename_i b hb
    cases x with
    | true=>
      rw [cond_true] at hk
      rcases hk.cases with ⟨rfl,hk⟩|⟨rfl,hk⟩<;>rw [Xnz hb] at hk
      ·exact Xk0.elim (show Xk0 S nt ⟨dst,op,some (d,true)⟩ e h m K from hk) (by simp [Xet,hb])
      ·exact skip (by simp [Xet,hb]) hk
    | false=>
      rw [cond_false] at hk
      rcases hk.cases with ⟨rfl,hk⟩|⟨rfl,hk⟩<;>rw [Xnz hb] at hk
      ·exact skip (by simp [Xet,hb]) hk
      ·exact Xk0.elim (show Xk0 S nt ⟨dst,op,some (d,false)⟩ e h m K from hk) (by simp [Xet,hb])
   ·rename_i hb
    exact skip (by simp [Xet,hb]) hk
   ·exact hk.elim
theorem Xxe.elim {S:Xmn} {nt:Nat}:∀ {os:List Xdj} {e:Env} {h:Hp} {m:Nat} {K:List Fp→Env→Hp→Nat→Prop},Xxe S nt os e h m K→∃ fps e' h' m',XGg S nt os e h m=some (fps,e',h',m')∧K fps e' h' m'
 | [],e,h,m,K,hk=>⟨_,_,_,_,rfl,hk⟩
 | o::os,e,h,m,K,hk=>by
   simp only [Xxe] at hk
   obtain ⟨e1,h1,m1,r,w,g1,g2⟩:=hk.elim
   obtain ⟨fps,e',h',m',k1,k2⟩:=Xxe.elim g2
   exact ⟨_,_,_,_,by simp only [XGg,g1,k1],k2⟩
def XAi (F:Fns) (S:Xmn) (f:Nat) (lp:Bool) (L:VM→Prop) (E:Value→Hp→Nat→Prop) (K:VM→Prop):VM→Prop
 | ⟨⟨fn,nt,env,todo,defers,ret,round⟩,up,h,top⟩=>
   match ret with
   | true=>match defers with
     | r::ds=>match XaL h r with
       | some .marks=>Xuo h r fun h'=>K ⟨⟨fn,nt,env,todo,ds,true,round⟩,up,h',top⟩
       | _=>False
     | []=>match F fn with
       | some ⟨_,_,rs⟩=>Xzt env h rs fun vs=>match up with
         | u::us=>XhJ (XFo vs) fun v=>XrL u v fun u'=>K ⟨u',us,h,top⟩
         | []=>cond (Nat.beq fn f) (XhJ (XFo vs) fun v=>E v h top) False
       | none=>False
   | false=>match todo with
     | []=>match round with
       | none=>K ⟨⟨fn,nt,env,[],defers,true,none⟩,up,h,top⟩
       | some l=>Xib l none up h top K
     | .code .ret::k=>match round with
       | none=>K ⟨⟨fn,nt,env,.code .ret::k,defers,true,none⟩,up,h,top⟩
       | some l=>Xib l (some .ret) up h top K
     | .code .skip::k=>K ⟨⟨fn,nt,env,k,defers,false,round⟩,up,h,top⟩
     | .inScope::k=>K ⟨⟨fn,nt,env,k,defers,false,round⟩,up,h,top⟩
     | .code (.scope b)::k=>K ⟨⟨fn,nt,env,.code b::.inScope::k,defers,false,round⟩,up,h,top⟩
     | .inBlock _::k=>K ⟨⟨fn,nt,env,k,defers,false,round⟩,up,h,top⟩
     | .code (.seq a b)::k=>K ⟨⟨fn,nt,env,.code a::.code b::k,defers,false,round⟩,up,h,top⟩
     | .code (.cond c a b)::k=>match Xn3 env c with
       | some (.bool x)=>br x (K ⟨⟨fn,nt,env,.code a::k,defers,false,round⟩,up,h,top⟩) (K ⟨⟨fn,nt,env,.code b::k,defers,false,round⟩,up,h,top⟩)
       | _=>False
     | .code (.block id b)::k=>K ⟨⟨fn,nt,env,.code b::.inBlock id::k,defers,false,round⟩,up,h,top⟩
     | .code (.loop b)::k=>cond lp (L ⟨⟨fn,nt,env,.code b::.inLoop b::k,defers,false,round⟩,up,h,top⟩) (K ⟨⟨fn,nt,env,.code b::.inLoop b::k,defers,false,round⟩,up,h,top⟩)
     | .inLoop b::k=>cond lp (L ⟨⟨fn,nt,env,.code b::.inLoop b::k,defers,false,round⟩,up,h,top⟩) (K ⟨⟨fn,nt,env,.code b::.inLoop b::k,defers,false,round⟩,up,h,top⟩)
     | .code (.exit id)::k=>match exitTo id k with
       | some k'=>K ⟨⟨fn,nt,env,k',defers,false,round⟩,up,h,top⟩
       | none=>match round with
         | none=>False
         | some l=>Xib l (some (.exit id)) up h top K
     | .code (.reg ops)::k=>K ⟨⟨fn,nt,env,.inReg ops::k,defers,false,round⟩,up,h,top⟩
     | .code .stuck::_=>False
     | .code (.regD ops ord post)::k=>Xxe S nt ops env h top fun fps e h m=>req (Xoc fps ord) (K ⟨⟨fn,nt,e,.inReg post::k,defers,false,round⟩,up,h,m⟩)
     | .inReg []::k=>K ⟨⟨fn,nt,env,k,defers,false,round⟩,up,h,top⟩
     | .inReg (⟨dst,op,none⟩::rest)::k=>Xkh F S ⟨dst,op,none⟩ rest k fn nt env defers round up h top K
     | .inReg (⟨dst,op,some (d,w)⟩::rest)::k=>match XaL env d with
       | some (.bool b)=>cond w
          (br b (Xp3 env d true fun env=>Xkh F S ⟨dst,op,some (d,w)⟩ rest k fn nt env defers round up h top K) (Xp3 env d false fun env=>XsO nt env dst XhI fun e=>K ⟨⟨fn,nt,e,.inReg rest::k,defers,false,round⟩,up,h,top⟩))
          (br b (Xp3 env d true fun env=>XsO nt env dst XhI fun e=>K ⟨⟨fn,nt,e,.inReg rest::k,defers,false,round⟩,up,h,top⟩) (Xp3 env d false fun env=>Xkh F S ⟨dst,op,some (d,w)⟩ rest k fn nt env defers round up h top K))
       | some (.tuple ⟨[]⟩)=>XsO nt env dst XhI fun e=>K ⟨⟨fn,nt,e,.inReg rest::k,defers,false,round⟩,up,h,top⟩
       | _=>False
     | .code (.rangeF f ps asg body)::k=>match Xn3 env f,round with
       | some (.func (.func g) ⟨first⟩ ⟨caps⟩),none=>
         XpD F g (first++[.func (.yield (top+1)) #[] #[]]++caps) fun c=>XrU h top .marks fun h1=>XrU h1 (top+1) (.loop ⟨.ready,none,fn,nt,env,ps,asg,body,top⟩) fun h2=>
          K ⟨c,⟨fn,nt,env,.inRangeFunc (top+1)::k,top::defers,false,none⟩::up,h2,top+2⟩
       | some (.func (.func g) ⟨first⟩ ⟨caps⟩),some l0=>match XaL h l0 with
         | some (.loop r0)=>XpD F g (first++[.func (.yield top) #[] #[]]++caps) fun c=>XrU h top (.loop ⟨.ready,none,fn,nt,env,ps,asg,body,r0.defers⟩) fun h2=>
            K ⟨c,⟨fn,nt,env,.inRangeFunc top::k,defers,false,some l0⟩::up,h2,top+1⟩
         | _=>False
       | _,_=>False
     | .inRangeFunc _::_=>False
     | .endRangeFunc l::k=>match XaL h l with
       | some (.loop ⟨st,pend,fn',nt',env',ps,asg,body,ds⟩)=>match st with
         | .busy=>False
         | _=>XrU h l (.loop ⟨.exhausted,pend,fn',nt',env',ps,asg,body,ds⟩) fun h'=>match pend with
           | some c=>K ⟨⟨fn,nt,env,.code c::k,defers,false,round⟩,up,h',top⟩
           | none=>K ⟨⟨fn,nt,env,k,defers,false,round⟩,up,h',top⟩
       | _=>False
     | .beginRound::k=>match round with
       | some l=>match XaL h l with
         | some (.loop ⟨st,pend,fn',nt',env',ps,asg,body,ds⟩)=>match st with
           | .ready=>XrU h l (.loop ⟨.busy,pend,fn',nt',env',ps,asg,body,ds⟩) fun h'=>K ⟨⟨fn,nt,env,k,defers,false,some l⟩,up,h',top⟩
           | _=>False
         | _=>False
       | none=>False
section
variable {P:Program} {F:Fns} {S:Xmn}
theorem Xyp (hF:Xlt P F) (hS:Xaq P S) {f base:Nat} {lp:Bool} {R:Value→Hp→Nat→Prop} {K:VM→Prop} (hK:∀ vm,K vm→XaM P f base vm R) {vm:VM}
 (h:XAi F S f lp (fun vm=>XaM P f base vm R) R K vm):XaM P f base vm R:=by
 obtain ⟨⟨fn,nt,env,todo,defers,ret,round⟩,up,H,top⟩:=vm
 unfold XAi at h
 simp only at h
 have go:∀ vm',XdC F S ⟨⟨fn,nt,env,todo,defers,ret,round⟩,up,H,top⟩=some vm'→K vm'→XaM P f base ⟨⟨fn,nt,env,todo,defers,ret,round⟩,up,H,top⟩ R:=
  fun vm' h1 h2=>XaM.next hF hS h1 (hK _ h2)
 split at h
 ·split at h
  ·split at h
   ·rename_i hm
    rw [XmW] at h
    exact go _ (by simp only [XdC,hm]) h
   ·exact h.elim
  ·split at h
   ·rename_i nt' b' rs hf
    obtain ⟨vs,h1,h2⟩:=h.elim
    split at h2
    ·rw [XgH] at h2
     obtain ⟨u',h3,h4⟩:=h2.elim
     exact go _ (by simp only [XdC,hf,h1,h3]) h4
    ·cases hb:Nat.beq fn f with
     | false=>rw [hb] at h2;exact h2.elim
     | true=>
       rw [hb,cond_true,XgH] at h2
       have:=Nat.eq_of_beq_eq_true hb
       subst this
       exact XaM.stop hF hf h1 h2
   ·exact h.elim
 ·split at h
  ·split at h
   ·exact go _ (by simp only [XdC]) h
   ·obtain ⟨vm',h1,h2⟩:=h.elim
    exact go _ (by simp only [XdC,h1]) h2
  ·split at h
   ·exact go _ (by simp only [XdC]) h
   ·obtain ⟨vm',h1,h2⟩:=h.elim
    exact go _ (by simp only [XdC,h1]) h2
  ·exact go _ (by simp only [XdC]) h
  ·exact go _ (by simp only [XdC]) h
  ·exact go _ (by simp only [XdC]) h
  ·exact go _ (by simp only [XdC]) h
  ·exact go _ (by simp only [XdC]) h
  ·split at h
   ·rename_i x hx
    rcases h.cases with ⟨rfl,h⟩|⟨rfl,h⟩
    ·exact go _ (by simp only [XdC,hx];rfl) h
    ·exact go _ (by simp only [XdC,hx];rfl) h
   ·exact h.elim
  ·exact go _ (by simp only [XdC]) h
  ·cases lp
   ·exact go _ (by simp only [XdC]) h
   ·exact XaM.next hF hS (vm':=_) (by simp only [XdC]) h
  ·cases lp
   ·exact go _ (by simp only [XdC]) h
   ·exact XaM.next hF hS (vm':=_) (by simp only [XdC]) h
  ·split at h
   ·rename_i k' hk'
    exact go _ (by simp only [XdC,hk']) h
   ·rename_i hk'
    split at h
    ·exact h.elim
    ·obtain ⟨vm',h1,h2⟩:=h.elim
     exact go _ (by simp only [XdC,hk',h1]) h2
  ·exact go _ (by simp only [XdC]) h
  ·exact h.elim
  ·obtain ⟨fps,e',h',m',g1,g2⟩:=h.elim
   obtain ⟨g3,g4⟩:=g2.elim
   exact go _ (by simp only [XdC,g1,g3]) g4
  ·exact go _ (by simp only [XdC]) h
  ·obtain ⟨vm',h1,h2⟩:=Xkh.elim (todo:=_) h
   exact go _ (by simp only [XdC,Xet];exact h1) h2
  ·split at h
   ·rename_i b hb
    rename_i w _ _ _
    cases w
    ·rcases h.cases with ⟨rfl,h'⟩|⟨rfl,h'⟩<;>rw [Xnz hb] at h'
     ·rw [Xid] at h'
      replace h:=h'
      exact go _ (by simp only [XdC,Xet,hb];rfl) h
     ·obtain ⟨vm',h1,h2⟩:=Xkh.elim (todo:=_) h'
      exact go _ (by simp only [XdC,Xet,hb];exact h1) h2
    ·rcases h.cases with ⟨rfl,h'⟩|⟨rfl,h'⟩<;>rw [Xnz hb] at h'
     ·obtain ⟨vm',h1,h2⟩:=Xkh.elim (todo:=_) h'
      exact go _ (by simp only [XdC,Xet,hb];exact h1) h2
     ·rw [Xid] at h'
      replace h:=h'
      exact go _ (by simp only [XdC,Xet,hb];rfl) h
   ·rename_i hb
    rw [Xid] at h
    exact go _ (by simp only [XdC,Xet,hb]) h
   ·exact h.elim
  ·split at h
   ·rename_i hfv
    obtain ⟨c,h1,h2⟩:=h.elim
    rw [Xjv,Xjv] at h2
    exact go _ (by simp only [XdC,hfv,h1]) h2
   ·rename_i hfv
    split at h
    ·rename_i r0 hr0
     obtain ⟨c,h1,h2⟩:=h.elim
     rw [Xjv] at h2
     exact go _ (by simp only [XdC,hfv,hr0,h1]) h2
    ·exact h.elim
   ·exact h.elim
  ·exact h.elim
  ·split at h
   ·rename_i hl
    split at h
    ·exact h.elim
    ·rename_i hb
     rw [Xjv] at h
     split at h
     ·rename_i st _ _ _ _ _ _ _ _ _ _
      exact go _ (by simp only [XdC,hl];cases st<;>first|exact absurd rfl hb|rfl) h
     ·rename_i st _ _ _ _ _ _ _ _ _
      exact go _ (by simp only [XdC,hl];cases st<;>first|exact absurd rfl hb|rfl) h
   ·exact h.elim
  ·split at h
   ·split at h
    ·rename_i hl
     split at h
     ·rw [Xjv] at h
      exact go _ (by simp only [XdC,hl]) h
     ·exact h.elim
    ·exact h.elim
   ·exact h.elim
def ev (F:Fns) (S:Xmn) (f:Nat) (lp:Bool) (L:VM→Prop) (E:Value→Hp→Nat→Prop):Nat→VM→Prop
 | 0,vm=>L vm
 | n+1,vm=>XAi F S f lp L E (ev F S f lp L E n) vm
theorem Xbp (hF:Xlt P F) (hS:Xaq P S) {f base:Nat} (lp:Bool) {R:Value→Hp→Nat→Prop}:∀ (n:Nat) {vm:VM},ev F S f lp (fun vm=>XaM P f base vm R) R n vm→XaM P f base vm R
 | 0,_,h=>h
 | n+1,_,h=>Xyp hF hS (fun _ h=>Xbp hF hS lp n h) h
end
end Go.Vm
namespace Go.Vm
open Go
def XPc (P:Program):List (Nat×VFn)→Prop
 | []=>True
 | (i,vf)::l=>(P.funcs[i]?).bind (XaV P)=some vf∧XPc P l
theorem Xlt.XaY {P:Program}:∀ {l:List (Nat×VFn)},XPc P l→Xlt P (XaL l)
 | [],_,f,vf,h=>by simp [XaL] at h
 | (i,v)::l,hl,f,vf,h=>by
   obtain ⟨h1,h2⟩:=hl
   simp only [XaL] at h
   cases hb:Nat.beq i f with
   | true=>
     rw [hb,cond_true,Option.some.injEq] at h
     subst h
     have:=Nat.eq_of_beq_eq_true hb
     subst this
     cases hf:P.funcs[i]? with
     | none=>simp [hf] at h1
     | some fn=>rw [hf,Option.bind_some] at h1;exact ⟨fn,rfl,h1⟩
   | false=>
     rw [hb,cond_false] at h
     exact Xlt.XaY h2 f vf h
theorem Xaq.none {P:Program}:Xaq P (fun _=>none):=fun _ _ h=>by cases h
end Go.Vm
namespace Go.Vm
open Go
def subE (e:Env):Env→Prop
 | []=>True
 | (i,v)::l=>XaL e i=some v∧subE e l
theorem XvR {e:Env}:∀ {l:Env},subE e l→∀ i v,XaL l i=some v→XaL e i=some v
 | [],_,i,v,h=>by simp [XaL] at h
 | (j,u)::l,h,i,v,hv=>by
   obtain ⟨h1,h2⟩:=h
   simp only [XaL] at hv
   cases hb:Nat.beq j i with
   | true=>
     rw [hb,cond_true,Option.some.injEq] at hv
     subst hv
     have:=Nat.eq_of_beq_eq_true hb;subst this
     exact h1
   | false=>
     rw [hb,cond_false] at hv
     exact XvR h2 i v hv
theorem XaM.env {P:Program} {f base fn nt:Nat} {e e':Env} {todo:List XfX} {defers:List Nat} {ret:Bool} {round:Option Nat} {up:List Xb3} {H:Hp} {top:Nat} {R:Value→Hp→Nat→Prop}
 (h:XaM P f base ⟨⟨fn,nt,e',todo,defers,ret,round⟩,up,H,top⟩ R) (hs:subE e e'):XaM P f base ⟨⟨fn,nt,e,todo,defers,ret,round⟩,up,H,top⟩ R:=by
 refine ⟨fun w0 U ρ rf rfs w cs hr=>?_⟩
 exact h.get w0 U ρ rf rfs w cs ⟨{ hr.cur with env:=fun i v hv=>hr.cur.env i v (XvR hs i v hv) },hr.up,hr.heap⟩
end Go.Vm
namespace Go.Vm
open Go Go.RowKit
inductive XLj where
 | v (x:Value)
 | sl (n:Nat) (cs:List Value)
def entry (k:Nat):List Md→List XLj→List Value
 | .v::ms,.v x::aqs=>x::entry k ms aqs
 | .sl sz::ms,.sl n _::aqs=>.slice (some ⟨k,0,none⟩) n sz::entry (k+1) ms aqs
 | _,_=>[]
def rowsOf (k:Nat):List XLj→Hp
 | .sl _ cs::aqs=>(k,.row false cs)::rowsOf (k+1) aqs
 | .v _::aqs=>rowsOf k aqs
 | []=>[]
def wins:List XLj→Nat
 | .sl _ _::aqs=>wins aqs+1
 | .v _::aqs=>wins aqs
 | []=>0
def XRp (w:World):Md→XLj→Value→Prop
 | .v,.v x,rv=>Xbg x=true∧rv=x
 | .sl sz,.sl n cs,rv=>((∃ a,rv=.slice a 0 0)∧n=0∧cs=[])∨∃ b o c,rv=.slice (some ⟨b,o,none⟩) n c∧n≤c∧∀ ρ,XbA ρ w ⟨b,o,c*sz⟩ false cs
 | _,_,_=>False
inductive XAq (w:World):List Md→List XLj→List Value→Prop
 | nil:XAq w [] [] []
 | cons {m ms a aqs v vs} (h:XRp w m a v) (t:XAq w ms aqs vs):XAq w (m::ms) (a::aqs) (v::vs)
theorem Xx4 {k n:Nat} {ρc:Ren} {vs rvs:List Value} {Hr:Hp} {w:World} (c1:∀ i l,ρc i=some l→k+1≤i∧i<k+1+n) (c2:VRL ρc vs rvs)
 (c3:∀ i o,XaL Hr i=some o→∃ cs l,o=.row false cs∧ρc i=some l∧∀ ρ',XbA ρ' w l false cs) (l:Loc) (cs:List Value) (hc:∀ ρ',XbA ρ' w l false cs) :
 (∀ i l',upd ρc k l i=some l'→k≤i∧i<k+1+n)∧VRL (upd ρc k l) vs rvs ∧
   (∀ i o,XaL ((k,.row false cs)::Hr) i=some o→∃ cs l',o=.row false cs∧upd ρc k l i=some l'∧∀ ρ',XbA ρ' w l' false cs)∧upd ρc k l k=some l:=by
 have hoff:ρc k=none:=by
  cases e:ρc k with
  | none=>rfl
  | some l=>have:=(c1 k l e).1;omega
 refine ⟨fun i l' e=>?_,c2.mono (Ext.upd hoff),fun i o e=>?_,upd_same _ _ _⟩
 ·by_cases hi:k=i
  ·subst hi;omega
  ·rw [upd_ne _ _ hi] at e;have:=c1 i l' e;omega
 ·rw [XkS] at e
  split at e
  ·rename_i hk
   cases e;subst hk
   exact ⟨cs,l,rfl,upd_same _ _ _,hc⟩
  ·rename_i hk
   obtain ⟨cs',l',a,b,c⟩:=c3 i o e
   exact ⟨cs',l',a,by rw [upd_ne _ _ hk];exact b,c⟩
theorem Xqr {w:World}:∀ {ms:List Md} {aqs:List XLj} {rvals:List Value} (k:Nat),XAq w ms aqs rvals →
 ∃ ρc:Ren,(∀ i l,ρc i=some l→k≤i∧i<k+wins aqs)∧VRL ρc (entry k ms aqs) rvals ∧
  (∀ i o,XaL (rowsOf k aqs) i=some o→∃ cs l,o=.row false cs∧ρc i=some l∧∀ ρ',XbA ρ' w l false cs)
 | _,_,_,k,.nil=>⟨fun _=>none,fun i l e=>by simp at e,.nil,fun i o e=>by simp [rowsOf,XaL] at e⟩
 | _,_,_,k,.cons (m:=m) (a:=a) (v:=v) h t=>by
   cases m with
   | v=>
     cases a with
     | v x=>
       obtain ⟨hf,rfl⟩:=h
       obtain ⟨ρc,c1,c2,c3⟩:=Xqr k t
       exact ⟨ρc,c1,.cons (VR.flat _ _ hf) c2,c3⟩
     | _=>exact h.elim
   | sl sz=>
     cases a with
     | sl n cs=>
       obtain ⟨ρc,c1,c2,c3⟩:=Xqr (k+1) t
       rcases h with ⟨⟨a,rfl⟩,rfl,rfl⟩|⟨b,o,c,rfl,hn,hc⟩
       ·obtain ⟨d1,d2,d3,d4⟩:=Xx4 c1 c2 c3 ⟨0,0,0⟩ [] (fun ρ'=>⟨Nat.zero_le _,fun i v e=>by simp at e,fun i hi=>absurd hi (Nat.not_lt_zero _)⟩)
        exact ⟨_,by simpa [wins,Nat.add_assoc,Nat.add_comm 1] using d1,.cons (.slice0 _) d2,d3⟩
       ·obtain ⟨d1,d2,d3,d4⟩:=Xx4 c1 c2 c3 ⟨b,o,c*sz⟩ cs hc
        exact ⟨_,by simpa [wins,Nat.add_assoc,Nat.add_comm 1] using d1,.cons (.slice d4 hn (by simp)) d2,d3⟩
     | _=>exact h.elim
   | pt n=>cases a<;>exact h.elim
   | tr ps=>cases a<;>exact h.elim
theorem XBv {P:Program} {F:Fns} (hF:Xlt P F) {f:Nat} {ms:List Md} {aqs:List XLj} {rvals:List Value} {w:World} {c:Xb3} {r:Bool}
 (ha:XAq w ms aqs rvals) (hc:Xjl F f (entry 0 ms aqs)=some c) (hl:XaM P f (wins aqs) ⟨c,[],rowsOf 0 aqs,wins aqs⟩ (fun v _ _=>v=.bool r)) :
 Calls P f ⟨rvals⟩ w fun e w'=>e=.returned (.bool r)∧Below w.heap.size w w':=by
 intro cs
 obtain ⟨ρc,c1,c2,c3⟩:=Xqr 0 ha
 have hpc:HpR P w UG.no ρc (rowsOf 0 aqs) (wins aqs) w:=
  { obj:=fun i o e=>by obtain ⟨cs',l,rfl,a,b⟩:=c3 i o e;exact ⟨l,a,b ρc,fun e=>by cases e⟩
    dis:=fun i j oi oj li lj _ hi _ _ _ hw=>by obtain ⟨cs',l,rfl,a,b⟩:=c3 i oi hi;cases hw
    lt:=fun i l e=>by have:=c1 i l e;exact .inr ⟨Nat.zero_le _,by omega⟩
    keep:=Keep.refl _ _ }
 obtain ⟨ρ',rv,fr',w',v',Hc,tc,g1,g2,g3,g4,g5,g6,g7⟩:=hl.get w _ ρc _ [] w cs ⟨(XkC hF hc c2).1,.nil,hpc⟩
 subst g7
 obtain rfl:=g4.XyP
 exact ⟨.returned (.bool r),w',fr',⟨rfl,g5.keep.toBelow⟩,g1,g2,g3⟩
end Go.Vm
namespace Go.Vm
open Go
def XG4 (P:Program):List (Nat×XbS)→Prop
 | []=>True
 | (i,s)::l=>Xb8 P i s∧XG4 P l
theorem Xaq.XaY {P:Program}:∀ {l:List (Nat×XbS)},XG4 P l→Xaq P (XaL l)
 | [],_,f,s,h=>by simp [XaL] at h
 | (i,v)::l,hl,f,s,h=>by
   obtain ⟨h1,h2⟩:=hl
   simp only [XaL] at h
   cases hb:Nat.beq i f with
   | true=>
     rw [hb,cond_true,Option.some.injEq] at h
     subst h
     have:=Nat.eq_of_beq_eq_true hb
     subst this
     exact h1
   | false=>
     rw [hb,cond_false] at h
     exact Xaq.XaY h2 f s h
theorem XeC.intro {s:XbS} {vals:List Value} {h:Hp} {top:Nat} {K:Value→Hp→Nat→Prop} {v:Value} {h':Hp} {top':Nat} (e:XiN s vals h top=some (v,h',top')) (k:XhJ v fun v=>K v h' top'):XeC s vals h top K:=by
 unfold XeC;rw [e];simp only [XgH,XpK] at *;exact k
def unL {α:Type} (f:Value→Option α):List Value→Option (List α)
 | []=>some []
 | v::l=>match f v with
   | some x=>match unL f l with
     | some xs=>some (x::xs)
     | none=>none
   | none=>none
theorem XAA {α:Type} {f:Value→Option α} {g:α→Value} (h:∀ x,f (g x)=some x):∀ (xs:List α),unL f (xs.map g)=some xs
 | []=>rfl
 | x::xs=>by rw [List.map_cons,unL,h,XAA h xs]
theorem XvN {α:Type} {f:Value→Option α} {g:α→Value} (h:∀ v x,f v=some x→v=g x):∀ {cs:List Value} {xs:List α},unL f cs=some xs→cs=xs.map g
 | [],xs,e=>by simp only [unL,Option.some.injEq] at e;subst e;rfl
 | v::cs,xs,e=>by
   simp only [unL] at e
   split at e<;>try (cases e;done)
   rename_i x hx
   split at e<;>cases e
   rename_i ys hys
   rw [List.map_cons,←h v x hx,←XvN h hys]
theorem XmV {α:Type} {g:α→Value} (h:∀ x,Xbg (g x)=true):∀ (xs:List α),Xbg.flatL (xs.map g)=true
 | []=>rfl
 | x::xs=>by rw [List.map_cons,Xbg.flatL,h,XmV h xs];rfl
def asB:Value→Option Bool|.bool b=>some b|_=>none
theorem XzR (v:Value) (x:Bool) (h:asB v=some x):v=.bool x:=by cases v<;>simp [asB] at h;subst h;rfl
def asI (k:IntKind):Value→Option Int|.int k' n=>if k'=k then some n else none|_=>none
theorem XAC (k:IntKind) (v:Value) (x:Int) (h:asI k v=some x):v=.int k x:=by
 cases v<;>simp [asI] at h
 obtain ⟨rfl,rfl⟩:=h;rfl
def reE (m:Nat→Option Nat) (e:Env):Env→Prop
 | []=>True
 | (i,v)::l=>(∃ v',Xe5 m v=some v'∧XaL e i=some v')∧reE m e l
theorem Xuu {m:Nat→Option Nat} {e:Env}:∀ {l:Env},reE m e l→XNt m e l
 | [],_=>trivial
 | (i,v)::l,⟨⟨v',h1,h2⟩,h3⟩=>⟨by rw [h1];exact h2,Xuu h3⟩
def reH (m:Nat→Option Nat) (H:Hp):Hp→Prop
 | []=>True
 | (i,o')::l=>(∃ j o,m i=some j∧XaL H j=some o∧Xrg m o o')∧reH m H l
theorem XAO {m:Nat→Option Nat} {H:Hp}:∀ {l:Hp},reH m H l→HSub m H l
 | [],_,i,o,h=>by simp [XaL] at h
 | (k,x)::l,⟨h1,h2⟩,i,o,h=>by
   rw [XkS] at h
   split at h
   ·rename_i e;cases h;subst e;exact h1
   ·exact XAO h2 i o h
def reU (m:Nat→Option Nat):List Xb3→List Xb3→Prop
 | [],[]=>True
 | ⟨fn,nt,e,td,ds,ret,rd⟩::l,⟨fn',nt',e',td',ds',ret',rd'⟩::l'=>(fn'=fn∧nt'=nt∧ret'=ret∧rd=none∧rd'=none∧reE m e e'∧XBz m td'=some td∧XDD m ds'=some ds)∧reU m l l'
 | _,_=>False
theorem XAR {m:Nat→Option Nat}:∀ {l l':List Xb3},reU m l l'→Xlb (FSub m) l l'
 | [],[],_=>.nil
 | ⟨_,_,_,_,_,_,_⟩::l,⟨_,_,_,_,_,_,_⟩::l',⟨⟨h1,h2,h3,h4,h5,h6,h7,h8⟩,h9⟩=>.cons ⟨h1,h2,Xuu h6,h7,h8,h3,by simp only;rw [h4,h5];trivial⟩ (XAR h9)
 | [],_::_,h=>h.elim
 | _::_,[],h=>h.elim
def Xsx (j:Nat):List (Nat×Nat)→Bool
 | []=>true
 | (_,k)::l=>cond (Nat.beq j k) false (Xsx j l)
def XBt (base top':Nat):List (Nat×Nat)→Bool
 | m=>injM m&&ltM m&&fixM m base
where
 injM:List (Nat×Nat)→Bool
  | []=>true
  | (_,j)::l=>Xsx j l&&injM l
 ltM:List (Nat×Nat)→Bool
  | []=>true
  | (i,_)::l=>Nat.blt i top'&&ltM l
 fixM (m:List (Nat×Nat)):Nat→Bool
  | 0=>true
  | n+1=>(match XaL m n with|some j=>Nat.beq j n|none=>false)&&fixM m n
theorem Xlj {j:Nat}:∀ {l:List (Nat×Nat)},Xsx j l=true→∀ i,XaL l i≠some j
 | [],_,i,h=>by simp [XaL] at h
 | (a,k)::l,hv,i,h=>by
   simp only [Xsx] at hv
   cases hb:Nat.beq j k with
   | true=>rw [hb] at hv;cases hv
   | false=>
     rw [hb,cond_false] at hv
     rw [XkS] at h
     split at h
     ·cases h;simp at hb
     ·exact Xlj hv i h
theorem Xt2 {top':Nat}:∀ {l:List (Nat×Nat)},XBt.injM l=true→∀ i j k,XaL l i=some k→XaL l j=some k→i=j
 | [],_,i,j,k,h,_=>by simp [XaL] at h
 | (a,b)::l,hv,i,j,k,h1,h2=>by
   simp only [XBt.injM,Bool.and_eq_true] at hv
   rw [XkS] at h1 h2
   split at h1<;>split at h2
   ·omega
   ·cases h1;exact absurd h2 (Xlj hv.1 j)
   ·cases h2;exact absurd h1 (Xlj hv.1 i)
   ·exact Xt2 (top':=top') hv.2 i j k h1 h2
theorem Xwb {top':Nat}:∀ {l:List (Nat×Nat)},XBt.ltM top' l=true→∀ i j,XaL l i=some j→i<top'
 | [],_,i,j,h=>by simp [XaL] at h
 | (a,b)::l,hv,i,j,h=>by
   simp only [XBt.ltM,Bool.and_eq_true] at hv
   rw [XkS] at h
   split at h
   ·rename_i e;subst e;exact Nat.blt_eq.mp hv.1
   ·exact Xwb hv.2 i j h
theorem Xt8 {m:List (Nat×Nat)}:∀ {n:Nat},XBt.fixM m n=true→∀ i,i<n→XaL m i=some i
 | 0,_,i,h=>absurd h (Nat.not_lt_zero _)
 | n+1,hv,i,h=>by
   simp only [XBt.fixM,Bool.and_eq_true] at hv
   by_cases hi:i=n
   ·subst hi
    have:=hv.1
    split at this
    ·rename_i j hj;rw [hj,Nat.eq_of_beq_eq_true this]
    ·cases this
   ·exact Xt8 hv.2 i (by omega)
theorem XaM.re {P:Program} {f base fn nt:Nat} {e e':Env} {todo todo':List XfX} {ds ds':List Nat} {ret:Bool} {up up':List Xb3} {H H':Hp} {top top':Nat} {R:Value→Hp→Nat→Prop}
 (h:XaM P f base ⟨⟨fn,nt,e',todo',ds',ret,none⟩,up',H',top'⟩ R) (m:List (Nat×Nat)) (hc:XBt base top' m=true) (he:reE (XaL m) e e') (hH:reH (XaL m) H H')
 (ht:XBz (XaL m) todo'=some todo:=by rfl) (hd:XDD (XaL m) ds'=some ds:=by rfl) (hu:reU (XaL m) up up':=by trivial) :
 XaM P f base ⟨⟨fn,nt,e,todo,ds,ret,none⟩,up,H,top⟩ R:=by
 simp only [XBt,Bool.and_eq_true] at hc
 refine XaM.sub (s:=XaL m) ?_ h
 exact ⟨⟨rfl,rfl,Xuu he,ht,hd,rfl,trivial⟩,XAR hu,XAO hH,Xt2 (top':=top') hc.1.1,Xwb hc.1.2,Xt8 hc.2⟩
end Go.Vm
namespace Go.Vm
open Go Go.RowKit Go.WideShapes
def Xql (g:TypeId→Option (List SK)) (P:Program) (o:Nat):List Field→Option (List SK)
 | []=>some []
 | f::fs=>if f.offset=o then match g f.type with
   | some a=>if a.length=P.cellsOf f.type then match Xql g P (o+a.length) fs with
     | some b=>some (a++b)
     | none=>none
     else none
   | none=>none
   else none
def Xxq (P:Program):Nat→TypeId→Option (List SK)
 | 0,_=>none
 | n+1,t=>match P.underlying t with
   | some .bool=>some [.bool]
   | some (.int k)=>some [.int k]
   | some .string=>some [.str]
   | some (.struct fs)=>match Xql (Xxq P n) P 0 fs.toList with
     | some ks=>if ks.length=P.cellsOf t then some ks else none
     | none=>none
   | _=>none
def XoG:SK→Value→Prop
 | .bool,v=>∃ b,v=.bool b
 | .int k,v=>∃ n,v=.int k n∧(Lit.int k n).wf=true
 | .str,v=>∃ s,v=.string s∧s.size≤maxLen
 | .oth,_=>False
def XdO:List SK→List Value→Prop
 | [],[]=>True
 | k::ks,v::vs=>XoG k v∧XdO ks vs
 | _,_=>False
theorem XdO.append:∀ {a b:List SK} {x y:List Value},XdO a x→XdO b y→XdO (a++b) (x++y)
 | [],_,[],_,_,k=>k
 | [],_,_::_,_,h,_=>h.elim
 | _::_,_,[],_,h,_=>h.elim
 | _::_,_,_::_,_,h,k=>⟨h.1,XdO.append h.2 k⟩
theorem XdO.length:∀ {a:List SK} {x:List Value},XdO a x→x.length=a.length
 | [],[],_=>rfl
 | [],_::_,h=>h.elim
 | _::_,[],h=>h.elim
 | _::_,_::_,h=>by simp [XdO.length h.2]
theorem XdO.inv {k:SK} {ks:List SK} {cs:List Value} (h:XdO (k::ks) cs):∃ v vs,cs=v::vs∧XoG k v∧XdO ks vs:=by
 cases cs with
 | nil=>exact h.elim
 | cons v vs=>exact ⟨v,vs,rfl,h⟩
theorem XdO.inv0 {cs:List Value} (h:XdO [] cs):cs=[]:=by
 cases cs with
 | nil=>rfl
 | cons=>exact h.elim
section
variable {H:Type} {enc:TypeId×Value→H} {P:Program} {w:World} {base:Nat} {spare:Nat→Bool} {held:Bool}
theorem Xq3 {g:TypeId→Option (List SK)} {F:TypeId→List Value→Prop} (hg:∀ t ks cs,g t=some ks→F t cs→XdO ks cs) {cs:List Value} :
 ∀ {fs:List Field} {o:Nat} {ks:List SK},Xql g P o fs=some ks→(∀ f∈fs,F f.type ((cs.drop f.offset).take (P.cellsOf f.type)))→XdO ks ((cs.drop o).take ks.length)
 | [],o,ks,h,_=>by simp only [Xql,Option.some.injEq] at h;subst h;simp [XdO]
 | f::fs,o,ks,h,hm=>by
   simp only [Xql] at h
   split at h<;>try (cases h;done)
   rename_i ho
   split at h<;>try (cases h;done)
   rename_i a ha
   split at h<;>try (cases h;done)
   rename_i hl
   split at h<;>cases h
   rename_i b hb
   have h1:=hg f.type a _ ha (hm f (by simp))
   have h2:=Xq3 hg hb (fun f' hf=>hm f' (by simp [hf]))
   have h3:=h1.append h2
   rw [ho,←hl] at h3
   rw [List.length_append,List.take_add,List.drop_drop]
   exact h3
theorem XpN:∀ {n:Nat} {t:TypeId} {ks:List SK} {fuel:Nat} {cs:List Value} {x:DataW H×List MemPlace},Xxq P n t=some ks→DataW.trod enc P w base spare held fuel t cs=some x→XdO ks cs
 | 0,t,ks,fuel,cs,x,h,_=>by simp [Xxq] at h
 | n+1,t,ks,fuel,cs,x,h,hd=>by
   simp only [Xxq] at h
   split at h
   ·rename_i ht
    cases h
    obtain ⟨b,rfl,_⟩:=DataW.trod_bool ht hd
    exact ⟨⟨_,rfl⟩,trivial⟩
   ·rename_i k ht
    cases h
    obtain ⟨b,rfl,_,hw⟩:=DataW.trod_int ht hd
    exact ⟨⟨_,rfl,hw⟩,trivial⟩
   ·rename_i ht
    cases h
    obtain ⟨b,rfl,_,hw⟩:=DataW.trod_string ht hd
    exact ⟨⟨_,rfl,hw⟩,trivial⟩
   ·rename_i fs ht
    split at h<;>try (cases h;done)
    rename_i ks' hks
    split at h<;>cases h
    rename_i hlen
    obtain ⟨xs,m,_,_,hcl,hxl,hf⟩:=DataW.trod_struct ht hd
    have:=Xq3 (P:=P) (cs:=cs) (F:=fun t cs=>∃ x,DataW.trod enc P w base spare held m t cs=some x) (fun t ks cs h1 ⟨x,h2⟩=>XpN h1 h2) hks (fun f hfm=>by
     obtain ⟨i,hi⟩:=List.getElem?_of_mem hfm
     rw [Array.getElem?_toList] at hi
     have hlt:i<xs.length:=by rw [hxl];exact (Array.getElem?_eq_some_iff.1 hi).1
     exact ⟨xs[i],by rw [hf i f hi,List.getElem?_eq_getElem hlt]⟩)
    rw [List.drop_zero,List.take_of_length_le (by omega)] at this
    exact this
   ·cases h
theorem XSi {r:Reach} {b0 n:Nat} {t:TypeId} {ks:List SK} {v:Value} {d:DataW H} {ps:List MemPlace} (hk:Xxq P n t=some ks) (hval:Value.okWide P w r b0 t v) (hd:DataW.Trod enc P w base spare held t v d ps) :
 XdO ks (Xbd v)∧((XeV P t=true∧v=.agg ⟨Xbd v⟩)∨XeV P t=false):=by
 obtain ⟨fuel,hf⟩:=hd
 refine ⟨XpN hk hf,?_⟩
 unfold Value.okWide at hval
 unfold XeV
 split at hval
 ·rename_i hu;rw [hu]
  obtain ⟨cs,rfl,_⟩:=hval
  exact .inl ⟨rfl,rfl⟩
 ·rename_i hu;rw [hu]
  obtain ⟨cs,rfl,_⟩:=hval
  exact .inl ⟨rfl,rfl⟩
 ·rename_i h1 h2
  right
  split
  ·rename_i hu;exact absurd hu (h1 _)
  ·rename_i hu;exact absurd hu (h2 _ _)
  ·rfl
def RowR (w:World) (k:SK) (a:Option Addr) (len cap:Nat) (zs:List Value):Prop:=
 (a=none∧len=0∧cap=0∧zs=[])∨∃ x,a=some x∧len≤cap∧cap≤maxLen∧zs.length=cap∧∀ (i:Nat) v,zs[i]?=some v→w.cell? (x.add i)=some v∧XoG k v
theorem XoG.flat {k:SK} {v:Value} (h:XoG k v):Xbg v=true:=by
 cases k with
 | bool=>obtain ⟨b,rfl⟩:=h;rfl
 | int k=>obtain ⟨b,rfl,_⟩:=h;rfl
 | str=>obtain ⟨b,rfl,_⟩:=h;rfl
 | oth=>exact h.elim
theorem XRp.row {k:SK} {w:World} {a:Option Addr} {len cap:Nat} {zs:List Value} (h:RowR w k a len cap zs):XRp w (.sl 1) (.sl len (zs.take len)) (.slice a len cap)∧(zs.take len).length=len∧(∀ v∈zs.take len,XoG k v)∧len≤maxLen:=by
 rcases h with ⟨rfl,rfl,rfl,rfl⟩|⟨x,rfl,hl,hm,hz,hc⟩
 ·exact ⟨.inl ⟨⟨_,rfl⟩,rfl,rfl⟩,rfl,fun v hv=>by simp at hv,by simp [maxLen]⟩
 ·have hleaf:∀ v∈zs.take len,XoG k v:=fun v hv=>by
   obtain ⟨i,hi⟩:=List.getElem?_of_mem (List.mem_of_mem_take hv)
   exact (hc i v hi).2
  refine ⟨?_,by simp;omega,hleaf,by omega⟩
  rcases Nat.eq_zero_or_pos cap with h0|h0
  ·subst h0
   obtain rfl:len=0:=by omega
   exact .inl ⟨⟨_,rfl⟩,rfl,by simp⟩
  ·have hs:x.spot=none:=by
    have:=(hc 0 zs[0] (List.getElem?_eq_getElem (by omega))).1
    cases hx:x.spot with
    | none=>rfl
    | some q=>
      simp only [Addr.add,↓reduceIte,World.cell?] at this
      split at this
      ·simp [hx] at this
      ·cases this
   obtain ⟨b,o,q⟩:=x
   simp only at hs
   subst hs
   have hadd:∀ i,(⟨b,o,none⟩:Addr).add i=⟨b,o+i,none⟩:=fun i=>by
    unfold Addr.add;split
    ·rename_i e;subst e;rfl
    ·rfl
   refine .inr ⟨b,o,cap,rfl,hl,fun ρ=>⟨by simp;omega,fun i v e=>?_,fun i hi=>?_⟩⟩
   ·have hi:i<len:=by
     rcases Nat.lt_or_ge i len with h|h
     ·exact h
     ·rw [List.getElem?_eq_none (by simp;omega)] at e;cases e
    rw [List.getElem?_take_of_lt hi] at e
    obtain ⟨h1,h2⟩:=hc i v e
    rw [hadd] at h1
    exact ⟨v,h1,VR.flat ρ v h2.flat⟩
   ·have hi':i<zs.length:=by simp at hi;omega
    obtain ⟨h1,_⟩:=hc i zs[i] (List.getElem?_eq_getElem hi')
    rw [hadd] at h1
    exact ⟨by simp [h1],fun e=>by cases e⟩
end
theorem wf_u32 {n:Int} (h:(Lit.int .u32 n).wf=true):0≤n∧n<4294967296:=by simp [Lit.wf,IntKind.min,IntKind.max,IntKind.signed,IntKind.bits] at h;omega
end Go.Vm
namespace Go.Vm
open Go Go.RowKit
abbrev wI (k:IntKind) (n:Int):Int:=IntKind.wrap k n
abbrev XnF (k:IntKind) (a b:Int):Int:=IntKind.wrap k (BitVec.ofInt k.bits a &&& BitVec.ofInt k.bits b).toNat
abbrev XvA (k:IntKind) (a b:Int):Int:=IntKind.wrap k (BitVec.ofInt k.bits a ||| BitVec.ofInt k.bits b).toNat
abbrev XkN (k:IntKind) (a b:Int):Int:=IntKind.wrap k (BitVec.ofInt k.bits a &&& ~~~ BitVec.ofInt k.bits b).toNat
def Xbr {α:Type} (b:Bool) (x:Option α):Option α:=match b with|true=>x|false=>none
theorem Xbr.elim {α:Type} {b:Bool} {x:Option α} {r:α} (h:Xbr b x=some r):b=true∧x=some r:=by cases b;cases h;exact ⟨rfl,h⟩
theorem Xbr.mk {α:Type} {b:Bool} {x:Option α} (h:b=true):Xbr b x=x:=by subst h;rfl
theorem Xcm.elim {α β:Type} {x:Option α} {F:α→Option β} {r:β} (h:x.bind F=some r):∃ a,x=some a∧F a=some r:=by cases x with|none=>cases h|some a=>exact ⟨a,rfl,h⟩
def FUEL:Nat:=2^64
def iter {σ ρ:Type} (f:σ→Option (Sum σ ρ)):Nat→σ→Option ρ
 | 0,_=>none
 | n+1,s=>match f s with
   | none=>none
   | some (.inl s')=>iter f n s'
   | some (.inr r)=>some r
theorem XcJ {σ ρ:Type} {P:Program} {f base:Nat} {R:Value→Hp→Nat→Prop} {step:σ→Option (Sum σ ρ)} {head:σ→VM} {C:ρ→Prop}
 (h:∀ s o,step s=some o→Sum.elim (fun s'=>XaM P f base (head s') R) C o→XaM P f base (head s) R) :
 ∀ n s r,iter step n s=some r→C r→XaM P f base (head s) R
 | 0,_,_,e,_=>by cases e
 | n+1,s,r,e,hc=>by
   rw [iter] at e
   split at e
   ·cases e
   ·rename_i s' hs
    exact h s _ hs (XcJ h n s' r e hc)
   ·rename_i r' hs
    cases e
    exact h s _ hs hc
def vI (k:IntKind) (xs:List Int):List Value:=xs.map (Value.int k)
def vB (xs:List Bool):List Value:=xs.map Value.bool
def vS (xs:List (List UInt8)):List Value:=xs.map fun s=>Value.string ⟨⟨s⟩⟩
def bI (l:List UInt8):List Int:=l.map fun b=>(b.toNat:Int)
def iB (xs:List Int):List UInt8:=xs.map fun n=>UInt8.ofNat n.toNat
@[simp] theorem vI_len (k:IntKind) (xs:List Int):(vI k xs).length=xs.length:=List.length_map _
@[simp] theorem vB_len (xs:List Bool):(vB xs).length=xs.length:=List.length_map _
@[simp] theorem vS_len (xs:List (List UInt8)):(vS xs).length=xs.length:=List.length_map _
@[simp] theorem bI_len (l:List UInt8):(bI l).length=l.length:=List.length_map _
@[simp] theorem iB_len (l:List Int):(iB l).length=l.length:=List.length_map _
theorem XjF (k:IntKind) (xs:List Int):Xbg.flatL (vI k xs)=true:=XmV (fun _=>rfl) xs
theorem Xn6 (xs:List Bool):Xbg.flatL (vB xs)=true:=XmV (fun _=>rfl) xs
theorem Xos (xs:List (List UInt8)):Xbg.flatL (vS xs)=true:=XmV (fun _=>rfl) xs
theorem XeQ (k:IntKind):∀ (xs:List Int),(vI k xs).all Xir=true
 | []=>rfl
 | _::xs=>by simp only [vI,List.map_cons,List.all_cons,Xir,Bool.true_and];exact XeQ k xs
theorem XgB:∀ (xs:List Bool),(vB xs).all Xir=true
 | []=>rfl
 | _::xs=>by simp only [vB,List.map_cons,List.all_cons,Xir,Bool.true_and];exact XgB xs
theorem XgC:∀ (xs:List (List UInt8)),(vS xs).all Xir=true
 | []=>rfl
 | _::xs=>by simp only [vS,List.map_cons,List.all_cons,Xir,Bool.true_and];exact XgC xs
theorem XeK (l:List UInt8):ofBytes l=vI .u8 (bI l):=by simp [ofBytes,vI,bI,List.map_map]
theorem Xon:∀ (xs:List Int),XgA (vI .u8 xs)=some (iB xs)
 | []=>rfl
 | x::xs=>by simp only [vI,List.map_cons,XgA];rw [show XgA (xs.map (Value.int .u8))=_ from Xon xs];rfl
theorem XQE (k:IntKind) (xs:List Int) (i:Nat) (x:Int):(vI k xs).set i (.int k x)=vI k (xs.set i x):=by simp [vI,List.map_set]
theorem XiL (k:IntKind) (xs:List Int) (n:Nat):(vI k xs).drop n=vI k (xs.drop n):=by simp [vI,List.map_drop]
theorem XiJ (k:IntKind) (xs:List Int) (n:Nat):(vI k xs).take n=vI k (xs.take n):=by simp [vI,List.map_take]
theorem XJg (xs:List Bool) (n:Nat):(vB xs).drop n=vB (xs.drop n):=by simp [vB,List.map_drop]
theorem XLL (xs:List Bool) (n:Nat):(vB xs).take n=vB (xs.take n):=by simp [vB,List.map_take]
theorem Xjf (xs:List (List UInt8)) (n:Nat):(vS xs).drop n=vS (xs.drop n):=by simp [vS,List.map_drop]
theorem Xjh (xs:List (List UInt8)) (n:Nat):(vS xs).take n=vS (xs.take n):=by simp [vS,List.map_take]
theorem XHR (k:IntKind) (xs ys:List Int):vI k xs++vI k ys=vI k (xs++ys):=by simp [vI]
theorem br.h {α:Type} {b b':Bool} {X Y:Option α} {r:α} {p q:Prop} (h:cond b' X Y=some r) (e:b=b') (k1:b'=true→X=some r→p) (k2:b'=false→Y=some r→q):br b p q:=by
 subst e;cases b;exact k2 rfl h;exact k1 rfl h
theorem rd.I {k:IntKind} {xs:List Int} {o i:Nat} {x:Int} {K:Value→Prop} (hx:xs[i]?=some x) (e:o=i) (h:XhJ (.int k x) K):rd (vI k xs) o K:=by
 subst e;exact rd.intro (v:=.int k x) (by simp [vI,hx]) h
theorem rd.B {xs:List Bool} {o i:Nat} {x:Bool} {K:Value→Prop} (hx:xs[i]?=some x) (e:o=i) (h:XhJ (.bool x) K):rd (vB xs) o K:=by
 subst e;exact rd.intro (v:=.bool x) (by simp [vB,hx]) h
theorem rd.S {xs:List (List UInt8)} {o i:Nat} {x:List UInt8} {K:Value→Prop} (hx:xs[i]?=some x) (e:o=i) (h:XhJ (.string ⟨⟨x⟩⟩) K):rd (vS xs) o K:=by
 subst e;exact rd.intro (v:=.string ⟨⟨x⟩⟩) (by simp [vS,hx]) h
theorem XI7 {k:IntKind} {xs:List Int} {o i:Nat} {x:Int} (hb:decide (i<xs.length)=true) (e:o=i):(decide ((Xbd (.int k x)).length=1∧o+1≤(vI k xs).length)&&(Xbd (.int k x)).all Xir)=true:=by
 subst e;have:=of_decide_eq_true hb;simp [Xbd,Value.cells,Xir];omega
theorem XSr {k:IntKind} {xs:List Int} {o i:Nat} {x:Int} {K:List Value→Prop} (e:o=i) (h:K (vI k (xs.set i x))):∃ cs',setAt (vI k xs) o (Xbd (.int k x))=cs'∧K cs':=
 ⟨_,by subst e;exact XQE k xs o x,h⟩
theorem XNG {k:IntKind} {n:Nat} {z:Int} {K:List Value→Prop} (h:K (vI k (List.replicate n z))):∃ cs',(List.replicate n [Value.int k z]).flatten=cs'∧K cs':=
 ⟨_,by simp [vI,List.flatten_replicate_singleton],h⟩
theorem XQZ {l:List UInt8} {K:List Value→Prop} (h:K (vI .u8 (bI l))):∃ cs',ofBytes l=cs'∧K cs':=⟨_,XeK l,h⟩
theorem XOK {xs:List Int} {o n:Nat} {K:List UInt8→Prop} (h:K (iB ((xs.drop o).take n))):∃ bs,XgA (((vI .u8 xs).drop o).take n)=some bs∧K bs:=
 ⟨_,by rw [XiL,XiJ];exact Xon _,h⟩
theorem XJA {l:List Value} {bs:List UInt8} {K:List UInt8→Prop} (e:XgA l=some bs) (h:K bs):∃ bs,XgA l=some bs∧K bs:=⟨_,e,h⟩
theorem XMr {k:IntKind} {new:List Value} {m:Nat} {ys:List Int} {K:List Value→Nat→Prop} (e:new=vI k ys) (em:m=ys.length) (h:K (vI k ys) ys.length):∃ cs' n',new=cs'∧m=n'∧K cs' n':=⟨_,_,e,em,h⟩
theorem Xws {k:IntKind} {new:List Value} {xs:List Int} {o c n m:Nat} {ys:List Int} {K:List Value→Nat→Prop} (e:new=vI k ys) (h0:o=0) (hc:c=xs.length) (hn:n+m=(xs++ys).length) (h:K (vI k (xs++ys)) (xs++ys).length) :
 ∃ cs' n',((vI k xs).drop o).take c++new=cs'∧n+m=n'∧K cs' n':=
 ⟨_,_,by subst h0;rw [List.drop_zero,List.take_of_length_le (by simp [hc]),e,XHR],hn,h⟩
def vT {α:Type} (f:α→List Value) (xs:List α):List Value:=xs.flatMap f
section
variable {α:Type} {f:α→List Value} {c:Nat}
theorem Xld (hf:∀ x,(f x).length=c) (xs:List α):(vT f xs).length=xs.length*c:=by
 induction xs with
 | nil=>simp [vT]
 | cons x xs ih=>
   have:vT f (x::xs)=f x++vT f xs:=rfl
   rw [this,List.length_append,hf,ih,List.length_cons,Nat.succ_mul];omega
theorem Xn0 (hf:∀ x,Xbg.flatL (f x)=true) (xs:List α):Xbg.flatL (vT f xs)=true:=by
 have app:∀ a b:List Value,Xbg.flatL a=true→Xbg.flatL b=true→Xbg.flatL (a++b)=true:=by
  intro a b ha hb
  induction a with
  | nil=>exact hb
  | cons v a ih=>simp only [Xbg.flatL,Bool.and_eq_true,List.cons_append] at ha ⊢;exact ⟨ha.1,ih ha.2⟩
 induction xs with
 | nil=>rfl
 | cons x xs ih=>exact app _ _ (hf x) ih
theorem Xhp (hf:∀ x,(f x).all Xir=true) (xs:List α):(vT f xs).all Xir=true:=by
 induction xs with
 | nil=>rfl
 | cons x xs ih=>have:vT f (x::xs)=f x++vT f xs:=rfl;rw [this,List.all_append,hf,ih];rfl
theorem XF0 (xs ys:List α):vT f xs++vT f ys=vT f (xs++ys):=by simp [vT]
theorem XnZ (hf:∀ x,(f x).length=c) (xs:List α) (n:Nat):(vT f xs).drop (n*c)=vT f (xs.drop n):=by
 induction xs generalizing n with
 | nil=>simp [vT]
 | cons x xs ih=>
   cases n with
   | zero=>simp
   | succ n=>
     have:vT f (x::xs)=f x++vT f xs:=rfl
     rw [this,List.drop_succ_cons,Nat.succ_mul,Nat.add_comm,List.drop_append,hf,List.drop_eq_nil_of_le (by rw [hf];omega),List.nil_append,show c+n*c - c=n*c by omega,ih]
theorem Xof (hf:∀ x,(f x).length=c) (xs:List α) (n:Nat):(vT f xs).take (n*c)=vT f (xs.take n):=by
 induction xs generalizing n with
 | nil=>simp [vT]
 | cons x xs ih=>
   cases n with
   | zero=>simp [vT]
   | succ n=>
     have:vT f (x::xs)=f x++vT f xs:=rfl
     have h2:vT f ((x::xs).take (n+1))=f x++vT f (xs.take n):=rfl
     rw [this,h2,Nat.succ_mul,Nat.add_comm,List.take_append,hf,List.take_of_length_le (by rw [hf];omega),show c+n*c - c=n*c by omega,ih]
theorem Xy1 (hf:∀ x,(f x).length=c) {xs:List α} {i j:Nat} {x:α} (hx:xs[i]?=some x) (hj:j<c):(vT f xs)[i*c+j]?=(f x)[j]?:=by
 induction xs generalizing i with
 | nil=>simp at hx
 | cons y xs ih=>
   have:vT f (y::xs)=f y++vT f xs:=rfl
   rw [this]
   cases i with
   | zero=>
     simp at hx;subst hx
     rw [Nat.zero_mul,Nat.zero_add,List.getElem?_append_left (by rw [hf];exact hj)]
   | succ i=>
     rw [List.getElem?_append_right (by rw [hf,Nat.succ_mul];omega),hf,show (i+1)*c+j - c=i*c+j by rw [Nat.succ_mul];omega]
     exact ih (by simpa using hx)
theorem rd.T (hf:∀ x,(f x).length=c) {xs:List α} {o i j:Nat} {x:α} {v:Value} {K:Value→Prop} (hx:xs[i]?=some x) (e:o=i*c+j) (hj:j<c) (hv:(f x)[j]?=some v) (h:XhJ v K):rd (vT f xs) o K:=by
 subst e;exact rd.intro (by rw [Xy1 hf hx hj];exact hv) h
theorem rd.U (hf:∀ x,(f x).length=c) {xs:List α} {o i j:Nat} {x:α} {v:Value} {K:Value→Prop} (hx:xs[i]?=some x) (h:XhJ v K) (e:o=i*c+j:=by first|omega|exact Nat.zero_add _|exact congrArg (·+_) (Nat.zero_add _)) (hj:j<c:=by decide) (hv:(f x)[j]?=some v:=by exact rfl):rd (vT f xs) o K:=rd.T hf hx e hj hv h
theorem XHc {cs:List Value}:∀ {l:List Value} {o:Nat} {K:List Value→Prop},(∀ (j:Nat) v,l[j]?=some v→cs[o+j]?=some v)→K l→rdN cs o l.length K
 | [],o,K,_,h=>h
 | v::l,o,K,hc,h=>by
   rw [List.length_cons,rdN]
   refine rd.intro (by simpa using hc 0 v rfl) ?_
   rw [XgH]
   exact XHc (l:=l) (fun j u hj=>by rw [show o+1+j=o+(j+1) by omega];exact hc (j+1) u (by simpa using hj)) h
theorem ld_T (hf:∀ x,(f x).length=c) {xs:List α} {o i n:Nat} {x:α} {K:List Value→Prop} (hx:xs[i]?=some x) (e:o=i*c) (hn:n=c) (h:Xnx (f x) K):req (decide (o+n≤(vT f xs).length)) (rdN (vT f xs) o n K):=by
 subst e hn
 have hlt:i<xs.length:=(List.getElem?_eq_some_iff.1 hx).1
 refine req.intro ?_ ?_
 ·rw [Xld hf,decide_eq_true_eq]
  have:=Nat.mul_le_mul_right n (show i+1≤xs.length by omega)
  rw [Nat.succ_mul] at this;exact this
 ·rw [XjQ] at h
  have:=XHc (cs:=vT f xs) (l:=f x) (o:=i*n) (K:=K) (fun j v hj=>by
   have hj':j<n:=by rw [←hf x];exact (List.getElem?_eq_some_iff.1 hj).1
   rw [Xy1 hf hx hj'];exact hj) h
  rwa [hf] at this
theorem XtX (hf:∀ x,(f x).length=c) {new:List Value} {xs:List α} {o k n m:Nat} {ys:List α} {K:List Value→Nat→Prop} (e:new=vT f ys) (h0:o=0) (hc:k=xs.length*c) (hn:n+m=(xs++ys).length) (h:K (vT f (xs++ys)) (xs++ys).length) :
 ∃ cs' n',((vT f xs).drop o).take k++new=cs'∧n+m=n'∧K cs' n':=
 ⟨_,_,by subst h0;rw [List.drop_zero,List.take_of_length_le (by rw [Xld hf,hc];omega),e,XF0],hn,h⟩
def unT (sz:Nat) (un:List Value→Option α):Nat→List Value→Option (List α)
 | 0,[]=>some []
 | 0,_::_=>none
 | _+1,[]=>some []
 | n+1,v::cs=>match un ((v::cs).take sz) with
   | some x=>match unT sz un n ((v::cs).drop sz) with
     | some xs=>some (x::xs)
     | none=>none
   | none=>none
theorem XHA {un:List Value→Option α} (hf:∀ x,(f x).length=c) (h0:0<c) (hu:∀ x,un (f x)=some x):∀ (xs:List α) (n:Nat),xs.length≤n→unT c un n (vT f xs)=some xs
 | [],0,_=>rfl
 | [],n+1,_=>rfl
 | x::xs,0,h=>by simp at h
 | x::xs,n+1,h=>by
   have e:vT f (x::xs)=f x++vT f xs:=rfl
   obtain ⟨v,l,hv⟩:∃ v l,vT f (x::xs)=v::l:=by
    cases hx:f x with
    | nil=>have:=hf x;rw [hx] at this;simp at this;omega
    | cons v l=>exact ⟨v,l++vT f xs,by rw [e,hx];rfl⟩
   rw [hv,unT,←hv,e,List.take_append_of_le_length (by rw [hf];exact Nat.le_refl _),List.take_of_length_le (by rw [hf];exact Nat.le_refl _),hu,List.drop_append,hf,List.drop_eq_nil_of_le (by rw [hf];exact Nat.le_refl _),Nat.sub_self,List.drop_zero,List.nil_append,XHA hf h0 hu xs n (by simpa using h)]
theorem Xpx {un:List Value→Option α} (hu:∀ cs x,un cs=some x→cs=f x):∀ {n:Nat} {cs:List Value} {xs:List α},unT c un n cs=some xs→cs=vT f xs
 | 0,[],xs,h=>by simp only [unT,Option.some.injEq] at h;subst h;rfl
 | 0,_::_,xs,h=>by simp [unT] at h
 | n+1,[],xs,h=>by simp only [unT,Option.some.injEq] at h;subst h;rfl
 | n+1,v::cs,xs,h=>by
   simp only [unT] at h
   split at h<;>try (cases h;done)
   rename_i x hx
   split at h<;>cases h
   rename_i ys hys
   have e1:=hu _ _ hx
   have e2:=Xpx hu hys
   have:vT f (x::ys)=f x++vT f ys:=rfl
   rw [this,←e1,←e2,List.take_append_drop]
def unR (sz:Nat) (un:List Value→Option α) (cs:List Value):Option (List α):=unT sz un cs.length cs
theorem XzZ {un:List Value→Option α} (hf:∀ x,(f x).length=c) (h0:0<c) (hu:∀ x,un (f x)=some x) (xs:List α):unR c un (vT f xs)=some xs:=
 XHA hf h0 hu xs _ (by rw [Xld hf];exact Nat.le_mul_of_pos_right _ h0)
end
theorem Xs0 {s:XbS} {vals aqs:List Value} {os:List (Option XbF)} {h h1 h2:Hp} {top n m t':Nat} {ws:List Wd} {r:Xc2} {v':Value} (e1:Xd1 h 0 s.modes vals=some (aqs,os)) (ew:XkJ h s.modes vals=ws) {cw:List (Option (List Value))} (ec:XkM os=cw) (e2:s.run aqs cw=some r) (e3:apartB ws=true)
 (hn:r.new.length=n) (hm:XlJ ws=m) (ht:top+n+m=t') (e4:XdB h (Xur top n ws) ws r.wr=some h1) (e5:Xjg h1 (Xur top n ws) top r.new=some h2) (e6:Xe5 (Xur top n ws) r.v=some v'):XiN s vals h top=some (v',XjA h2 (top+n) m,t'):=by
 subst hn hm ht ec
 simp only [XiN,e1,e2,ew,e3,e4,e5,e6]
theorem XQq {h:Hp} {k:Nat}:Xd1 h k [] []=some ([],[]):=rfl
theorem XKo {h:Hp} {k k':Nat} {m:Md} {ms:List Md} {v a:Value} {vs aqs:List Value} {os os':List (Option XbF)} (e:Xdl h k m v=some (a,os)) (hk:k+os.length=k') (t:Xd1 h k' ms vs=some (aqs,os')):Xd1 h k (m::ms) (v::vs)=some (a::aqs,os++os'):=by
 subst hk
 simp only [Xd1,e,t]
theorem XBL {h:Hp} {k b o n m sz sz':Nat} {ob:XbF} {cs cs':List Value} (ho:XaL h b=some ob) (hc:ob.cs=some cs) (hs:sz=sz') (en:n=m) (hle:o+n*sz≤cs.length) (e:(cs.drop o).take (n*sz)=cs') (hf:Xbg.flatL cs'=true) :
 Xdl h k (.sl sz) (.slice (some ⟨b,o,none⟩) n sz')=some (.slice (some ⟨k,0,none⟩) m sz,[some (.row false cs')]):=by
 subst hs en e
 simp only [Xdl,ho,hc,hle,hf,↓reduceIte]
theorem XHa {h:Hp} {b o n i m sz kk:Nat} {k:IntKind} {own:Bool} {xs:List Int} (ho:XaL h b=some (.row own (vI k xs))) (hs:sz=1) (e0:o=i) (en:n=m) (hle:i+m≤xs.length):Xdl h kk (.sl 1) (.slice (some ⟨b,o,none⟩) n sz)=some (.slice (some ⟨kk,0,none⟩) m 1,[some (.row false (vI k ((xs.drop i).take m)))]):=by
 subst hs e0 en
 exact XBL ho rfl rfl rfl (by simp;omega) (by rw [XiL,XiJ,Nat.mul_one]) (XjF _ _)
theorem XHk {h:Hp} {b o n i m sz kk:Nat} {own:Bool} {xs:List (List UInt8)} (ho:XaL h b=some (.row own (vS xs))) (hs:sz=1) (e0:o=i) (en:n=m) (hle:i+m≤xs.length):Xdl h kk (.sl 1) (.slice (some ⟨b,o,none⟩) n sz)=some (.slice (some ⟨kk,0,none⟩) m 1,[some (.row false (vS ((xs.drop i).take m)))]):=by
 subst hs e0 en
 exact XBL ho rfl rfl rfl (by simp;omega) (by rw [Xjf,Xjh,Nat.mul_one]) (Xos _)
theorem XGJ {h:Hp} {b o n i m sz kk:Nat} {own:Bool} {xs:List Bool} (ho:XaL h b=some (.row own (vB xs))) (hs:sz=1) (e0:o=i) (en:n=m) (hle:i+m≤xs.length):Xdl h kk (.sl 1) (.slice (some ⟨b,o,none⟩) n sz)=some (.slice (some ⟨kk,0,none⟩) m 1,[some (.row false (vB ((xs.drop i).take m)))]):=by
 subst hs e0 en
 exact XBL ho rfl rfl rfl (by simp;omega) (by rw [XJg,XLL,Nat.mul_one]) (Xn6 _)
theorem XMp {h:Hp} {b o n sz kk:Nat} {k:IntKind} {own:Bool} {xs:List Int} (ho:XaL h b=some (.row own (vI k xs))) (hs:sz=1) (e0:o=0) (en:n=xs.length):Xdl h kk (.sl 1) (.slice (some ⟨b,o,none⟩) n sz)=some (.slice (some ⟨kk,0,none⟩) xs.length 1,[some (.row false (vI k xs))]):=by
 have:=XHa (kk:=kk) (i:=0) (m:=xs.length) ho hs e0 en (by omega)
 simpa using this
theorem XK7 {h:Hp} {b o n sz kk:Nat} {own:Bool} {xs:List (List UInt8)} (ho:XaL h b=some (.row own (vS xs))) (hs:sz=1) (e0:o=0) (en:n=xs.length):Xdl h kk (.sl 1) (.slice (some ⟨b,o,none⟩) n sz)=some (.slice (some ⟨kk,0,none⟩) xs.length 1,[some (.row false (vS xs))]):=by
 have:=XHk (kk:=kk) (i:=0) (m:=xs.length) ho hs e0 en (by omega)
 simpa using this
theorem XIO {h:Hp} {b o n sz kk:Nat} {own:Bool} {xs:List Bool} (ho:XaL h b=some (.row own (vB xs))) (hs:sz=1) (e0:o=0) (en:n=xs.length):Xdl h kk (.sl 1) (.slice (some ⟨b,o,none⟩) n sz)=some (.slice (some ⟨kk,0,none⟩) xs.length 1,[some (.row false (vB xs))]):=by
 have:=XGJ (kk:=kk) (i:=0) (m:=xs.length) ho hs e0 en (by omega)
 simpa using this
theorem Xug {α:Type} {f:α→List Value} {c:Nat} (hf:∀ x,(f x).length=c) (hfl:∀ x,Xbg.flatL (f x)=true) {h:Hp} {b o n i m sz kk:Nat} {own:Bool} {xs:List α} (ho:XaL h b=some (.row own (vT f xs))) (hs:sz=c) (e0:o=i*c) (en:n=m) (hle:i+m≤xs.length):Xdl h kk (.sl c) (.slice (some ⟨b,o,none⟩) n sz)=some (.slice (some ⟨kk,0,none⟩) m c,[some (.row false (vT f ((xs.drop i).take m)))]):=by
 subst hs e0 en
 refine XBL ho rfl rfl rfl ?_ (by rw [XnZ hf,Xof hf]) (Xn0 hfl _)
 rw [Xld hf,←Nat.add_mul];exact Nat.mul_le_mul_right _ hle
theorem Xsw {α:Type} {f:α→List Value} {c:Nat} (hf:∀ x,(f x).length=c) (hfl:∀ x,Xbg.flatL (f x)=true) {h:Hp} {b o n sz kk:Nat} {own:Bool} {xs:List α} (ho:XaL h b=some (.row own (vT f xs))) (hs:sz=c) (e0:o=0) (en:n=xs.length):Xdl h kk (.sl c) (.slice (some ⟨b,o,none⟩) n sz)=some (.slice (some ⟨kk,0,none⟩) xs.length c,[some (.row false (vT f xs))]):=by
 have:=Xug hf hfl (kk:=kk) (i:=0) (m:=xs.length) ho hs (by simpa using e0) en (by omega)
 simpa using this
theorem ra_tr {h:Hp} {k:Nat} {ps:List Path} {bs:List PR} {v v' w:Value} {l:List (Option XbF)} (e0:Xhv h v ps []=bs) (e1:Xe5 (XxT k bs) v=some v') (e2:XfQ h (XxT k bs) (fun s=>Xmx k s ps bs) 0 ps bs=some l) (e3:Xwy v' (Xmx k none ps bs)=w):Xdl h k (.tr ps) v=some (w,l):=by
 subst e0 e3
 simp only [Xdl,e1,e2]
theorem XRS {h:Hp} {s:Nat→Option Nat} {pat:Option Nat→List (Nat×Value)} {i:Nat}:XfQ h s pat i [] []=some []:=rfl
theorem vp_no {h:Hp} {s:Nat→Option Nat} {pat:Option Nat→List (Nat×Value)} {i:Nat} {p:Path} {ps:List Path} {bs:List PR} {l:List (Option XbF)} (t:XfQ h s pat (i+1) ps bs=some l):XfQ h s pat i (p::ps) (.no::bs)=some (none::l):=by
 simp only [XfQ,t]
theorem XP7 {h:Hp} {s:Nat→Option Nat} {pat:Option Nat→List (Nat×Value)} {i z:Nat} {p:Path} {ps:List Path} {bs:List PR} {l:List (Option XbF)} (t:XfQ h s pat (i+1) ps bs=some l) (hk:Nat.beq p.kind 3=false:=by rfl):XfQ h s pat i (p::ps) (.nil z::bs)=some (some (mkObj p.kind [])::l):=by
 simp only [XfQ,t,hk,cond_false]
theorem vp_at {h:Hp} {s:Nat→Option Nat} {pat:Option Nat→List (Nat×Value)} {i b:Nat} {p:Path} {ps:List Path} {bs:List PR} {l:List (Option XbF)} {ob:XbF} {cs cs' cs'':List Value} (e1:XaL h b=some ob) (e2:(cond (isW p.kind) ob.wcs ob.cs)=some cs) (e3:Xe5.renL s cs=some cs') (e4:Xt4 cs' (pat (some i))=cs'')
 (t:XfQ h s pat (i+1) ps bs=some l) (hk:Nat.beq p.kind 3=false:=by rfl):XfQ h s pat i (p::ps) (.hit b::bs)=some (some (mkObj p.kind cs'')::l):=by
 subst e4
 simp only [XfQ,XtJ,e1,e2,e3,t,hk,cond_false]
theorem XSF {h:Hp} {s:Nat→Option Nat} {pat:Option Nat→List (Nat×Value)} {i b:Nat} {p:Path} {ps:List Path} {bs:List PR} {l:List (Option XbF)} {cs:List Value} (e1:XaL h b=some (.mp cs)) (hk:Nat.beq p.kind 3=true)
 (t:XfQ h s pat (i+1) ps bs=some l):XfQ h s pat i (p::ps) (.hit b::bs)=some (some (.mp cs)::l):=by
 simp only [XfQ,XtJ,e1,t,hk,cond_true,mapB]
def skipW:Wd→Bool
 | .no|.emp _|.win _ _ _ false|.blk _ false=>true
 | _=>false
theorem XGz {h:Hp} {s:Nat→Option Nat}:XdB h s [] []=some h:=rfl
theorem XIT {h h':Hp} {s:Nat→Option Nat} {x:Wd} {ws:List Wd} {c:Option (List Value)} {cs:List (Option (List Value))} (hx:skipW x=true) (t:XdB h s ws cs=some h'):XdB h s (x::ws) (c::cs)=some h':=by
 cases x with
 | win b o n w=>cases w<;>first|(simp only [XdB];exact t)|cases hx
 | blk b w=>cases w<;>first|(simp only [XdB];exact t)|cases hx
 | _=>simp only [XdB];exact t
theorem XHU {h h':Hp} {s:Nat→Option Nat} {b off n:Nat} {ws:List Wd} {c c' x y:List Value} {cs:List (Option (List Value))} {ob ob':XbF} (e1:XaL h b=some ob) (e2:ob.wcs=some x) (e3:Xe5.renL s c=some c') (e4:c'.length=n∧off+n≤x.length) (e5:setAt x off c'=y) (e6:ob.wr y=some ob') (t:XdB (Xf0 h b ob') s ws cs=some h') (hm:mk3 c=none:=by rfl) :
 XdB h s (.win b off n true::ws) (some c::cs)=some h':=by
 subst e5
 have e4':c'.length=n∧off+n≤x.length∧mk3 c=none:=⟨e4.1,e4.2,hm⟩
 simp only [XdB,e1,e2,e3,e6,if_pos e4'];exact t
theorem XRD {h h':Hp} {s:Nat→Option Nat} {b:Nat} {ws:List Wd} {c c' x:List Value} {cs:List (Option (List Value))} {ob ob':XbF} (e1:XaL h b=some ob) (e2:ob.wcs=some x) (e3:Xe5.renL s c=some c') (e6:ob.wr c'=some ob') (t:XdB (Xf0 h b ob') s ws cs=some h') (hm:mk3 c=none:=by rfl) :
 XdB h s (.blk b true::ws) (some c::cs)=some h':=by
 have:XFL s ob c=some ob':=by
  unfold XFL
  rw [hm]
  cases ob<;>first|(simp only [e2,e3];exact e6)|cases e2
 simp only [XdB,e1,this];exact t
theorem XTu {h h':Hp} {s:Nat→Option Nat} {b:Nat} {ws:List Wd} {c0 c:List Value} {cs:List (Option (List Value))} (e1:XaL h b=some (.mp c0)) (t:XdB (Xf0 h b (.mp c)) s ws cs=some h') :
 XdB h s (.blk b true::ws) (some (.float .f64 0::c)::cs)=some h':=by
 simp only [XdB,e1,XFL,mk3];exact t
theorem XOI {h h':Hp} {s:Nat→Option Nat} {b:Nat} {ws:List Wd} {cs:List (Option (List Value))} (t:XdB (XoD h b) s ws cs=some h'):XdB h s (.blk b true::ws) (none::cs)=some h':=by
 simp only [XdB];exact t
theorem XFl {h:Hp} {s:Nat→Option Nat} {top:Nat}:Xjg h s top []=some h:=rfl
theorem XNd {h h':Hp} {s:Nat→Option Nat} {top:Nat} {c c':List Value} {cs:List (List Value)} (e:Xe5.renL s c=some c') (t:Xjg (Xf0 h top (.row true c')) s (top+1) cs=some h'):Xjg h s top (c::cs)=some h':=by
 simp only [Xjg,e];exact t
theorem XqQ {s:Nat→Option Nat} {k:IntKind} {xs:List Int}:Xe5.renL s (vI k xs)=some (vI k xs):=XdF _ _ (XjF _ _)
theorem XJM {s:Nat→Option Nat} {xs:List Bool}:Xe5.renL s (vB xs)=some (vB xs):=XdF _ _ (Xn6 _)
theorem XKJ {s:Nat→Option Nat} {xs:List (List UInt8)}:Xe5.renL s (vS xs)=some (vS xs):=XdF _ _ (Xos _)
theorem XiB {s:Nat→Option Nat} {α:Type} {f:α→List Value} (hfl:∀ x,Xbg.flatL (f x)=true) {xs:List α}:Xe5.renL s (vT f xs)=some (vT f xs):=XdF _ _ (Xn0 hfl _)
def XEq (n:Nat) (wr:List (Option (List Value))):List Nat→Prop
 | []=>True
 | j::js=>(n≤j∨wr[j]?=some none)∧XEq n wr js
theorem XwJ {n:Nat} {wr:List (Option (List Value))}:∀ {js:List Nat},XEq n wr js→∀ j∈js,n≤j∨wr[j]?=some none
 | [],_,j,h=>by cases h
 | k::js,h,j,hj=>by
   rcases List.mem_cons.1 hj with rfl|hj
   ·exact h.1
   ·exact XwJ h.2 j hj
theorem Res.of {n:Nat} {r:Xc2} {v':Value} {H':Hp} (js:List Nat) (e1:Xe5 (Xul js n) r.v=some v') (e2:XtG H' (Xul js n) js r.new) (e3:js.Nodup) (e4:XEq n r.wr js) (e5:XxF H' (Xul js n) 0 r.wr):Res n r v' H':=
 ⟨⟨js,e1,e2,e3,XwJ e4,e5⟩⟩
theorem XdH {H:Hp} {j:Nat} {c:List Value} (h:XaL H j=some (.row true c)):Has H j c:=.inl h
theorem Xfq {H:Hp} {j:Nat} {c:List Value} (h:XaL H j=some (.cells c)):Has H j c:=.inr (.inl h)
abbrev Dec:=List Value→List (Option (List Value))→Option Xc2
def dV {α:Type} (un:Value→Option α) (K:α→Dec):Dec:=fun vs cs=>match vs with
 | v::vs'=>match un v with
   | some x=>K x vs' cs
   | none=>none
 | []=>none
theorem Xbb {α:Type} {un:Value→Option α} {K:α→Dec} {v:Value} {vs:List Value} {cs:List (Option (List Value))} {x:α} (h:un v=some x):dV un K (v::vs) cs=K x vs cs:=by simp only [dV,h]
theorem dV.elim {α:Type} {un:Value→Option α} {K:α→Dec} {vs:List Value} {cs:List (Option (List Value))} {r:Xc2} (h:dV un K vs cs=some r):∃ v vs' x,vs=v::vs'∧un v=some x∧K x vs' cs=some r:=by
 unfold dV at h
 split at h<;>try (cases h;done)
 split at h<;>try (cases h;done)
 exact ⟨_,_,_,rfl,by assumption,h⟩
def dSl {α:Type} (k sz:Nat) (un:List Value→Option (List α)) (K:List α→Dec):Dec:=fun vs cs=>match vs,cs with
 | .slice (some ⟨k',0,none⟩) n sz'::vs',some c::cs'=>match un c with
   | some xs=>if k'=k∧sz'=sz∧n=xs.length then K xs vs' cs' else none
   | none=>none
 | _,_=>none
theorem XvI {α:Type} {k sz:Nat} {un:List Value→Option (List α)} {K:List α→Dec} {vs:List Value} {c:List Value} {cs:List (Option (List Value))} {xs:List α} (h:un c=some xs):dSl k sz un K (.slice (some ⟨k,0,none⟩) xs.length sz::vs) (some c::cs)=K xs vs cs:=by simp [dSl,h]
theorem dSl.elim {α:Type} {k sz:Nat} {un:List Value→Option (List α)} {K:List α→Dec} {vs:List Value} {cs:List (Option (List Value))} {r:Xc2} (h:dSl k sz un K vs cs=some r):∃ c vs' cs' xs,vs=.slice (some ⟨k,0,none⟩) xs.length sz::vs'∧cs=some c::cs'∧un c=some xs∧K xs vs' cs'=some r:=by
 unfold dSl at h
 split at h<;>try (cases h;done)
 split at h<;>try (cases h;done)
 split at h<;>try (cases h;done)
 rename_i hc
 obtain ⟨rfl,rfl,rfl⟩:=hc
 exact ⟨_,_,_,_,rfl,rfl,by assumption,h⟩
def dTr {α:Type} (n:Nat) (un:Value→List (Option (List Value))→Option α) (K:α→Dec):Dec:=fun vs cs=>match vs with
 | v::vs'=>match un v (cs.take n) with
   | some x=>K x vs' (cs.drop n)
   | none=>none
 | []=>none
theorem XhS {α:Type} {n:Nat} {un:Value→List (Option (List Value))→Option α} {K:α→Dec} {v:Value} {vs:List Value} {cs cs1 cs2:List (Option (List Value))} {x:α} (h1:cs.take n=cs1) (h2:cs.drop n=cs2) (h:un v cs1=some x):dTr n un K (v::vs) cs=K x vs cs2:=by
 subst h1 h2;simp only [dTr,h]
theorem dTr.elim {α:Type} {n:Nat} {un:Value→List (Option (List Value))→Option α} {K:α→Dec} {vs:List Value} {cs:List (Option (List Value))} {r:Xc2} (h:dTr n un K vs cs=some r):∃ v vs' cs1 cs2 x,vs=v::vs'∧cs=cs1++cs2∧un v cs1=some x∧K x vs' cs2=some r:=by
 unfold dTr at h
 split at h<;>try (cases h;done)
 split at h<;>try (cases h;done)
 exact ⟨_,_,_,_,_,rfl,(List.take_append_drop n cs).symm,by assumption,h⟩
def dPt {α:Type} (k:Nat) (un:List Value→Option α) (K:α→Dec):Dec:=fun vs cs=>match vs,cs with
 | .pointer (some ⟨k',0,none⟩)::vs',some c::cs'=>match un c with
   | some x=>if k'=k then K x vs' cs' else none
   | none=>none
 | _,_=>none
theorem XnD {α:Type} {k:Nat} {un:List Value→Option α} {K:α→Dec} {vs:List Value} {c:List Value} {cs:List (Option (List Value))} {x:α} (h:un c=some x):dPt k un K (.pointer (some ⟨k,0,none⟩)::vs) (some c::cs)=K x vs cs:=by simp [dPt,h]
theorem dPt.elim {α:Type} {k:Nat} {un:List Value→Option α} {K:α→Dec} {vs:List Value} {cs:List (Option (List Value))} {r:Xc2} (h:dPt k un K vs cs=some r):∃ c vs' cs' x,vs=.pointer (some ⟨k,0,none⟩)::vs'∧cs=some c::cs'∧un c=some x∧K x vs' cs'=some r:=by
 unfold dPt at h
 split at h<;>try (cases h;done)
 split at h<;>try (cases h;done)
 split at h<;>try (cases h;done)
 rename_i hc
 subst hc
 exact ⟨_,_,_,_,rfl,rfl,by assumption,h⟩
def dNo:Nat→Dec→Dec
 | 0,K=>K
 | n+1,K=>fun vs cs=>match cs with
   | none::cs'=>dNo n K vs cs'
   | _=>none
theorem dNo.elim {K:Dec} {vs:List Value} {r:Xc2}:∀ {n:Nat} {cs:List (Option (List Value))},dNo n K vs cs=some r→∃ cs',cs=List.replicate n none++cs'∧K vs cs'=some r
 | 0,cs,h=>⟨cs,rfl,h⟩
 | n+1,cs,h=>by
   simp only [dNo] at h
   split at h<;>try (cases h;done)
   obtain ⟨cs',rfl,h2⟩:=dNo.elim h
   exact ⟨cs',rfl,h2⟩
def dNl (n:Nat) (K:Dec):Dec:=fun vs cs=>match vs with
 | .pointer none::vs'=>dNo n K vs' cs
 | _=>none
theorem dNl.elim {n:Nat} {K:Dec} {vs:List Value} {cs:List (Option (List Value))} {r:Xc2} (h:dNl n K vs cs=some r):∃ vs' cs',vs=.pointer none::vs'∧cs=List.replicate n none++cs'∧K vs' cs'=some r:=by
 unfold dNl at h
 split at h<;>try (cases h;done)
 obtain ⟨cs',rfl,h2⟩:=dNo.elim h
 exact ⟨_,cs',rfl,rfl,h2⟩
def XdT (r:Option Xc2):Dec:=fun vs cs=>match vs,cs with
 | [],[]=>r
 | _,_=>none
theorem XdT.elim {o:Option Xc2} {vs:List Value} {cs:List (Option (List Value))} {r:Xc2} (h:XdT o vs cs=some r):vs=[]∧cs=[]∧o=some r:=by
 unfold XdT at h
 split at h<;>try (cases h;done)
 exact ⟨rfl,rfl,h⟩
def orD (a b:Dec):Dec:=fun vs cs=>match a vs cs with
 | some r=>some r
 | none=>b vs cs
theorem orD.elim {a b:Dec} {vs:List Value} {cs:List (Option (List Value))} {r:Xc2} (h:orD a b vs cs=some r):a vs cs=some r∨b vs cs=some r:=by
 unfold orD at h
 split at h
 ·cases h;left;assumption
 ·exact .inr h
def ofG {α:Type} (o:Option α) (f:α→Xc2):Option Xc2:=match o with
 | some x=>some (f x)
 | none=>none
theorem Xa7 {α:Type} {o:Option α} {f:α→Xc2} {x:α} (h:o=some x):ofG o f=some (f x):=by subst h;rfl
theorem ofG.elim {α:Type} {o:Option α} {f:α→Xc2} {r:Xc2} (h:ofG o f=some r):∃ x,o=some x∧f x=r:=by
 cases o with
 | none=>cases h
 | some x=>exact ⟨x,rfl,by cases h;rfl⟩
def asS:Value→Option (List UInt8)|.string s=>some s.data.toList|_=>none
theorem XAr (v:Value) (x:List UInt8) (h:asS v=some x):v=.string ⟨⟨x⟩⟩:=by cases v<;>simp [asS] at h;subst h;rfl
theorem XvE (k:IntKind) (xs:List Int):unL (asI k) (vI k xs)=some xs:=XAA (fun x=>by simp [asI]) xs
theorem XFn {k:IntKind} {cs:List Value} {xs:List Int} (h:unL (asI k) cs=some xs):cs=vI k xs:=XvN (XAC k) h
theorem XQ7 {cs:List Value} {xs:List Bool} (h:unL asB cs=some xs):cs=vB xs:=XvN XzR h
theorem XTg {cs:List Value} {xs:List (List UInt8)} (h:unL asS cs=some xs):cs=vS xs:=XvN (g:=fun s=>Value.string ⟨⟨s⟩⟩) XAr h
end Go.Vm
namespace Go.Vm
open Go Go.RowKit
end Go.Vm
namespace Go.Vm
open Go Go.RowKit
theorem st_I {k:IntKind} {xs:List Int} {o i:Nat} {x:Int} {K:List Value→Prop} (hb:decide (i<xs.length)=true) (e:o=i) (h:K (vI k (xs.set i x))) :
 req (decide ((Xbd (.int k x)).length=1∧o+1≤(vI k xs).length)&&(Xbd (.int k x)).all Xir) (∃ cs',setAt (vI k xs) o (Xbd (.int k x))=cs'∧K cs'):=req.intro (XI7 hb e) (XSr e h)
end Go.Vm
namespace Go.Vm
theorem br.h2 {α:Type} {b b':Bool} {X Y:Option α} {r:α} {p q:Prop} (h:cond b' X Y=some r) (e:b=b') (k2:b'=false→Y=some r→q) (k1:b'=true→X=some r→p):br b p q:=br.h h e k1 k2
end Go.Vm
namespace Go.Vm
open Go Go.RowKit
theorem VR.ofNil {ρ:Ren} {s:Nat} {rv:Value} (h:VR ρ (.slice none 0 s) rv) (j sz:Nat):VR ρ (.slice (some ⟨j,0,none⟩) 0 sz) rv:=by
 cases h;exact .slice0 none
theorem XaM.XP9 {P:Program} {f base fn nt s:Nat} {e:Env} {todo:List XfX} {ds:List Nat} {ret:Bool} {rd:Option Nat} {up:List Xb3} {H:Hp} {top:Nat} {R:Value→Hp→Nat→Prop} (t sz:Nat)
 (h:XaM P f base ⟨⟨fn,nt,Xf0 e t (.slice (some ⟨top,0,none⟩) 0 sz),todo,ds,ret,rd⟩,up,Xf0 H top (.row true []),top+1⟩ R) (he:XaL e t=some (.slice none 0 s):=by rfl) :
 XaM P f base ⟨⟨fn,nt,e,todo,ds,ret,rd⟩,up,H,top⟩ R:=by
 refine ⟨fun w0 U ρ rf rfs w cs hr=>?_⟩
 have hx:=Ext.upd (l:=⟨0,0,0⟩) hr.heap.XoI
 have hcur:FrR P (upd ρ top ⟨0,0,0⟩) ⟨fn,nt,Xf0 e t (.slice (some ⟨top,0,none⟩) 0 sz),todo,ds,ret,rd⟩ rf:=
  { hr.cur.mono hx with
    env:=fun i v hv=>by
     rw [Xbh] at hv
     split at hv
     ·rename_i hi;subst hi;cases hv
      obtain ⟨v',a,b⟩:=hr.cur.env t _ he
      exact ⟨v',a,(VR.ofNil b _ _).mono hx⟩
     ·exact (hr.cur.env.mono hx) i v hv }
 obtain ⟨ρ',rv,fr',w',v,H',top',h1,h2,h3,h4,h5,h6,h7⟩:=h.get w0 U _ rf rfs w cs ⟨hcur,hr.up.mono (fun _ _ x=>x.mono hx),Xj0 hr.heap⟩
 exact ⟨ρ',rv,fr',w',v,H',top',h1,h2,h3,h4,h5,fun i l hi hl=>h6 i l hi (hx _ _ hl),h7⟩
theorem XaM.nilC {P:Program} {f base s:Nat} {fr:Xb3} {up:List Xb3} {H:Hp} {top:Nat} {R:Value→Hp→Nat→Prop} (b i sz:Nat) {cs:List Value}
 (h:XaM P f base ⟨fr,up,Xf0 (Xf0 H b (.cells (cs.set i (.slice (some ⟨top,0,none⟩) 0 sz)))) top (.row true []),top+1⟩ R) (hb:XaL H b=some (.cells cs):=by rfl) (hi:cs[i]?=some (.slice none 0 s):=by rfl) :
 XaM P f base ⟨fr,up,H,top⟩ R:=by
 refine ⟨fun w0 U ρ rf rfs w cs' hr=>?_⟩
 have hx:=Ext.upd (l:=⟨0,0,0⟩) hr.heap.XoI
 have hp:HpR P w0 (.of U) ρ (Xf0 H b (.cells (cs.set i (.slice (some ⟨top,0,none⟩) 0 sz)))) top w:=
  { hr.heap with
    obj:=fun j o ho=>by
     rw [Xbh] at ho
     split at ho
     ·rename_i hj;subst hj;cases ho
      obtain ⟨l,hl,hc,hw⟩:=hr.heap.obj b _ hb
      refine ⟨l,hl,?_,fun _=>hw rfl⟩
      obtain ⟨g1,g2,g3⟩:=(hc:XbA ρ w l true cs)
      refine ⟨by simpa using g1,fun k v hv=>?_,g3⟩
      rw [List.getElem?_set] at hv
      split at hv
      ·rename_i hk;subst hk
       split at hv
       ·cases hv
        obtain ⟨v',a,b'⟩:=g2 i _ hi
        exact ⟨v',a,VR.ofNil b' _ _⟩
       ·cases hv
      ·exact g2 k v hv
     ·exact hr.heap.obj j o ho
    dis:=fun j k oj ok lj lk hjk hj hk hlj hlk hw=>by
     have key:∀ j o,XaL (Xf0 H b (.cells (cs.set i (.slice (some ⟨top,0,none⟩) 0 sz)))) j=some o→∃ o',XaL H j=some o'∧(writable o=true→writable o'=true):=fun j o ho=>by
      rw [Xbh] at ho
      split at ho
      ·rename_i hj;subst hj;exact ⟨_,hb,fun _=>rfl⟩
      ·exact ⟨o,ho,id⟩
     obtain ⟨oj',a1,a2⟩:=key j oj hj
     obtain ⟨ok',b1,_⟩:=key k ok hk
     exact hr.heap.dis j k oj' ok' lj lk hjk a1 b1 hlj hlk (a2 hw) }
 obtain ⟨ρ',rv,fr',w',v,H',top',h1,h2,h3,h4,h5,h6,h7⟩:=h.get w0 U _ rf rfs w cs' ⟨hr.cur.mono hx,hr.up.mono (fun _ _ x=>x.mono hx),Xj0 hp⟩
 exact ⟨ρ',rv,fr',w',v,H',top',h1,h2,h3,h4,h5,fun i l hi hl=>h6 i l hi (hx _ _ hl),h7⟩
mutual
inductive Nv (j:Nat):Value→Value→Prop
 | same (v):Nv j v v
 | nil (s sz):Nv j (.slice none 0 s) (.slice (some ⟨j,0,none⟩) 0 sz)
 | tup {a b:List Value} (h:NvL j a b):Nv j (.tuple ⟨a⟩) (.tuple ⟨b⟩)
 | agg {a b:List Value} (h:NvL j a b):Nv j (.agg ⟨a⟩) (.agg ⟨b⟩)
inductive NvL (j:Nat):List Value→List Value→Prop
 | nil:NvL j [] []
 | cons {v v':Value} {l l':List Value} (h:Nv j v v') (t:NvL j l l'):NvL j (v::l) (v'::l')
end
mutual
theorem Nv.vr {j:Nat} {ρ:Ren}:∀ {v v':Value},Nv j v v'→∀ {rv:Value},VR ρ v rv→VR ρ v' rv
 | _,_,.same v,_,h=>h
 | _,_,.nil s sz,_,h=>VR.ofNil h _ _
 | _,_,.tup hl,_,h=>by cases h with|tuple ht=>exact .tuple (NvL.vr hl ht)
 | _,_,.agg hl,_,h=>by cases h with|agg ht=>exact .agg (NvL.vr hl ht)
theorem NvL.vr {j:Nat} {ρ:Ren}:∀ {l l':List Value},NvL j l l'→∀ {rl:List Value},VRL ρ l rl→VRL ρ l' rl
 | _,_,.nil,_,h=>h
 | _,_,.cons hv ht,_,h=>by cases h with|cons a b=>exact .cons (Nv.vr hv a) (NvL.vr ht b)
end
end Go.Vm
namespace Go.Vm
theorem Xng {A B C D:Prop} [Decidable (A∧B∧C∧D)] {p q:Bool} (a:A) (b:B) (c:C) (d:D) (e:p=true) (g:q=true):(decide (A∧B∧C∧D)&&p&&q)=true:=by
 rw [decide_eq_true ⟨a,b,c,d⟩,e,g];rfl
end Go.Vm
namespace Go.Vm
open Go Go.RowKit
def Xvi (o:XbF) (K:XbF→Prop):Prop:=
 match o with
 | .cells cs=>Xnx cs fun cs=>K (.cells cs)
 | .row own cs=>Xnx cs fun cs=>K (.row own cs)
 | .ty t cs=>K (.ty t cs)
 | .siter s p=>K (.siter s p)
 | .mp cs=>K (.mp cs)
 | .loop l=>K (.loop l)
 | .marks=>K .marks
theorem Xxy (o:XbF) (K:XbF→Prop):Xvi o K=K o:=by
 cases o<;>simp only [Xvi,XjQ]
def XkT (bs:List Nat) (h:Hp) (K:Hp→Prop):Prop:=
 match h with
 | []=>K []
 | (i,o)::l=>cond (XG7 i bs) (Xvi o fun o=>XkT bs l fun l=>K ((i,o)::l)) (Xy8 o fun o=>XkT bs l fun l=>K ((i,o)::l))
theorem XnT (bs:List Nat):∀ (h:Hp) (K:Hp→Prop),XkT bs h K=K h
 | [],K=>rfl
 | (i,o)::l,K=>by
   rw [XkT]
   cases XG7 i bs
   ·rw [cond_false,Xui,XnT bs l]
   ·rw [cond_true,Xxy,XnT bs l]
theorem XeC.XFJ {s:XbS} {vals:List Value} {h:Hp} {top:Nat} {K:Value→Hp→Nat→Prop} {v:Value} {h':Hp} {top':Nat} (bs:List Nat) (e:XiN s vals h top=some (v,h',top')) (k:XhJ v fun v=>XkT bs h' fun h'=>K v h' top'):XeC s vals h top K:=
 XeC.intro e (by simpa only [XgH,XnT] using k)
end Go.Vm
namespace Go.Vm
open Go Go.RowKit
inductive XxV:Value→Hp→Nat→Value→Hp→Nat→Prop
 | refl (v:Value) (H:Hp) (t:Nat):XxV v H t v H t
 | val {v v' v2:Value} {H H2:Hp} {t t2:Nat} (h:Nv t v v') (k:XxV v' (Xf0 H t (.row true [])) (t+1) v2 H2 t2):XxV v H t v2 H2 t2
 | cell {v v2:Value} {H H2:Hp} {t t2 s:Nat} (b i sz:Nat) {cs:List Value} (hb:XaL H b=some (.cells cs)) (hi:cs[i]?=some (.slice none 0 s)) (k:XxV v (Xf0 (Xf0 H b (.cells (cs.set i (.slice (some ⟨t,0,none⟩) 0 sz)))) t (.row true [])) (t+1) v2 H2 t2):XxV v H t v2 H2 t2
theorem XLs {P:Program} {w0:World} {U:UG} {ρ:Ren} {H:Hp} {top s:Nat} {w:World} (h:HpR P w0 U ρ H top w) {b i:Nat} (sz:Nat) {cs:List Value} (hb:XaL H b=some (.cells cs)) (hi:cs[i]?=some (.slice none 0 s)):HpR P w0 U ρ (Xf0 H b (.cells (cs.set i (.slice (some ⟨top,0,none⟩) 0 sz)))) top w:=
 { h with
   obj:=fun j o ho=>by
    rw [Xbh] at ho
    split at ho
    ·rename_i hj;subst hj;cases ho
     obtain ⟨l,hl,hc,hw⟩:=h.obj b _ hb
     refine ⟨l,hl,?_,fun _=>hw rfl⟩
     obtain ⟨g1,g2,g3⟩:=(hc:XbA ρ w l true cs)
     refine ⟨by simpa using g1,fun k v hv=>?_,g3⟩
     rw [List.getElem?_set] at hv
     split at hv
     ·rename_i hk;subst hk
      split at hv
      ·cases hv
       obtain ⟨v',a,b'⟩:=g2 i _ hi
       exact ⟨v',a,VR.ofNil b' _ _⟩
      ·cases hv
     ·exact g2 k v hv
    ·exact h.obj j o ho
   dis:=fun j k oj ok lj lk hjk hj hk hlj hlk hw=>by
    have key:∀ j o,XaL (Xf0 H b (.cells (cs.set i (.slice (some ⟨top,0,none⟩) 0 sz)))) j=some o→∃ o',XaL H j=some o'∧(writable o=true→writable o'=true):=fun j o ho=>by
     rw [Xbh] at ho
     split at ho
     ·rename_i hj;subst hj;exact ⟨_,hb,fun _=>rfl⟩
     ·exact ⟨o,ho,id⟩
    obtain ⟨oj',a1,a2⟩:=key j oj hj
    obtain ⟨ok',b1,_⟩:=key k ok hk
    exact h.dis j k oj' ok' lj lk hjk a1 b1 hlj hlk (a2 hw) }
theorem XxV.ok {P:Program} {w0:World} {U:Nat→Nat→Prop} {v v2 rv:Value} {H H2:Hp} {t t2:Nat} (k:XxV v H t v2 H2 t2):∀ {ρ:Ren} {w:World},VR ρ v rv→HpR P w0 (.of U) ρ H t w→∃ ρ',Ext ρ ρ'∧VR ρ' v2 rv∧HpR P w0 (.of U) ρ' H2 t2 w:=by
 induction k with
 | refl=>intro ρ w h1 h2;exact ⟨ρ,Ext.refl ρ,h1,h2⟩
 | val h k ih=>
   intro ρ w h1 h2
   have hx:=Ext.upd (l:=⟨0,0,0⟩) h2.XoI
   obtain ⟨ρ',e1,e2,e3⟩:=ih ((h.vr h1).mono hx) (Xj0 h2)
   exact ⟨ρ',hx.trans e1,e2,e3⟩
 | cell b i sz hb hi k ih=>
   intro ρ w h1 h2
   have hx:=Ext.upd (l:=⟨0,0,0⟩) h2.XoI
   obtain ⟨ρ',e1,e2,e3⟩:=ih (h1.mono hx) (Xj0 (XLs h2 sz hb hi))
   exact ⟨ρ',hx.trans e1,e2,e3⟩
theorem XaM.nilW {P:Program} {f base:Nat} {vm:VM} {R:Value→Hp→Prop} (h:XaM P f base vm (fun v H t=>∃ v' H' t',XxV v H t v' H' t'∧R v' H')):XaM P f base vm (fun v H _=>R v H):=by
 refine ⟨fun w0 U ρ rf rfs w cs hr=>?_⟩
 obtain ⟨ρ',rv,fr',w',v,H',top',h1,h2,h3,h4,h5,h6,v2,H2,t2,hk,h7⟩:=h.get w0 U ρ rf rfs w cs hr
 obtain ⟨ρ2,e1,e2,e3⟩:=hk.ok h4 h5
 exact ⟨ρ2,rv,fr',w',v2,H2,t2,h1,h2,h3,e2,e3,fun i l hi hl=>e1 _ _ (h6 i l hi hl),h7⟩
end Go.Vm
namespace Go.Vm
end Go.Vm
namespace Go.Vm
open Go Go.RowKit
@[simp] theorem XKD (l:List UInt8):(ofBytes l).length=l.length:=by simp [ofBytes]
theorem pk_us {xs:List Int} {n:Nat} {K:List UInt8→Prop} (h:K (iB xs)) (hn:xs.length≤n:=by first|exact Nat.le_refl _|omega|(simp;done)|(simp;omega)):∃ bs,XgA ((vI .u8 xs).take n)=some bs∧K bs:=
 ⟨_,by rw [List.take_of_length_le (by simpa using hn)];exact Xon _,h⟩
theorem XQY {A B C D:Prop} [Decidable (A∧B∧C∧D)] (a:A) (b:B) (c:C) (d:D):decide (A∧B∧C∧D)=true:=decide_eq_true ⟨a,b,c,d⟩
theorem XDx {A B C D:Prop} [Decidable (A∧B∧C∧D)] (a:A) (b:B) (c:C) (d:D):decide (A∧B∧C∧D)=true:=decide_eq_true ⟨a,b,c,d⟩
theorem XLy {A B C D E:Prop} [Decidable (A∧B∧C∧D∧E)] {p q:Bool} (a:A) (b:B) (c:C) (d:D) (e:E) (f:p=true) (g:q=true):(decide (A∧B∧C∧D∧E)&&p&&q)=true:=by
 rw [decide_eq_true ⟨a,b,c,d,e⟩,f,g];rfl
theorem XSC {new:List Value} {xs:List Int} {n m:Nat} {ys:List Int} {K:List Value→Nat→Prop} (e:new=vI .u8 ys) (hc:n=xs.length) (hn:n+m=(xs++ys).length) (h:K (vI .u8 (xs++ys)) (xs++ys).length) :
 ∃ cs' n',(vI .u8 xs).take n++new=cs'∧n+m=n'∧K cs' n':=
 ⟨_,_,by rw [List.take_of_length_le (by simp [hc]),e,XHR],hn,h⟩
def un1 {α:Type} (un:Value→Option α):List Value→Option α
 | [v]=>un v
 | _=>none
theorem XyL {α:Type} {un:Value→Option α} {g:α→Value} (h:∀ v x,un v=some x→v=g x) {cs:List Value} {x:α} (e:un1 un cs=some x):cs=[g x]:=by
 unfold un1 at e
 split at e
 ·rw [h _ _ e]
 ·cases e
theorem XQQ {α:Type} {un:Value→Option α} {v:Value} {x:α} (h:un v=some x):un1 un [v]=some x:=h
theorem asB_c {b:Bool}:asB (.bool b)=some b:=rfl
theorem Xdr (k:IntKind) {n:Int}:asI k (.int k n)=some n:=by simp [asI]
theorem Xds {s:List UInt8}:asS (.string ⟨⟨s⟩⟩)=some s:=rfl
def fvV:Option Nat→Value
 | none=>.nilFunc
 | some n=>.func (.func n) ⟨[]⟩ ⟨[]⟩
theorem Xih (x:Option Nat):Xbg (fvV x)=true:=by cases x<;>rfl
theorem XGC {h:Hp} {k b o n:Nat} {ob:XbF} {cs cs':List Value} (ho:XaL h b=some ob) (hc:ob.wcs=some cs) (hle:o+n≤cs.length) (e:(cs.drop o).take n=cs') (hf:Xbg.flatL cs'=true) :
 Xdl h k (.pt n) (.pointer (some ⟨b,o,none⟩))=some (.pointer (some ⟨k,0,none⟩),[some (.cells cs')]):=by
 subst e
 simp only [Xdl,ho,hc,hle,hf,↓reduceIte]
theorem fsp {α:Type} {x:Option Nat} {A:Option α} {B:Nat→Option α} {res:α} {G:Prop} (h:x.elim A B=some res) (t:x=none→A=some res→G) (f:∀ n,x=some n→B n=some res→G):G:=by
 cases x with
 | none=>exact t rfl h
 | some n=>exact f n rfl h
theorem fcase {α:Type} {x c:Nat} {A B:Option α} {res:α} {G:Prop} (h:cond (x==c) A B=some res) (t:x=c→A=some res→G) (f:B=some res→G):G:=by
 cases hx:(x==c)
 ·rw [hx] at h;exact f h
 ·rw [hx] at h;exact t (eq_of_beq hx) h
theorem Xy0 {K:Dec} {vs:List Value} {cs:List (Option (List Value))}:dNl 2 K (.pointer none::vs) (none::none::cs)=K vs cs:=rfl
def XCb (i:Nat) (a b:Dec):Dec:=fun vs cs=>match vs[i]? with
 | some (.pointer none)=>b vs cs
 | _=>a vs cs
theorem XCb.elim {i:Nat} {a b:Dec} {vs:List Value} {cs:List (Option (List Value))} {r:Xc2} (h:XCb i a b vs cs=some r):a vs cs=some r∨b vs cs=some r:=by
 unfold XCb at h
 split at h
 ·exact .inr h
 ·exact .inl h
theorem Xn2 {H:Hp} {s:Nat→Option Nat}:XtG H s [] []:=trivial
theorem Xj3 {H:Hp} {s:Nat→Option Nat} {j:Nat} {js:List Nat} {c c':List Value} {cs:List (List Value)} (e:Xe5.renL s c=some c') (h:Has H j c') (t:XtG H s js cs):XtG H s (j::js) (c::cs):=⟨⟨_,e,h⟩,t⟩
theorem Xn1 {n:Nat} {wr:List (Option (List Value))}:XEq n wr []:=trivial
theorem XoK {n j:Nat} {wr:List (Option (List Value))} {js:List Nat} (h:n≤j) (t:XEq n wr js):XEq n wr (j::js):=⟨.inl h,t⟩
theorem Xvf {n j:Nat} {wr:List (Option (List Value))} {js:List Nat} (h:wr[j]?=some none) (t:XEq n wr js):XEq n wr (j::js):=⟨.inr h,t⟩
theorem Xoa {H:Hp} {s:Nat→Option Nat} {k:Nat}:XxF H s k []:=trivial
theorem XnO {H:Hp} {s:Nat→Option Nat} {k:Nat} {l:List (Option (List Value))} (t:XxF H s (k+1) l):XxF H s k (none::l):=t
theorem XuX {H:Hp} {s:Nat→Option Nat} {k:Nat} {c c':List Value} {l:List (Option (List Value))} (e:Xe5.renL s c=some c') (h:Has H k c') (t:XxF H s (k+1) l) (hm:mk3 c=none:=by rfl):XxF H s k (some c::l):=⟨by unfold HasW;rw [hm];exact ⟨_,e,h⟩,t⟩
theorem wr_m {H:Hp} {s:Nat→Option Nat} {k:Nat} {c:List Value} {l:List (Option (List Value))} (h:XaL H k=some (.mp c)) (t:XxF H s (k+1) l):XxF H s k (some (.float .f64 0::c)::l):=⟨h,t⟩
theorem Res.flat {n:Nat} {r:Xc2} {v':Value} {H':Hp} {b:Bool} (e:r.v=.bool b) (_:r.new=[]) (h:Res n r v' H'):v'=.bool b:=by
 obtain ⟨js,h1,h2,-⟩:=h.ex
 rw [e] at h1
 cases h1;rfl
theorem XeC.q {s:XbS} {vals:List Value} {h:Hp} {top:Nat} {K:Value→Hp→Nat→Prop} {r:Xc2} {v':Value} (e1:Xd1 h 0 s.modes vals=some (vals,[])) (ew:XkJ h s.modes vals=[]) (e2:s.run vals []=some r) (hn:r.new=[]) (hw:r.wr=[]) (e6:Xe5 (Xur top 0 []) r.v=some v')
 (k:XhJ v' fun v=>XkT [] h fun h'=>K v h' top):XeC s vals h top K:=by
 refine XeC.XFJ [] (Xs0 (n:=0) (m:=0) (t':=top) e1 ew rfl e2 rfl (by rw [hn];rfl) rfl rfl (by rw [hw];exact XGz) (by rw [hn];exact XFl) e6) k
theorem dFin {α:Type} {o:Option α} {f:α→Xc2} {vs:List Value} {cs:List (Option (List Value))} {r:Xc2} (h:XdT (ofG o f) vs cs=some r):vs=[]∧cs=[]∧∃ x,o=some x∧f x=r:=by
 obtain ⟨a,b,c⟩:=XdT.elim h
 exact ⟨a,b,ofG.elim c⟩
theorem Res.z {n:Nat} {r:Xc2} {v':Value} {H':Hp} (e1:Xe5 (Xul [] n) r.v=some v') (e2:r.new=[]) (e3:r.wr=[]):Res n r v' H':=
 Res.of [] e1 (by rw [e2];exact Xn2) (by decide) Xn1 (by rw [e3];exact Xoa)
theorem XeC.p {s:XbS} {vals:List Value} {h:Hp} {top:Nat} {K:Value→Hp→Nat→Prop} {r:Xc2} {v':Value} (e2:s.run vals []=some r)
 (k:XhJ v' fun v=>XkT [] h fun h'=>K v h' top) (e1:Xd1 h 0 s.modes vals=some (vals,[]):=by exact rfl) (ew:XkJ h s.modes vals=[]:=by exact rfl) (hn:r.new=[]:=by exact rfl) (hw:r.wr=[]:=by exact rfl) (e6:Xe5 (Xur top 0 []) r.v=some v':=by exact rfl):XeC s vals h top K:=XeC.q e1 ew e2 hn hw e6 k
theorem Res.y {n:Nat} {r:Xc2} {v':Value} {H':Hp} (e1:Xe5 (Xul [] n) r.v=some v':=by exact rfl) (e2:r.new=[]:=by exact rfl) (e3:r.wr=[]:=by exact rfl):Res n r v' H':=Res.z e1 e2 e3
end Go.Vm
namespace Go.Vm
open Go Go.RowKit
section
variable {α:Type} {f:α→List Value} {c:Nat}
end
end Go.Vm
namespace Go.Vm
end Go.Vm
namespace Go.Vm
open Go Go.RowKit Go.WideShapes
section
variable {H:Type} {enc:TypeId×Value→H} {P:Program} {w:World} {base:Nat} {held:Bool}
theorem XdO.XOl:∀ {ks:List SK} {cs:List Value},XdO ks cs→∀ v∈cs,Xbg v=true
 | [],[],_,v,hv=>by cases hv
 | [],_::_,h,_,_=>h.elim
 | _::_,[],h,_,_=>h.elim
 | k::ks,c::cs,h,v,hv=>by
   rcases List.mem_cons.1 hv with rfl|hv
   ·exact XoG.flat h.1
   ·exact XdO.XOl h.2 v hv
def RowN (w:World) (ks:List SK) (a:Option Addr) (len cap:Nat) (zs:List Value):Prop:=
 (a=none∧len=0∧cap=0∧zs=[])∨∃ x,a=some x∧len≤cap∧cap≤maxLen∧zs.length=cap*ks.length∧(∀ (i:Nat) v,zs[i]?=some v→w.cell? (x.add i)=some v)∧∀ i,i<cap→XdO ks ((zs.drop (i*ks.length)).take ks.length)
theorem XPV {r:Reach} {b0 n:Nat} {t e:TypeId} {ks:List SK} {v:Value} {d:DataW H} {ps:List MemPlace} (ht:P.underlying t=some (.slice e)) (hc:P.cellsOf e=ks.length) (hk:Xxq P n e=some ks) (hval:Value.okWide P w r b0 t v)
 (hd:DataW.Trod enc P w base (fun _=>true) held t v d ps):∃ a len cap zs,v=.slice a len cap∧RowN w ks a len cap zs:=by
 obtain ⟨a,len,cap,rfl⟩:=okWide_slice ht hval
 obtain ⟨fuel,hf⟩:=hd
 rcases Go.Deep.open_slice ht hf with ⟨h0,_⟩|⟨x,l,c,m,n',D,Pl,hcs,hb,hl,hm,hmm,_,hx⟩
 ·simp [Value.cells] at h0
  obtain ⟨rfl,rfl,rfl⟩:=h0
  exact ⟨_,_,_,[],rfl,.inl ⟨rfl,rfl,rfl,rfl⟩⟩
 ·simp [Value.cells] at hcs
  obtain ⟨rfl,rfl,rfl⟩:=hcs
  simp only [if_true] at hmm
  subst hmm
  obtain ⟨CS,hCS⟩:=Go.Deep.choose_lt (α:=List Value) (p:=fun i cs=>w.cells? base (x.add (i*P.cellsOf e)) (P.cellsOf e)=some cs∧DataW.trod enc P w base (fun _=>true) held n' e cs=some (D i,Pl i)) hx
  rw [hc] at hCS
  have hlen:∀ i,i<m→(CS i).length=ks.length:=fun i hi=>(World.cells?_some (hCS i hi).1).2.1
  refine ⟨_,_,_,vT (fun i=>if i<m then CS i else List.replicate ks.length (.bool false)) (List.range m),rfl,.inr ⟨x,rfl,hl,hm,?_,?_,?_⟩⟩
  all_goals
   have hF:∀ i,(if i<m then CS i else List.replicate ks.length (.bool false)).length=ks.length:=fun i=>by
    split
    ·rename_i hi;exact hlen i hi
    ·simp
  ·rw [Xld hF,List.length_range]
  ·intro k v ev
   have hk0:k<m*ks.length:=by
    rcases Nat.lt_or_ge k (m*ks.length) with h|h
    ·exact h
    ·rw [List.getElem?_eq_none (by rw [Xld hF,List.length_range];exact h)] at ev;cases ev
   have hpos:0<ks.length:=by
    rcases Nat.eq_zero_or_pos ks.length with h|h
    ·rw [h] at hk0;omega
    ·exact h
   have hi:k/ks.length<m:=(Nat.div_lt_iff_lt_mul hpos).2 hk0
   have hj:k%ks.length<ks.length:=Nat.mod_lt _ hpos
   have e1:k/ks.length*ks.length+k%ks.length=k:=by rw [Nat.mul_comm];exact Nat.div_add_mod k ks.length
   have e2:=Xy1 hF (xs:=List.range m) (i:=k/ks.length) (j:=k%ks.length) (x:=k/ks.length) (List.getElem?_range hi) hj
   rw [e1,if_pos hi] at e2
   rw [e2] at ev
   have h3:=(World.cells?_some (hCS _ hi).1).2.2 (k%ks.length) hj
   rw [Go.Deep.add_add,e1] at h3
   rw [h3];exact ev
  ·intro i hi
   rw [XnZ hF]
   have e1:=Xof hF ((List.range m).drop i) 1
   rw [Nat.one_mul] at e1
   rw [e1]
   have e2:((List.range m).drop i).take 1=[i]:=by
    rw [List.drop_eq_getElem_cons (by simpa using hi)]
    simp
   rw [e2]
   show XdO ks ((if i<m then CS i else List.replicate ks.length (.bool false))++[])
   rw [List.append_nil,if_pos hi]
   exact XpN hk (hCS i hi).2
theorem XRp.rowN {ks:List SK} {w:World} {a:Option Addr} {len cap:Nat} {zs:List Value} (h:RowN w ks a len cap zs) (hpos:0<ks.length):XRp w (.sl ks.length) (.sl len (zs.take (len*ks.length))) (.slice a len cap)∧(zs.take (len*ks.length)).length=len*ks.length∧(∀ i,i<len→XdO ks (((zs.take (len*ks.length)).drop (i*ks.length)).take ks.length))∧len≤maxLen:=by
 rcases h with ⟨rfl,rfl,rfl,rfl⟩|⟨x,rfl,hl,hm,hz,hc,ho⟩
 ·exact ⟨.inl ⟨⟨_,rfl⟩,rfl,by simp⟩,by simp,fun i hi=>absurd hi (Nat.not_lt_zero _),by simp [maxLen]⟩
 ·have hmul:len*ks.length≤cap*ks.length:=Nat.mul_le_mul_right _ hl
  have hcell:∀ i,i<len→XdO ks (((zs.take (len*ks.length)).drop (i*ks.length)).take ks.length):=fun i hi=>by
   have h1:=ho i (by omega)
   have h2:(i+1)*ks.length≤len*ks.length:=Nat.mul_le_mul_right _ (by omega)
   rw [Nat.succ_mul] at h2
   rw [List.drop_take,List.take_take,Nat.min_eq_left (by omega)]
   exact h1
  refine ⟨?_,by rw [List.length_take];omega,hcell,by omega⟩
  rcases Nat.eq_zero_or_pos cap with h0|h0
  ·subst h0
   obtain rfl:len=0:=by omega
   exact .inl ⟨⟨_,rfl⟩,rfl,by simp⟩
  ·have hcap:0<cap*ks.length:=Nat.mul_pos h0 hpos
   have hs:x.spot=none:=by
    have:=hc 0 zs[0] (List.getElem?_eq_getElem (by omega))
    cases hx:x.spot with
    | none=>rfl
    | some q=>
      simp only [Addr.add,↓reduceIte,World.cell?] at this
      split at this
      ·simp [hx] at this
      ·cases this
   obtain ⟨b,o,q⟩:=x
   simp only at hs
   subst hs
   have hadd:∀ i,(⟨b,o,none⟩:Addr).add i=⟨b,o+i,none⟩:=fun i=>by
    unfold Addr.add;split
    ·rename_i e;subst e;rfl
    ·rfl
   have hflat:∀ (i:Nat) v,zs[i]?=some v→Xbg v=true:=fun i v e=>by
    have hi:i<cap*ks.length:=by
     rcases Nat.lt_or_ge i (cap*ks.length) with h|h
     ·exact h
     ·rw [List.getElem?_eq_none (by omega)] at e;cases e
    have hq:i/ks.length<cap:=(Nat.div_lt_iff_lt_mul hpos).2 hi
    have hj:i%ks.length<ks.length:=Nat.mod_lt _ hpos
    have e1:i/ks.length*ks.length+i%ks.length=i:=by rw [Nat.mul_comm];exact Nat.div_add_mod i ks.length
    refine XdO.XOl (ho _ hq) v (List.mem_of_getElem? (i:=i%ks.length) ?_)
    rw [List.getElem?_take_of_lt hj,List.getElem?_drop,e1];exact e
   refine .inr ⟨b,o,cap,rfl,hl,fun ρ=>⟨by rw [List.length_take];simp only;omega,fun i v e=>?_,fun i hi=>?_⟩⟩
   ·have hi:i<len*ks.length:=by
     rcases Nat.lt_or_ge i (len*ks.length) with h|h
     ·exact h
     ·rw [List.getElem?_eq_none (by rw [List.length_take];omega)] at e;cases e
    rw [List.getElem?_take_of_lt hi] at e
    have h1:=hc i v e
    rw [hadd] at h1
    exact ⟨v,h1,VR.flat ρ v (hflat i v e)⟩
   ·have hi':i<zs.length:=by simp only at hi;omega
    have h1:=hc i zs[i] (List.getElem?_eq_getElem hi')
    rw [hadd] at h1
    exact ⟨by simp [h1],fun e=>by cases e⟩
end
theorem XId {α:Type} {ks:List SK} {c:α→List Value} {ok:α→Prop} (hc:∀ cs,XdO ks cs→∃ x,cs=c x∧ok x):∀ (len:Nat) (zs:List Value),zs.length=len*ks.length→(∀ i,i<len→XdO ks ((zs.drop (i*ks.length)).take ks.length))→∃ xs:List α,zs=vT c xs∧xs.length=len∧∀ x∈xs,ok x
 | 0,zs,hl,_=>⟨[],by rw [Nat.zero_mul] at hl;rw [List.eq_nil_of_length_eq_zero hl];rfl,rfl,fun _ h=>by cases h⟩
 | len+1,zs,hl,h=>by
   have h0:=h 0 (by omega)
   rw [Nat.zero_mul,List.drop_zero] at h0
   obtain ⟨x,hx,ox⟩:=hc _ h0
   obtain ⟨xs,h1,h2,h3⟩:=XId hc len (zs.drop ks.length) (by rw [List.length_drop,hl,Nat.succ_mul];omega) (fun i hi=>by
    have:=h (i+1) (by omega)
    rw [List.drop_drop,show ks.length+i*ks.length=(i+1)*ks.length by rw [Nat.succ_mul,Nat.add_comm]];exact this)
   refine ⟨x::xs,?_,by simp [h2],fun y hy=>?_⟩
   ·have:vT c (x::xs)=c x++vT c xs:=rfl
    rw [this,←hx,←h1,List.take_append_drop]
   ·rcases List.mem_cons.1 hy with rfl|hy
    ·exact ox
    ·exact h3 y hy
end Go.Vm
namespace Go.Vm
open Go
theorem Xdb {n:Int} (h1:-9223372036854775808≤n) (h2:n<9223372036854775808):wI .i64 n=n:=by
 show IntKind.wrap .i64 n=n;rw [IntKind.wrap_i64];omega
theorem XsP {n:Int} (h1:0≤n) (h2:n<18446744073709551616):wI .u64 n=n:=by
 show IntKind.wrap .u64 n=n
 simp only [IntKind.wrap,IntKind.bits,IntKind.signed];simp;omega
theorem Xrz {n:Int} (h1:0≤n) (h2:n<4294967296):wI .u32 n=n:=by
 show IntKind.wrap .u32 n=n
 simp only [IntKind.wrap,IntKind.bits,IntKind.signed];simp;omega
theorem wU16 {n:Int} (h1:0≤n) (h2:n<65536):wI .u16 n=n:=by
 show IntKind.wrap .u16 n=n
 simp only [IntKind.wrap,IntKind.bits,IntKind.signed];simp;omega
theorem wU8 {n:Int} (h1:0≤n) (h2:n<256):wI .u8 n=n:=by
 show IntKind.wrap .u8 n=n
 simp only [IntKind.wrap,IntKind.bits,IntKind.signed];simp;omega
theorem XLK (n:Int):wI .u32 n=n%4294967296:=by
 show IntKind.wrap .u32 n=_
 simp only [IntKind.wrap,IntKind.bits,IntKind.signed];simp
theorem XBI (n:Int):wI .u16 n=n%65536:=by
 show IntKind.wrap .u16 n=_
 simp only [IntKind.wrap,IntKind.bits,IntKind.signed];simp
theorem wU8m (n:Int):wI .u8 n=n%256:=by
 show IntKind.wrap .u8 n=_
 simp only [IntKind.wrap,IntKind.bits,IntKind.signed];simp
theorem XJx {n:Nat} (h:n<18446744073709551616):(BitVec.ofInt 64 (n:Int)).toNat=n:=by
 rw [BitVec.toNat_ofInt];omega
theorem XPE {a b:Nat} (ha:a<9223372036854775808) (hb:b<9223372036854775808):XnF .i64 (a:Int) (b:Int)=((a &&& b:Nat):Int):=by
 have h:a &&& b≤a:=Nat.and_le_left
 show IntKind.wrap .i64 _=_
 rw [show IntKind.bits .i64=64 from rfl,BitVec.toNat_and,XJx (by omega),XJx (by omega)]
 exact Xdb (by omega) (by omega)
theorem XOb {a b:Nat} (ha:a<9223372036854775808) (hb:b<9223372036854775808):XvA .i64 (a:Int) (b:Int)=((a ||| b:Nat):Int):=by
 have h:a ||| b<2^63:=Nat.or_lt_two_pow (by omega) (by omega)
 show IntKind.wrap .i64 _=_
 rw [show IntKind.bits .i64=64 from rfl,BitVec.toNat_or,XJx (by omega),XJx (by omega)]
 exact Xdb (by omega) (by omega)
theorem XNC {a b:Nat} (ha:a<18446744073709551616) (hb:b<18446744073709551616):XvA .u64 (a:Int) (b:Int)=((a ||| b:Nat):Int):=by
 have h:a ||| b<2^64:=Nat.or_lt_two_pow (by omega) (by omega)
 show IntKind.wrap .u64 _=_
 rw [show IntKind.bits .u64=64 from rfl,BitVec.toNat_or,XJx (by omega),XJx (by omega)]
 exact XsP (by omega) (by omega)
theorem XEI (a k:Nat):a &&& (2^k - 1)=a%2^k:=Nat.and_two_pow_sub_one_eq_mod a k
theorem Xz8 {a b k:Nat} (hb:b<2^k):(a*2^k) ||| b=a*2^k+b:=by
 rw [Nat.mul_comm];exact (Nat.two_pow_add_eq_or_of_lt hb a).symm
theorem Xi7 (k:Nat) {a m:Int} (hm:m=2^k - 1) (hk:k≤62) (h0:0≤a) (h1:a<9223372036854775808):XnF .i64 a m=a%2^k:=by
 obtain ⟨n,rfl⟩:=Int.eq_ofNat_of_zero_le h0
 have hp:2^k≤2^62:=Nat.pow_le_pow_right (by decide) hk
 have hp1:1≤2^k:=Nat.one_le_two_pow
 have:m=((2^k - 1:Nat):Int):=by rw [hm];push_cast [hp1];rfl
 rw [this,XPE (by omega) (by omega),XEI];push_cast;rfl
theorem Xq6 (k:Nat) {a b:Int} (h0:0≤a) (h1:a*2^k<9223372036854775808) (hb0:0≤b) (hb:b<2^k) (hb1:b<9223372036854775808):XvA .i64 (a*2^k) b=a*2^k+b:=by
 obtain ⟨n,rfl⟩:=Int.eq_ofNat_of_zero_le h0
 obtain ⟨m,rfl⟩:=Int.eq_ofNat_of_zero_le hb0
 have e:((n:Int)*2^k)=((n*2^k:Nat):Int):=by push_cast;rfl
 rw [e] at h1 ⊢
 rw [XOb (by omega) (by omega),Xz8 (by exact_mod_cast hb)];push_cast;rfl
theorem Xq5 (k:Nat) {a b:Int} (h0:0≤a) (h1:a*2^k<18446744073709551616) (hb0:0≤b) (hb:b<2^k) (hb1:b<18446744073709551616):XvA .u64 (a*2^k) b=a*2^k+b:=by
 obtain ⟨n,rfl⟩:=Int.eq_ofNat_of_zero_le h0
 obtain ⟨m,rfl⟩:=Int.eq_ofNat_of_zero_le hb0
 have e:((n:Int)*2^k)=((n*2^k:Nat):Int):=by push_cast;rfl
 rw [e] at h1 ⊢
 rw [XNC (by omega) (by omega),Xz8 (by exact_mod_cast hb)];push_cast;rfl
theorem XtY (a:Int) (k:Nat):a.fdiv (2^k)=a/2^k:=Int.fdiv_eq_ediv_of_nonneg a (Int.le_of_lt (Int.pow_pos (by decide)))
theorem XaH {α:Type} {p:Prop} [Decidable p] {x:Option α} (h:p):Xbr (decide p) x=x:=Xbr.mk (decide_eq_true h)
theorem XaZ {α:Type} {p:Prop} [Decidable p] {x y:α} (h:p):cond (decide p) x y=x:=by rw [decide_eq_true h,cond_true]
theorem XaR {α:Type} {p:Prop} [Decidable p] {x y:α} (h:¬ p):cond (decide p) x y=y:=by rw [decide_eq_false h,cond_false]
theorem XDT {α:Type} {p:Prop} [Decidable p] {x y:α}:cond (decide p) x y=if p then x else y:=by
 by_cases h:p<;>simp [h]
theorem iter_eq {σ ρ:Type} {step:σ→Option (Sum σ ρ)} (F:σ→ρ) (P:σ→Prop) (μ:σ→Nat)
 (h:∀ s,P s→step s=some (.inr (F s))∨∃ s',step s=some (.inl s')∧P s'∧μ s'<μ s∧F s'=F s):∀ n s,P s→μ s<n→iter step n s=some (F s)
 | 0,s,hp,hn=>by omega
 | n+1,s,hp,hn=>by
   rw [iter]
   rcases h s hp with e|⟨s',e,hp',hm,hf⟩
   ·rw [e]
   ·rw [e];exact hf▸iter_eq F P μ h n s' hp' (by omega)
theorem Xfm:FUEL=18446744073709551616:=rfl
end Go.Vm
namespace Go.Vm.Code
open Go Go.Vm Go.Proofs
def τ0:Operand:=.tmp 0
def τ1:Operand:=.tmp 1
def τ2:Operand:=.tmp 2
def τ3:Operand:=.tmp 3
def τ4:Operand:=.tmp 4
def τ5:Operand:=.tmp 5
def τ6:Operand:=.tmp 6
def τ7:Operand:=.tmp 7
def τ8:Operand:=.tmp 8
def τ9:Operand:=.tmp 9
def Xef:Operand:=.tmp 10
def XdK:Operand:=.tmp 11
def XeA:Operand:=.tmp 12
def XeB:Operand:=.tmp 13
def Xe3:Operand:=.tmp 14
def Xfd:Operand:=.tmp 15
def Xfk:Operand:=.tmp 16
def Xfp:Operand:=.tmp 17
def XfR:Operand:=.tmp 18
def Xf7:Operand:=.tmp 19
def Xgy:Operand:=.tmp 20
def Xgx:Operand:=.tmp 21
def Xg2:Operand:=.tmp 22
def XgX:Operand:=.tmp 23
def Xg1:Operand:=.tmp 24
def XhR:Operand:=.tmp 25
def XhB:Operand:=.tmp 26
def XhO:Operand:=.tmp 27
def Xh8:Operand:=.tmp 28
def XhP:Operand:=.tmp 29
def Xiu:Operand:=.tmp 30
def Xio:Operand:=.tmp 31
def XiC:Operand:=.tmp 32
def XiO:Operand:=.tmp 33
def XiM:Operand:=.tmp 34
def XiQ:Operand:=.tmp 35
def Xje:Operand:=.tmp 36
def XiK:Operand:=.tmp 37
def XjL:Operand:=.tmp 38
def Xjk:Operand:=.tmp 39
def Xkw:Operand:=.tmp 40
def XjM:Operand:=.tmp 41
def XjK:Operand:=.tmp 42
def XjR:Operand:=.tmp 43
def XkB:Operand:=.tmp 44
def Xkn:Operand:=.tmp 45
def XkG:Operand:=.tmp 46
def Xkq:Operand:=.tmp 47
def XkP:Operand:=.tmp 48
def Xj2:Operand:=.tmp 49
def Xlc:Operand:=.tmp 50
def Xl4:Operand:=.tmp 51
def Xl3:Operand:=.tmp 52
def Xmm:Operand:=.tmp 53
def XnS:Operand:=.tmp 54
def XnP:Operand:=.tmp 55
def Xou:Operand:=.tmp 56
def XnR:Operand:=.tmp 57
def XoP:Operand:=.tmp 58
def XoH:Operand:=.tmp 59
def XqI:Operand:=.tmp 60
def Xqv:Operand:=.tmp 61
def XqK:Operand:=.tmp 62
def Xr0:Operand:=.tmp 63
def XrX:Operand:=.tmp 64
def XsR:Operand:=.tmp 65
def Xtk:Operand:=.tmp 66
def XsT:Operand:=.tmp 67
def XtN:Operand:=.tmp 68
def XsZ:Operand:=.tmp 69
def Xu2:Operand:=.tmp 70
def Xvn:Operand:=.tmp 71
def Xu3:Operand:=.tmp 72
def Xwj:Operand:=.tmp 73
def Xvr:Operand:=.tmp 74
def Xwl:Operand:=.tmp 75
def XvZ:Operand:=.tmp 76
def Xv4:Operand:=.tmp 77
def Xxd:Operand:=.tmp 78
def XxU:Operand:=.tmp 79
def XxX:Operand:=.tmp 80
def XBy:Operand:=.tmp 81
def XC0:Operand:=.tmp 82
def Xw9:Operand:=.tmp 83
def XBS:Operand:=.tmp 84
def XFU:Operand:=.tmp 85
def XGc:Operand:=.tmp 86
def XF7:Operand:=.tmp 87
def XH6:Operand:=.tmp 88
def XFH:Operand:=.tmp 89
def XGe:Operand:=.tmp 90
def XFk:Operand:=.tmp 91
def XFV:Operand:=.tmp 92
def XFB:Operand:=.tmp 93
def XFP:Operand:=.tmp 94
def XF1:Operand:=.tmp 95
def XBV:Operand:=.tmp 96
def XLu:Operand:=.tmp 97
def XNm:Operand:=.tmp 98
def τ99:Operand:=.tmp 99
def XE5:Operand:=.tmp 100
def XCr:Operand:=.tmp 101
def XNc:Operand:=.tmp 102
def XMX:Operand:=.tmp 103
def XK0:Operand:=.tmp 104
def XK8:Operand:=.tmp 105
def XKw:Operand:=.tmp 106
def XJh:Operand:=.tmp 107
def XM9:Operand:=.tmp 108
def XO6:Operand:=.tmp 109
def XO1:Operand:=.tmp 110
def XDk:Operand:=.tmp 111
def XN4:Operand:=.tmp 112
def XPx:Operand:=.tmp 113
def τ114:Operand:=.tmp 114
def XOH:Operand:=.tmp 115
def XRJ:Operand:=.tmp 116
def XOT:Operand:=.tmp 117
def XQh:Operand:=.tmp 118
def XS7:Operand:=.tmp 119
def XL1:Operand:=.tmp 120
def XPX:Operand:=.tmp 121
def XQ2:Operand:=.tmp 122
def XNV:Operand:=.tmp 123
def XRQ:Operand:=.tmp 124
def XQF:Operand:=.tmp 125
def XQe:Operand:=.tmp 126
def XMR:Operand:=.tmp 127
def XRk:Operand:=.tmp 128
def XTh:Operand:=.tmp 129
def XN5:Operand:=.tmp 130
def XS0:Operand:=.tmp 131
def XS5:Operand:=.tmp 132
def XQI:Operand:=.tmp 133
def XOf:Operand:=.tmp 134
def XQ8:Operand:=.tmp 135
def XQV:Operand:=.tmp 136
def XSu:Operand:=.tmp 137
def XSH:Operand:=.tmp 138
def XOY:Operand:=.tmp 139
def XPO:Operand:=.tmp 140
def XPe:Operand:=.tmp 141
def XJs:Operand:=.tmp 142
def XR5:Operand:=.tmp 143
def XPq:Operand:=.tmp 144
def XTk:Operand:=.tmp 145
def XOG:Operand:=.tmp 146
def XQD:Operand:=.tmp 147
def XOv:Operand:=.tmp 148
def XO9:Operand:=.tmp 149
def XPr:Operand:=.tmp 150
def XSG:Operand:=.tmp 151
def XR0:Operand:=.tmp 152
def τ153:Operand:=.tmp 153
def τ154:Operand:=.tmp 154
def τ155:Operand:=.tmp 155
def τ156:Operand:=.tmp 156
def τ157:Operand:=.tmp 157
def τ158:Operand:=.tmp 158
def τ159:Operand:=.tmp 159
def τ160:Operand:=.tmp 160
def oD (n:Nat) (o:VOp):Xdj:=⟨some n,o,none⟩
def oN (o:VOp):Xdj:=⟨none,o,none⟩
def oM (n:Nat) (x:Operand):Xdj:=⟨some n,.mv x,none⟩
def oG (n:Nat) (o:VOp) (j:Nat) (b:Bool):Xdj:=⟨some n,o,some (j,b)⟩
def oE (n i:Nat) (x:Operand):Xdj:=⟨some n,.extract i x,none⟩
def k3_39:VC:=.regD [oM 100 τ5,oD 101 (.fieldA 2 τ8),oD 102 (.loadN [(.int .i64),.bool,(.int .u64),(.int .u64),.bool,(.int .u64),(.int .u64),(.int .i64),(.int .i64)] XCr),oD 103 (.callF 14 [XE5,XNc]),oM 104 τ6,oD 105 (.fieldA 2 τ8),oD 106 (.loadN [(.int .i64),.bool,(.int .u64),(.int .u64),.bool,(.int .u64),(.int .u64),(.int .i64),(.int .i64)] XK8)] [(3,6)] [oD 107 (.callF 15 [XK0,XKw]),oD 108 (.eqB true XMX XJh)]
def k3_60:VC:=.regD [oM 134 Xfp,oM 135 Xf7,oD 136 (.bin .neq XOf XQ8),oM 137 XQV,oG 138 (.mv XfR) 137 false,oG 139 (.mv Xgy) 137 false,oG 140 (.eqB true XSH XOY) 137 false,oD 141 (.pick XSu (.const (.bool true)) XPO),oM 142 XPe,oG 143 (.mv τ5) 142 false,oG 144 (.callF 19 [XR5]) 142 false,oG 145 (.mv τ6) 142 false,oG 146 (.nilCheck XTk) 142 false,oG 147 (.fieldA 2 XOG) 142 false,oG 148 (.load1 .oth XQD) 142 false,oG 149 (.lenL XOv) 142 false] [(10,14)] [oG 150 (.bin .neq XPq XO9) 142 false,oD 151 (.pick XJs (.const (.bool true)) XPr)]
def XzI:VC:=.seq (.seq (.reg [oM 34 τ7,oM 35 τ1,oD 36 (.lenL XiQ),oD 37 (.bin .lss XiM Xje),oM 38 XiK,oG 39 (.mv τ6) 38 true,oG 40 (.isNil 0 true Xjk) 38 true,oD 41 (.pick XjL Xkw (.const (.bool false)))]) (.cond XjM .skip (.exit 0))) (.seq (.block 1 (.seq (.reg [oM 44 τ1,oM 45 τ7,oD 46 (.idxAL 12 XkB Xkn),oD 47 (.loadN [(.int .i64),.str,(.int .i64),.bool,(.int .u64),(.int .u64),.bool,(.int .u64),(.int .u64),(.int .i64),(.int .i64),(.int .u32)] XkG),oD 8 (.alloc [(.int .i64 0),(.string ⟨⟨[]⟩⟩),(.int .i64 0),(.bool false),(.int .u64 0),(.int .u64 0),(.bool false),(.int .u64 0),(.int .u64 0),(.int .i64 0),(.int .i64 0),(.int .u32 0)]),oN (.store 12 τ8 Xkq)]) (.seq (.seq (.reg [oD 48 (.fieldA 0 τ8),oD 49 (.load1 (.int .i64) XkP)]) (.block 2 (.seq (.reg [oD 51 (.bin .eql Xj2 (.const (.int .i64 0))),oM 50 Xl4]) (.cond Xlc (.seq (.reg [oM 53 τ5,oD 54 (.fieldA 1 τ8),oD 55 (.load1 .str XnS),oD 56 (.callF 10 [Xmm,XnP]),oM 52 Xou,oE 57 0 Xl3,oE 58 1 Xl3,oM 9 XnR,oM 10 XoP]) (.seq (.reg [oM 60 τ6,oD 61 (.fieldA 1 τ8),oD 62 (.load1 .str Xqv),oD 63 (.callF 11 [XqI,XqK]),oM 59 Xr0,oE 64 0 XoH,oE 65 1 XoH,oM 11 XrX,oM 12 XsR]) (.seq (.reg [oM 66 τ9,oM 67 XdK,oD 68 (.bin .neq Xtk XsT),oM 69 XtN,oG 70 (.mv Xef) 69 false,oG 71 (.mv XeA) 69 false,oG 72 (.bin .neq Xu2 Xvn) 69 false,oD 73 (.pick XsZ (.const (.bool true)) Xu3)]) (.cond Xwj (.seq (.reg [oD 4 (.mv (.const (.bool false)))]) .ret) .skip)))) (.seq (.reg [oD 75 (.bin .eql Xj2 (.const (.int .i64 1))),oM 74 Xwl]) (.cond Xvr (.seq (.reg [oM 77 τ5,oD 78 (.fieldA 1 τ8),oD 79 (.load1 .str Xxd),oD 80 (.callF 12 [Xv4,XxU]),oM 76 XxX,oE 81 0 XvZ,oE 82 1 XvZ,oM 13 XBy,oM 14 XC0]) (.seq (.reg [oM 84 τ6,oD 85 (.fieldA 1 τ8),oD 86 (.load1 .str XFU),oD 87 (.callF 13 [XBS,XGc]),oM 83 XF7,oE 88 0 Xw9,oE 89 1 Xw9,oM 15 XH6,oM 16 XFH]) (.seq (.reg [oM 90 XeB,oM 91 Xfd,oD 92 (.bin .neq XGe XFk),oM 93 XFV,oG 94 (.mv Xe3) 93 false,oG 95 (.mv Xfk) 93 false,oG 96 (.bin .neq XFP XF1) 93 false,oD 97 (.pick XFB (.const (.bool true)) XBV)]) (.cond XLu (.seq (.reg [oD 4 (.mv (.const (.bool false)))]) .ret) .skip)))) (.seq (.reg [oD 99 (.bin .eql Xj2 (.const (.int .i64 2))),oM 98 τ99]) (.cond XNm (.seq k3_39 (.cond XM9 (.seq (.reg [oD 4 (.mv (.const (.bool false)))]) .ret) .skip)) (.seq (.reg [oD 110 (.bin .eql Xj2 (.const (.int .i64 3))),oM 109 XO1]) (.cond XO6 (.seq (.reg [oM 111 τ5,oD 112 (.fieldA 11 τ8),oD 113 (.load1 (.int .u32) XN4),oD 114 (.callF 16 [XDk,XPx])]) (.reg [oM 115 τ6,oD 116 (.fieldA 11 τ8),oD 117 (.load1 (.int .u32) XRJ),oD 118 (.nilCheck XOH),oD 119 (.fieldA 1 XQh),oN (.store 1 XS7 XOT)])) .skip)))))))))) (.seq (.reg [oM 121 τ5,oD 122 (.fieldA 2 τ8),oD 123 (.loadN [(.int .i64),.bool,(.int .u64),(.int .u64),.bool,(.int .u64),(.int .u64),(.int .i64),(.int .i64)] XQ2),oD 124 (.callF 17 [XPX,XNV]),oM 120 XRQ,oE 125 0 XL1,oE 126 1 XL1,oM 17 XQF,oM 18 XQe]) (.seq (.reg [oM 128 τ6,oD 129 (.fieldA 2 τ8),oD 130 (.loadN [(.int .i64),.bool,(.int .u64),(.int .u64),.bool,(.int .u64),(.int .u64),(.int .i64),(.int .i64)] XTh),oD 131 (.callF 18 [XRk,XN5]),oM 127 XS0,oE 132 0 XMR,oE 133 1 XMR,oM 19 XS5,oM 20 XQI]) (.seq k3_60 (.cond XSG (.seq (.reg [oD 4 (.mv (.const (.bool false)))]) .ret) .skip))))))) (.reg [oM 42 τ7,oD 43 (.bin .add XjK (.const (.int .i64 1))),oM 7 XjR]))
def XL2:VC:=.seq (.reg [oD 152 (.callF 7 []),oM 4 XR0]) .ret
def XRM:VC:=.seq (.reg [oD 4 (.mv (.const (.bool false)))]) (.seq (.seq (.reg [oM 21 τ1,oD 22 (.callF 6 [Xgx]),oD 23 (.not Xg2)]) (.cond XgX (.seq (.reg [oD 24 (.callF 7 []),oM 4 Xg1]) .ret) .skip)) (.seq (.reg [oM 25 τ0,oD 26 (.callF 8 [XhR]),oM 27 τ0,oD 28 (.callF 9 [XhO]),oM 5 XhB,oM 6 Xh8]) (.seq (.seq (.reg [oM 29 τ5,oD 30 (.isNil 0 false XhP),oM 31 τ6,oD 32 (.isNil 0 false Xio),oD 33 (.eqB true Xiu XiC)]) (.cond XiO (.seq (.reg [oD 4 (.mv (.const (.bool false)))]) .ret) .skip)) (.seq (.seq (.reg [oD 7 (.mv (.const (.int .i64 0)))]) (.block 0 (.loop XzI))) XL2))))
def fn3:VFn:=⟨153,XRM,[.tmp 4]⟩
def XLZ:VC:=.seq (.seq (.reg [oM 4 τ3,oM 5 τ0,oD 6 (.lenL τ5),oD 7 (.bin .lss τ4 τ6),oM 8 τ7,oG 9 (.mv τ3) 8 true,oG 10 (.bin .lss τ9 (.const (.int .i64 40))) 8 true,oD 11 (.pick τ8 Xef (.const (.bool false)))]) (.cond XdK .skip (.exit 0))) (.seq (.block 1 (.seq (.reg [oM 14 τ0,oM 15 τ3,oD 16 (.idxAL 12 Xe3 Xfd),oD 17 (.fieldA 1 Xfk),oD 18 (.load1 .str Xfp),oD 19 (.lenS XfR),oD 20 (.bin .gtr Xf7 (.const (.int .i64 300)))]) (.cond Xgy (.seq (.reg [oD 2 (.mv (.const (.bool false)))]) .ret) .skip))) (.reg [oM 12 τ3,oD 13 (.bin .add XeA (.const (.int .i64 1))),oM 3 XeB]))
def XQw:VC:=.seq (.reg [oM 21 τ0,oD 22 (.lenL Xgx),oD 23 (.bin .leq Xg2 (.const (.int .i64 40))),oM 2 XgX]) .ret
def XPt:VC:=.seq (.reg [oD 2 (.mv (.const (.bool false)))]) (.seq (.seq (.reg [oD 3 (.mv (.const (.int .i64 0)))]) (.block 0 (.loop XLZ))) XQw)
def fn6:VFn:=⟨24,XPt,[.tmp 2]⟩
def XQ3:VC:=.seq (.reg [oD 0 (.mv (.const (.bool false)))]) (.seq (.reg [oD 14 (.callF 8 [(.const (.int .i64 7))]),oM 1 Xe3]) (.seq (.reg [oM 16 τ1,oD 17 (.callF 10 [Xfk,(.const (.string ⟨⟨[]⟩⟩))]),oM 15 Xfp,oE 18 0 Xfd,oE 19 1 Xfd,oM 2 XfR,oM 3 Xf7]) (.seq (.reg [oM 21 τ1,oD 22 (.callF 12 [Xgx,(.const (.string ⟨⟨[]⟩⟩))]),oM 20 Xg2,oE 23 0 Xgy,oE 24 1 Xgy,oM 4 XgX,oM 5 Xg1]) (.seq (.reg [oD 6 (.mv (.const (.pointer none)))]) (.seq (.reg [oD 25 (.build [(.int .i64 0),(.int .u32 0),(.map none)] []),oD 26 (.box XhR),oM 7 XhB]) (.seq (.reg [oM 27 τ6,oD 28 (.callF 16 [XhO,(.const (.int .u32 1))])]) (.seq (.reg [oM 30 τ6,oD 31 (.callF 10 [Xiu,(.const (.string ⟨⟨[]⟩⟩))]),oM 29 Xio,oE 32 0 XhP,oE 33 1 XhP,oM 8 XiC,oM 9 XiO]) (.seq (.reg [oM 35 τ7,oD 36 (.callF 12 [XiQ,(.const (.string ⟨⟨[]⟩⟩))]),oM 34 Xje,oE 37 0 XiM,oE 38 1 XiM,oM 10 XiK,oM 11 XjL]) (.seq (.reg [oM 40 τ6,oD 41 (.build [(.int .i64 0),(.bool false),(.int .u64 0),(.int .u64 0),(.bool false),(.int .u64 0),(.int .u64 0),(.int .i64 0),(.int .i64 0)] []),oD 42 (.callF 17 [Xkw,XjM]),oM 39 XjK,oE 43 0 Xjk,oE 44 1 Xjk,oM 12 XjR,oM 13 XkB]) (.seq (.reg [oM 45 τ3,oD 46 (.bin .eql Xkn (.const (.int .i64 2))),oM 47 XkG,oG 48 (.mv τ5) 47 true,oG 49 (.bin .eql XkP (.const (.int .i64 2))) 47 true,oD 50 (.pick Xkq Xj2 (.const (.bool false))),oM 51 Xlc,oG 52 (.mv τ9) 51 true,oG 53 (.bin .eql Xl3 (.const (.int .i64 1))) 51 true,oD 54 (.pick Xl4 Xmm (.const (.bool false))),oM 55 XnS,oG 56 (.mv XdK) 55 true,oG 57 (.bin .eql Xou (.const (.int .i64 1))) 55 true,oD 58 (.pick XnP XnR (.const (.bool false))),oM 59 XoP,oG 60 (.mv XeB) 59 true,oG 61 (.not XqI) 59 true,oD 62 (.pick XoH Xqv (.const (.bool false))),oM 63 XqK,oG 64 (.mv τ7) 63 true,oG 65 (.build [(.int .i64 0),(.bool false),(.int .u64 0),(.int .u64 0),(.bool false),(.int .u64 0),(.int .u64 0),(.int .i64 0),(.int .i64 0)] []) 63 true,oG 66 (.callF 14 [XrX,XsR]) 63 true,oG 67 (.not Xtk) 63 true,oD 68 (.pick Xr0 XsT (.const (.bool false))),oM 69 XtN,oG 70 (.mv τ6) 69 true,oG 71 (.callF 19 [Xu2]) 69 true,oG 72 (.bin .eql Xvn (.const (.int .i64 0))) 69 true,oD 73 (.pick XsZ Xu3 (.const (.bool false))),oM 74 Xwj,oG 75 (.callF 8 [(.const (.int .i64 0))]) 74 true,oG 76 (.isNil 0 false Xwl) 74 true,oD 77 (.pick Xvr XvZ (.const (.bool false))),oM 78 Xv4,oD 79 (.pick Xxd (.const (.bool true)) (.const (.bool false))),oM 0 XxU]) .ret))))))))))
def fn7:VFn:=⟨80,XQ3,[.tmp 0]⟩
def k8_9:VC:=.seq (.reg [oD 2 (.mv (.const (.pointer none)))]) (.seq (.seq (.reg [oM 3 τ0,oD 4 (.bin .lss τ3 (.const (.int .i64 1))),oM 5 τ4,oG 6 (.mv τ0) 5 false,oG 7 (.bin .gtr τ6 (.const (.int .i64 65535))) 5 false,oD 8 (.pick τ5 (.const (.bool true)) τ7)]) (.cond τ8 (.seq (.reg [oD 2 (.mv (.const (.pointer none)))]) .ret) .skip)) (.seq (.reg [oM 9 τ0,oD 10 (.mkMap 66),oD 11 (.build [(.int .i64 0),(.int .u32 0),(.map none)] [(0,1,τ9),(2,1,Xef)]),oD 12 (.box XdK),oM 2 XeA]) .ret))
def fn8:VFn:=⟨13,k8_9,[.tmp 2]⟩
def XN2:VC:=.regD [oD 22 (.fieldA 1 τ6),oD 23 (.load1 (.int .i64) Xg2),oM 24 τ0,oD 25 (.nilCheck Xg1),oD 26 (.fieldA 0 XhR),oD 27 (.load1 (.int .i64) XhB)] [] [oD 28 (.bin .neq XgX XhO)]
def XA0:VC:=.seq (.reg [oD 4 (.mv (.const (.string ⟨⟨[]⟩⟩))),oD 5 (.mv (.const (.int .i64 0)))]) (.seq (.seq (.reg [oM 10 τ0,oD 11 (.callF 28 [Xef]),oD 12 (.not XdK)]) (.cond XeA (.seq (.reg [oD 4 (.mv (.const (.string ⟨⟨[]⟩⟩))),oD 5 (.mv (.const (.int .i64 1)))]) .ret) .skip)) (.seq (.reg [oM 14 τ1,oD 15 (.callF 29 [Xe3]),oM 13 Xfd,oE 16 0 XeB,oE 17 1 XeB,oE 18 2 XeB,oD 6 (.alloc [(.bool false),(.int .i64 0),(.int .u64 0),(.bool false),(.int .i64 0)]),oN (.store 5 τ6 Xfk),oM 7 Xfp,oM 8 XfR]) (.seq (.seq (.reg [oM 19 τ8,oD 20 (.bin .neq Xf7 (.const (.int .i64 0)))]) (.cond Xgy (.seq (.reg [oM 21 τ8,oD 4 (.mv (.const (.string ⟨⟨[]⟩⟩))),oM 5 Xgx]) .ret) .skip)) (.seq (.seq XN2 (.cond Xh8 (.seq (.reg [oD 4 (.mv (.const (.string ⟨⟨[]⟩⟩))),oD 5 (.mv (.const (.int .i64 16)))]) .ret) .skip)) (.seq (.reg [oM 30 τ7,oD 31 (.callF 30 [Xiu]),oM 29 Xio,oE 32 0 XhP,oE 33 1 XhP,oD 9 (.alloc [(.int .i64 0),(.bool false),(.int .u64 0),(.int .u64 0),(.bool false),(.int .u64 0),(.int .u64 0),(.int .i64 0),(.int .i64 0),(.int .i64 0),(.bool false),(.int .u32 0),(.int .u32 0),(.bool false),(.string ⟨⟨[]⟩⟩),(.int .i64 0)]),oN (.store 16 τ9 XiC),oM 8 XiO]) (.seq (.seq (.reg [oM 34 τ8,oD 35 (.bin .eql XiM (.const (.int .i64 0)))]) (.cond XiQ (.reg [oM 36 τ0,oD 37 (.fieldA 0 τ9),oD 38 (.loadN [(.int .i64),.bool,(.int .u64),(.int .u64),.bool,(.int .u64),(.int .u64),(.int .i64),(.int .i64)] XiK),oD 39 (.loadN [.bool,(.int .i64),(.int .u64),.bool,(.int .i64)] τ6),oD 40 (.callF 31 [Xje,XjL,Xjk]),oM 8 Xkw]) .skip)) (.seq (.block 0 (.seq (.reg [oM 42 τ8,oD 43 (.bin .neq XjK (.const (.int .i64 0))),oM 41 XjR]) (.cond XjM (.seq (.reg [oM 44 τ8,oD 4 (.mv (.const (.string ⟨⟨[]⟩⟩))),oM 5 XkB]) .ret) (.seq (.reg [oD 46 (.fieldA 10 τ9),oD 47 (.load1 .bool XkG),oM 45 Xkq]) (.cond Xkn (.seq (.reg [oM 48 τ7,oM 49 τ0,oD 50 (.nilCheck Xj2),oD 51 (.fieldA 1 Xlc),oD 52 (.load1 (.int .u32) Xl4),oD 53 (.callF 32 [XkP,Xl3]),oE 54 0 Xmm,oE 55 1 Xmm,oM 4 XnS,oM 5 XnP]) .ret) .skip))))) (.seq (.reg [oM 56 τ7,oM 4 Xou,oD 5 (.mv (.const (.int .i64 0)))]) .ret))))))))
def fn10:VFn:=⟨57,XA0,[.tmp 4,.tmp 5]⟩
def XDm:VC:=.seq (.reg [oD 2 (.mv (.const (.bool false)))]) (.seq (.reg [oM 3 τ0,oD 4 (.isNil 0 true τ3),oM 5 τ4,oG 6 (.mv τ0) 5 true,oG 7 (.nilCheck τ6) 5 true,oG 8 (.fieldA 2 τ7) 5 true,oG 9 (.load1 .oth τ8) 5 true,oG 10 (.isNil 4 true τ9) 5 true,oD 11 (.pick τ5 Xef (.const (.bool false))),oM 2 XdK]) .ret)
def fn28:VFn:=⟨12,XDm,[.tmp 2]⟩
def XQk:VC:=.regD [oD 78 (.loadN [.bool,(.int .i64),(.int .u64),.bool,(.int .i64)] τ9),oM 79 τ0,oD 80 (.sliceS XxU (some (.const (.int .i64 18))) none),oN (.store 5 τ2 Xxd)] [] [oM 3 XxX,oD 4 (.mv (.const (.int .i64 0)))]
def XGP:VC:=.seq (.reg [oD 2 (.alloc [(.bool false),(.int .i64 0),(.int .u64 0),(.bool false),(.int .i64 0)]),oD 3 (.mv (.const (.string ⟨⟨[]⟩⟩))),oD 4 (.mv (.const (.int .i64 0)))]) (.seq (.seq (.reg [oM 13 τ0,oD 14 (.lenS XeB),oD 15 (.bin .lss Xe3 (.const (.int .i64 18)))]) (.cond Xfd (.seq (.reg [oD 16 (.build [(.bool false),(.int .i64 0),(.int .u64 0),(.bool false),(.int .i64 0)] []),oN (.store 5 τ2 Xfk),oD 3 (.mv (.const (.string ⟨⟨[]⟩⟩))),oD 4 (.mv (.const (.int .i64 2)))]) .ret) .skip)) (.seq (.reg [oM 18 τ0,oD 19 (.callF 50 [XfR,(.const (.string ⟨⟨[71,85,1]⟩⟩))]),oM 17 Xf7,oE 20 0 Xfp,oE 21 1 Xfp,oM 5 Xgy,oM 6 Xgx]) (.seq (.reg [oM 22 τ5,oD 23 (.callF 51 [Xg2]),oM 7 XgX]) (.seq (.reg [oM 24 τ7,oD 25 (.callF 52 [Xg1,(.const (.int .i64 1))]),oM 8 XhR]) (.seq (.reg [oM 26 τ8,oD 27 (.bin .eql XhB (.const (.int .i64 41))),oM 28 τ7,oD 29 (.callF 52 [Xh8,(.const (.int .i64 2))]),oD 30 (.build [(.bool false),(.int .i64 0),(.int .u64 0),(.bool false),(.int .i64 0)] [(0,1,XhO),(1,1,XhP)]),oD 9 (.alloc [(.bool false),(.int .i64 0),(.int .u64 0),(.bool false),(.int .i64 0)]),oN (.store 5 τ9 Xiu)]) (.seq (.reg [oM 31 τ7,oD 32 (.callF 52 [Xio,(.const (.int .i64 1))]),oM 10 XiC]) (.seq (.reg [oM 33 Xef,oD 34 (.bin .eql XiO (.const (.int .i64 1))),oM 35 τ7,oD 36 (.callF 52 [XiQ,(.const (.int .i64 1))]),oD 37 (.fieldA 3 τ9),oN (.store 1 XiK XiM),oD 38 (.fieldA 4 τ9),oN (.store 1 XjL Xje)]) (.seq (.reg [oM 39 τ7,oD 40 (.callF 52 [Xjk,(.const (.int .i64 2))])]) (.seq (.reg [oM 41 τ7,oD 42 (.callF 52 [XjM,(.const (.int .i64 4))]),oM 43 τ7,oD 44 (.callF 52 [XjR,(.const (.int .i64 4))]),oM 11 XjK,oM 12 XkB]) (.seq (.reg [oM 45 XdK,oD 46 (.conv .u64 Xkn),oD 47 (.bin .shl XkG (.const (.int .u64 32))),oM 48 XeA,oD 49 (.conv .u64 XkP),oD 50 (.bin .or Xkq Xj2),oD 51 (.fieldA 2 τ9),oN (.store 1 Xl4 Xlc)]) (.seq (.block 0 (.seq (.reg [oM 53 τ6,oD 54 (.not Xmm),oM 55 XnS,oG 56 (.mv τ8) 55 false,oG 57 (.fieldA 0 τ9) 55 false,oG 58 (.load1 .bool XnR) 55 false,oG 59 (.callF 53 [XoP]) 55 false,oG 60 (.bin .neq Xou XoH) 55 false,oD 61 (.pick XnP (.const (.bool true)) XqI),oM 62 Xqv,oG 63 (.mv Xef) 62 false,oG 64 (.bin .gtr Xr0 (.const (.int .i64 1))) 62 false,oD 65 (.pick XqK (.const (.bool true)) XrX),oM 52 XsR]) (.cond Xl3 (.seq (.reg [oD 66 (.build [(.bool false),(.int .i64 0),(.int .u64 0),(.bool false),(.int .i64 0)] []),oN (.store 5 τ2 Xtk),oD 3 (.mv (.const (.string ⟨⟨[]⟩⟩))),oD 4 (.mv (.const (.int .i64 3)))]) .ret) (.seq (.reg [oM 68 τ0,oD 69 (.lenS XtN),oD 70 (.bin .gtr XsZ (.const (.int .i64 9018))),oM 67 Xu2]) (.cond XsT (.seq (.reg [oD 71 (.build [(.bool false),(.int .i64 0),(.int .u64 0),(.bool false),(.int .i64 0)] []),oN (.store 5 τ2 Xvn),oD 3 (.mv (.const (.string ⟨⟨[]⟩⟩))),oD 4 (.mv (.const (.int .i64 5)))]) .ret) (.seq (.reg [oM 73 τ0,oD 74 (.sliceS Xwj none (some (.const (.int .i64 18)))),oD 75 (.callF 54 [Xvr]),oD 76 (.not Xwl),oM 72 XvZ]) (.cond Xu3 (.seq (.reg [oD 77 (.build [(.bool false),(.int .i64 0),(.int .u64 0),(.bool false),(.int .i64 0)] []),oN (.store 5 τ2 Xv4),oD 3 (.mv (.const (.string ⟨⟨[]⟩⟩))),oD 4 (.mv (.const (.int .i64 4)))]) .ret) .skip))))))) (.seq XQk .ret))))))))))))
def fn29:VFn:=⟨81,XGP,[.cell 2 [.bool,(.int .i64),(.int .u64),.bool,(.int .i64)] true,.tmp 3,.tmp 4]⟩
def XSv:VC:=.seq (.reg [oD 4 (.mv (.const (.string ⟨⟨[]⟩⟩))),oD 5 (.mv (.const (.bool false)))]) (.seq (.reg [oM 6 τ0,oM 7 τ1,oD 8 (.callF 85 [τ6,τ7]),oE 9 0 τ8,oE 10 1 τ8,oM 4 τ9,oM 5 Xef]) .ret)
def fn50:VFn:=⟨11,XSv,[.tmp 4,.tmp 5]⟩
def XQP:VC:=.seq (.reg [oD 4 (.mv (.const (.string ⟨⟨[]⟩⟩))),oD 5 (.mv (.const (.bool false)))]) (.seq (.seq (.reg [oM 6 τ0,oM 7 τ1,oD 8 (.callF 113 [τ6,τ7]),oD 9 (.not τ8)]) (.cond τ9 (.seq (.reg [oM 10 τ0,oM 4 Xef,oD 5 (.mv (.const (.bool false)))]) .ret) .skip)) (.seq (.reg [oM 11 τ0,oM 12 τ1,oD 13 (.lenS XeA),oD 14 (.sliceS XdK (some XeB) none),oM 4 Xe3,oD 5 (.mv (.const (.bool true)))]) .ret))
def fn85:VFn:=⟨15,XQP,[.tmp 4,.tmp 5]⟩
def XHY:VC:=.seq (.reg [oD 4 (.mv (.const (.bool false)))]) (.seq (.reg [oM 5 τ0,oD 6 (.lenS τ5),oM 7 τ1,oD 8 (.lenS τ7),oD 9 (.bin .geq τ6 τ8),oM 10 τ9,oG 11 (.mv τ0) 10 true,oG 12 (.mv τ1) 10 true,oG 13 (.lenS XeA) 10 true,oG 14 (.sliceS XdK none (some XeB)) 10 true,oG 15 (.mv τ1) 10 true,oG 16 (.bin .eql Xe3 Xfd) 10 true,oD 17 (.pick Xef Xfk (.const (.bool false))),oM 4 Xfp]) .ret)
def XNM:VFn:=⟨18,XHY,[.tmp 4]⟩
def XPH:VC:=.seq (.reg [oD 2 (.mv (.const (.pointer none)))]) (.seq (.reg [oM 3 τ0,oD 4 (.build [(.string ⟨⟨[]⟩⟩),(.bool false),(.bool false)] [(0,1,τ3),(1,1,(.const (.bool true)))]),oD 5 (.box τ4),oM 2 τ5]) .ret)
def fn51:VFn:=⟨6,XPH,[.tmp 2]⟩
def XFp:VC:=.seq (.reg [oD 4 (.mv (.const (.int .i64 0)))]) (.seq (.seq (.reg [oM 7 τ1,oD 8 (.bin .lss τ7 (.const (.int .i64 1))),oM 9 τ8,oG 10 (.mv τ1) 9 false,oG 11 (.bin .gtr Xef (.const (.int .i64 7))) 9 false,oD 12 (.pick τ9 (.const (.bool true)) XdK)]) (.cond XeA (.reg [oD 1 (.mv (.const (.int .i64 (-1))))]) .skip)) (.seq (.reg [oM 14 τ0,oM 15 τ1,oD 16 (.callF 86 [Xe3,Xfd]),oM 17 τ1,oD 18 (.callF 69 [Xfk,(.const (.int .i64 0)),Xfp]),oM 13 XfR,oE 19 0 XeB,oE 20 1 XeB,oM 5 Xf7,oM 6 Xgy]) (.seq (.reg [oM 21 τ5,oD 22 (.conv .i64 Xgx),oM 4 Xg2]) .ret)))
def fn52:VFn:=⟨23,XFp,[.tmp 4]⟩
def XGy:VC:=.seq (.reg [oD 4 (.mv (.const (.string ⟨⟨[]⟩⟩)))]) (.seq (.seq (.reg [oM 6 τ0,oD 7 (.callF 95 [τ6])]) (.cond τ7 (.seq (.reg [oD 4 (.mv (.const (.string ⟨⟨[]⟩⟩)))]) .ret) .skip)) (.seq (.seq (.reg [oM 8 τ1,oD 9 (.bin .lss τ8 (.const (.int .i64 0))),oM 10 τ9,oG 11 (.mv τ1) 10 false,oG 12 (.mv τ0) 10 false,oG 13 (.nilCheck XeA) 10 false,oG 14 (.fieldA 0 XeB) 10 false,oG 15 (.load1 .str Xe3) 10 false,oG 16 (.lenS Xfd) 10 false,oG 17 (.bin .gtr XdK Xfk) 10 false,oD 18 (.pick Xef (.const (.bool true)) Xfp)]) (.cond XfR (.seq (.reg [oM 19 τ0,oD 20 (.nilCheck Xf7),oD 21 (.fieldA 2 Xgy),oN (.store 1 Xgx (.const (.bool true)))]) (.seq (.reg [oD 4 (.mv (.const (.string ⟨⟨[]⟩⟩)))]) .ret)) .skip)) (.seq (.reg [oM 22 τ0,oD 23 (.nilCheck Xg2),oD 24 (.fieldA 0 XgX),oD 25 (.load1 .str Xg1),oM 26 τ1,oD 27 (.sliceS XhR none (some XhB)),oM 5 XhO]) (.seq (.reg [oM 28 τ0,oM 29 τ0,oD 30 (.nilCheck XhP),oD 31 (.fieldA 0 Xiu),oD 32 (.load1 .str Xio),oM 33 τ1,oD 34 (.sliceS XiC (some XiO) none),oD 35 (.nilCheck Xh8),oD 36 (.fieldA 0 XiQ),oN (.store 1 Xje XiM)]) (.seq (.reg [oM 37 τ5,oM 4 XiK]) .ret)))))
def fn86:VFn:=⟨38,XGy,[.tmp 4]⟩
def XS9:VC:=.seq (.reg [oD 2 (.mv (.const (.bool false)))]) (.seq (.reg [oM 3 τ0,oD 4 (.isNil 0 false τ3),oM 5 τ4,oG 6 (.mv τ0) 5 false,oG 7 (.nilCheck τ6) 5 false,oG 8 (.fieldA 1 τ7) 5 false,oG 9 (.load1 .bool τ8) 5 false,oG 10 (.not τ9) 5 false,oD 11 (.pick τ5 (.const (.bool true)) Xef),oM 12 XdK,oG 13 (.mv τ0) 12 false,oG 14 (.nilCheck XeB) 12 false,oG 15 (.fieldA 2 Xe3) 12 false,oG 16 (.load1 .bool Xfd) 12 false,oD 17 (.pick XeA (.const (.bool true)) Xfk),oM 2 Xfp]) .ret)
def fn95:VFn:=⟨18,XS9,[.tmp 2]⟩
def XyV:VC:=.seq (.reg [oD 38 (.bin .lss XiK Xje)]) (.seq (.cond XjL .skip (.exit 0)) (.seq (.block 1 (.seq (.reg [oD 39 (.idxAL 1 XiQ XiK),oD 40 (.load1 (.int .u8) Xjk),oM 10 Xkw]) (.reg [oM 41 τ8,oD 42 (.bin .shl XjM (.const (.int .u64 8))),oM 43 Xef,oD 44 (.conv .u64 XjR),oD 45 (.bin .or XjK XkB),oM 8 Xkn]))) (.reg [oD 46 (.bin .add XiK (.const (.int .i64 1))),oM 37 XkG])))
def XFF:VC:=.seq (.reg [oM 47 τ8,oM 6 Xkq,oD 7 (.mv (.const (.bool true)))]) .ret
def XG8:VC:=.seq (.reg [oD 6 (.mv (.const (.int .u64 0))),oD 7 (.mv (.const (.bool false)))]) (.seq (.seq (.reg [oM 11 τ2,oD 12 (.bin .lss XdK (.const (.int .i64 1))),oM 13 XeA,oG 14 (.mv τ2) 13 false,oG 15 (.bin .gtr Xe3 (.const (.int .i64 8))) 13 false,oD 16 (.pick XeB (.const (.bool true)) Xfd),oM 17 Xfk,oG 18 (.mv τ1) 17 false,oG 19 (.bin .lss XfR (.const (.int .i64 0))) 17 false,oD 20 (.pick Xfp (.const (.bool true)) Xf7),oM 21 Xgy,oG 22 (.mv τ0) 21 false,oG 23 (.lenS Xg2) 21 false,oG 24 (.mv τ2) 21 false,oG 25 (.bin .sub XgX Xg1) 21 false,oG 26 (.mv τ1) 21 false,oG 27 (.bin .lss XhR XhB) 21 false,oD 28 (.pick Xgx (.const (.bool true)) XhO)]) (.cond Xh8 (.seq (.reg [oD 6 (.mv (.const (.int .u64 0))),oD 7 (.mv (.const (.bool false)))]) .ret) .skip)) (.seq (.reg [oD 8 (.mv (.const (.int .u64 0)))]) (.seq (.seq (.reg [oM 29 τ0,oM 30 τ1,oM 31 τ1,oM 32 τ2,oD 33 (.bin .add Xio XiC),oD 34 (.sliceS XhP (some Xiu) (some XiO)),oD 35 (.s2b XiM),oD 36 (.lenL XiQ),oD 37 (.mv (.const (.int .i64 0)))]) (.block 0 (.loop XyV))) XFF)))
def fn69:VFn:=⟨48,XG8,[.tmp 6,.tmp 7]⟩
def XRv:VC:=.seq (.reg [oD 2 (.mv (.const (.int .i64 0)))]) (.seq (.seq (.reg [oM 3 τ0]) (.cond τ3 (.seq (.reg [oD 2 (.mv (.const (.int .i64 41)))]) .ret) .skip)) (.seq (.reg [oD 2 (.mv (.const (.int .i64 4)))]) .ret))
def fn53:VFn:=⟨4,XRv,[.tmp 2]⟩
def XPR:VC:=.seq (.reg [oD 2 (.mv (.const (.bool false)))]) (.seq (.reg [oM 3 τ0,oD 4 (.callF 87 [τ3]),oD 5 (.bin .eql τ4 (.const (.int .i64 65535))),oM 2 τ5]) .ret)
def fn54:VFn:=⟨6,XPR,[.tmp 2]⟩
def XRj:VC:=.reg [oM 4 τ7]
def XOg:VC:=.block 1 (.reg [oD 8 (.load1 (.int .i64) τ3),oM 9 τ4,oD 10 (.bin .add τ8 τ9),oD 11 (.callF 115 [Xef]),oN (.store 1 τ3 XdK)])
def k87_6:VC:=.rangeF τ6 [7] XRj XOg
def XHO:VC:=.seq (.reg [oD 12 (.load1 (.int .i64) τ3),oM 2 XeA]) .ret
def XHS:VC:=.seq (.reg [oD 2 (.mv (.const (.int .i64 0)))]) (.seq (.reg [oD 3 (.alloc [(.int .i64 0)]),oN (.store 1 τ3 (.const (.int .i64 0)))]) (.seq (.seq (.reg [oM 5 τ0,oD 6 (.callF 114 [τ5])]) (.block 0 k87_6)) XHO))
def fn87:VFn:=⟨13,XHS,[.tmp 2]⟩
def XQs:VC:=.seq (.reg [oD 1 (.box τ0),oM 2 (.const .nilFunc)]) (.seq (.reg [oD 3 (.mkFunc 128 [] [τ1]),oM 2 τ3]) .ret)
def XQB:VFn:=⟨4,XQs,[.tmp 2]⟩
def Xqe:VC:=.seq (.seq (.reg [oM 5 τ3,oD 6 (.load1 .str τ1),oD 7 (.lenS τ6),oD 8 (.bin .lss τ5 τ7)]) (.cond τ8 .skip (.exit 0))) (.seq (.block 1 (.seq (.reg [oD 11 (.load1 .str τ1),oM 12 τ3,oD 13 (.idxS XdK XeA),oD 14 (.conv .i64 XeB),oD 15 (.bin .shl Xe3 (.const (.int .u64 8))),oM 4 Xfd]) (.seq (.seq (.reg [oM 16 τ3,oD 17 (.bin .add Xfk (.const (.int .i64 1))),oD 18 (.load1 .str τ1),oD 19 (.lenS XfR),oD 20 (.bin .lss Xfp Xf7)]) (.cond Xgy (.reg [oM 21 τ4,oD 22 (.load1 .str τ1),oM 23 τ3,oD 24 (.bin .add XgX (.const (.int .i64 1))),oD 25 (.idxS Xg2 Xg1),oD 26 (.conv .i64 XhR),oD 27 (.bin .or Xgx XhB),oM 4 XhO]) .skip)) (.seq (.reg [oM 28 τ0,oM 29 τ4,oD 30 (.callV Xh8 [XhP]),oD 31 (.not Xiu)]) (.cond Xio .ret .skip))))) (.reg [oM 9 τ3,oD 10 (.bin .add τ9 (.const (.int .i64 2))),oM 3 Xef]))
def XNe:VC:=.seq (.reg [oD 3 (.mv (.const (.int .i64 0)))]) (.block 0 (.loop Xqe))
def XSd:VFn:=⟨32,XNe,[]⟩
def XyG:VC:=.seq (.seq (.reg [oM 3 τ0,oD 4 (.bin .gtr τ3 (.const (.int .i64 65535)))]) (.cond τ4 .skip (.exit 0))) (.block 1 (.reg [oM 5 τ0,oD 6 (.bin .and τ5 (.const (.int .i64 65535))),oM 7 τ0,oD 8 (.bin .shr τ7 (.const (.int .u64 16))),oD 9 (.bin .add τ6 τ8),oM 0 τ9]))
def Xzu:VC:=.seq (.reg [oM 10 τ0,oM 2 Xef]) .ret
def Xyz:VC:=.seq (.reg [oD 2 (.mv (.const (.int .i64 0)))]) (.seq (.block 0 (.loop XyG)) Xzu)
def XNB:VFn:=⟨11,Xyz,[.tmp 2]⟩
def XPK:VC:=.seq (.reg [oD 2 (.alloc [(.int .i64 0),(.bool false),(.int .u64 0),(.int .u64 0),(.bool false),(.int .u64 0),(.int .u64 0),(.int .i64 0),(.int .i64 0),(.int .i64 0),(.bool false),(.int .u32 0),(.int .u32 0),(.bool false),(.string ⟨⟨[]⟩⟩),(.int .i64 0)]),oD 3 (.mv (.const (.int .i64 0)))]) (.seq (.reg [oM 9 τ0,oD 10 (.callF 55 [τ9]),oM 8 Xef,oE 11 0 τ8,oE 12 1 τ8,oE 13 2 τ8,oE 14 3 τ8,oD 4 (.alloc [(.int .i64 0),(.bool false),(.int .u64 0),(.int .u64 0),(.bool false),(.int .u64 0),(.int .u64 0),(.int .i64 0),(.int .i64 0),(.int .i64 0),(.bool false),(.int .u32 0),(.int .u32 0),(.bool false),(.string ⟨⟨[]⟩⟩),(.int .i64 0)]),oN (.store 16 τ4 XdK),oM 5 XeA,oM 6 XeB,oM 7 Xe3]) (.seq (.reg [oD 15 (.loadN [(.int .i64),.bool,(.int .u64),(.int .u64),.bool,(.int .u64),(.int .u64),(.int .i64),(.int .i64),(.int .i64),.bool,(.int .u32),(.int .u32),.bool,.str,(.int .i64)] τ4),oM 16 τ7,oN (.store 16 τ2 Xfd),oM 3 Xfk]) .ret))
def fn30:VFn:=⟨17,XPK,[.cell 2 [(.int .i64),.bool,(.int .u64),(.int .u64),.bool,(.int .u64),(.int .u64),(.int .i64),(.int .i64),(.int .i64),.bool,(.int .u32),(.int .u32),.bool,.str,(.int .i64)] true,.tmp 3]⟩
def XOE:VC:=.regD [oD 58 (.loadN [(.int .i64),.bool,(.int .u64),(.int .u64),.bool,(.int .u64),(.int .u64),(.int .i64),(.int .i64),(.int .i64),.bool,(.int .u32),(.int .u32),.bool,.str,(.int .i64)] τ8),oD 59 (.fieldA 7 τ6),oD 60 (.load1 .str XoH),oD 61 (.lenS XqI),oM 62 τ9,oN (.store 16 τ2 XoP),oM 3 Xqv] [(2,5)] [oM 4 XqK,oD 5 (.mv (.const (.int .i64 0)))]
def XG5:VC:=.seq (.reg [oD 2 (.alloc [(.int .i64 0),(.bool false),(.int .u64 0),(.int .u64 0),(.bool false),(.int .u64 0),(.int .u64 0),(.int .i64 0),(.int .i64 0),(.int .i64 0),(.bool false),(.int .u32 0),(.int .u32 0),(.bool false),(.string ⟨⟨[]⟩⟩),(.int .i64 0)]),oD 3 (.mv (.const (.int .i64 0))),oD 4 (.mv (.const (.int .i64 0))),oD 5 (.mv (.const (.int .i64 0)))]) (.seq (.block 0 (.seq (.reg [oM 11 τ0,oD 12 (.lenS XdK),oD 13 (.bin .gtr XeA (.const (.int .i64 9000))),oM 10 XeB]) (.cond Xef (.seq (.reg [oD 14 (.build [(.int .i64 0),(.bool false),(.int .u64 0),(.int .u64 0),(.bool false),(.int .u64 0),(.int .u64 0),(.int .i64 0),(.int .i64 0),(.int .i64 0),(.bool false),(.int .u32 0),(.int .u32 0),(.bool false),(.string ⟨⟨[]⟩⟩),(.int .i64 0)] []),oN (.store 16 τ2 Xe3),oD 3 (.mv (.const (.int .i64 0))),oD 4 (.mv (.const (.int .i64 0))),oD 5 (.mv (.const (.int .i64 5)))]) .ret) (.seq (.reg [oM 16 τ0,oD 17 (.bin .eql Xfk (.const (.string ⟨⟨[]⟩⟩))),oM 15 Xfp]) (.cond Xfd (.seq (.reg [oD 18 (.build [(.int .i64 0),(.bool false),(.int .u64 0),(.int .u64 0),(.bool false),(.int .u64 0),(.int .u64 0),(.int .i64 0),(.int .i64 0),(.int .i64 0),(.bool false),(.int .u32 0),(.int .u32 0),(.bool false),(.string ⟨⟨[]⟩⟩),(.int .i64 0)] []),oN (.store 16 τ2 XfR),oD 3 (.mv (.const (.int .i64 0))),oD 4 (.mv (.const (.int .i64 0))),oD 5 (.mv (.const (.int .i64 2)))]) .ret) .skip))))) (.seq (.reg [oM 20 τ0,oD 21 (.callF 88 [Xgy]),oM 19 Xgx,oE 22 0 Xf7,oE 23 1 Xf7,oD 6 (.alloc [(.bool false),(.int .u64 0),(.int .u64 0),(.bool false),(.int .u64 0),(.int .u64 0),(.int .i64 0),(.string ⟨⟨[]⟩⟩)]),oN (.store 8 τ6 Xg2),oM 7 XgX]) (.seq (.seq (.reg [oM 24 τ7,oD 25 (.bin .neq Xg1 (.const (.int .i64 0)))]) (.cond XhR (.seq (.reg [oD 26 (.build [(.int .i64 0),(.bool false),(.int .u64 0),(.int .u64 0),(.bool false),(.int .u64 0),(.int .u64 0),(.int .i64 0),(.int .i64 0),(.int .i64 0),(.bool false),(.int .u32 0),(.int .u32 0),(.bool false),(.string ⟨⟨[]⟩⟩),(.int .i64 0)] []),oM 27 τ7,oN (.store 16 τ2 XhB),oD 3 (.mv (.const (.int .i64 0))),oD 4 (.mv (.const (.int .i64 0))),oM 5 XhO]) .ret) .skip)) (.seq (.reg [oM 28 τ0,oD 29 (.lenS Xh8),oD 30 (.fieldA 6 τ6),oD 31 (.load1 (.int .i64) Xiu),oD 32 (.fieldA 0 τ6),oD 33 (.loadN [.bool,(.int .u64),(.int .u64)] XiC),oD 34 (.fieldA 3 τ6),oD 35 (.loadN [.bool,(.int .u64),(.int .u64)] XiM),oD 36 (.build [(.int .i64 0),(.bool false),(.int .u64 0),(.int .u64 0),(.bool false),(.int .u64 0),(.int .u64 0),(.int .i64 0),(.int .i64 0)] [(0,1,Xio),(1,3,XiO),(4,3,XiQ)]),oD 37 (.build [(.int .i64 0),(.bool false),(.int .u64 0),(.int .u64 0),(.bool false),(.int .u64 0),(.int .u64 0),(.int .i64 0),(.int .i64 0),(.int .i64 0),(.bool false),(.int .u32 0),(.int .u32 0),(.bool false),(.string ⟨⟨[]⟩⟩),(.int .i64 0)] [(15,1,XhP),(0,9,Xje)]),oD 8 (.alloc [(.int .i64 0),(.bool false),(.int .u64 0),(.int .u64 0),(.bool false),(.int .u64 0),(.int .u64 0),(.int .i64 0),(.int .i64 0),(.int .i64 0),(.bool false),(.int .u32 0),(.int .u32 0),(.bool false),(.string ⟨⟨[]⟩⟩),(.int .i64 0)]),oN (.store 16 τ8 XiK)]) (.seq (.reg [oD 9 (.mv (.const (.int .i64 0)))]) (.seq (.seq (.reg [oD 38 (.fieldA 6 τ6),oD 39 (.load1 (.int .i64) XjL)]) (.block 1 (.seq (.reg [oD 41 (.bin .eql Xjk (.const (.int .i64 6))),oM 40 XjM]) (.cond Xkw (.reg [oD 43 (.loadN [.bool,(.int .u64),(.int .u64),.bool,(.int .u64),(.int .u64),(.int .i64),.str] τ6),oD 44 (.callF 89 [XjR,τ8]),oM 42 XkB,oE 45 0 XjK,oE 46 1 XjK,oM 9 Xkn,oM 7 XkG]) (.seq (.reg [oD 48 (.bin .eql Xjk (.const (.int .i64 17))),oM 47 XkP]) (.cond Xkq (.reg [oD 50 (.loadN [.bool,(.int .u64),(.int .u64),.bool,(.int .u64),(.int .u64),(.int .i64),.str] τ6),oD 51 (.callF 90 [Xlc,τ8]),oM 49 Xl4,oE 52 0 Xj2,oE 53 1 Xj2,oM 9 Xl3,oM 7 Xmm]) (.reg [oD 7 (.mv (.const (.int .i64 6)))]))))))) (.seq (.seq (.reg [oM 54 τ7,oD 55 (.bin .neq XnS (.const (.int .i64 0)))]) (.cond XnP (.seq (.reg [oD 56 (.build [(.int .i64 0),(.bool false),(.int .u64 0),(.int .u64 0),(.bool false),(.int .u64 0),(.int .u64 0),(.int .i64 0),(.int .i64 0),(.int .i64 0),(.bool false),(.int .u32 0),(.int .u32 0),(.bool false),(.string ⟨⟨[]⟩⟩),(.int .i64 0)] []),oM 57 τ7,oN (.store 16 τ2 Xou),oD 3 (.mv (.const (.int .i64 0))),oD 4 (.mv (.const (.int .i64 0))),oM 5 XnR]) .ret) .skip)) (.seq XOE .ret))))))))
def fn55:VFn:=⟨63,XG5,[.cell 2 [(.int .i64),.bool,(.int .u64),(.int .u64),.bool,(.int .u64),(.int .u64),(.int .i64),(.int .i64),(.int .i64),.bool,(.int .u32),(.int .u32),.bool,.str,(.int .i64)] true,.tmp 3,.tmp 4,.tmp 5]⟩
def XHi:VC:=.seq (.reg [oD 2 (.alloc [(.bool false),(.int .u64 0),(.int .u64 0),(.bool false),(.int .u64 0),(.int .u64 0),(.int .i64 0),(.string ⟨⟨[]⟩⟩)]),oD 3 (.mv (.const (.int .i64 0)))]) (.seq (.reg [oM 10 τ0,oD 11 (.callF 116 [Xef]),oM 9 XdK,oE 12 0 τ9,oE 13 1 τ9,oE 14 2 τ9,oM 4 XeA,oM 5 XeB,oM 6 Xe3]) (.seq (.seq (.reg [oM 15 τ6,oD 16 (.bin .neq Xfd (.const (.int .i64 0)))]) (.cond Xfk (.seq (.reg [oD 17 (.build [(.bool false),(.int .u64 0),(.int .u64 0),(.bool false),(.int .u64 0),(.int .u64 0),(.int .i64 0),(.string ⟨⟨[]⟩⟩)] []),oM 18 τ6,oN (.store 8 τ2 Xfp),oM 3 XfR]) .ret) .skip)) (.seq (.seq (.reg [oM 19 τ4]) (.block 0 (.seq (.reg [oD 20 (.tassert 175 (.agg ⟨[(.int .i64 0),(.int .i64 0),(.bool false),(.int .i64 0),(.int .i64 0),(.bool false),(.int .u64 0),(.int .u64 0),(.bool false),(.int .u64 0),(.int .u64 0),(.string ⟨⟨[]⟩⟩)]⟩) Xf7),oE 21 1 Xgy,oE 22 0 Xgy]) (.cond Xgx (.seq (.reg [oD 7 (.alloc [(.int .i64 0),(.int .i64 0),(.bool false),(.int .i64 0),(.int .i64 0),(.bool false),(.int .u64 0),(.int .u64 0),(.bool false),(.int .u64 0),(.int .u64 0),(.string ⟨⟨[]⟩⟩)]),oN (.store 12 τ7 Xg2)]) (.seq (.seq (.reg [oM 23 τ0,oD 24 (.lenS XgX),oD 25 (.fieldA 11 τ7),oD 26 (.load1 .str XhR),oD 27 (.lenS XhB),oD 28 (.bin .add (.const (.int .i64 20)) XhO),oM 29 τ5,oD 30 (.lenS XhP),oD 31 (.bin .add Xh8 Xiu),oD 32 (.bin .neq Xg1 Xio)]) (.cond XiC (.seq (.reg [oD 33 (.build [(.bool false),(.int .u64 0),(.int .u64 0),(.bool false),(.int .u64 0),(.int .u64 0),(.int .i64 0),(.string ⟨⟨[]⟩⟩)] []),oN (.store 8 τ2 XiO),oD 3 (.mv (.const (.int .i64 5)))]) .ret) .skip)) (.seq (.reg [oD 34 (.fieldA 5 τ7),oD 35 (.loadN [.bool,(.int .u64),(.int .u64)] XiM),oD 36 (.fieldA 8 τ7),oD 37 (.loadN [.bool,(.int .u64),(.int .u64)] Xje),oD 38 (.fieldA 4 τ7),oD 39 (.load1 (.int .i64) XjL),oM 40 τ5,oD 41 (.build [(.bool false),(.int .u64 0),(.int .u64 0),(.bool false),(.int .u64 0),(.int .u64 0),(.int .i64 0),(.string ⟨⟨[]⟩⟩)] [(0,3,XiQ),(3,3,XiK),(6,1,Xjk),(7,1,Xkw)]),oN (.store 8 τ2 XjM),oD 3 (.mv (.const (.int .i64 0)))]) .ret))) (.seq (.reg [oD 42 (.tassert 176 (.agg ⟨[(.int .i64 0),(.int .i64 0),(.int .i64 0),(.int .i64 0),(.bool false),(.int .u64 0),(.int .u64 0),(.bool false),(.int .u64 0),(.int .u64 0)]⟩) Xf7),oE 43 1 XjK,oE 44 0 XjK]) (.cond XjR (.seq (.reg [oD 8 (.alloc [(.int .i64 0),(.int .i64 0),(.int .i64 0),(.int .i64 0),(.bool false),(.int .u64 0),(.int .u64 0),(.bool false),(.int .u64 0),(.int .u64 0)]),oN (.store 10 τ8 XkB)]) (.seq (.seq (.reg [oM 45 τ0,oD 46 (.lenS Xkn),oM 47 τ5,oD 48 (.lenS Xkq),oD 49 (.bin .add (.const (.int .i64 40)) XkP),oD 50 (.bin .neq XkG Xj2)]) (.cond Xlc (.seq (.reg [oD 51 (.build [(.bool false),(.int .u64 0),(.int .u64 0),(.bool false),(.int .u64 0),(.int .u64 0),(.int .i64 0),(.string ⟨⟨[]⟩⟩)] []),oN (.store 8 τ2 Xl4),oD 3 (.mv (.const (.int .i64 5)))]) .ret) .skip)) (.seq (.reg [oD 52 (.fieldA 4 τ8),oD 53 (.loadN [.bool,(.int .u64),(.int .u64)] Xl3),oD 54 (.fieldA 7 τ8),oD 55 (.loadN [.bool,(.int .u64),(.int .u64)] XnS),oD 56 (.fieldA 2 τ8),oD 57 (.load1 (.int .i64) Xou),oM 58 τ5,oD 59 (.build [(.bool false),(.int .u64 0),(.int .u64 0),(.bool false),(.int .u64 0),(.int .u64 0),(.int .i64 0),(.string ⟨⟨[]⟩⟩)] [(0,3,Xmm),(3,3,XnP),(6,1,XnR),(7,1,XoP)]),oN (.store 8 τ2 XoH),oD 3 (.mv (.const (.int .i64 0)))]) .ret))) .skip)))))) (.seq (.reg [oD 60 (.build [(.bool false),(.int .u64 0),(.int .u64 0),(.bool false),(.int .u64 0),(.int .u64 0),(.int .i64 0),(.string ⟨⟨[]⟩⟩)] []),oN (.store 8 τ2 XqI),oD 3 (.mv (.const (.int .i64 3)))]) .ret))))
def fn88:VFn:=⟨61,XHi,[.cell 2 [.bool,(.int .u64),(.int .u64),.bool,(.int .u64),(.int .u64),(.int .i64),.str] true,.tmp 3]⟩
def XJB:VC:=.seq (.reg [oM 2 (.const .nilIface),oD 3 (.mv (.const (.string ⟨⟨[]⟩⟩))),oD 4 (.mv (.const (.int .i64 0)))]) (.seq (.seq (.reg [oM 11 τ0,oD 12 (.idxS XdK (.const (.int .i64 0))),oD 13 (.bin .shr XeA (.const (.int .u64 4)))]) (.block 0 (.seq (.reg [oD 15 (.bin .eql XeB (.const (.int .u8 4))),oM 14 Xfd]) (.cond Xe3 (.seq (.reg [oM 17 τ0,oD 18 (.callF 129 [Xfp]),oM 16 XfR,oE 19 0 Xfk,oE 20 1 Xfk,oE 21 2 Xfk,oD 5 (.alloc [(.int .i64 0),(.int .i64 0),(.bool false),(.int .i64 0),(.int .i64 0),(.bool false),(.int .u64 0),(.int .u64 0),(.bool false),(.int .u64 0),(.int .u64 0),(.string ⟨⟨[]⟩⟩)]),oN (.store 12 τ5 Xf7),oM 6 Xgy,oM 7 Xgx]) (.seq (.reg [oD 22 (.loadN [(.int .i64),(.int .i64),.bool,(.int .i64),(.int .i64),.bool,(.int .u64),(.int .u64),.bool,(.int .u64),(.int .u64),.str] τ5),oD 23 (.iface 175 Xg2),oM 24 τ6,oM 25 τ7,oM 2 XgX,oM 3 Xg1,oM 4 XhR]) .ret)) (.seq (.reg [oD 27 (.bin .eql XeB (.const (.int .u8 6))),oM 26 XhO]) (.cond XhB (.seq (.reg [oM 29 τ0,oD 30 (.callF 130 [XhP]),oM 28 Xiu,oE 31 0 Xh8,oE 32 1 Xh8,oE 33 2 Xh8,oD 8 (.alloc [(.int .i64 0),(.int .i64 0),(.int .i64 0),(.int .i64 0),(.bool false),(.int .u64 0),(.int .u64 0),(.bool false),(.int .u64 0),(.int .u64 0)]),oN (.store 10 τ8 Xio),oM 9 XiC,oM 10 XiO]) (.seq (.reg [oD 34 (.loadN [(.int .i64),(.int .i64),(.int .i64),(.int .i64),.bool,(.int .u64),(.int .u64),.bool,(.int .u64),(.int .u64)] τ8),oD 35 (.iface 176 XiM),oM 36 τ9,oM 37 Xef,oM 2 XiQ,oM 3 Xje,oM 4 XiK]) .ret)) .skip)))))) (.seq (.reg [oM 2 (.const .nilIface),oD 3 (.mv (.const (.string ⟨⟨[]⟩⟩))),oD 4 (.mv (.const (.int .i64 3)))]) .ret))
def XSx:VFn:=⟨38,XJB,[.tmp 2,.tmp 3,.tmp 4]⟩
def XIc:VC:=.regD [oD 72 (.fieldA 0 τ5),oD 73 (.load1 .oth Xu3),oD 74 (.callF 52 [Xwj,(.const (.int .i64 1))]),oD 75 (.fieldA 0 τ5),oD 76 (.load1 .oth Xwl),oD 77 (.callF 52 [XvZ,(.const (.int .i64 1))]),oD 78 (.fieldA 3 τ7)] [(2,4)] [oN (.store 1 Xxd Xvr),oD 79 (.fieldA 4 τ7),oN (.store 1 XxU Xv4)]
def XIq:VC:=.regD [oD 83 (.loadN [.oth] τ5),oD 84 (.callF 135 [Xw9]),oD 85 (.loadN [.oth] τ5),oD 86 (.callF 135 [XFU]),oD 87 (.fieldA 5 τ7)] [(1,2)] [oN (.store 3 XF7 XBS),oD 88 (.fieldA 8 τ7),oN (.store 3 XH6 XGc)]
def XJe:VC:=.regD [oD 95 (.loadN [(.int .i64),(.int .i64),.bool,(.int .i64),(.int .i64),.bool,(.int .u64),(.int .u64),.bool,(.int .u64),(.int .u64),.str] τ7),oD 96 (.fieldA 0 τ5),oD 97 (.load1 .oth XBV),oM 98 τ9,oM 99 τ8,oD 100 (.bin .sub XNm τ99),oD 101 (.callF 86 [XLu,XE5])] [(0,6)] [oN (.store 12 τ2 XF1),oM 3 XCr,oD 4 (.mv (.const (.int .i64 0)))]
def XyE:VC:=.seq (.reg [oD 2 (.alloc [(.int .i64 0),(.int .i64 0),(.bool false),(.int .i64 0),(.int .i64 0),(.bool false),(.int .u64 0),(.int .u64 0),(.bool false),(.int .u64 0),(.int .u64 0),(.string ⟨⟨[]⟩⟩)]),oD 3 (.mv (.const (.string ⟨⟨[]⟩⟩))),oD 4 (.mv (.const (.int .i64 0)))]) (.seq (.seq (.reg [oM 11 τ0,oD 12 (.lenS XdK),oD 13 (.bin .lss XeA (.const (.int .i64 20)))]) (.cond XeB (.seq (.reg [oD 14 (.build [(.int .i64 0),(.int .i64 0),(.bool false),(.int .i64 0),(.int .i64 0),(.bool false),(.int .u64 0),(.int .u64 0),(.bool false),(.int .u64 0),(.int .u64 0),(.string ⟨⟨[]⟩⟩)] []),oN (.store 12 τ2 Xe3),oD 3 (.mv (.const (.string ⟨⟨[]⟩⟩))),oD 4 (.mv (.const (.int .i64 2)))]) .ret) .skip)) (.seq (.reg [oM 15 τ0,oD 16 (.callF 51 [Xfd]),oD 17 (.build [(.pointer none)] [(0,1,Xfk)]),oD 5 (.alloc [(.pointer none)]),oN (.store 1 τ5 Xfp)]) (.seq (.reg [oD 18 (.fieldA 0 τ5),oD 19 (.load1 .oth XfR),oD 20 (.callF 52 [Xf7,(.const (.int .i64 1))]),oM 6 Xgy]) (.seq (.reg [oD 21 (.fieldA 0 τ5),oD 22 (.load1 .oth Xgx),oD 23 (.callF 52 [Xg2,(.const (.int .i64 1))]),oD 24 (.build [(.int .i64 0),(.int .i64 0),(.bool false),(.int .i64 0),(.int .i64 0),(.bool false),(.int .u64 0),(.int .u64 0),(.bool false),(.int .u64 0),(.int .u64 0),(.string ⟨⟨[]⟩⟩)] [(0,1,XgX)]),oD 7 (.alloc [(.int .i64 0),(.int .i64 0),(.bool false),(.int .i64 0),(.int .i64 0),(.bool false),(.int .u64 0),(.int .u64 0),(.bool false),(.int .u64 0),(.int .u64 0),(.string ⟨⟨[]⟩⟩)]),oN (.store 12 τ7 Xg1)]) (.seq (.reg [oM 25 τ6,oD 26 (.bin .and XhR (.const (.int .i64 15))),oD 27 (.bin .mul XhB (.const (.int .i64 4))),oD 28 (.fieldA 0 τ5),oD 29 (.load1 .oth Xh8),oD 30 (.callF 52 [XhP,(.const (.int .i64 2))]),oM 8 XhO,oM 9 Xiu]) (.seq (.block 0 (.seq (.reg [oM 32 τ6,oD 33 (.bin .shr XiC (.const (.int .u64 4))),oD 34 (.bin .neq XiO (.const (.int .i64 4))),oM 35 XiM,oG 36 (.mv τ8) 35 false,oG 37 (.bin .lss Xje (.const (.int .i64 20))) 35 false,oD 38 (.pick XiQ (.const (.bool true)) XiK),oM 39 XjL,oG 40 (.mv τ9) 39 false,oG 41 (.mv τ8) 39 false,oG 42 (.bin .lss Xkw XjM) 39 false,oD 43 (.pick Xjk (.const (.bool true)) XjK),oM 31 XjR]) (.cond Xio (.seq (.reg [oD 44 (.build [(.int .i64 0),(.int .i64 0),(.bool false),(.int .i64 0),(.int .i64 0),(.bool false),(.int .u64 0),(.int .u64 0),(.bool false),(.int .u64 0),(.int .u64 0),(.string ⟨⟨[]⟩⟩)] []),oN (.store 12 τ2 XkB),oD 3 (.mv (.const (.string ⟨⟨[]⟩⟩))),oD 4 (.mv (.const (.int .i64 3)))]) .ret) (.seq (.reg [oM 46 τ9,oM 47 τ0,oD 48 (.lenS Xkq),oD 49 (.bin .gtr XkG XkP),oM 45 Xj2]) (.cond Xkn (.seq (.reg [oD 50 (.build [(.int .i64 0),(.int .i64 0),(.bool false),(.int .i64 0),(.int .i64 0),(.bool false),(.int .u64 0),(.int .u64 0),(.bool false),(.int .u64 0),(.int .u64 0),(.string ⟨⟨[]⟩⟩)] []),oN (.store 12 τ2 Xlc),oD 3 (.mv (.const (.string ⟨⟨[]⟩⟩))),oD 4 (.mv (.const (.int .i64 2)))]) .ret) (.seq (.reg [oM 52 τ0,oM 53 τ8,oD 54 (.sliceS Xl3 none (some Xmm)),oD 55 (.callF 54 [XnS]),oD 56 (.not XnP),oM 51 Xou]) (.cond Xl4 (.seq (.reg [oD 57 (.build [(.int .i64 0),(.int .i64 0),(.bool false),(.int .i64 0),(.int .i64 0),(.bool false),(.int .u64 0),(.int .u64 0),(.bool false),(.int .u64 0),(.int .u64 0),(.string ⟨⟨[]⟩⟩)] []),oN (.store 12 τ2 XnR),oD 3 (.mv (.const (.string ⟨⟨[]⟩⟩))),oD 4 (.mv (.const (.int .i64 4)))]) .ret) .skip))))))) (.seq (.reg [oD 58 (.fieldA 0 τ5),oD 59 (.load1 .oth XoP),oD 60 (.callF 52 [XoH,(.const (.int .i64 2))]),oD 61 (.fieldA 1 τ7),oN (.store 1 Xqv XqI)]) (.seq (.reg [oD 62 (.fieldA 0 τ5),oD 63 (.load1 .oth XqK),oD 64 (.callF 52 [Xr0,(.const (.int .i64 2))]),oM 10 XrX]) (.seq (.seq (.reg [oM 65 Xef,oD 66 (.bin .andNot XsR (.const (.int .i64 16384))),oD 67 (.bin .neq Xtk (.const (.int .i64 0)))]) (.cond XsT (.seq (.reg [oD 68 (.build [(.int .i64 0),(.int .i64 0),(.bool false),(.int .i64 0),(.int .i64 0),(.bool false),(.int .u64 0),(.int .u64 0),(.bool false),(.int .u64 0),(.int .u64 0),(.string ⟨⟨[]⟩⟩)] []),oN (.store 12 τ2 XtN),oD 3 (.mv (.const (.string ⟨⟨[]⟩⟩))),oD 4 (.mv (.const (.int .i64 7)))]) .ret) .skip)) (.seq (.reg [oM 69 Xef,oD 70 (.bin .neq XsZ (.const (.int .i64 0))),oD 71 (.fieldA 2 τ7),oN (.store 1 Xvn Xu2)]) (.seq XIc (.seq (.reg [oD 80 (.fieldA 0 τ5),oD 81 (.load1 .oth XxX),oD 82 (.callF 52 [XBy,(.const (.int .i64 2))])]) (.seq XIq (.seq (.reg [oD 89 (.fieldA 0 τ5),oD 90 (.load1 .oth XFH),oM 91 τ8,oD 92 (.bin .sub XFk (.const (.int .i64 20))),oD 93 (.callF 86 [XGe,XFV]),oD 94 (.fieldA 11 τ7),oN (.store 1 XFP XFB)]) (.seq XJe .ret)))))))))))))))
def XPk:VFn:=⟨102,XyE,[.cell 2 [(.int .i64),(.int .i64),.bool,(.int .i64),(.int .i64),.bool,(.int .u64),(.int .u64),.bool,(.int .u64),(.int .u64),.str] true,.tmp 3,.tmp 4]⟩
def XHT:VC:=.seq (.reg [oD 1 (.box τ0),oD 2 (.alloc [(.bool false),(.int .u64 0),(.int .u64 0)])]) (.seq (.reg [oD 6 (.fieldA 0 τ1),oD 7 (.load1 .oth τ6),oD 8 (.callF 86 [τ7,(.const (.int .i64 4))]),oD 9 (.callF 136 [τ8]),oM 5 τ9,oE 10 0 τ5,oE 11 1 τ5,oD 3 (.alloc [(.bool false),(.int .u64 0),(.int .u64 0)]),oN (.store 3 τ3 Xef),oM 4 XdK]) (.seq (.reg [oD 12 (.loadN [.bool,(.int .u64),(.int .u64)] τ3),oN (.store 3 τ2 XeA)]) .ret))
def XP6:VFn:=⟨13,XHT,[.cell 2 [.bool,(.int .u64),(.int .u64)] true]⟩
def XAQ:VC:=.seq (.reg [oD 2 (.alloc [(.bool false),(.int .u64 0),(.int .u64 0)]),oD 3 (.mv (.const (.bool false)))]) (.seq (.seq (.reg [oM 7 τ0,oD 8 (.lenS τ7)]) (.block 0 (.seq (.reg [oD 10 (.bin .eql τ8 (.const (.int .i64 4))),oM 9 Xef]) (.cond τ9 (.seq (.reg [oM 12 τ0,oD 13 (.callF 69 [XeA,(.const (.int .i64 0)),(.const (.int .i64 4))]),oM 11 XeB,oE 14 0 XdK,oE 15 1 XdK,oM 4 Xe3,oM 5 Xfd]) (.seq (.reg [oM 16 τ4,oD 17 (.build [(.bool false),(.int .u64 0),(.int .u64 0)] [(2,1,Xfk)]),oN (.store 3 τ2 Xfp),oD 3 (.mv (.const (.bool true)))]) .ret)) (.seq (.reg [oD 19 (.bin .eql τ8 (.const (.int .i64 16))),oM 18 Xf7]) (.cond XfR (.seq (.reg [oD 20 (.build [(.bool false),(.int .u64 0),(.int .u64 0)] [(0,1,(.const (.bool true)))]),oD 6 (.alloc [(.bool false),(.int .u64 0),(.int .u64 0)]),oN (.store 3 τ6 Xgy)]) (.seq (.reg [oM 22 τ0,oD 23 (.callF 69 [Xg2,(.const (.int .i64 0)),(.const (.int .i64 8))]),oM 21 XgX,oE 24 0 Xgx,oE 25 1 Xgx,oD 26 (.fieldA 1 τ6),oN (.store 1 XhB Xg1)]) (.seq (.reg [oM 28 τ0,oD 29 (.callF 69 [Xh8,(.const (.int .i64 8)),(.const (.int .i64 8))]),oM 27 XhP,oE 30 0 XhO,oE 31 1 XhO,oD 32 (.fieldA 2 τ6),oN (.store 1 XiC Xiu)]) (.seq (.reg [oD 33 (.loadN [.bool,(.int .u64),(.int .u64)] τ6),oN (.store 3 τ2 XiO),oD 3 (.mv (.const (.bool true)))]) .ret)))) .skip)))))) (.seq (.reg [oD 34 (.build [(.bool false),(.int .u64 0),(.int .u64 0)] []),oN (.store 3 τ2 XiM),oD 3 (.mv (.const (.bool false)))]) .ret))
def XPi:VFn:=⟨35,XAQ,[.cell 2 [.bool,(.int .u64),(.int .u64)] true,.tmp 3]⟩
def XzG:VC:=.seq (.reg [oD 2 (.alloc [(.int .i64 0),(.int .i64 0),(.int .i64 0),(.int .i64 0),(.bool false),(.int .u64 0),(.int .u64 0),(.bool false),(.int .u64 0),(.int .u64 0)]),oD 3 (.mv (.const (.string ⟨⟨[]⟩⟩))),oD 4 (.mv (.const (.int .i64 0)))]) (.seq (.reg [oM 12 τ0,oD 13 (.callF 51 [XeA]),oM 5 XeB]) (.seq (.reg [oM 14 τ5,oD 15 (.callF 52 [Xe3,(.const (.int .i64 4))]),oM 16 τ5,oD 17 (.callF 52 [Xfk,(.const (.int .i64 2))]),oM 6 Xfd,oM 7 Xfp]) (.seq (.reg [oM 18 τ6,oD 19 (.bin .shr XfR (.const (.int .u64 20))),oD 20 (.bin .and Xf7 (.const (.int .i64 255))),oM 21 τ6,oD 22 (.bin .and Xgx (.const (.int .i64 1048575))),oM 23 τ5,oD 24 (.callF 52 [XgX,(.const (.int .i64 1))]),oM 25 τ5,oD 26 (.callF 52 [XhR,(.const (.int .i64 1))]),oD 27 (.build [(.int .i64 0),(.int .i64 0),(.int .i64 0),(.int .i64 0),(.bool false),(.int .u64 0),(.int .u64 0),(.bool false),(.int .u64 0),(.int .u64 0)] [(0,1,Xgy),(1,1,Xg2),(2,1,Xg1),(3,1,XhB)]),oD 8 (.alloc [(.int .i64 0),(.int .i64 0),(.int .i64 0),(.int .i64 0),(.bool false),(.int .u64 0),(.int .u64 0),(.bool false),(.int .u64 0),(.int .u64 0)]),oN (.store 10 τ8 XhO)]) (.seq (.reg [oM 28 τ5,oD 29 (.callF 86 [Xh8,(.const (.int .i64 16))]),oM 30 τ5,oD 31 (.callF 86 [Xiu,(.const (.int .i64 16))]),oM 9 XhP,oM 10 Xio]) (.seq (.seq (.reg [oM 32 τ5,oD 33 (.callF 95 [XiC])]) (.cond XiO (.seq (.reg [oD 34 (.build [(.int .i64 0),(.int .i64 0),(.int .i64 0),(.int .i64 0),(.bool false),(.int .u64 0),(.int .u64 0),(.bool false),(.int .u64 0),(.int .u64 0)] []),oN (.store 10 τ2 XiM),oD 3 (.mv (.const (.string ⟨⟨[]⟩⟩))),oD 4 (.mv (.const (.int .i64 2)))]) .ret) .skip)) (.seq (.seq (.reg [oM 35 τ6,oD 36 (.bin .shr XiQ (.const (.int .u64 28))),oD 37 (.bin .neq Xje (.const (.int .i64 6)))]) (.cond XiK (.seq (.reg [oD 38 (.build [(.int .i64 0),(.int .i64 0),(.int .i64 0),(.int .i64 0),(.bool false),(.int .u64 0),(.int .u64 0),(.bool false),(.int .u64 0),(.int .u64 0)] []),oN (.store 10 τ2 XjL),oD 3 (.mv (.const (.string ⟨⟨[]⟩⟩))),oD 4 (.mv (.const (.int .i64 3)))]) .ret) .skip)) (.seq (.reg [oM 40 τ9,oD 41 (.callF 136 [Xkw]),oM 39 XjM,oE 42 0 Xjk,oE 43 1 Xjk,oD 44 (.fieldA 4 τ8),oN (.store 3 XkB XjK)]) (.seq (.reg [oM 46 Xef,oD 47 (.callF 136 [XkG]),oM 45 Xkq,oE 48 0 Xkn,oE 49 1 Xkn,oD 50 (.fieldA 7 τ8),oN (.store 3 Xlc XkP)]) (.seq (.reg [oM 51 τ5,oM 52 τ7,oD 53 (.callF 86 [Xl4,Xl3]),oM 11 Xmm]) (.seq (.seq (.reg [oM 54 τ5,oD 55 (.callF 95 [XnS])]) (.cond XnP (.seq (.reg [oD 56 (.build [(.int .i64 0),(.int .i64 0),(.int .i64 0),(.int .i64 0),(.bool false),(.int .u64 0),(.int .u64 0),(.bool false),(.int .u64 0),(.int .u64 0)] []),oN (.store 10 τ2 Xou),oD 3 (.mv (.const (.string ⟨⟨[]⟩⟩))),oD 4 (.mv (.const (.int .i64 2)))]) .ret) .skip)) (.seq (.reg [oD 57 (.loadN [(.int .i64),(.int .i64),(.int .i64),(.int .i64),.bool,(.int .u64),(.int .u64),.bool,(.int .u64),(.int .u64)] τ8),oM 58 XdK,oN (.store 10 τ2 XnR),oM 3 XoP,oD 4 (.mv (.const (.int .i64 0)))]) .ret)))))))))))
def XQv:VFn:=⟨59,XzG,[.cell 2 [(.int .i64),(.int .i64),(.int .i64),(.int .i64),.bool,(.int .u64),(.int .u64),.bool,(.int .u64),(.int .u64)] true,.tmp 3,.tmp 4]⟩
def k89_7:VC:=.regD [oM 26 τ1,oM 27 τ1,oM 28 τ1,oD 29 (.fieldA 0 τ6),oD 30 (.load1 (.int .i64) XhP),oD 31 (.fieldA 1 τ6),oD 32 (.load1 (.int .i64) Xio),oD 33 (.fieldA 4 τ6),oD 34 (.load1 (.int .i64) XiO),oD 35 (.nilCheck XhB),oD 36 (.fieldA 0 XiQ),oD 37 (.fieldA 7 Xje),oN (.store 1 XiK Xiu),oD 38 (.nilCheck XhO),oD 39 (.fieldA 0 XjL),oD 40 (.fieldA 8 Xjk),oN (.store 1 Xkw XiC)] [(6,12),(8,12),(8,16)] [oD 41 (.nilCheck Xh8),oD 42 (.fieldA 9 XjM),oN (.store 1 XjK XiM)]
def XGs:VC:=.seq (.reg [oD 2 (.box τ0),oD 4 (.mv (.const (.int .i64 0))),oD 5 (.mv (.const (.int .i64 0)))]) (.seq (.reg [oD 13 (.fieldA 7 τ2),oD 14 (.load1 .str XeB),oD 15 (.fieldA 0 τ2),oD 16 (.loadN [.bool,(.int .u64),(.int .u64)] Xfd),oD 17 (.fieldA 3 τ2),oD 18 (.loadN [.bool,(.int .u64),(.int .u64)] Xfp),oD 19 (.callF 117 [Xe3,Xfk,XfR]),oM 12 Xf7,oE 20 0 XeA,oE 21 1 XeA,oE 22 2 XeA,oD 6 (.alloc [(.int .i64 0),(.int .i64 0),(.int .u32 0),(.int .u32 0),(.int .i64 0),(.int .i64 0),(.int .i64 0),(.string ⟨⟨[]⟩⟩)]),oN (.store 8 τ6 Xgy),oM 7 Xgx,oM 8 Xg2]) (.seq (.seq (.reg [oM 23 τ8,oD 24 (.bin .neq XgX (.const (.int .i64 0)))]) (.cond Xg1 (.seq (.reg [oM 25 τ8,oD 4 (.mv (.const (.int .i64 0))),oM 5 XhR]) .ret) .skip)) (.seq k89_7 (.seq (.seq (.reg [oD 44 (.fieldA 7 τ6),oD 45 (.load1 .str XkB),oD 46 (.callF 91 [Xkn]),oM 43 XkG,oE 47 0 XjR,oE 48 1 XjR,oE 49 2 XjR,oM 9 Xkq,oM 10 XkP,oM 11 Xj2]) (.seq (.reg [oM 50 XdK,oD 51 (.bin .geq Xlc (.const (.int .i64 0)))]) (.cond Xl4 (.reg [oM 52 τ1,oM 53 τ1,oM 54 τ1,oM 55 τ9,oM 56 Xef,oD 57 (.nilCheck Xl3),oD 58 (.fieldA 10 XnR),oN (.store 1 XoP (.const (.bool true))),oD 59 (.nilCheck Xmm),oD 60 (.fieldA 11 XoH),oN (.store 1 XqI XnP),oD 61 (.nilCheck XnS),oD 62 (.fieldA 12 Xqv),oN (.store 1 XqK Xou)]) .skip))) (.seq (.reg [oM 63 τ7,oD 64 (.lenS Xr0),oM 4 XrX,oD 5 (.mv (.const (.int .i64 0)))]) .ret)))))
def fn89:VFn:=⟨65,XGs,[.tmp 4,.tmp 5]⟩
def XQy:VC:=.regD [oM 20 τ0,oD 21 (.idxS Xgy (.const (.int .i64 12))),oD 22 (.bin .shr Xgx (.const (.int .u64 4))),oD 23 (.conv .i64 Xg2),oM 24 τ0,oD 25 (.idxS Xg1 (.const (.int .i64 12))),oD 26 (.bin .and XhR (.const (.int .u8 15))),oM 9 XgX] [] [oM 10 XhB]
def XJd:VC:=.regD [oD 72 (.loadN [(.int .i64),(.int .i64),(.int .u32),(.int .u32),(.int .i64),(.int .i64),(.int .i64),.str] XeB),oM 73 τ0,oM 74 XdK,oD 75 (.sliceS Xwj (some Xvr) none),oN (.store 8 τ6 Xu3)] [] [oM 7 Xwl,oD 8 (.mv (.const (.int .i64 0)))]
def Xzd:VC:=.seq (.reg [oD 4 (.box τ1),oD 5 (.box τ2),oD 6 (.alloc [(.int .i64 0),(.int .i64 0),(.int .u32 0),(.int .u32 0),(.int .i64 0),(.int .i64 0),(.int .i64 0),(.string ⟨⟨[]⟩⟩)]),oD 7 (.mv (.const (.string ⟨⟨[]⟩⟩))),oD 8 (.mv (.const (.int .i64 0)))]) (.seq (.seq (.reg [oM 16 τ0,oD 17 (.lenS Xfk),oD 18 (.bin .lss Xfp (.const (.int .i64 20)))]) (.cond XfR (.seq (.reg [oD 19 (.build [(.int .i64 0),(.int .i64 0),(.int .u32 0),(.int .u32 0),(.int .i64 0),(.int .i64 0),(.int .i64 0),(.string ⟨⟨[]⟩⟩)] []),oN (.store 8 τ6 Xf7),oD 7 (.mv (.const (.string ⟨⟨[]⟩⟩))),oD 8 (.mv (.const (.int .i64 2)))]) .ret) .skip)) (.seq XQy (.seq (.reg [oM 27 τ9,oD 28 (.bin .mul (.const (.int .i64 4)) XhO),oM 11 Xh8]) (.seq (.block 0 (.seq (.reg [oM 30 XdK,oD 31 (.bin .lss Xiu (.const (.int .i64 20))),oM 32 Xio,oG 33 (.mv Xef) 32 false,oG 34 (.bin .neq XiO (.const (.int .u8 0))) 32 false,oD 35 (.pick XiC (.const (.bool true)) XiM),oM 29 XiQ]) (.cond XhP (.seq (.reg [oD 36 (.build [(.int .i64 0),(.int .i64 0),(.int .u32 0),(.int .u32 0),(.int .i64 0),(.int .i64 0),(.int .i64 0),(.string ⟨⟨[]⟩⟩)] []),oN (.store 8 τ6 Xje),oD 7 (.mv (.const (.string ⟨⟨[]⟩⟩))),oD 8 (.mv (.const (.int .i64 3)))]) .ret) (.seq (.reg [oM 38 XdK,oM 39 τ0,oD 40 (.lenS Xjk),oD 41 (.bin .gtr XjL Xkw),oM 37 XjM]) (.cond XiK (.seq (.reg [oD 42 (.build [(.int .i64 0),(.int .i64 0),(.int .u32 0),(.int .u32 0),(.int .i64 0),(.int .i64 0),(.int .i64 0),(.string ⟨⟨[]⟩⟩)] []),oN (.store 8 τ6 XjK),oD 7 (.mv (.const (.string ⟨⟨[]⟩⟩))),oD 8 (.mv (.const (.int .i64 2)))]) .ret) .skip))))) (.seq (.reg [oD 43 (.loadN [.bool,(.int .u64),(.int .u64)] τ4),oD 44 (.loadN [.bool,(.int .u64),(.int .u64)] τ5),oM 45 τ0,oD 46 (.lenS Xkn),oD 47 (.callF 131 [XjR,XkB,(.const (.int .i64 6)),XkG]),oM 12 Xkq]) (.seq (.block 1 (.seq (.reg [oM 49 XeA,oD 50 (.bin .eql Xj2 (.const (.string ⟨⟨[]⟩⟩))),oM 48 Xlc]) (.cond XkP (.seq (.reg [oD 51 (.build [(.int .i64 0),(.int .i64 0),(.int .u32 0),(.int .u32 0),(.int .i64 0),(.int .i64 0),(.int .i64 0),(.string ⟨⟨[]⟩⟩)] []),oN (.store 8 τ6 Xl4),oD 7 (.mv (.const (.string ⟨⟨[]⟩⟩))),oD 8 (.mv (.const (.int .i64 1)))]) .ret) (.seq (.reg [oM 53 XeA,oM 54 τ0,oD 55 (.bin .add Xmm XnS),oD 56 (.callF 54 [XnP]),oD 57 (.not Xou),oM 52 XnR]) (.cond Xl3 (.seq (.reg [oD 58 (.build [(.int .i64 0),(.int .i64 0),(.int .u32 0),(.int .u32 0),(.int .i64 0),(.int .i64 0),(.int .i64 0),(.string ⟨⟨[]⟩⟩)] []),oN (.store 8 τ6 XoP),oD 7 (.mv (.const (.string ⟨⟨[]⟩⟩))),oD 8 (.mv (.const (.int .i64 4)))]) .ret) .skip))))) (.seq (.reg [oM 59 τ0,oM 60 XdK,oD 61 (.callF 132 [XoH,XqI]),oD 13 (.alloc [(.int .i64 0),(.int .i64 0),(.int .u32 0),(.int .u32 0),(.int .i64 0),(.int .i64 0),(.int .i64 0),(.string ⟨⟨[]⟩⟩)]),oN (.store 8 XeB Xqv)]) (.seq (.seq (.reg [oD 63 (.fieldA 7 XeB),oD 64 (.load1 .str Xr0),oD 65 (.callF 119 [XrX]),oM 62 XsR,oE 66 0 XqK,oE 67 1 XqK,oM 14 Xtk,oM 15 XsT]) (.seq (.reg [oM 68 Xfd,oD 69 (.bin .neq XtN (.const (.int .i64 0)))]) (.cond XsZ (.seq (.reg [oD 70 (.build [(.int .i64 0),(.int .i64 0),(.int .u32 0),(.int .u32 0),(.int .i64 0),(.int .i64 0),(.int .i64 0),(.string ⟨⟨[]⟩⟩)] []),oM 71 Xfd,oN (.store 8 τ6 Xu2),oD 7 (.mv (.const (.string ⟨⟨[]⟩⟩))),oM 8 Xvn]) .ret) .skip))) (.seq XJd .ret)))))))))
def XTj:VFn:=⟨76,Xzd,[.cell 6 [(.int .i64),(.int .i64),(.int .u32),(.int .u32),(.int .i64),(.int .i64),(.int .i64),.str] true,.tmp 7,.tmp 8]⟩
def XOt:VC:=.regD [oD 25 (.loadN [.bool,(.int .u64),(.int .u64)] τ4),oD 26 (.callF 138 [XhR]),oD 27 (.loadN [.bool,(.int .u64),(.int .u64)] τ5)] [(1,2)] [oD 28 (.callF 138 [XhO]),oD 29 (.bin .add XhB Xh8),oM 9 XhP]
def Xyq:VC:=.seq (.reg [oD 4 (.box τ0),oD 5 (.box τ1),oD 8 (.mv (.const (.string ⟨⟨[]⟩⟩)))]) (.seq (.seq (.reg [oD 10 (.loadN [.bool,(.int .u64),(.int .u64)] τ4),oD 11 (.callF 137 [Xef]),oD 12 (.not XdK),oM 13 XeA,oG 14 (.loadN [.bool,(.int .u64),(.int .u64)] τ5) 13 false,oG 15 (.callF 137 [Xe3]) 13 false,oG 16 (.not Xfd) 13 false,oD 17 (.pick XeB (.const (.bool true)) Xfk),oM 18 Xfp,oG 19 (.fieldA 0 τ4) 18 false,oG 20 (.load1 .bool Xf7) 18 false,oG 21 (.fieldA 0 τ5) 18 false,oG 22 (.load1 .bool Xgx) 18 false,oG 23 (.eqB true Xgy Xg2) 18 false,oD 24 (.pick XfR (.const (.bool true)) XgX)]) (.cond Xg1 (.seq (.reg [oD 8 (.mv (.const (.string ⟨⟨[]⟩⟩)))]) .ret) .skip)) (.seq XOt (.seq (.seq (.reg [oD 30 (.fieldA 0 τ4),oD 31 (.load1 .bool Xiu)]) (.cond Xio (.seq (.reg [oM 32 τ9,oM 33 τ3,oM 34 τ2,oD 35 (.buildSl 6 1 [(.int .i64 0),(.int .i64 0),(.int .i64 0),(.int .i64 0),(.int .i64 0),(.int .i64 0)] [(0,1,XiO),(1,1,(.const (.int .i64 4))),(2,1,(.const (.int .i64 0))),(3,1,(.const (.int .i64 3))),(4,1,XiM),(5,1,(.const (.int .i64 1)))]),oD 36 (.callF 139 [XiQ]),oD 37 (.bin .add XiC Xje),oM 8 XiK]) .ret) .skip)) (.seq (.reg [oM 38 τ9,oM 39 τ2,oM 40 τ3,oD 41 (.buildSl 6 1 [(.int .i64 0),(.int .i64 0),(.int .i64 0),(.int .i64 0),(.int .i64 0),(.int .i64 0)] [(0,1,(.const (.int .i64 0))),(1,1,(.const (.int .i64 1))),(2,1,Xjk),(3,1,(.const (.int .i64 1))),(4,1,Xkw),(5,1,(.const (.int .i64 2)))]),oD 42 (.callF 139 [XjM]),oD 43 (.bin .add XjL XjK),oM 8 XjR]) .ret))))
def XNK:VFn:=⟨44,Xyq,[.tmp 8]⟩
def XHV:VC:=.seq (.reg [oD 1 (.box τ0),oD 2 (.mv (.const (.bool false)))]) (.seq (.reg [oD 3 (.fieldA 0 τ1),oD 4 (.load1 .bool τ3),oM 5 τ4,oG 6 (.fieldA 1 τ1) 5 false,oG 7 (.load1 (.int .u64) τ6) 5 false,oG 8 (.bin .eql τ7 (.const (.int .u64 0))) 5 false,oG 9 (.mv τ8) 5 false,oG 10 (.fieldA 2 τ1) 9 true,oG 11 (.load1 (.int .u64) Xef) 9 true,oG 12 (.bin .lss XdK (.const (.int .u64 4294967296))) 9 true,oG 13 (.pick τ9 XeA (.const (.bool false))) 5 false,oD 14 (.pick τ5 (.const (.bool true)) XeB),oM 2 Xe3]) .ret)
def XRr:VFn:=⟨15,XHV,[.tmp 2]⟩
def XOC:VC:=.regD [oD 10 (.fieldA 1 τ1),oD 11 (.load1 (.int .u64) Xef),oD 12 (.callF 71 [XdK,(.const (.int .i64 8))]),oD 13 (.fieldA 2 τ1),oD 14 (.load1 (.int .u64) XeB)] [(2,4)] [oD 15 (.callF 71 [Xe3,(.const (.int .i64 8))]),oD 16 (.bin .add XeA Xfd),oM 2 Xfk]
def XzM:VC:=.seq (.reg [oD 1 (.box τ0),oD 2 (.mv (.const (.string ⟨⟨[]⟩⟩)))]) (.seq (.block 0 (.seq (.reg [oD 4 (.loadN [.bool,(.int .u64),(.int .u64)] τ1),oD 5 (.callF 137 [τ4]),oD 6 (.not τ5),oM 3 τ6]) (.cond τ3 (.seq (.reg [oD 2 (.mv (.const (.string ⟨⟨[]⟩⟩)))]) .ret) (.seq (.reg [oD 8 (.fieldA 0 τ1),oD 9 (.load1 .bool τ8),oM 7 τ9]) (.cond τ7 (.seq XOC .ret) .skip))))) (.seq (.reg [oD 17 (.fieldA 2 τ1),oD 18 (.load1 (.int .u64) Xfp),oD 19 (.callF 71 [XfR,(.const (.int .i64 4))]),oM 2 Xf7]) .ret))
def XNH:VFn:=⟨20,XzM,[.tmp 2]⟩
def XAz:VC:=.seq (.reg [oD 18 (.bin .lss Xfp Xfk)]) (.seq (.cond XfR .skip (.exit 0)) (.seq (.block 1 (.seq (.reg [oM 19 Xfp,oM 6 Xf7]) (.reg [oM 20 τ5,oM 21 τ6,oM 22 τ0,oM 23 τ1,oD 24 (.bin .sub XgX (.const (.int .i64 1))),oM 25 τ6,oD 26 (.bin .sub Xg1 XhR),oD 27 (.bin .mul (.const (.int .i64 8)) XhB),oD 28 (.bin .shr Xg2 XhO),oD 29 (.conv .u8 Xh8),oD 30 (.idxAL 1 Xgy Xgx),oN (.store 1 Xiu XhP)]))) (.reg [oD 31 (.bin .add Xfp (.const (.int .i64 1))),oM 17 Xio])))
def XHB:VC:=.seq (.reg [oM 32 τ5,oD 33 (.b2s XiC),oM 4 XiO]) .ret
def XG6:VC:=.seq (.reg [oD 4 (.mv (.const (.string ⟨⟨[]⟩⟩)))]) (.seq (.seq (.reg [oM 7 τ1,oD 8 (.bin .lss τ7 (.const (.int .i64 1))),oM 9 τ8,oG 10 (.mv τ1) 9 false,oG 11 (.bin .gtr Xef (.const (.int .i64 8))) 9 false,oD 12 (.pick τ9 (.const (.bool true)) XdK)]) (.cond XeA (.seq (.reg [oD 4 (.mv (.const (.string ⟨⟨[]⟩⟩)))]) .ret) .skip)) (.seq (.reg [oM 13 τ1,oD 14 (.mkSl 1 1 [(.int .u8 0)] XeB XeB),oM 5 Xe3]) (.seq (.seq (.reg [oM 15 τ5,oD 16 (.lenL Xfd),oD 17 (.mv (.const (.int .i64 0)))]) (.block 0 (.loop XAz))) XHB)))
def fn71:VFn:=⟨34,XG6,[.tmp 4]⟩
def XRI:VC:=.regD [oM 12 τ0,oM 13 τ4,oD 14 (.idxAL 1 XeA XeB),oD 15 (.load1 (.int .i64) Xe3),oD 16 (.conv .u64 Xfd),oM 17 τ0,oM 18 τ4,oD 19 (.bin .add XfR (.const (.int .i64 1))),oD 20 (.idxAL 1 Xfp Xf7),oD 21 (.load1 (.int .i64) Xgy)] [] [oD 22 (.callF 71 [Xfk,Xgx]),oD 23 (.callF 140 [τ3,Xg2])]
def Xux:VC:=.seq (.seq (.reg [oM 5 τ4,oD 6 (.bin .add τ5 (.const (.int .i64 1))),oM 7 τ0,oD 8 (.lenL τ7),oD 9 (.bin .lss τ6 τ8)]) (.cond τ9 .skip (.exit 0))) (.seq (.block 1 XRI) (.reg [oM 10 τ4,oD 11 (.bin .add Xef (.const (.int .i64 2))),oM 4 XdK]))
def XAc:VC:=.seq (.reg [oD 24 (.callF 141 [τ3]),oM 2 Xg1]) .ret
def XAJ:VC:=.seq (.reg [oD 2 (.mv (.const (.string ⟨⟨[]⟩⟩)))]) (.seq (.reg [oD 3 (.allocB 210 5)]) (.seq (.seq (.reg [oD 4 (.mv (.const (.int .i64 0)))]) (.block 0 (.loop Xux))) XAc))
def XS4:VFn:=⟨25,XAJ,[.tmp 2]⟩
def XPY:VC:=.seq (.reg [oD 4 (.mv (.const (.int .i64 0))),oM 5 (.const .nilIface)]) (.seq (.reg [oM 6 τ0,oD 7 (.callF 142 [τ6])]) (.seq (.reg [oM 8 τ0,oM 9 τ0,oD 10 (.nilCheck τ9),oD 11 (.fieldA 1 Xef),oD 12 (.load1 .oth XdK),oM 13 τ1,oD 14 (.app 5 1 1 XeA XeB),oD 15 (.nilCheck τ8),oD 16 (.fieldA 1 Xfd),oN (.store 1 Xfk Xe3)]) (.seq (.reg [oM 17 τ1,oD 18 (.lenS Xfp),oM 4 XfR,oM 5 (.const .nilIface)]) .ret)))
def XON:VFn:=⟨19,XPY,[.tmp 4,.tmp 5]⟩
def XP4:VC:=.seq (.reg [oM 2 τ0,oD 3 (.nilCheck τ2),oD 4 (.fieldA 0 τ3),oD 5 (.load1 .oth τ4),oD 6 (.isNil 0 false τ5)]) (.cond τ6 (.reg [oM 7 τ0,oM 8 τ0,oD 9 (.toU τ8),oM 10 τ9,oD 11 (.ofU 210 2 Xef),oD 12 (.nilCheck τ7),oD 13 (.fieldA 0 XeA),oN (.store 1 XeB XdK)]) (.seq (.reg [oM 14 τ0,oD 15 (.nilCheck Xe3),oD 16 (.fieldA 0 Xfd),oD 17 (.load1 .oth Xfk),oM 18 τ0,oD 19 (.eqP true Xfp XfR)]) (.cond Xf7 .stuck .skip)))
def XRx:VFn:=⟨20,XP4,[]⟩
def XNL:VC:=.regD [oM 3 τ0,oD 4 (.nilCheck τ3),oD 5 (.fieldA 1 τ4),oD 6 (.load1 .oth τ5),oD 7 (.sdata τ6),oM 8 τ0,oD 9 (.nilCheck τ8),oD 10 (.fieldA 1 τ9),oD 11 (.load1 .oth Xef),oD 12 (.lenL XdK)] [] [oD 13 (.ustr 5 τ7 XeA),oM 2 XeB]
def XS3:VC:=.seq (.reg [oD 2 (.mv (.const (.string ⟨⟨[]⟩⟩)))]) (.seq XNL .ret)
def XNN:VFn:=⟨14,XS3,[.tmp 2]⟩
def Xyn:VC:=.seq (.reg [oD 4 (.alloc [(.int .i64 0),(.int .i64 0),(.int .u32 0),(.int .u32 0),(.int .i64 0),(.int .i64 0),(.int .i64 0),(.string ⟨⟨[]⟩⟩)])]) (.seq (.reg [oM 7 τ0,oD 8 (.callF 51 [τ7]),oM 5 τ8]) (.seq (.reg [oM 9 τ5,oD 10 (.callF 52 [τ9,(.const (.int .i64 2))]),oM 11 τ5,oD 12 (.callF 52 [XdK,(.const (.int .i64 2))]),oM 13 τ5,oD 14 (.callF 52 [XeB,(.const (.int .i64 4))]),oD 15 (.conv .u32 Xe3),oM 16 τ5,oD 17 (.callF 52 [Xfk,(.const (.int .i64 4))]),oD 18 (.conv .u32 Xfp),oD 19 (.build [(.int .i64 0),(.int .i64 0),(.int .u32 0),(.int .u32 0),(.int .i64 0),(.int .i64 0),(.int .i64 0),(.string ⟨⟨[]⟩⟩)] [(0,1,Xef),(1,1,XeA),(2,1,Xfd),(3,1,XfR)]),oD 6 (.alloc [(.int .i64 0),(.int .i64 0),(.int .u32 0),(.int .u32 0),(.int .i64 0),(.int .i64 0),(.int .i64 0),(.string ⟨⟨[]⟩⟩)]),oN (.store 8 τ6 Xf7)]) (.seq (.reg [oM 20 τ5,oD 21 (.callF 52 [Xgy,(.const (.int .i64 2))]),oD 22 (.bin .and Xgx (.const (.int .i64 255))),oD 23 (.fieldA 4 τ6),oN (.store 1 XgX Xg2)]) (.seq (.reg [oM 24 τ5,oD 25 (.callF 52 [Xg1,(.const (.int .i64 2))]),oD 26 (.fieldA 5 τ6),oN (.store 1 XhB XhR)]) (.seq (.reg [oM 27 τ5,oD 28 (.callF 52 [XhO,(.const (.int .i64 2))])]) (.seq (.reg [oM 29 τ5,oD 30 (.callF 52 [XhP,(.const (.int .i64 2))]),oD 31 (.fieldA 6 τ6),oN (.store 1 Xio Xiu)]) (.seq (.reg [oM 32 τ5,oM 33 τ1,oD 34 (.bin .sub XiO (.const (.int .i64 20))),oD 35 (.callF 86 [XiC,XiM]),oD 36 (.fieldA 7 τ6),oN (.store 1 Xje XiQ)]) (.seq (.reg [oD 37 (.loadN [(.int .i64),(.int .i64),(.int .u32),(.int .u32),(.int .i64),(.int .i64),(.int .i64),.str] τ6),oN (.store 8 τ4 XiK)]) .ret))))))))
def XNE:VFn:=⟨38,Xyn,[.cell 4 [(.int .i64),(.int .i64),(.int .u32),(.int .u32),(.int .i64),(.int .i64),(.int .i64),.str] true]⟩
def XGr:VC:=.reg [oD 5 (.alloc [(.int .i64 0),(.string ⟨⟨[]⟩⟩),(.int .i64 0)]),oN (.store 3 τ5 τ8)]
def XBf:VC:=.block 1 (.seq (.seq (.reg [oD 9 (.fieldA 2 τ5),oD 10 (.load1 (.int .i64) τ9),oD 11 (.bin .lss Xef (.const (.int .i64 0)))]) (.cond XdK (.seq (.reg [oN (.store 1 τ2 (.const (.slice none 0 0))),oN (.store 1 τ3 (.const (.int .i64 3)))]) .ret) .skip)) (.reg [oD 12 (.load1 .oth τ4),oD 13 (.fieldA 0 τ5),oD 14 (.loadN [(.int .i64),.str] XeB),oD 15 (.buildSl 1 2 [(.int .i64 0),(.string ⟨⟨[]⟩⟩)] [(0,2,Xe3)]),oD 16 (.app 190 2 24 XeA Xfd),oN (.store 1 τ4 Xfk)]))
def XM4:VC:=.rangeF τ7 [8] XGr XBf
def XAg:VC:=.seq (.reg [oD 17 (.load1 .oth τ4),oN (.store 1 τ2 Xfp),oN (.store 1 τ3 (.const (.int .i64 0)))]) .ret
def XAu:VC:=.seq (.reg [oD 2 (.alloc [(.slice none 0 0)]),oD 3 (.alloc [(.int .i64 0)])]) (.seq (.reg [oD 4 (.alloc [(.slice none 0 0)])]) (.seq (.seq (.reg [oM 6 τ0,oD 7 (.callF 120 [τ6])]) (.block 0 XM4)) XAg))
def XPu:VFn:=⟨18,XAu,[.cell 2 [.oth] false,.cell 3 [(.int .i64)] false]⟩
def XTi:VC:=.seq (.reg [oD 1 (.box τ0),oM 2 (.const .nilFunc)]) (.seq (.reg [oD 3 (.mkFunc 133 [] [τ1]),oM 2 τ3]) .ret)
def XSY:VFn:=⟨4,XTi,[.tmp 2]⟩
def XKq:VC:=.regD [oM 41 τ0,oD 42 (.load1 .str τ1),oM 43 τ3,oD 44 (.idxS XjK XjR),oD 45 (.conv .i64 XkB),oD 46 (.load1 .str τ1),oM 47 τ3,oD 48 (.bin .add Xkq (.const (.int .i64 2))),oM 49 τ3,oM 50 τ4,oD 51 (.bin .add Xj2 Xlc),oD 52 (.sliceS XkG (some XkP) (some Xl4)),oD 53 (.build [(.int .i64 0),(.string ⟨⟨[]⟩⟩)] [(0,1,Xkn),(1,1,Xl3)]),oM 54 τ3,oD 55 (.bin .add XnS (.const (.int .i64 2))),oD 56 (.build [(.int .i64 0),(.string ⟨⟨[]⟩⟩),(.int .i64 0)] [(0,2,Xmm),(2,1,XnP)])] [] [oD 57 (.callV XjM [Xou]),oD 58 (.not XnR)]
def Xqp:VC:=.seq (.seq (.reg [oM 5 τ3,oD 6 (.load1 .str τ1),oD 7 (.lenS τ6),oD 8 (.bin .lss τ5 τ7)]) (.cond τ8 .skip (.exit 0))) (.block 1 (.seq (.seq (.reg [oD 9 (.load1 .str τ1),oM 10 τ3,oD 11 (.idxS τ9 Xef)]) (.block 2 (.seq (.reg [oD 13 (.bin .eql XdK (.const (.int .u8 0))),oM 12 XeB]) (.cond XeA .ret (.seq (.reg [oD 15 (.bin .eql XdK (.const (.int .u8 1))),oM 14 Xfd]) (.cond Xe3 (.seq (.reg [oM 16 τ3,oD 17 (.bin .add Xfk (.const (.int .i64 1))),oM 3 Xfp]) (.exit 1)) .skip)))))) (.seq (.reg [oD 4 (.mv (.const (.int .i64 0)))]) (.seq (.seq (.reg [oM 18 τ3,oD 19 (.bin .add XfR (.const (.int .i64 1))),oD 20 (.load1 .str τ1),oD 21 (.lenS Xgy),oD 22 (.bin .lss Xf7 Xgx)]) (.cond Xg2 (.reg [oD 23 (.load1 .str τ1),oM 24 τ3,oD 25 (.bin .add Xg1 (.const (.int .i64 1))),oD 26 (.idxS XgX XhR),oD 27 (.conv .i64 XhB),oM 4 XhO]) .skip)) (.seq (.seq (.reg [oM 28 τ4,oD 29 (.bin .lss Xh8 (.const (.int .i64 2))),oM 30 XhP,oG 31 (.mv τ4) 30 false,oG 32 (.load1 .str τ1) 30 false,oG 33 (.lenS XiC) 30 false,oG 34 (.mv τ3) 30 false,oG 35 (.bin .sub XiO XiM) 30 false,oG 36 (.bin .gtr Xio XiQ) 30 false,oD 37 (.pick Xiu (.const (.bool true)) Xje)]) (.cond XiK (.seq (.reg [oM 38 τ0,oD 39 (.build [(.int .i64 0),(.string ⟨⟨[]⟩⟩),(.int .i64 0)] [(2,1,(.const (.int .i64 (-1))))]),oD 40 (.callV XjL [Xjk])]) .ret) .skip)) (.seq (.seq XKq (.cond XoP .ret .skip)) (.reg [oM 59 τ3,oM 60 τ4,oD 61 (.bin .add XoH XqI),oM 3 Xqv])))))))
def XJk:VC:=.seq (.reg [oD 3 (.mv (.const (.int .i64 0)))]) (.block 0 (.loop Xqp))
def XPo:VFn:=⟨62,XJk,[]⟩
def XQd:VC:=.reg [oD 7 (.alloc [(.int .i64 0),(.string ⟨⟨[]⟩⟩),(.int .i64 0)]),oN (.store 3 τ7 Xf7)]
def XND:VC:=.regD [oM 39 τ8,oD 40 (.bin .shr Xjk (.const (.int .u64 32))),oD 41 (.conv .u32 Xkw),oM 42 τ8,oD 43 (.conv .u32 XjK),oD 44 (.fieldA 2 τ7),oD 45 (.load1 (.int .i64) XkB),oN (.store 1 τ2 XjM),oN (.store 1 τ3 XjR)] [(6,7),(6,8)] [oN (.store 1 τ4 Xkn)]
def XFr:VC:=.block 1 (.seq (.seq (.reg [oD 20 (.fieldA 0 τ7),oD 21 (.fieldA 0 Xgy),oD 22 (.load1 (.int .i64) Xgx),oD 23 (.bin .neq Xg2 (.const (.int .i64 8)))]) (.cond XgX (.exit 1) .skip)) (.seq (.seq (.reg [oD 25 (.fieldA 0 τ7),oD 26 (.fieldA 1 XhR),oD 27 (.load1 .str XhB),oD 28 (.callF 69 [XhO,(.const (.int .i64 0)),(.const (.int .i64 8))]),oM 24 Xh8,oE 29 0 Xg1,oE 30 1 Xg1,oM 8 XhP,oM 9 Xiu]) (.seq (.reg [oM 31 τ9,oM 32 Xio,oG 33 (.fieldA 0 τ7) 32 true,oG 34 (.fieldA 1 XiO) 32 true,oG 35 (.load1 .str XiM) 32 true,oG 36 (.lenS XiQ) 32 true,oG 37 (.bin .eql Xje (.const (.int .i64 8))) 32 true,oD 38 (.pick XiC XiK (.const (.bool false)))]) (.cond XjL (.seq XND .ret) .skip))) (.exit 0)))
def XRY:VC:=.rangeF XfR [19] XQd XFr
def XHZ:VC:=.seq (.reg [oN (.store 1 τ2 (.const (.int .u32 0))),oN (.store 1 τ3 (.const (.int .u32 0))),oN (.store 1 τ4 (.const (.int .i64 (-1))))]) .ret
def XGu:VC:=.seq (.reg [oD 2 (.alloc [(.int .u32 0)]),oD 3 (.alloc [(.int .u32 0)]),oD 4 (.alloc [(.int .i64 0)])]) (.seq (.seq (.reg [oM 11 τ0,oD 12 (.callF 119 [XdK]),oM 10 XeA,oE 13 0 Xef,oE 14 1 Xef,oM 5 XeB,oM 6 Xe3]) (.seq (.reg [oM 15 τ6,oD 16 (.bin .neq Xfd (.const (.int .i64 0)))]) (.cond Xfk (.seq (.reg [oN (.store 1 τ2 (.const (.int .u32 0))),oN (.store 1 τ3 (.const (.int .u32 0))),oN (.store 1 τ4 (.const (.int .i64 (-1))))]) .ret) .skip))) (.seq (.seq (.reg [oM 17 τ0,oD 18 (.callF 120 [Xfp])]) (.block 0 XRY)) XHZ))
def fn91:VFn:=⟨46,XGu,[.cell 2 [(.int .u32)] false,.cell 3 [(.int .u32)] false,.cell 4 [(.int .i64)] false]⟩
def XRP:VC:=.regD [oM 34 τ1,oM 35 τ1,oD 36 (.fieldA 0 τ6),oD 37 (.load1 (.int .i64) Xje),oD 38 (.fieldA 1 τ6),oD 39 (.load1 (.int .i64) XjL),oD 40 (.nilCheck XiM),oD 41 (.fieldA 0 Xkw),oD 42 (.fieldA 7 XjM),oN (.store 1 XjK XiK)] [(5,9)] [oD 43 (.nilCheck XiQ),oD 44 (.fieldA 0 XjR),oD 45 (.fieldA 8 XkB),oN (.store 1 Xkn Xjk)]
def XTn:VC:=.regD [oM 53 τ1,oM 54 τ1,oD 55 (.fieldA 0 τ9),oD 56 (.load1 .bool XnP),oD 57 (.fieldA 3 τ9),oD 58 (.load1 .str XnR),oD 59 (.nilCheck Xmm),oD 60 (.fieldA 13 XoH),oN (.store 1 XqI Xou)] [(5,8)] [oD 61 (.nilCheck XnS),oD 62 (.fieldA 14 Xqv),oN (.store 1 XqK XoP)]
def XFt:VC:=.seq (.reg [oD 2 (.box τ0),oD 4 (.mv (.const (.int .i64 0))),oD 5 (.mv (.const (.int .i64 0)))]) (.seq (.reg [oD 12 (.fieldA 7 τ2),oD 13 (.load1 .str XeA),oD 14 (.fieldA 0 τ2),oD 15 (.loadN [.bool,(.int .u64),(.int .u64)] Xe3),oD 16 (.fieldA 3 τ2),oD 17 (.loadN [.bool,(.int .u64),(.int .u64)] Xfk),oD 18 (.callF 118 [XeB,Xfd,Xfp]),oM 11 XfR,oE 19 0 XdK,oE 20 1 XdK,oE 21 2 XdK,oD 6 (.alloc [(.int .i64 0),(.int .i64 0)]),oN (.store 2 τ6 Xf7),oM 7 Xgy,oM 8 Xgx]) (.seq (.block 0 (.seq (.reg [oM 23 τ8,oD 24 (.bin .neq XgX (.const (.int .i64 0))),oM 22 Xg1]) (.cond Xg2 (.seq (.reg [oM 25 τ8,oD 4 (.mv (.const (.int .i64 0))),oM 5 XhR]) .ret) (.seq (.reg [oM 27 τ7,oD 28 (.lenS XhO),oD 29 (.fieldA 7 τ2),oD 30 (.load1 .str XhP),oD 31 (.lenS Xiu),oD 32 (.bin .sub Xio (.const (.int .i64 8))),oD 33 (.bin .neq Xh8 XiC),oM 26 XiO]) (.cond XhB (.seq (.reg [oD 4 (.mv (.const (.int .i64 0))),oD 5 (.mv (.const (.int .i64 5)))]) .ret) .skip))))) (.seq XRP (.seq (.seq (.reg [oM 47 τ7,oD 48 (.callF 68 [Xkq]),oM 46 XkP,oE 49 0 XkG,oE 50 1 XkG,oD 9 (.alloc [(.bool false),(.int .i64 0),(.int .u32 0),(.string ⟨⟨[]⟩⟩),(.string ⟨⟨[]⟩⟩),(.string ⟨⟨[]⟩⟩)]),oN (.store 6 τ9 Xj2),oM 10 Xlc]) (.seq (.reg [oM 51 Xef,oD 52 (.bin .eql Xl4 (.const (.int .i64 0)))]) (.cond Xl3 XTn .skip))) (.seq (.reg [oM 63 τ7,oD 64 (.lenS Xr0),oM 4 XrX,oD 5 (.mv (.const (.int .i64 0)))]) .ret)))))
def fn90:VFn:=⟨65,XFt,[.tmp 4,.tmp 5]⟩
def XMd:VC:=.regD [oD 66 (.loadN [(.int .i64),(.int .i64)] Xef),oM 67 τ0,oM 68 XdK,oD 69 (.sliceS XsT (some (.const (.int .i64 8))) (some XtN)),oN (.store 2 τ6 Xtk)] [] [oM 7 XsZ,oD 8 (.mv (.const (.int .i64 0)))]
def XzJ:VC:=.seq (.reg [oD 4 (.box τ1),oD 5 (.box τ2),oD 6 (.alloc [(.int .i64 0),(.int .i64 0)]),oD 7 (.mv (.const (.string ⟨⟨[]⟩⟩))),oD 8 (.mv (.const (.int .i64 0)))]) (.seq (.reg [oM 14 τ0,oD 15 (.callF 51 [Xe3]),oM 9 Xfd]) (.seq (.reg [oM 16 τ9,oD 17 (.callF 52 [Xfk,(.const (.int .i64 2))]),oM 18 τ9,oD 19 (.callF 52 [XfR,(.const (.int .i64 2))]),oD 20 (.build [(.int .i64 0),(.int .i64 0)] [(0,1,Xfp),(1,1,Xf7)]),oD 10 (.alloc [(.int .i64 0),(.int .i64 0)]),oN (.store 2 Xef Xgy)]) (.seq (.reg [oM 21 τ9,oD 22 (.callF 52 [Xgx,(.const (.int .i64 2))]),oM 23 τ9,oD 24 (.callF 52 [XgX,(.const (.int .i64 2))]),oM 11 Xg2,oM 12 Xg1]) (.seq (.block 0 (.seq (.reg [oM 26 τ9,oD 27 (.callF 95 [XhB]),oM 25 XhO]) (.cond XhR (.seq (.reg [oD 28 (.build [(.int .i64 0),(.int .i64 0)] []),oN (.store 2 τ6 Xh8),oD 7 (.mv (.const (.string ⟨⟨[]⟩⟩))),oD 8 (.mv (.const (.int .i64 2)))]) .ret) (.seq (.reg [oM 30 XdK,oD 31 (.bin .lss Xiu (.const (.int .i64 8))),oM 29 Xio]) (.cond XhP (.seq (.reg [oD 32 (.build [(.int .i64 0),(.int .i64 0)] []),oN (.store 2 τ6 XiC),oD 7 (.mv (.const (.string ⟨⟨[]⟩⟩))),oD 8 (.mv (.const (.int .i64 3)))]) .ret) (.seq (.reg [oM 34 XdK,oM 35 τ0,oD 36 (.lenS XiQ),oD 37 (.bin .gtr XiM Xje),oM 33 XiK]) (.cond XiO (.seq (.reg [oD 38 (.build [(.int .i64 0),(.int .i64 0)] []),oN (.store 2 τ6 XjL),oD 7 (.mv (.const (.string ⟨⟨[]⟩⟩))),oD 8 (.mv (.const (.int .i64 2)))]) .ret) .skip))))))) (.seq (.reg [oD 39 (.loadN [.bool,(.int .u64),(.int .u64)] τ4),oD 40 (.loadN [.bool,(.int .u64),(.int .u64)] τ5),oM 41 XdK,oD 42 (.callF 131 [Xjk,Xkw,(.const (.int .i64 17)),XjM]),oM 13 XjK]) (.seq (.block 1 (.seq (.reg [oM 44 XeB,oD 45 (.bin .eql XkB (.const (.string ⟨⟨[]⟩⟩))),oM 43 Xkn]) (.cond XjR (.seq (.reg [oD 46 (.build [(.int .i64 0),(.int .i64 0)] []),oN (.store 2 τ6 XkG),oD 7 (.mv (.const (.string ⟨⟨[]⟩⟩))),oD 8 (.mv (.const (.int .i64 1)))]) .ret) (.seq (.seq (.reg [oM 48 XeA,oD 49 (.bin .eql XkP (.const (.int .i64 0))),oM 50 Xj2,oG 51 (.fieldA 0 τ4) 50 true,oG 52 (.load1 .bool Xl4) 50 true,oD 53 (.pick Xlc Xl3 (.const (.bool false))),oM 47 Xmm]) (.cond Xkq .skip (.reg [oM 54 XeA,oD 55 (.bin .neq XnS (.const (.int .i64 0))),oM 56 XnP,oG 57 (.mv XeB) 56 true,oG 58 (.mv τ0) 56 true,oG 59 (.mv XdK) 56 true,oG 60 (.sliceS XoP none (some XoH)) 56 true,oG 61 (.bin .add XnR XqI) 56 true,oG 62 (.callF 54 [Xqv]) 56 true,oG 63 (.not XqK) 56 true,oD 64 (.pick Xou Xr0 (.const (.bool false))),oM 47 XrX]))) (.cond Xkq (.seq (.reg [oD 65 (.build [(.int .i64 0),(.int .i64 0)] []),oN (.store 2 τ6 XsR),oD 7 (.mv (.const (.string ⟨⟨[]⟩⟩))),oD 8 (.mv (.const (.int .i64 4)))]) .ret) .skip))))) (.seq XMd .ret)))))))
def XN9:VFn:=⟨70,XzJ,[.cell 6 [(.int .i64),(.int .i64)] true,.tmp 7,.tmp 8]⟩
def XG0:VC:=.seq (.reg [oD 2 (.alloc [(.bool false),(.int .i64 0),(.int .u32 0),(.string ⟨⟨[]⟩⟩),(.string ⟨⟨[]⟩⟩),(.string ⟨⟨[]⟩⟩)]),oD 3 (.mv (.const (.int .i64 0)))]) (.seq (.reg [oM 9 τ0,oD 10 (.callF 51 [τ9]),oM 4 Xef]) (.seq (.reg [oM 11 τ4,oD 12 (.callF 52 [XdK,(.const (.int .i64 1))]),oM 5 XeA]) (.seq (.block 0 (.seq (.reg [oM 14 τ4,oD 15 (.callF 95 [Xe3]),oM 13 Xfd]) (.cond XeB (.seq (.reg [oD 16 (.build [(.bool false),(.int .i64 0),(.int .u32 0),(.string ⟨⟨[]⟩⟩),(.string ⟨⟨[]⟩⟩),(.string ⟨⟨[]⟩⟩)] []),oN (.store 6 τ2 Xfk),oD 3 (.mv (.const (.int .i64 2)))]) .ret) (.seq (.reg [oM 18 τ5,oD 19 (.bin .and XfR (.const (.int .i64 64))),oD 20 (.bin .eql Xf7 (.const (.int .i64 0))),oM 17 Xgy]) (.cond Xfp (.seq (.reg [oD 21 (.build [(.bool false),(.int .i64 0),(.int .u32 0),(.string ⟨⟨[]⟩⟩),(.string ⟨⟨[]⟩⟩),(.string ⟨⟨[]⟩⟩)] []),oN (.store 6 τ2 Xgx),oD 3 (.mv (.const (.int .i64 3)))]) .ret) .skip))))) (.seq (.reg [oM 22 τ5,oD 23 (.bin .and Xg2 (.const (.int .i64 128))),oD 24 (.bin .neq XgX (.const (.int .i64 0))),oM 25 τ5,oD 26 (.bin .and XhR (.const (.int .i64 63))),oD 27 (.build [(.bool false),(.int .i64 0),(.int .u32 0),(.string ⟨⟨[]⟩⟩),(.string ⟨⟨[]⟩⟩),(.string ⟨⟨[]⟩⟩)] [(0,1,Xg1),(1,1,XhB)]),oD 6 (.alloc [(.bool false),(.int .i64 0),(.int .u32 0),(.string ⟨⟨[]⟩⟩),(.string ⟨⟨[]⟩⟩),(.string ⟨⟨[]⟩⟩)]),oN (.store 6 τ6 XhO)]) (.seq (.seq (.reg [oD 28 (.fieldA 0 τ6),oD 29 (.load1 .bool Xh8),oD 30 (.not XhP)]) (.cond Xiu (.seq (.reg [oM 31 τ4,oD 32 (.mkFunc 86 [Xio] []),oM 7 XiC]) (.seq (.seq (.reg [oM 33 τ7,oD 34 (.callV XiO [(.const (.int .i64 8))]),oD 35 (.fieldA 3 τ6),oN (.store 1 XiQ XiM)]) (.seq (.reg [oM 36 τ4,oD 37 (.callF 95 [Xje])]) (.cond XiK (.seq (.reg [oD 38 (.build [(.bool false),(.int .i64 0),(.int .u32 0),(.string ⟨⟨[]⟩⟩),(.string ⟨⟨[]⟩⟩),(.string ⟨⟨[]⟩⟩)] []),oN (.store 6 τ2 XjL),oD 3 (.mv (.const (.int .i64 2)))]) .ret) .skip))) (.seq (.reg [oM 39 τ4,oD 40 (.callF 96 [Xjk]),oD 41 (.fieldA 5 τ6),oN (.store 1 XjM Xkw)]) (.seq (.reg [oD 42 (.loadN [.bool,(.int .i64),(.int .u32),.str,.str,.str] τ6),oN (.store 6 τ2 XjK),oD 3 (.mv (.const (.int .i64 0)))]) .ret)))) .skip)) (.seq (.reg [oM 43 τ4,oD 44 (.callF 52 [XjR,(.const (.int .i64 4))]),oD 45 (.conv .u32 XkB),oD 46 (.fieldA 2 τ6),oN (.store 1 XkG Xkn)]) (.seq (.seq (.reg [oM 47 τ4,oD 48 (.fieldA 3 τ6),oD 49 (.fieldA 4 τ6),oD 50 (.buildSl 2 1 [(.pointer none),(.pointer none)] [(0,1,XkP),(1,1,Xj2)]),oD 51 (.callF 97 [(.func 98),Xkq,Xlc]),oM 8 Xl4]) (.seq (.reg [oM 52 τ8,oD 53 (.bin .neq Xl3 (.const (.int .i64 0)))]) (.cond Xmm (.seq (.reg [oD 54 (.build [(.bool false),(.int .i64 0),(.int .u32 0),(.string ⟨⟨[]⟩⟩),(.string ⟨⟨[]⟩⟩),(.string ⟨⟨[]⟩⟩)] []),oM 55 τ8,oN (.store 6 τ2 XnS),oM 3 XnP]) .ret) .skip))) (.seq (.reg [oM 56 τ4,oD 57 (.callF 96 [Xou]),oD 58 (.fieldA 5 τ6),oN (.store 1 XoP XnR)]) (.seq (.reg [oD 59 (.loadN [.bool,(.int .i64),(.int .u32),.str,.str,.str] τ6),oN (.store 6 τ2 XoH),oD 3 (.mv (.const (.int .i64 0)))]) .ret)))))))))
def fn68:VFn:=⟨60,XG0,[.cell 2 [.bool,(.int .i64),(.int .u32),.str,.str,.str] true,.tmp 3]⟩
def XOu:VC:=.seq (.reg [oD 2 (.mv (.const (.string ⟨⟨[]⟩⟩)))]) (.seq (.seq (.reg [oM 3 τ0,oD 4 (.callF 95 [τ3])]) (.cond τ4 (.seq (.reg [oD 2 (.mv (.const (.string ⟨⟨[]⟩⟩)))]) .ret) .skip)) (.seq (.reg [oM 5 τ0,oM 6 τ0,oD 7 (.nilCheck τ6),oD 8 (.fieldA 0 τ7),oD 9 (.load1 .str τ8),oD 10 (.lenS τ9),oD 11 (.callF 86 [τ5,Xef]),oM 2 XdK]) .ret))
def fn96:VFn:=⟨12,XOu,[.tmp 2]⟩
def XST:VC:=.seq (.reg [oD 6 (.mv (.const (.int .i64 0)))]) (.seq (.seq (.reg [oM 11 τ2,oD 12 (.lenL XdK),oD 13 (.mv (.const (.int .i64 0)))]) (.block 0 (.loop (.seq (.reg [oD 14 (.bin .lss XeB XeA)]) (.seq (.cond Xe3 .skip (.exit 0)) (.seq (.block 1 (.seq (.reg [oD 15 (.idxAL 1 XdK XeB),oD 16 (.load1 .oth Xfd),oM 8 Xfk]) (.seq (.reg [oM 18 τ0,oM 19 τ1,oD 20 (.callV XfR [Xf7]),oM 17 Xgy,oE 21 0 Xfp,oE 22 1 Xfp,oM 9 Xgx,oM 10 Xg2]) (.seq (.seq (.reg [oM 23 Xef,oD 24 (.bin .neq XgX (.const (.int .i64 0)))]) (.cond Xg1 (.seq (.reg [oM 25 Xef,oM 6 XhR]) .ret) .skip)) (.reg [oM 26 τ8,oM 27 τ9,oD 28 (.nilCheck XhB),oN (.store 1 Xh8 XhO)]))))) (.reg [oD 29 (.bin .add XeB (.const (.int .i64 1))),oM 13 XhP]))))))) (.seq (.reg [oD 6 (.mv (.const (.int .i64 0)))]) .ret))
def fn97:VFn:=⟨30,XST,[.tmp 6]⟩
def XFN:VC:=.seq (.reg [oD 2 (.mv (.const (.string ⟨⟨[]⟩⟩))),oD 3 (.mv (.const (.int .i64 0)))]) (.seq (.reg [oM 6 τ0,oD 7 (.callF 52 [τ6,(.const (.int .i64 1))]),oM 4 τ7]) (.seq (.seq (.reg [oM 8 τ0,oD 9 (.callF 95 [τ8]),oD 10 (.not τ9),oM 11 Xef,oG 12 (.mv τ4) 11 true,oG 13 (.bin .gtr XeA (.const (.int .i64 20))) 11 true,oD 14 (.pick XdK XeB (.const (.bool false)))]) (.cond Xe3 (.seq (.reg [oD 2 (.mv (.const (.string ⟨⟨[]⟩⟩))),oD 3 (.mv (.const (.int .i64 3)))]) .ret) .skip)) (.seq (.reg [oM 15 τ0,oM 16 τ4,oD 17 (.callF 86 [Xfd,Xfk]),oM 5 Xfp]) (.seq (.seq (.reg [oM 18 τ0,oD 19 (.callF 95 [XfR])]) (.cond Xf7 (.seq (.reg [oD 2 (.mv (.const (.string ⟨⟨[]⟩⟩))),oD 3 (.mv (.const (.int .i64 2)))]) .ret) .skip)) (.seq (.reg [oM 20 τ5,oM 2 Xgy,oD 3 (.mv (.const (.int .i64 0)))]) .ret)))))
def fn98:VFn:=⟨21,XFN,[.tmp 2,.tmp 3]⟩
def k31_1:VC:=.regD [oM 10 τ0,oD 11 (.nilCheck Xef),oD 12 (.fieldA 2 XdK),oD 13 (.load1 .oth XeA),oD 14 (.loadN [(.int .i64),.bool,(.int .u64),(.int .u64),.bool,(.int .u64),(.int .u64),(.int .i64),(.int .i64)] τ4),oD 15 (.mget [(0,(.int .i64)),(1,.bool),(2,(.int .u64)),(3,(.int .u64)),(4,.bool),(5,(.int .u64)),(6,(.int .u64)),(7,(.int .i64)),(8,(.int .i64))] (.int .u64 0) true XeB Xe3),oM 9 Xfd,oE 16 0 τ9,oE 17 1 τ9,oM 7 Xfk] [] [oM 8 Xfp]
def XRR:VC:=.regD [oM 36 τ0,oD 37 (.nilCheck Xje),oD 38 (.fieldA 2 XiK),oD 39 (.load1 .oth XjL),oD 40 (.loadN [(.int .i64),.bool,(.int .u64),(.int .u64),.bool,(.int .u64),(.int .u64),(.int .i64),(.int .i64)] τ4),oD 41 (.fieldA 2 τ5),oD 42 (.load1 (.int .u64) XjM)] [] [oN (.mput [(0,(.int .i64)),(1,.bool),(2,(.int .u64)),(3,(.int .u64)),(4,.bool),(5,(.int .u64)),(6,(.int .u64)),(7,(.int .i64)),(8,(.int .i64))] Xjk Xkw XjK)]
def XFZ:VC:=.seq (.reg [oD 4 (.box τ1),oD 5 (.box τ2),oD 6 (.mv (.const (.int .i64 0)))]) (.seq (.seq k31_1 (.block 0 (.seq (.reg [oM 19 τ8,oM 20 Xf7,oG 21 (.fieldA 3 τ5) 20 true,oG 22 (.load1 .bool Xgx) 20 true,oG 23 (.not Xg2) 20 true,oD 24 (.pick Xgy XgX (.const (.bool false))),oM 18 Xg1]) (.cond XfR (.seq (.reg [oD 6 (.mv (.const (.int .i64 0)))]) .ret) (.seq (.reg [oM 26 τ8,oD 27 (.not XhB),oM 28 XhO,oG 29 (.mv τ0) 28 true,oG 30 (.nilCheck XhP) 28 true,oG 31 (.fieldA 2 Xiu) 28 true,oG 32 (.load1 .oth Xio) 28 true,oG 33 (.lenM XiC) 28 true,oG 34 (.bin .eql XiO (.const (.int .i64 64))) 28 true,oD 35 (.pick Xh8 XiM (.const (.bool false))),oM 25 XiQ]) (.cond XhR (.seq (.reg [oD 6 (.mv (.const (.int .i64 9)))]) .ret) .skip)))))) (.seq XRR (.seq (.reg [oD 6 (.mv (.const (.int .i64 0)))]) .ret)))
def fn31:VFn:=⟨43,XFZ,[.tmp 6]⟩
def XQm:VC:=.seq (.reg [oD 3 (.box τ1),oD 4 (.mv (.const (.string ⟨⟨[]⟩⟩))),oD 5 (.mv (.const (.int .i64 0)))]) (.seq (.reg [oM 6 τ0,oD 7 (.mkFunc 57 [] [τ3]),oD 8 (.callF 56 [τ6,(.const (.int .i64 4)),τ7]),oE 9 0 τ8,oE 10 1 τ8,oM 4 τ9,oM 5 Xef]) .ret)
def fn32:VFn:=⟨11,XQm,[.tmp 4,.tmp 5]⟩
def k57_1:VC:=.regD [oD 4 (.load1 (.int .u32) τ1),oD 5 (.fieldA 12 τ2),oD 6 (.load1 (.int .u32) τ5),oD 7 (.callF 59 [τ6])] [(0,3)] [oD 8 (.callF 58 [τ4,τ7]),oM 3 τ8]
def XPh:VC:=.seq (.reg [oD 2 (.box τ0),oD 3 (.mv (.const (.int .u32 0)))]) (.seq k57_1 .ret)
def fn57:VFn:=⟨9,XPh,[.tmp 3]⟩
def XQH:VC:=.seq (.reg [oD 2 (.mv (.const (.int .u16 0)))]) (.seq (.reg [oM 3 τ0,oD 4 (.conv .u16 τ3),oM 2 τ4]) .ret)
def fn59:VFn:=⟨5,XQH,[.tmp 2]⟩
def XTt:VC:=.seq (.reg [oD 4 (.mv (.const (.int .u32 0)))]) (.seq (.reg [oM 5 τ0,oM 6 τ0,oD 7 (.callF 59 [τ6]),oM 8 τ1,oD 9 (.bin .sub τ7 τ8),oD 10 (.conv .u32 τ9),oD 11 (.bin .sub τ5 Xef),oM 4 XdK]) .ret)
def fn58:VFn:=⟨12,XTt,[.tmp 4]⟩
def XSI:VC:=.regD [oM 48 τ0,oM 49 Xef,oD 50 (.sliceS XkP (some Xj2) none),oM 51 Xfd,oD 52 (.bin .add (.const (.int .i64 20)) Xl4),oM 53 τ1,oD 54 (.bin .add Xl3 Xmm),oM 55 τ2,oD 56 (.loadN [(.int .i64),.bool,(.int .u64),(.int .u64),.bool,(.int .u64),(.int .u64),(.int .i64),(.int .i64),(.int .i64),.bool,(.int .u32),(.int .u32),.bool,.str,(.int .i64)] τ8),oD 57 (.callV XnP [Xou]),oD 58 (.conv .u64 XnR),oD 59 (.callF 71 [XoP,(.const (.int .i64 4))]),oD 60 (.callF 70 [Xlc,XnS,XoH,(.const (.int .i64 16))]),oM 47 XqI,oE 61 0 Xkq,oE 62 1 Xkq,oM 16 Xqv] [] [oM 17 XqK]
def XSn:VC:=.seq (.reg [oD 6 (.mv (.const (.string ⟨⟨[]⟩⟩))),oD 7 (.mv (.const (.int .i64 0)))]) (.seq (.reg [oM 19 τ0,oD 20 (.callF 30 [Xf7]),oM 18 Xgy,oE 21 0 XfR,oE 22 1 XfR,oD 8 (.alloc [(.int .i64 0),(.bool false),(.int .u64 0),(.int .u64 0),(.bool false),(.int .u64 0),(.int .u64 0),(.int .i64 0),(.int .i64 0),(.int .i64 0),(.bool false),(.int .u32 0),(.int .u32 0),(.bool false),(.string ⟨⟨[]⟩⟩),(.int .i64 0)]),oN (.store 16 τ8 Xgx),oM 9 Xg2]) (.seq (.block 0 (.seq (.reg [oM 24 τ9,oD 25 (.bin .neq Xg1 (.const (.int .i64 0))),oM 23 XhR]) (.cond XgX (.seq (.reg [oM 26 τ9,oD 6 (.mv (.const (.string ⟨⟨[]⟩⟩))),oM 7 XhB]) .ret) (.seq (.reg [oD 28 (.fieldA 10 τ8),oD 29 (.load1 .bool Xh8),oD 30 (.not XhP),oM 27 Xiu]) (.cond XhO (.seq (.reg [oD 6 (.mv (.const (.string ⟨⟨[]⟩⟩))),oD 7 (.mv (.const (.int .i64 6)))]) .ret) .skip))))) (.seq (.reg [oM 32 τ0,oD 33 (.callF 67 [XiC]),oM 31 XiO,oE 34 0 Xio,oE 35 1 Xio,oE 36 2 Xio,oM 10 XiM,oM 11 XiQ,oM 12 Xje]) (.seq (.reg [oM 38 τ0,oM 39 Xef,oD 40 (.bin .add Xjk (.const (.int .i64 20))),oM 41 XdK,oD 42 (.sliceS XjL (some Xkw) (some XjM)),oD 43 (.callF 91 [XjK]),oM 37 XjR,oE 44 0 XiK,oE 45 1 XiK,oE 46 2 XiK,oM 13 XkB,oM 14 Xkn,oM 15 XkG]) (.seq XSI (.seq (.seq (.reg [oM 63 Xfp,oD 64 (.not Xr0)]) (.cond XrX (.seq (.reg [oD 6 (.mv (.const (.string ⟨⟨[]⟩⟩))),oD 7 (.mv (.const (.int .i64 3)))]) .ret) .skip)) (.seq (.reg [oM 65 τ0,oM 66 Xef,oD 67 (.sliceS XsR none (some Xtk)),oM 68 Xfk,oD 69 (.bin .add XsT XtN),oM 6 XsZ,oD 7 (.mv (.const (.int .i64 0)))]) .ret)))))))
def fn56:VFn:=⟨70,XSn,[.tmp 6,.tmp 7]⟩
def XF9:VC:=.seq (.reg [oD 2 (.mv (.const (.int .i64 0))),oD 3 (.mv (.const (.int .i64 0))),oD 4 (.mv (.const (.int .i64 0)))]) (.seq (.reg [oM 10 τ0,oD 11 (.callF 55 [Xef]),oM 9 XdK,oE 12 0 τ9,oE 13 1 τ9,oE 14 2 τ9,oE 15 3 τ9,oD 5 (.alloc [(.int .i64 0),(.bool false),(.int .u64 0),(.int .u64 0),(.bool false),(.int .u64 0),(.int .u64 0),(.int .i64 0),(.int .i64 0),(.int .i64 0),(.bool false),(.int .u32 0),(.int .u32 0),(.bool false),(.string ⟨⟨[]⟩⟩),(.int .i64 0)]),oN (.store 16 τ5 XeA),oM 6 XeB,oM 7 Xe3,oM 8 Xfd]) (.seq (.seq (.reg [oM 16 τ8,oD 17 (.bin .neq Xfk (.const (.int .i64 0)))]) (.cond Xfp (.seq (.reg [oM 18 τ8,oD 2 (.mv (.const (.int .i64 0))),oD 3 (.mv (.const (.int .i64 0))),oM 4 XfR]) .ret) .skip)) (.seq (.reg [oM 19 τ0,oD 20 (.lenS Xf7),oM 21 τ6,oD 22 (.bin .sub Xgy Xgx),oM 23 τ0,oD 24 (.lenS XgX),oM 25 τ7,oD 26 (.bin .sub Xg1 XhR),oM 2 Xg2,oM 3 XhB,oD 4 (.mv (.const (.int .i64 0)))]) .ret)))
def fn67:VFn:=⟨27,XF9,[.tmp 2,.tmp 3,.tmp 4]⟩
def XRd:VC:=.regD [oM 63 τ0,oM 64 τ1,oD 65 (.sliceS Xr0 none (some XrX)),oM 66 τ2,oD 67 (.bin .add XsR Xtk),oM 68 τ0,oM 69 Xef,oD 70 (.sliceS XtN (some XsZ) none)] [] [oD 71 (.bin .add XsT Xu2),oM 11 Xvn]
def XHe:VC:=.seq (.reg [oD 8 (.mv (.const (.string ⟨⟨[]⟩⟩))),oD 9 (.mv (.const (.bool false)))]) (.seq (.reg [oM 17 τ1,oM 18 τ2,oD 19 (.lenS XfR),oD 20 (.bin .add Xfp Xf7),oM 10 Xgy]) (.seq (.block 0 (.seq (.reg [oM 22 τ1,oD 23 (.bin .lss Xg2 (.const (.int .i64 0))),oM 24 XgX,oG 25 (.mv τ0) 24 false,oG 26 (.lenS XhR) 24 false,oG 27 (.mv τ2) 24 false,oG 28 (.lenS XhO) 24 false,oG 29 (.bin .sub XhB Xh8) 24 false,oG 30 (.mv τ1) 24 false,oG 31 (.bin .lss XhP Xiu) 24 false,oD 32 (.pick Xg1 (.const (.bool true)) Xio),oM 33 XiC,oG 34 (.mv τ3) 33 false,oG 35 (.bin .lss XiM (.const (.int .i64 0))) 33 false,oD 36 (.pick XiO (.const (.bool true)) XiQ),oM 37 Xje,oG 38 (.mv τ3) 37 false,oG 39 (.bin .rem XjL (.const (.int .i64 2))) 37 false,oG 40 (.bin .eql Xjk (.const (.int .i64 1))) 37 false,oD 41 (.pick XiK (.const (.bool true)) Xkw),oM 42 XjM,oG 43 (.mv τ0) 42 false,oG 44 (.lenS XjR) 42 false,oG 45 (.bin .sub XkB (.const (.int .i64 2))) 42 false,oG 46 (.mv τ3) 42 false,oG 47 (.bin .lss Xkn XkG) 42 false,oD 48 (.pick XjK (.const (.bool true)) Xkq),oM 21 XkP]) (.cond Xgx (.seq (.reg [oD 8 (.mv (.const (.string ⟨⟨[]⟩⟩))),oD 9 (.mv (.const (.bool false)))]) .ret) (.seq (.reg [oM 50 τ2,oD 51 (.bin .eql Xlc (.const (.string ⟨⟨[]⟩⟩))),oM 49 Xl4]) (.cond Xj2 (.seq (.reg [oM 52 τ0,oM 8 Xl3,oD 9 (.mv (.const (.bool true)))]) .ret) (.seq (.reg [oM 54 τ1,oM 55 τ3,oD 56 (.bin .add XnP (.const (.int .i64 2))),oD 57 (.bin .lss XnS Xou),oM 58 XnR,oG 59 (.mv τ3) 58 true,oG 60 (.mv Xef) 58 true,oG 61 (.bin .lss XoH XqI) 58 true,oD 62 (.pick XoP Xqv (.const (.bool false))),oM 53 XqK]) (.cond Xmm (.seq (.reg [oD 8 (.mv (.const (.string ⟨⟨[]⟩⟩))),oD 9 (.mv (.const (.bool false)))]) .ret) .skip))))))) (.seq XRd (.seq (.reg [oM 72 τ1,oD 73 (.bin .andNot Xu3 (.const (.int .i64 1))),oM 74 Xef,oD 75 (.bin .add Xvr (.const (.int .i64 1))),oD 76 (.bin .andNot Xwl (.const (.int .i64 1))),oM 12 Xwj,oM 13 XvZ]) (.seq (.reg [oM 78 τ0,oM 79 τ3,oD 80 (.callF 69 [Xxd,XxU,(.const (.int .i64 2))]),oM 77 XxX,oE 81 0 Xv4,oE 82 1 Xv4,oM 14 XBy,oM 15 XC0]) (.seq (.reg [oM 83 Xe3,oD 84 (.conv .i64 Xw9),oM 85 τ0,oM 86 XeA,oM 87 XeB,oD 88 (.callF 100 [XFU,XGc,XF7]),oM 89 XdK,oM 90 XeA,oM 91 XeB,oD 92 (.callF 100 [XFH,XGe,XFk]),oD 93 (.callF 99 [XBS,XH6,XFV]),oM 16 XFB]) (.seq (.reg [oM 94 XdK,oM 95 τ3,oM 96 Xfk,oD 97 (.conv .u64 XBV),oD 98 (.callF 72 [XFP,XF1,(.const (.int .i64 2)),XLu]),oM 8 XNm,oD 9 (.mv (.const (.bool true)))]) .ret)))))))
def fn70:VFn:=⟨99,XHe,[.tmp 8,.tmp 9]⟩
def XGT:VC:=.seq (.reg [oD 6 (.mv (.const (.string ⟨⟨[]⟩⟩)))]) (.seq (.seq (.reg [oM 7 τ2,oM 8 τ0,oD 9 (.lenS τ8),oD 10 (.bin .gtr τ7 τ9)]) (.cond Xef (.seq (.reg [oM 11 τ0,oM 12 τ1,oD 13 (.sliceS XdK (some XeA) none),oD 14 (.bin .add XeB (.const (.string ⟨⟨[0]⟩⟩))),oM 6 Xe3]) .ret) .skip)) (.seq (.reg [oM 15 τ0,oM 16 τ1,oM 17 τ2,oD 18 (.sliceS Xfd (some Xfk) (some Xfp)),oM 6 XfR]) .ret))
def XSU:VFn:=⟨19,XGT,[.tmp 6]⟩
def XTo:VC:=.reg [oM 8 XhR]
def XHd:VC:=.block 1 (.seq (.reg [oD 27 (.load1 .str τ5),oD 28 (.load1 (.int .i64) τ7),oD 29 (.callF 69 [XhO,Xh8,(.const (.int .i64 2))]),oM 26 XhP,oE 30 0 XhB,oE 31 1 XhB,oM 9 Xiu,oM 10 Xio]) (.seq (.reg [oD 32 (.load1 (.int .i64) τ3),oM 33 τ8,oM 34 τ9,oD 35 (.conv .i64 XiM),oD 36 (.callF 122 [XiC,XiO,XiQ]),oN (.store 1 τ3 Xje)]) (.reg [oD 37 (.load1 (.int .i64) τ7),oD 38 (.bin .add XiK (.const (.int .i64 2))),oN (.store 1 τ7 XjL)])))
def XTB:VC:=.rangeF Xg1 [25] XTo XHd
def XGp:VC:=.seq (.reg [oD 39 (.load1 (.int .i64) τ3),oM 6 Xjk]) .ret
def XHF:VC:=.seq (.reg [oD 3 (.box τ0),oD 5 (.box τ2),oD 6 (.mv (.const (.int .i64 0)))]) (.seq (.seq (.reg [oM 11 τ1,oD 12 (.lenS XdK),oD 13 (.load1 .str τ5),oD 14 (.lenS XeB),oD 15 (.bin .neq XeA Xe3),oM 16 Xfd,oG 17 (.mv τ1) 16 false,oG 18 (.lenS Xfp) 16 false,oG 19 (.bin .rem XfR (.const (.int .i64 2))) 16 false,oG 20 (.bin .gtr Xf7 (.const (.int .i64 0))) 16 false,oD 21 (.pick Xfk (.const (.bool true)) Xgy)]) (.cond Xgx (.seq (.reg [oD 22 (.load1 (.int .i64) τ3),oM 6 Xg2]) .ret) .skip)) (.seq (.reg [oD 7 (.alloc [(.int .i64 0)]),oN (.store 1 τ7 (.const (.int .i64 0)))]) (.seq (.seq (.reg [oM 23 τ1,oD 24 (.callF 114 [XgX])]) (.block 0 XTB)) XGp)))
def fn99:VFn:=⟨40,XHF,[.tmp 6]⟩
def XHj:VC:=.seq (.reg [oD 6 (.mv (.const (.int .i64 0)))]) (.seq (.seq (.reg [oM 7 τ0,oM 8 τ1,oM 9 τ2,oD 10 (.buildSl 3 1 [(.int .i64 0),(.int .i64 0),(.int .i64 0)] [(0,1,τ7),(1,1,τ8),(2,1,τ9)]),oD 11 (.callF 134 [Xef]),oD 12 (.not XdK)]) (.cond XeA (.seq (.reg [oD 6 (.mv (.const (.int .i64 0)))]) .ret) .skip)) (.seq (.reg [oM 13 τ0,oD 14 (.bin .sub (.const (.int .i64 65535)) XeB),oD 15 (.bin .add Xe3 (.const (.int .i64 65535))),oM 16 τ1,oD 17 (.bin .sub Xfd Xfk),oM 18 τ2,oD 19 (.bin .add Xfp XfR),oD 20 (.callF 115 [Xf7]),oD 21 (.bin .sub (.const (.int .i64 65535)) Xgy),oM 6 Xgx]) .ret))
def XSQ:VFn:=⟨22,XHj,[.tmp 6]⟩
def XuW:VC:=.seq (.reg [oD 8 (.bin .lss τ7 τ6)]) (.seq (.cond τ8 .skip (.exit 0)) (.seq (.block 1 (.seq (.reg [oD 9 (.idxAL 1 τ5 τ7),oD 10 (.load1 (.int .i64) τ9),oM 4 Xef]) (.seq (.reg [oM 11 τ4,oD 12 (.bin .lss XdK (.const (.int .i64 0))),oM 13 XeA,oG 14 (.mv τ4) 13 false,oG 15 (.bin .gtr Xe3 (.const (.int .i64 65535))) 13 false,oD 16 (.pick XeB (.const (.bool true)) Xfd)]) (.cond Xfk (.seq (.reg [oD 2 (.mv (.const (.bool false)))]) .ret) .skip)))) (.reg [oD 17 (.bin .add τ7 (.const (.int .i64 1))),oM 7 Xfp])))
def XAa:VC:=.seq (.reg [oD 2 (.mv (.const (.bool true)))]) .ret
def Xyr:VC:=.seq (.reg [oD 2 (.mv (.const (.bool false)))]) (.seq (.seq (.reg [oM 5 τ0,oD 6 (.lenL τ5),oD 7 (.mv (.const (.int .i64 0)))]) (.block 0 (.loop XuW))) XAa)
def XNO:VFn:=⟨18,Xyr,[.tmp 2]⟩
def k72_7:VC:=.regD [oM 28 τ0,oM 29 τ1,oD 30 (.sliceS Xh8 none (some XhP)),oM 31 τ9,oD 32 (.bin .add Xiu Xio),oM 33 τ0,oM 34 τ1,oM 35 τ2,oD 36 (.bin .add XiM XiQ),oD 37 (.sliceS XiO (some Xje) none)] [] [oD 38 (.bin .add XiC XiK),oM 8 XjL]
def XHw:VC:=.seq (.reg [oD 8 (.mv (.const (.string ⟨⟨[]⟩⟩)))]) (.seq (.reg [oM 10 τ3,oM 11 τ2,oD 12 (.callF 71 [Xef,XdK]),oM 9 XeA]) (.seq (.seq (.reg [oM 13 τ9,oD 14 (.bin .eql XeB (.const (.string ⟨⟨[]⟩⟩))),oM 15 Xe3,oG 16 (.mv τ1) 15 false,oG 17 (.bin .lss Xfk (.const (.int .i64 0))) 15 false,oD 18 (.pick Xfd (.const (.bool true)) Xfp),oM 19 XfR,oG 20 (.mv τ0) 19 false,oG 21 (.lenS Xgy) 19 false,oG 22 (.mv τ2) 19 false,oG 23 (.bin .sub Xgx Xg2) 19 false,oG 24 (.mv τ1) 19 false,oG 25 (.bin .lss XgX Xg1) 19 false,oD 26 (.pick Xf7 (.const (.bool true)) XhR)]) (.cond XhB (.seq (.reg [oM 27 τ0,oM 8 XhO]) .ret) .skip)) (.seq k72_7 .ret)))
def fn72:VFn:=⟨39,XHw,[.tmp 8]⟩
def XAH:VC:=.seq (.reg [oD 4 (.mv (.const (.string ⟨⟨[]⟩⟩))),oD 5 (.mv (.const (.int .i64 0)))]) (.seq (.seq (.reg [oM 12 τ0,oD 13 (.callF 28 [XeA]),oD 14 (.not XeB)]) (.cond Xe3 (.seq (.reg [oD 4 (.mv (.const (.string ⟨⟨[]⟩⟩))),oD 5 (.mv (.const (.int .i64 1)))]) .ret) .skip)) (.seq (.reg [oM 16 τ1,oD 17 (.callF 30 [Xfk]),oM 15 Xfp,oE 18 0 Xfd,oE 19 1 Xfd,oD 6 (.alloc [(.int .i64 0),(.bool false),(.int .u64 0),(.int .u64 0),(.bool false),(.int .u64 0),(.int .u64 0),(.int .i64 0),(.int .i64 0),(.int .i64 0),(.bool false),(.int .u32 0),(.int .u32 0),(.bool false),(.string ⟨⟨[]⟩⟩),(.int .i64 0)]),oN (.store 16 τ6 XfR),oM 7 Xf7]) (.seq (.seq (.reg [oM 20 τ7,oD 21 (.bin .neq Xgy (.const (.int .i64 0)))]) (.cond Xgx (.seq (.reg [oM 22 τ7,oD 4 (.mv (.const (.string ⟨⟨[]⟩⟩))),oM 5 Xg2]) .ret) .skip)) (.seq (.reg [oM 24 τ0,oD 25 (.fieldA 0 τ6),oD 26 (.loadN [(.int .i64),.bool,(.int .u64),(.int .u64),.bool,(.int .u64),(.int .u64),(.int .i64),(.int .i64)] XhR),oD 27 (.callF 36 [XhB]),oD 28 (.callF 17 [Xg1,XhO]),oM 23 Xh8,oE 29 0 XgX,oE 30 1 XgX,oM 8 XhP,oM 9 Xiu]) (.seq (.block 0 (.seq (.reg [oM 32 τ9,oD 33 (.not XiC),oM 31 XiO]) (.cond Xio (.seq (.reg [oD 4 (.mv (.const (.string ⟨⟨[]⟩⟩))),oD 5 (.mv (.const (.int .i64 13)))]) .ret) (.seq (.reg [oD 35 (.fieldA 10 τ6),oD 36 (.load1 .bool XiQ),oM 34 Xje]) (.cond XiM (.seq (.reg [oM 37 τ1,oM 38 τ8,oD 39 (.conv .u16 XjL),oD 40 (.callF 37 [XiK,Xjk]),oE 41 0 Xkw,oE 42 1 Xkw,oM 4 XjM,oM 5 XjK]) .ret) .skip))))) (.seq (.seq (.reg [oM 44 τ1,oM 45 τ8,oD 46 (.callF 38 [XkB,Xkn]),oM 43 XkG,oE 47 0 XjR,oE 48 1 XjR,oM 10 Xkq,oM 11 XkP]) (.seq (.reg [oM 49 XdK,oD 50 (.bin .eql Xj2 (.const (.int .i64 0)))]) (.cond Xlc (.seq (.reg [oM 51 Xef,oM 4 Xl4,oD 5 (.mv (.const (.int .i64 0)))]) .ret) .skip))) (.seq (.reg [oM 52 τ1,oM 4 Xl3,oD 5 (.mv (.const (.int .i64 0)))]) .ret)))))))
def fn12:VFn:=⟨53,XAH,[.tmp 4,.tmp 5]⟩
def XQb:VC:=.seq (.reg [oD 1 (.box τ0),oD 2 (.alloc [(.int .i64 0),(.bool false),(.int .u64 0),(.int .u64 0),(.bool false),(.int .u64 0),(.int .u64 0),(.int .i64 0),(.int .i64 0)])]) (.seq (.reg [oD 3 (.fieldA 4 τ1),oD 4 (.loadN [.bool,(.int .u64),(.int .u64)] τ3),oD 5 (.fieldA 1 τ1),oD 6 (.loadN [.bool,(.int .u64),(.int .u64)] τ5),oD 7 (.fieldA 8 τ1),oD 8 (.load1 (.int .i64) τ7),oD 9 (.fieldA 7 τ1),oD 10 (.load1 (.int .i64) τ9),oD 11 (.fieldA 1 τ1),oN (.store 3 XdK τ4),oD 12 (.fieldA 4 τ1),oN (.store 3 XeA τ6),oD 13 (.fieldA 7 τ1),oN (.store 1 XeB τ8),oD 14 (.fieldA 8 τ1),oN (.store 1 Xe3 Xef)]) (.seq (.reg [oD 15 (.loadN [(.int .i64),.bool,(.int .u64),(.int .u64),.bool,(.int .u64),(.int .u64),(.int .i64),(.int .i64)] τ1),oN (.store 9 τ2 Xfd)]) .ret))
def fn36:VFn:=⟨16,XQb,[.cell 2 [(.int .i64),.bool,(.int .u64),(.int .u64),.bool,(.int .u64),(.int .u64),(.int .i64),(.int .i64)] true]⟩
def k17_6:VC:=.regD [oM 12 τ0,oD 13 (.nilCheck XeA),oD 14 (.fieldA 2 XeB),oD 15 (.load1 .oth Xe3),oD 16 (.loadN [(.int .i64),.bool,(.int .u64),(.int .u64),.bool,(.int .u64),(.int .u64),(.int .i64),(.int .i64)] τ3),oD 17 (.mget [(0,(.int .i64)),(1,.bool),(2,(.int .u64)),(3,(.int .u64)),(4,.bool),(5,(.int .u64)),(6,(.int .u64)),(7,(.int .i64)),(8,(.int .i64))] (.int .u64 0) true Xfd Xfk),oM 11 Xfp,oE 18 0 XdK,oE 19 1 XdK,oM 6 XfR] [] [oM 7 Xf7]
def XvM:VC:=.seq (.reg [oD 3 (.box τ1),oD 4 (.mv (.const (.int .u64 0))),oD 5 (.mv (.const (.bool false)))]) (.seq (.seq (.reg [oM 8 τ0,oD 9 (.callF 28 [τ8]),oD 10 (.not τ9)]) (.cond Xef (.seq (.reg [oD 4 (.mv (.const (.int .u64 0))),oD 5 (.mv (.const (.bool false)))]) .ret) .skip)) (.seq k17_6 (.seq (.reg [oM 20 τ6,oM 21 τ7,oM 4 Xgy,oM 5 Xgx]) .ret)))
def fn17:VFn:=⟨22,XvM,[.tmp 4,.tmp 5]⟩
def XPG:VC:=.seq (.reg [oD 3 (.box τ1),oD 4 (.mv (.const (.string ⟨⟨[]⟩⟩))),oD 5 (.mv (.const (.int .i64 0)))]) (.seq (.reg [oM 6 τ0,oD 7 (.mkFunc 65 [] [τ3]),oD 8 (.callF 56 [τ6,(.const (.int .i64 0)),τ7]),oE 9 0 τ8,oE 10 1 τ8,oM 4 τ9,oM 5 Xef]) .ret)
def fn37:VFn:=⟨11,XPG,[.tmp 4,.tmp 5]⟩
def XN0:VC:=.seq (.reg [oD 2 (.box τ0),oD 3 (.mv (.const (.int .u32 0)))]) (.seq (.reg [oD 4 (.fieldA 11 τ2),oD 5 (.load1 (.int .u32) τ4),oD 6 (.load1 (.int .u16) τ1),oD 7 (.callF 66 [τ5,τ6]),oM 3 τ7]) .ret)
def fn65:VFn:=⟨8,XN0,[.tmp 3]⟩
def XNY:VC:=.seq (.reg [oD 4 (.mv (.const (.int .u32 0)))]) (.seq (.reg [oM 5 τ1,oD 6 (.conv .u32 τ5),oD 7 (.bin .shl τ6 (.const (.int .u64 16))),oM 8 τ0,oD 9 (.callF 59 [τ8]),oD 10 (.conv .u32 τ9),oD 11 (.bin .or τ7 Xef),oM 4 XdK]) .ret)
def fn66:VFn:=⟨12,XNY,[.tmp 4]⟩
def XQa:VC:=.regD [oM 66 τ0,oM 67 τ8,oD 68 (.sliceS Xtk (some XsT) none),oD 69 (.fieldA 3 XdK),oD 70 (.load1 .str XsZ),oD 71 (.lenS Xu2),oD 72 (.bin .add (.const (.int .i64 15)) Xvn),oM 73 τ1,oD 74 (.callF 71 [Xwj,(.const (.int .i64 8))]),oD 75 (.callF 70 [XtN,Xu3,Xvr,(.const (.int .i64 6))]),oM 65 Xwl,oE 76 0 XsR,oE 77 1 XsR,oM 14 XvZ] [(4,8)] [oM 15 Xv4]
def XOZ:VC:=.regD [oM 91 τ0,oM 92 τ8,oD 93 (.sliceS XFk none (some XFV)),oM 94 Xe3,oM 95 Xfk,oD 96 (.callF 72 [XFP,(.const (.int .i64 6)),(.const (.int .i64 2)),XF1])] [] [oD 97 (.bin .add XFB XBV),oM 4 XLu,oD 5 (.mv (.const (.int .i64 0)))]
def XFI:VC:=.seq (.reg [oD 4 (.mv (.const (.string ⟨⟨[]⟩⟩))),oD 5 (.mv (.const (.int .i64 0)))]) (.seq (.reg [oM 19 τ0,oD 20 (.callF 30 [Xf7]),oM 18 Xgy,oE 21 0 XfR,oE 22 1 XfR,oD 6 (.alloc [(.int .i64 0),(.bool false),(.int .u64 0),(.int .u64 0),(.bool false),(.int .u64 0),(.int .u64 0),(.int .i64 0),(.int .i64 0),(.int .i64 0),(.bool false),(.int .u32 0),(.int .u32 0),(.bool false),(.string ⟨⟨[]⟩⟩),(.int .i64 0)]),oN (.store 16 τ6 Xgx),oM 7 Xg2]) (.seq (.seq (.reg [oM 23 τ7,oD 24 (.bin .neq XgX (.const (.int .i64 0)))]) (.cond Xg1 (.seq (.reg [oM 25 τ7,oD 4 (.mv (.const (.string ⟨⟨[]⟩⟩))),oM 5 XhR]) .ret) .skip)) (.seq (.reg [oM 27 τ0,oD 28 (.callF 67 [XhO]),oM 26 Xh8,oE 29 0 XhB,oE 30 1 XhB,oE 31 2 XhB,oM 8 XhP,oM 9 Xiu,oM 10 Xio]) (.seq (.reg [oM 33 τ0,oM 34 τ9,oD 35 (.sliceS XiO (some XiM) none),oD 36 (.callF 68 [XiQ]),oM 32 Xje,oE 37 0 XiC,oE 38 1 XiC,oD 11 (.alloc [(.bool false),(.int .i64 0),(.int .u32 0),(.string ⟨⟨[]⟩⟩),(.string ⟨⟨[]⟩⟩),(.string ⟨⟨[]⟩⟩)]),oN (.store 6 XdK XiK),oM 7 XjL]) (.seq (.block 0 (.seq (.reg [oD 40 (.fieldA 0 τ6),oD 41 (.fieldA 0 Xkw),oD 42 (.load1 (.int .i64) XjM),oD 43 (.bin .neq XjK (.const (.int .i64 17))),oM 44 XjR,oG 45 (.mv τ7) 44 false,oG 46 (.bin .neq Xkn (.const (.int .i64 0))) 44 false,oD 47 (.pick XkB (.const (.bool true)) XkG),oM 48 Xkq,oG 49 (.fieldA 0 XdK) 48 false,oG 50 (.load1 .bool Xj2) 48 false,oG 51 (.not Xlc) 48 false,oD 52 (.pick XkP (.const (.bool true)) Xl4),oM 39 Xl3]) (.cond Xjk (.seq (.reg [oD 4 (.mv (.const (.string ⟨⟨[]⟩⟩))),oD 5 (.mv (.const (.int .i64 6)))]) .ret) (.seq (.reg [oD 54 (.fieldA 4 XdK),oD 55 (.load1 .str XnS),oD 56 (.lenS XnP),oD 57 (.bin .neq Xou (.const (.int .i64 8))),oM 53 XnR]) (.cond Xmm (.seq (.reg [oD 4 (.mv (.const (.string ⟨⟨[]⟩⟩))),oD 5 (.mv (.const (.int .i64 3)))]) .ret) .skip))))) (.seq (.reg [oM 59 τ0,oM 60 τ8,oD 61 (.bin .add XqI (.const (.int .i64 6))),oD 62 (.callF 69 [XoH,Xqv,(.const (.int .i64 2))]),oM 58 XqK,oE 63 0 XoP,oE 64 1 XoP,oM 12 Xr0,oM 13 XrX]) (.seq XQa (.seq (.seq (.reg [oM 78 Xfd,oD 79 (.not Xxd)]) (.cond XxU (.seq (.reg [oD 4 (.mv (.const (.string ⟨⟨[]⟩⟩))),oD 5 (.mv (.const (.int .i64 3)))]) .ret) .skip)) (.seq (.reg [oM 81 Xe3,oD 82 (.callF 69 [XBy,(.const (.int .i64 6)),(.const (.int .i64 2))]),oM 80 XC0,oE 83 0 XxX,oE 84 1 XxX,oM 16 Xw9,oM 17 XBS]) (.seq (.block 1 (.seq (.reg [oM 86 XeA,oD 87 (.bin .eql XGc (.const (.int .u64 0))),oM 85 XF7]) (.cond XFU (.reg [oD 16 (.mv (.const (.int .u64 0)))]) (.seq (.reg [oM 89 Xfk,oD 90 (.bin .eql XFH (.const (.int .u64 0))),oM 88 XGe]) (.cond XH6 (.reg [oD 16 (.mv (.const (.int .u64 65535)))]) .skip))))) (.seq XOZ .ret)))))))))))
def fn38:VFn:=⟨98,XFI,[.tmp 4,.tmp 5]⟩
def XL8:VC:=.seq (.reg [oM 4 τ0,oD 5 (.callF 28 [τ4])]) (.cond τ5 (.reg [oM 6 τ0,oM 7 τ1,oD 8 (.nilCheck τ6),oD 9 (.fieldA 1 τ8),oN (.store 1 τ9 τ7)]) .skip)
def fn16:VFn:=⟨10,XL8,[]⟩
def k14_3:VC:=.regD [oM 14 τ0,oD 15 (.nilCheck Xe3),oD 16 (.fieldA 2 Xfd),oD 17 (.load1 .oth Xfk),oD 18 (.loadN [(.int .i64),.bool,(.int .u64),(.int .u64),.bool,(.int .u64),(.int .u64),(.int .i64),(.int .i64)] τ3)] [] [oN (.mdel [(0,(.int .i64)),(1,.bool),(2,(.int .u64)),(3,(.int .u64)),(4,.bool),(5,(.int .u64)),(6,(.int .u64)),(7,(.int .i64)),(8,(.int .i64))] Xfp XfR)]
def XBn:VC:=.seq (.reg [oD 3 (.box τ1),oD 4 (.mv (.const (.bool false)))]) (.seq (.reg [oM 8 τ0,oD 9 (.loadN [(.int .i64),.bool,(.int .u64),(.int .u64),.bool,(.int .u64),(.int .u64),(.int .i64),(.int .i64)] τ3),oD 10 (.callF 17 [τ8,τ9]),oM 7 Xef,oE 11 0 τ7,oE 12 1 τ7,oM 5 XdK,oM 6 XeA]) (.seq (.seq (.reg [oM 13 τ6]) (.cond XeB k14_3 .skip)) (.seq (.reg [oM 19 τ6,oM 4 Xf7]) .ret)))
def fn14:VFn:=⟨20,XBn,[.tmp 4]⟩
def XLx:VC:=.seq (.reg [oD 2 (.mv (.const (.int .i64 0)))]) (.seq (.seq (.reg [oM 3 τ0,oD 4 (.callF 28 [τ3]),oD 5 (.not τ4)]) (.cond τ5 (.seq (.reg [oD 2 (.mv (.const (.int .i64 0)))]) .ret) .skip)) (.seq (.reg [oM 6 τ0,oD 7 (.nilCheck τ6),oD 8 (.fieldA 2 τ7),oD 9 (.load1 .oth τ8),oD 10 (.lenM τ9),oM 2 Xef]) .ret))
def fn19:VFn:=⟨11,XLx,[.tmp 2]⟩
def k9_9:VC:=.seq (.reg [oD 2 (.mv (.const (.pointer none)))]) (.seq (.seq (.reg [oM 3 τ0,oD 4 (.bin .lss τ3 (.const (.int .i64 1))),oM 5 τ4,oG 6 (.mv τ0) 5 false,oG 7 (.bin .gtr τ6 (.const (.int .i64 65535))) 5 false,oD 8 (.pick τ5 (.const (.bool true)) τ7)]) (.cond τ8 (.seq (.reg [oD 2 (.mv (.const (.pointer none)))]) .ret) .skip)) (.seq (.reg [oM 9 τ0,oD 10 (.build [(.int .i64 0),(.int .u32 0),(.slice none 0 0),(.slice none 0 0)] [(0,1,τ9)]),oD 11 (.box Xef),oM 2 XdK]) .ret))
def fn9:VFn:=⟨12,k9_9,[.tmp 2]⟩
def k11_7:VC:=.regD [oD 20 (.fieldA 1 τ6),oD 21 (.load1 (.int .i64) Xgy),oM 22 τ0,oD 23 (.nilCheck Xg2),oD 24 (.fieldA 0 XgX),oD 25 (.load1 (.int .i64) Xg1)] [] [oD 26 (.bin .neq Xgx XhR)]
def XR8:VC:=.regD [oM 59 τ0,oM 60 τ0,oD 61 (.nilCheck XqI),oD 62 (.fieldA 2 Xqv),oD 63 (.load1 .oth XqK),oD 64 (.fieldA 0 τ9),oD 65 (.loadN [(.int .i64),.bool,(.int .u64),(.int .u64),.bool,(.int .u64),(.int .u64),(.int .i64),(.int .i64)] XrX),oD 66 (.buildSl 1 9 [(.int .i64 0),(.bool false),(.int .u64 0),(.int .u64 0),(.bool false),(.int .u64 0),(.int .u64 0),(.int .i64 0),(.int .i64 0)] [(0,9,XsR)]),oD 67 (.app 33 9 72 Xr0 Xtk)] [(4,7)] [oD 68 (.nilCheck XoH),oD 69 (.fieldA 2 XtN),oN (.store 1 XsZ XsT)]
def XPF:VC:=.regD [oM 70 τ0,oM 71 τ0,oD 72 (.nilCheck Xvn),oD 73 (.fieldA 3 Xu3),oD 74 (.load1 .oth Xwj),oD 75 (.fieldA 2 τ6),oD 76 (.load1 (.int .u64) Xwl),oD 77 (.buildSl 1 1 [(.int .u64 0)] [(0,1,XvZ)]),oD 78 (.app 29 1 8 Xvr Xv4)] [(4,7)] [oD 79 (.nilCheck Xu2),oD 80 (.fieldA 3 XxU),oN (.store 1 XxX Xxd)]
def XFs:VC:=.seq (.reg [oD 4 (.mv (.const (.string ⟨⟨[]⟩⟩))),oD 5 (.mv (.const (.int .i64 0)))]) (.seq (.reg [oM 12 τ1,oD 13 (.callF 33 [XeA]),oM 11 XeB,oE 14 0 XdK,oE 15 1 XdK,oE 16 2 XdK,oD 6 (.alloc [(.bool false),(.int .i64 0),(.int .u64 0),(.bool false),(.int .i64 0)]),oN (.store 5 τ6 Xe3),oM 7 Xfd,oM 8 Xfk]) (.seq (.seq (.reg [oM 17 τ8,oD 18 (.bin .neq Xfp (.const (.int .i64 0)))]) (.cond XfR (.seq (.reg [oM 19 τ8,oD 4 (.mv (.const (.string ⟨⟨[]⟩⟩))),oM 5 Xf7]) .ret) .skip)) (.seq (.seq k11_7 (.cond XhB (.seq (.reg [oD 4 (.mv (.const (.string ⟨⟨[]⟩⟩))),oD 5 (.mv (.const (.int .i64 16)))]) .ret) .skip)) (.seq (.reg [oM 28 τ7,oD 29 (.callF 25 [Xh8]),oM 27 XhP,oE 30 0 XhO,oE 31 1 XhO,oD 9 (.alloc [(.int .i64 0),(.bool false),(.int .u64 0),(.int .u64 0),(.bool false),(.int .u64 0),(.int .u64 0),(.int .i64 0),(.int .i64 0),(.int .i64 0),(.bool false),(.int .u32 0),(.int .u32 0),(.bool false),(.string ⟨⟨[]⟩⟩),(.int .i64 0)]),oN (.store 16 τ9 Xiu),oM 8 Xio]) (.seq (.seq (.reg [oM 32 τ8,oD 33 (.bin .neq XiC (.const (.int .i64 0)))]) (.cond XiO (.seq (.reg [oM 34 τ8,oD 4 (.mv (.const (.string ⟨⟨[]⟩⟩))),oM 5 XiM]) .ret) .skip)) (.seq (.reg [oM 35 τ0,oD 36 (.fieldA 0 τ9),oD 37 (.loadN [(.int .i64),.bool,(.int .u64),(.int .u64),.bool,(.int .u64),(.int .u64),(.int .i64),(.int .i64)] Xje),oD 38 (.callF 34 [XiQ,XiK]),oM 10 XjL]) (.seq (.seq (.reg [oM 39 Xef,oD 40 (.bin .lss Xjk (.const (.int .i64 0))),oM 41 Xkw,oG 42 (.mv τ0) 41 true,oG 43 (.nilCheck XjK) 41 true,oG 44 (.fieldA 2 XjR) 41 true,oG 45 (.load1 .oth XkB) 41 true,oG 46 (.lenL Xkn) 41 true,oG 47 (.bin .geq XkG (.const (.int .i64 64))) 41 true,oD 48 (.pick XjM Xkq (.const (.bool false)))]) (.cond XkP (.seq (.reg [oD 4 (.mv (.const (.string ⟨⟨[]⟩⟩))),oD 5 (.mv (.const (.int .i64 9)))]) .ret) .skip)) (.seq (.seq (.reg [oM 49 Xef,oD 50 (.bin .lss Xj2 (.const (.int .i64 0))),oM 51 Xlc,oG 52 (.fieldA 3 τ6) 51 false,oG 53 (.load1 .bool Xl3) 51 false,oD 54 (.pick Xl4 (.const (.bool true)) Xmm)]) (.cond XnS (.seq (.reg [oM 55 τ0,oD 56 (.fieldA 0 τ9),oD 57 (.loadN [(.int .i64),.bool,(.int .u64),(.int .u64),.bool,(.int .u64),(.int .u64),(.int .i64),(.int .i64)] Xou),oD 58 (.callF 15 [XnP,XnR])]) (.seq XR8 XPF)) .skip)) (.seq (.seq (.reg [oD 81 (.fieldA 0 τ9),oD 82 (.fieldA 0 XBy),oD 83 (.load1 (.int .i64) XC0),oD 84 (.bin .neq Xw9 (.const (.int .i64 6))),oM 85 XBS,oG 86 (.fieldA 10 τ9) 85 false,oG 87 (.load1 .bool XGc) 85 false,oG 88 (.not XF7) 85 false,oD 89 (.pick XFU (.const (.bool true)) XH6)]) (.cond XFH (.seq (.reg [oM 90 τ7,oM 4 XGe,oD 5 (.mv (.const (.int .i64 0)))]) .ret) .skip)) (.seq (.reg [oM 91 τ7,oM 92 τ0,oD 93 (.nilCheck XFV),oD 94 (.fieldA 1 XFB),oD 95 (.load1 (.int .u32) XFP),oD 96 (.callF 35 [XFk,XF1]),oE 97 0 XBV,oE 98 1 XBV,oM 4 XLu,oM 5 XNm]) .ret))))))))))
def fn11:VFn:=⟨99,XFs,[.tmp 4,.tmp 5]⟩
def XPU:VC:=.regD [oM 44 τ0,oD 45 (.idxS XkB (.const (.int .i64 3))),oD 46 (.bin .eql Xkn (.const (.int .u8 41))),oM 47 τ0,oD 48 (.callF 62 [Xkq,(.const (.int .i64 4)),(.const (.int .i64 2))]),oM 49 τ5,oM 50 τ0,oD 51 (.idxS Xlc (.const (.int .i64 6))),oD 52 (.bin .eql Xl4 (.const (.int .u8 1))),oM 53 τ0,oD 54 (.idxS Xmm (.const (.int .i64 7))),oD 55 (.conv .i64 XnS),oD 56 (.build [(.bool false),(.int .i64 0),(.int .u64 0),(.bool false),(.int .i64 0)] [(0,1,XkG),(1,1,XkP),(2,1,Xj2),(3,1,Xl3),(4,1,XnP)]),oM 57 τ0,oD 58 (.sliceS XnR (some (.const (.int .i64 18))) none),oN (.store 5 τ2 Xou)] [] [oM 3 XoP,oD 4 (.mv (.const (.int .i64 0)))]
def XHQ:VC:=.seq (.reg [oD 2 (.alloc [(.bool false),(.int .i64 0),(.int .u64 0),(.bool false),(.int .i64 0)]),oD 3 (.mv (.const (.string ⟨⟨[]⟩⟩))),oD 4 (.mv (.const (.int .i64 0)))]) (.seq (.seq (.reg [oM 7 τ0,oD 8 (.lenS τ7),oD 9 (.bin .lss τ8 (.const (.int .i64 18)))]) (.cond τ9 (.seq (.reg [oD 10 (.build [(.bool false),(.int .i64 0),(.int .u64 0),(.bool false),(.int .i64 0)] []),oN (.store 5 τ2 Xef),oD 3 (.mv (.const (.string ⟨⟨[]⟩⟩))),oD 4 (.mv (.const (.int .i64 2)))]) .ret) .skip)) (.seq (.seq (.reg [oM 11 τ0,oD 12 (.sliceS XdK none (some (.const (.int .i64 3)))),oD 13 (.bin .neq XeA (.const (.string ⟨⟨[71,85,1]⟩⟩))),oM 14 XeB,oG 15 (.mv τ0) 14 false,oG 16 (.idxS Xfd (.const (.int .i64 3))) 14 false,oG 17 (.bin .neq Xfk (.const (.int .u8 4))) 14 false,oG 18 (.mv Xfp) 14 false,oG 19 (.mv τ0) 18 true,oG 20 (.idxS Xf7 (.const (.int .i64 3))) 18 true,oG 21 (.bin .neq Xgy (.const (.int .u8 41))) 18 true,oG 22 (.pick XfR Xgx (.const (.bool false))) 14 false,oD 23 (.pick Xe3 (.const (.bool true)) Xg2),oM 24 XgX,oG 25 (.mv τ0) 24 false,oG 26 (.idxS XhR (.const (.int .i64 6))) 24 false,oG 27 (.bin .gtr XhB (.const (.int .u8 1))) 24 false,oD 28 (.pick Xg1 (.const (.bool true)) XhO)]) (.cond Xh8 (.seq (.reg [oD 29 (.build [(.bool false),(.int .i64 0),(.int .u64 0),(.bool false),(.int .i64 0)] []),oN (.store 5 τ2 XhP),oD 3 (.mv (.const (.string ⟨⟨[]⟩⟩))),oD 4 (.mv (.const (.int .i64 3)))]) .ret) .skip)) (.seq (.seq (.reg [oM 30 τ0,oD 31 (.lenS Xiu),oD 32 (.bin .gtr Xio (.const (.int .i64 9018)))]) (.cond XiC (.seq (.reg [oD 33 (.build [(.bool false),(.int .i64 0),(.int .u64 0),(.bool false),(.int .i64 0)] []),oN (.store 5 τ2 XiO),oD 3 (.mv (.const (.string ⟨⟨[]⟩⟩))),oD 4 (.mv (.const (.int .i64 5)))]) .ret) .skip)) (.seq (.seq (.reg [oM 34 τ0,oD 35 (.sliceS XiM none (some (.const (.int .i64 18)))),oD 36 (.callF 60 [XiQ]),oD 37 (.bin .neq Xje (.const (.int .i64 65535)))]) (.cond XiK (.seq (.reg [oD 38 (.build [(.bool false),(.int .i64 0),(.int .u64 0),(.bool false),(.int .i64 0)] []),oN (.store 5 τ2 XjL),oD 3 (.mv (.const (.string ⟨⟨[]⟩⟩))),oD 4 (.mv (.const (.int .i64 4)))]) .ret) .skip)) (.seq (.reg [oM 40 τ0,oD 41 (.callF 61 [Xkw,(.const (.int .i64 10)),(.const (.int .i64 8))]),oM 39 XjM,oE 42 0 Xjk,oE 43 1 Xjk,oM 5 XjK,oM 6 XjR]) (.seq XPU .ret))))))
def fn33:VFn:=⟨59,XHQ,[.cell 2 [.bool,(.int .i64),(.int .u64),.bool,(.int .i64)] true,.tmp 3,.tmp 4]⟩
def XS1:VC:=.seq (.reg [oD 2 (.mv (.const (.int .i64 0)))]) (.seq (.reg [oM 3 τ0,oD 4 (.callF 93 [τ3]),oD 5 (.callF 92 [τ4]),oM 2 τ5]) .ret)
def fn60:VFn:=⟨6,XS1,[.tmp 2]⟩
def XAb:VC:=.seq (.seq (.reg [oM 11 τ4,oM 12 τ0,oD 13 (.lenS XeA),oD 14 (.bin .lss XdK XeB)]) (.cond Xe3 .skip (.exit 0))) (.seq (.block 1 (.reg [oM 17 τ3,oM 18 τ0,oM 19 τ4,oD 20 (.callF 62 [XfR,Xf7,(.const (.int .i64 2))]),oD 21 (.buildSl 1 1 [(.int .i64 0)] [(0,1,Xgy)]),oD 22 (.app 3 1 8 Xfp Xgx),oM 3 Xg2])) (.reg [oM 15 τ4,oD 16 (.bin .add Xfd (.const (.int .i64 2))),oM 4 Xfk]))
def XGY:VC:=.seq (.reg [oM 23 τ3,oM 2 XgX]) .ret
def XGh:VC:=.seq (.reg [oD 2 (.mv (.const (.slice none 0 0)))]) (.seq (.seq (.reg [oM 5 τ0,oD 6 (.lenS τ5),oD 7 (.bin .rem τ6 (.const (.int .i64 2))),oD 8 (.bin .eql τ7 (.const (.int .i64 1)))]) (.cond τ8 (.reg [oM 9 τ0,oD 10 (.bin .add τ9 (.const (.string ⟨⟨[0]⟩⟩))),oM 0 Xef]) .skip)) (.seq (.reg [oD 3 (.mv (.const (.slice none 0 0)))]) (.seq (.seq (.reg [oD 4 (.mv (.const (.int .i64 0)))]) (.block 0 (.loop XAb))) XGY)))
def fn93:VFn:=⟨24,XGh,[.tmp 2]⟩
def XOJ:VC:=.seq (.reg [oD 6 (.mv (.const (.int .i64 0)))]) (.seq (.reg [oM 10 τ0,oM 11 τ1,oM 12 τ2,oD 13 (.callF 61 [Xef,XdK,XeA]),oM 9 XeB,oE 14 0 τ9,oE 15 1 τ9,oM 7 Xe3,oM 8 Xfd]) (.seq (.reg [oM 16 τ7,oD 17 (.conv .i64 Xfk),oM 6 Xfp]) .ret))
def fn62:VFn:=⟨18,XOJ,[.tmp 6]⟩
def Xzk:VC:=.seq (.seq (.reg [oM 34 τ9,oM 35 τ2,oD 36 (.bin .lss XiM XiQ)]) (.cond Xje .skip (.exit 0))) (.seq (.block 1 (.reg [oM 39 τ8,oD 40 (.bin .mul Xjk (.const (.int .u64 256))),oM 41 τ0,oM 42 τ1,oM 43 τ9,oD 44 (.bin .add XjK XjR),oD 45 (.idxS XjM XkB),oD 46 (.conv .u64 Xkn),oD 47 (.bin .add Xkw XkG),oM 8 Xkq])) (.reg [oM 37 τ9,oD 38 (.bin .add XiK (.const (.int .i64 1))),oM 9 XjL]))
def XHo:VC:=.seq (.reg [oM 48 τ8,oM 6 XkP,oD 7 (.mv (.const (.bool true)))]) .ret
def XHW:VC:=.seq (.reg [oD 6 (.mv (.const (.int .u64 0))),oD 7 (.mv (.const (.bool false)))]) (.seq (.seq (.reg [oM 10 τ2,oD 11 (.bin .lss Xef (.const (.int .i64 1))),oM 12 XdK,oG 13 (.mv τ2) 12 false,oG 14 (.bin .gtr XeB (.const (.int .i64 8))) 12 false,oD 15 (.pick XeA (.const (.bool true)) Xe3),oM 16 Xfd,oG 17 (.mv τ1) 16 false,oG 18 (.bin .lss Xfp (.const (.int .i64 0))) 16 false,oD 19 (.pick Xfk (.const (.bool true)) XfR),oM 20 Xf7,oG 21 (.mv τ1) 20 false,oG 22 (.mv τ0) 20 false,oG 23 (.lenS Xg2) 20 false,oG 24 (.bin .gtr Xgx XgX) 20 false,oD 25 (.pick Xgy (.const (.bool true)) Xg1),oM 26 XhR,oG 27 (.mv τ2) 26 false,oG 28 (.mv τ0) 26 false,oG 29 (.lenS Xh8) 26 false,oG 30 (.mv τ1) 26 false,oG 31 (.bin .sub XhP Xiu) 26 false,oG 32 (.bin .gtr XhO Xio) 26 false,oD 33 (.pick XhB (.const (.bool true)) XiC)]) (.cond XiO (.seq (.reg [oD 6 (.mv (.const (.int .u64 0))),oD 7 (.mv (.const (.bool false)))]) .ret) .skip)) (.seq (.reg [oD 8 (.mv (.const (.int .u64 0)))]) (.seq (.seq (.reg [oD 9 (.mv (.const (.int .i64 0)))]) (.block 0 (.loop Xzk))) XHo)))
def fn61:VFn:=⟨49,XHW,[.tmp 6,.tmp 7]⟩
def Xzx:VC:=.seq (.seq (.reg [oM 5 τ4,oM 6 τ0,oD 7 (.lenL τ6),oD 8 (.bin .lss τ5 τ7)]) (.cond τ8 .skip (.exit 0))) (.seq (.block 1 (.reg [oM 11 τ3,oM 12 τ0,oM 13 τ4,oD 14 (.idxAL 1 XeA XeB),oD 15 (.load1 (.int .i64) Xe3),oD 16 (.bin .add XdK Xfd),oM 3 Xfk])) (.reg [oM 9 τ4,oD 10 (.bin .add τ9 (.const (.int .i64 1))),oM 4 Xef]))
def Xyu:VC:=.seq (.seq (.reg [oM 17 τ3,oD 18 (.bin .gtr Xfp (.const (.int .i64 65535)))]) (.cond XfR .skip (.exit 2))) (.block 3 (.reg [oM 19 τ3,oD 20 (.bin .rem Xf7 (.const (.int .i64 65536))),oM 21 τ3,oD 22 (.bin .quo Xgx (.const (.int .i64 65536))),oD 23 (.bin .add Xgy Xg2),oM 3 XgX]))
def XGo:VC:=.seq (.reg [oM 24 τ3,oM 2 Xg1]) .ret
def XGD:VC:=.seq (.block 2 (.loop Xyu)) XGo
def XFO:VC:=.seq (.reg [oD 2 (.mv (.const (.int .i64 0)))]) (.seq (.reg [oD 3 (.mv (.const (.int .i64 0)))]) (.seq (.seq (.reg [oD 4 (.mv (.const (.int .i64 0)))]) (.block 0 (.loop Xzx))) XGD))
def fn92:VFn:=⟨25,XFO,[.tmp 2]⟩
def XSz:VC:=.seq (.reg [oD 2 (.alloc [(.int .i64 0),(.bool false),(.int .u64 0),(.int .u64 0),(.bool false),(.int .u64 0),(.int .u64 0),(.int .i64 0),(.int .i64 0),(.int .i64 0),(.bool false),(.int .u32 0),(.int .u32 0),(.bool false),(.string ⟨⟨[]⟩⟩),(.int .i64 0)]),oD 3 (.mv (.const (.int .i64 0)))]) (.seq (.reg [oM 9 τ0,oD 10 (.callF 49 [τ9]),oM 8 Xef,oE 11 0 τ8,oE 12 1 τ8,oE 13 2 τ8,oE 14 3 τ8,oD 4 (.alloc [(.int .i64 0),(.bool false),(.int .u64 0),(.int .u64 0),(.bool false),(.int .u64 0),(.int .u64 0),(.int .i64 0),(.int .i64 0),(.int .i64 0),(.bool false),(.int .u32 0),(.int .u32 0),(.bool false),(.string ⟨⟨[]⟩⟩),(.int .i64 0)]),oN (.store 16 τ4 XdK),oM 5 XeA,oM 6 XeB,oM 7 Xe3]) (.seq (.reg [oD 15 (.loadN [(.int .i64),.bool,(.int .u64),(.int .u64),.bool,(.int .u64),(.int .u64),(.int .i64),(.int .i64),(.int .i64),.bool,(.int .u32),(.int .u32),.bool,.str,(.int .i64)] τ4),oM 16 τ7,oN (.store 16 τ2 Xfd),oM 3 Xfk]) .ret))
def fn25:VFn:=⟨17,XSz,[.cell 2 [(.int .i64),.bool,(.int .u64),(.int .u64),.bool,(.int .u64),(.int .u64),(.int .i64),(.int .i64),(.int .i64),.bool,(.int .u32),(.int .u32),.bool,.str,(.int .i64)] true,.tmp 3]⟩
theorem XTa:(Tryz.prog.funcs[3]?).bind (XaV Tryz.prog)=some fn3:=by kernel_rfl
theorem XSN:(Tryz.prog.funcs[6]?).bind (XaV Tryz.prog)=some fn6:=by kernel_rfl
theorem XQS:(Tryz.prog.funcs[7]?).bind (XaV Tryz.prog)=some fn7:=by kernel_rfl
theorem XS2:(Tryz.prog.funcs[8]?).bind (XaV Tryz.prog)=some fn8:=by kernel_rfl
theorem XM1:(Tryz.prog.funcs[10]?).bind (XaV Tryz.prog)=some fn10:=by kernel_rfl
theorem XJt:(Tryz.prog.funcs[28]?).bind (XaV Tryz.prog)=some fn28:=by kernel_rfl
theorem XLT:(Tryz.prog.funcs[29]?).bind (XaV Tryz.prog)=some fn29:=by kernel_rfl
theorem XMC:(Tryz.prog.funcs[50]?).bind (XaV Tryz.prog)=some fn50:=by kernel_rfl
theorem XLl:(Tryz.prog.funcs[85]?).bind (XaV Tryz.prog)=some fn85:=by kernel_rfl
theorem XDV:(Tryz.prog.funcs[113]?).bind (XaV Tryz.prog)=some XNM:=by kernel_rfl
theorem XLp:(Tryz.prog.funcs[51]?).bind (XaV Tryz.prog)=some fn51:=by kernel_rfl
theorem XLb:(Tryz.prog.funcs[52]?).bind (XaV Tryz.prog)=some fn52:=by kernel_rfl
theorem XIF:(Tryz.prog.funcs[86]?).bind (XaV Tryz.prog)=some fn86:=by kernel_rfl
theorem XKZ:(Tryz.prog.funcs[95]?).bind (XaV Tryz.prog)=some fn95:=by kernel_rfl
theorem XJT:(Tryz.prog.funcs[69]?).bind (XaV Tryz.prog)=some fn69:=by kernel_rfl
theorem XM3:(Tryz.prog.funcs[53]?).bind (XaV Tryz.prog)=some fn53:=by kernel_rfl
theorem XLS:(Tryz.prog.funcs[54]?).bind (XaV Tryz.prog)=some fn54:=by kernel_rfl
theorem XIB:(Tryz.prog.funcs[87]?).bind (XaV Tryz.prog)=some fn87:=by kernel_rfl
theorem XB9:(Tryz.prog.funcs[114]?).bind (XaV Tryz.prog)=some XQB:=by kernel_rfl
theorem XCI:(Tryz.prog.funcs[128]?).bind (XaV Tryz.prog)=some XSd:=by kernel_rfl
theorem XD0:(Tryz.prog.funcs[115]?).bind (XaV Tryz.prog)=some XNB:=by kernel_rfl
theorem XKM:(Tryz.prog.funcs[30]?).bind (XaV Tryz.prog)=some fn30:=by kernel_rfl
theorem XIl:(Tryz.prog.funcs[55]?).bind (XaV Tryz.prog)=some fn55:=by kernel_rfl
theorem XJw:(Tryz.prog.funcs[88]?).bind (XaV Tryz.prog)=some fn88:=by kernel_rfl
theorem XB7:(Tryz.prog.funcs[116]?).bind (XaV Tryz.prog)=some XSx:=by kernel_rfl
theorem XB5:(Tryz.prog.funcs[129]?).bind (XaV Tryz.prog)=some XPk:=by kernel_rfl
theorem XCU:(Tryz.prog.funcs[135]?).bind (XaV Tryz.prog)=some XP6:=by kernel_rfl
theorem XDP:(Tryz.prog.funcs[136]?).bind (XaV Tryz.prog)=some XPi:=by kernel_rfl
theorem XFb:(Tryz.prog.funcs[130]?).bind (XaV Tryz.prog)=some XQv:=by kernel_rfl
theorem XLB:(Tryz.prog.funcs[89]?).bind (XaV Tryz.prog)=some fn89:=by kernel_rfl
theorem XCf:(Tryz.prog.funcs[117]?).bind (XaV Tryz.prog)=some XTj:=by kernel_rfl
theorem XDO:(Tryz.prog.funcs[131]?).bind (XaV Tryz.prog)=some XNK:=by kernel_rfl
theorem XCX:(Tryz.prog.funcs[137]?).bind (XaV Tryz.prog)=some XRr:=by kernel_rfl
theorem XFa:(Tryz.prog.funcs[138]?).bind (XaV Tryz.prog)=some XNH:=by kernel_rfl
theorem XL4:(Tryz.prog.funcs[71]?).bind (XaV Tryz.prog)=some fn71:=by kernel_rfl
theorem XCF:(Tryz.prog.funcs[139]?).bind (XaV Tryz.prog)=some XS4:=by kernel_rfl
theorem XFi:(Tryz.prog.funcs[140]?).bind (XaV Tryz.prog)=some XON:=by kernel_rfl
theorem XBT:(Tryz.prog.funcs[142]?).bind (XaV Tryz.prog)=some XRx:=by kernel_rfl
theorem XEF:(Tryz.prog.funcs[141]?).bind (XaV Tryz.prog)=some XNN:=by kernel_rfl
theorem XCk:(Tryz.prog.funcs[132]?).bind (XaV Tryz.prog)=some XNE:=by kernel_rfl
theorem XCQ:(Tryz.prog.funcs[119]?).bind (XaV Tryz.prog)=some XPu:=by kernel_rfl
theorem XDf:(Tryz.prog.funcs[120]?).bind (XaV Tryz.prog)=some XSY:=by kernel_rfl
theorem XEE:(Tryz.prog.funcs[133]?).bind (XaV Tryz.prog)=some XPo:=by kernel_rfl
theorem XI0:(Tryz.prog.funcs[91]?).bind (XaV Tryz.prog)=some fn91:=by kernel_rfl
theorem XIo:(Tryz.prog.funcs[90]?).bind (XaV Tryz.prog)=some fn90:=by kernel_rfl
theorem XEg:(Tryz.prog.funcs[118]?).bind (XaV Tryz.prog)=some XN9:=by kernel_rfl
theorem XLC:(Tryz.prog.funcs[68]?).bind (XaV Tryz.prog)=some fn68:=by kernel_rfl
theorem XMb:(Tryz.prog.funcs[96]?).bind (XaV Tryz.prog)=some fn96:=by kernel_rfl
theorem XJV:(Tryz.prog.funcs[97]?).bind (XaV Tryz.prog)=some fn97:=by kernel_rfl
theorem XIR:(Tryz.prog.funcs[98]?).bind (XaV Tryz.prog)=some fn98:=by kernel_rfl
theorem XJ0:(Tryz.prog.funcs[31]?).bind (XaV Tryz.prog)=some fn31:=by kernel_rfl
theorem XIv:(Tryz.prog.funcs[32]?).bind (XaV Tryz.prog)=some fn32:=by kernel_rfl
theorem XJC:(Tryz.prog.funcs[57]?).bind (XaV Tryz.prog)=some fn57:=by kernel_rfl
theorem XI5:(Tryz.prog.funcs[59]?).bind (XaV Tryz.prog)=some fn59:=by kernel_rfl
theorem XLJ:(Tryz.prog.funcs[58]?).bind (XaV Tryz.prog)=some fn58:=by kernel_rfl
theorem XMB:(Tryz.prog.funcs[56]?).bind (XaV Tryz.prog)=some fn56:=by kernel_rfl
theorem XMO:(Tryz.prog.funcs[67]?).bind (XaV Tryz.prog)=some fn67:=by kernel_rfl
theorem XJL:(Tryz.prog.funcs[70]?).bind (XaV Tryz.prog)=some fn70:=by kernel_rfl
theorem XEd:(Tryz.prog.funcs[100]?).bind (XaV Tryz.prog)=some XSU:=by kernel_rfl
theorem XKL:(Tryz.prog.funcs[99]?).bind (XaV Tryz.prog)=some fn99:=by kernel_rfl
theorem XDy:(Tryz.prog.funcs[122]?).bind (XaV Tryz.prog)=some XSQ:=by kernel_rfl
theorem XEj:(Tryz.prog.funcs[134]?).bind (XaV Tryz.prog)=some XNO:=by kernel_rfl
theorem XI8:(Tryz.prog.funcs[72]?).bind (XaV Tryz.prog)=some fn72:=by kernel_rfl
theorem XIJ:(Tryz.prog.funcs[12]?).bind (XaV Tryz.prog)=some fn12:=by kernel_rfl
theorem XMx:(Tryz.prog.funcs[36]?).bind (XaV Tryz.prog)=some fn36:=by kernel_rfl
theorem XJJ:(Tryz.prog.funcs[17]?).bind (XaV Tryz.prog)=some fn17:=by kernel_rfl
theorem XJE:(Tryz.prog.funcs[37]?).bind (XaV Tryz.prog)=some fn37:=by kernel_rfl
theorem XJz:(Tryz.prog.funcs[65]?).bind (XaV Tryz.prog)=some fn65:=by kernel_rfl
theorem XH9:(Tryz.prog.funcs[66]?).bind (XaV Tryz.prog)=some fn66:=by kernel_rfl
theorem XIk:(Tryz.prog.funcs[38]?).bind (XaV Tryz.prog)=some fn38:=by kernel_rfl
theorem XJv:(Tryz.prog.funcs[16]?).bind (XaV Tryz.prog)=some fn16:=by kernel_rfl
theorem XKK:(Tryz.prog.funcs[14]?).bind (XaV Tryz.prog)=some fn14:=by kernel_rfl
theorem XKQ:(Tryz.prog.funcs[19]?).bind (XaV Tryz.prog)=some fn19:=by kernel_rfl
theorem XSL:(Tryz.prog.funcs[9]?).bind (XaV Tryz.prog)=some fn9:=by kernel_rfl
theorem XLm:(Tryz.prog.funcs[11]?).bind (XaV Tryz.prog)=some fn11:=by kernel_rfl
theorem XM0:(Tryz.prog.funcs[33]?).bind (XaV Tryz.prog)=some fn33:=by kernel_rfl
theorem XLn:(Tryz.prog.funcs[60]?).bind (XaV Tryz.prog)=some fn60:=by kernel_rfl
theorem XL5:(Tryz.prog.funcs[93]?).bind (XaV Tryz.prog)=some fn93:=by kernel_rfl
theorem XMe:(Tryz.prog.funcs[62]?).bind (XaV Tryz.prog)=some fn62:=by kernel_rfl
theorem XKg:(Tryz.prog.funcs[61]?).bind (XaV Tryz.prog)=some fn61:=by kernel_rfl
theorem XLo:(Tryz.prog.funcs[92]?).bind (XaV Tryz.prog)=some fn92:=by kernel_rfl
theorem XLq:(Tryz.prog.funcs[25]?).bind (XaV Tryz.prog)=some fn25:=by kernel_rfl
end Go.Vm.Code
