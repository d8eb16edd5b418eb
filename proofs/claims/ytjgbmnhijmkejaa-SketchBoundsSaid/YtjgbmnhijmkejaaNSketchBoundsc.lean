import Derived.Test.YtjgbmnhijmkejaaNSketchBoundsb
namespace Go.Vm
open Go Go.RowKit
def req (b:Bool) (p:Prop):Prop:=match b with|true=>p|false=>False
theorem req.intro {b:Bool} {p:Prop} (h:b=true) (k:p):req b p:=by subst h;exact k
theorem req.elim {b:Bool} {p:Prop} (h:req b p):b=true∧p:=by cases b;exact h.elim;exact ⟨rfl,h⟩
def br (b:Bool) (p q:Prop):Prop:=match b with|true=>p|false=>q
theorem br.intro {b:Bool} {p q:Prop} (h:b=true→p) (k:b=false→q):br b p q:=by cases b;exact k rfl;exact h rfl
theorem br.pos {b:Bool} {p q:Prop} (e:b=true) (h:p):br b p q:=by subst e;exact h
theorem br.neg {b:Bool} {p q:Prop} (e:b=false) (h:q):br b p q:=by subst e;exact h
def Xg7 (v:Value) (K:Value→Prop):Prop:=
 match v with
 | .bool b=>K (.bool b)
 | .int k n=>K (.int k n)
 | .float k n=>K (.float k n)
 | .string s=>K (.string s)
 | .pointer none=>K (.pointer none)
 | .pointer (some a)=>K (.pointer (some a))
 | .slice none n c=>K (.slice none n c)
 | .slice (some a) n c=>K (.slice (some a) n c)
 | .func f a b=>K (.func f a b)
 | .nilFunc=>K .nilFunc
 | .nilIface=>K .nilIface
 | .iface t v=>K (.iface t v)
 | .agg a=>K (.agg a)
 | .tuple a=>K (.tuple a)
 | .map none=>K (.map none)
 | .map (some b)=>K (.map (some b))
 | v=>K v
theorem Xg6 (v:Value) (K:Value→Prop):Xg7 v K=K v:=by
 unfold Xg7;split<;>rfl
def Xl2 (l:List Value) (K:List Value→Prop):Prop:=
 match l with
 | []=>K []
 | v::l=>Xl2 l (fun l'=>K (v::l'))
theorem Xjy:∀ (l:List Value) (K:List Value→Prop),Xl2 l K=K l
 | [],_=>rfl
 | v::l,K=>by rw [Xl2,Xjy l]
def Xqp {α:Type} (l:List (Nat×α)) (j:Nat) (K:List (Nat×α)→Prop):Prop:=
 match l with
 | []=>K []
 | (i,x)::l=>cond (Nat.beq i j) (Xqp l j K) (Xqp l j (fun l'=>K ((i,x)::l')))
theorem Xle {α:Type}:∀ (l:List (Nat×α)) (j:Nat) (K:List (Nat×α)→Prop),Xqp l j K=K (Xl3 l j)
 | [],_,_=>rfl
 | (i,x)::l,j,K=>by
   simp only [Xqp,Xl3]
   cases Nat.beq i j
   ·simp only [cond_false];rw [Xle l]
   ·simp only [cond_true];rw [Xle l]
def XoE {α:Type} (l:List (Nat×α)) (i:Nat) (x:α) (K:List (Nat×α)→Prop):Prop:=Xqp l i (fun l'=>K ((i,x)::l'))
theorem XhX {α:Type} (l:List (Nat×α)) (i:Nat) (x:α) (K:List (Nat×α)→Prop):XoE l i x K=K (Xgt l i x):=Xle _ _ _
def rd (cs:List Value) (o:Nat) (K:Value→Prop):Prop:=match cs[o]? with|some v=>Xg7 v K|none=>False
theorem rd.intro {cs:List Value} {o:Nat} {K:Value→Prop} {v:Value} (h:cs[o]?=some v) (k:Xg7 v K):rd cs o K:=by unfold rd;rw [h];exact k
theorem rd.elim {cs:List Value} {o:Nat} {K:Value→Prop} (h:rd cs o K):∃ v,cs[o]?=some v∧K v:=by
 unfold rd at h
 split at h
 ·rename_i v hv;rw [Xg6] at h;exact ⟨v,hv,h⟩
 ·exact h.elim
def rdN (cs:List Value) (o:Nat) (n:Nat) (K:List Value→Prop):Prop:=
 match n with
 | 0=>K []
 | n+1=>rd cs o fun v=>rdN cs (o+1) n fun l=>K (v::l)
theorem rdN.elim:∀ {n:Nat} {cs:List Value} {o:Nat} {K:List Value→Prop},rdN cs o n K→(o+n≤cs.length∨n=0)∧K ((cs.drop o).take n)
 | 0,cs,o,K,h=>⟨.inr rfl,by simpa [rdN] using h⟩
 | n+1,cs,o,K,h=>by
   obtain ⟨v,hv,h2⟩:=rd.elim h
   obtain ⟨h3,h4⟩:=rdN.elim h2
   have hlt:o<cs.length:=by
    rcases Nat.lt_or_ge o cs.length with h|h
    ·exact h
    ·rw [List.getElem?_eq_none h] at hv;cases hv
   refine ⟨.inl (by omega),?_⟩
   have:(cs.drop o).take (n+1)=v::(cs.drop (o+1)).take n:=by
    rw [List.drop_eq_getElem_cons hlt,List.take_succ_cons]
    rw [List.getElem?_eq_getElem hlt,Option.some.injEq] at hv
    rw [hv]
   rw [this];exact h4
abbrev CK:=Option Value→List (Option Xbe)→Option Xbe→Prop
def XyG (r:Option Xcz) (K:CK):Prop:=
 match r with
 | some ⟨some v,os,fr⟩=>Xg7 v fun v=>K (some v) os fr
 | some ⟨none,os,fr⟩=>K none os fr
 | none=>False
def Good (r:Option Xcz) (K:CK):Prop:=∃ v os fr,r=some ⟨v,os,fr⟩∧K v os fr
theorem XyG.good {r:Option Xcz} {K:CK} (h:XyG r K):Good r K:=by
 unfold XyG at h
 split at h
 ·rw [Xg6] at h;exact ⟨_,_,_,rfl,h⟩
 ·exact ⟨_,_,_,rfl,h⟩
 ·exact h.elim
def valK (v:Value) (K:CK):Prop:=Xg7 v fun v=>K (some v) [] none
def XpQ:List (Nat×Nat×Value)→List Value→(List Value→Prop)→Prop
 | [],cs,K=>K cs
 | (off,size,v)::rest,cs,K=>cond (Nat.beq (Xa4 v).length size&&Nat.ble (off+size) cs.length) (Xl2 (setAt cs off (Xa4 v)) fun cs'=>XpQ rest cs' K) False
theorem XpQ.elim:∀ {l:List (Nat×Nat×Value)} {cs:List Value} {K:List Value→Prop},XpQ l cs K→∃ cs',Xnc cs l=some cs'∧K cs'
 | [],cs,K,h=>⟨cs,rfl,h⟩
 | (off,size,v)::rest,cs,K,h=>by
   rw [XpQ] at h
   cases hb:(Nat.beq (Xa4 v).length size&&Nat.ble (off+size) cs.length)
   ·rw [hb] at h;exact h.elim
   ·rw [hb,cond_true,Xjy] at h
    obtain ⟨cs',h1,h2⟩:=XpQ.elim h
    rw [Bool.and_eq_true] at hb
    exact ⟨cs',by rw [Xnc,if_pos ⟨Nat.eq_of_beq_eq_true hb.1,Nat.le_of_ble_eq_true hb.2⟩,h1],h2⟩
def Xqh (z:List Value) (ps:List (Nat×Nat×Operand)) (vals:List Value) (objs:List Xbe) (K:CK):Prop:=
 match objs with
 | []=>cond (Nat.beq vals.length ps.length) (XpQ (XyU ps vals) z fun cs=>K (some (.agg ⟨cs⟩)) [] none) False
 | _=>False
def XmB (len sz:Nat) (z:List Value) (ps:List (Nat×Nat×Operand)) (vals:List Value) (objs:List Xbe) (top:Nat) (K:CK):Prop:=
 match objs with
 | []=>cond (Nat.beq vals.length ps.length) (XpQ (XyU ps vals) z fun cs=>K (some (.slice (some ⟨top,0,none⟩) len sz)) [] (some (.row true cs))) False
 | _=>False
theorem Xpx {z:List Value} {ps:List (Nat×Nat×Operand)} {vals:List Value} {objs:List Xbe} {K:CK} (h:Xqh z ps vals objs K):Good (XiT z ps vals objs) K:=by
 unfold Xqh at h
 split at h
 ·cases hb:Nat.beq vals.length ps.length
  ·rw [hb] at h;exact h.elim
  ·rw [hb,cond_true] at h
   obtain ⟨cs,h1,h2⟩:=h.elim
   exact ⟨_,_,_,by simp only [XiT,if_pos (Nat.eq_of_beq_eq_true hb),h1];rfl,h2⟩
 ·exact h.elim
theorem Xnm {len sz:Nat} {z:List Value} {ps:List (Nat×Nat×Operand)} {vals:List Value} {objs:List Xbe} {top:Nat} {K:CK} (h:XmB len sz z ps vals objs top K):Good (Xjf len sz z ps vals objs top) K:=by
 unfold XmB at h
 split at h
 ·cases hb:Nat.beq vals.length ps.length
  ·rw [hb] at h;exact h.elim
  ·rw [hb,cond_true] at h
   obtain ⟨cs,h1,h2⟩:=h.elim
   exact ⟨_,_,_,by simp only [Xjf,if_pos (Nat.eq_of_beq_eq_true hb),h1],h2⟩
 ·exact h.elim
def Xtq (vals:List Value) (objs:List Xbe) (K:CK):Prop:=
 match vals,objs with
 | [.bool c,a,b],[]=>br c (valK a K) (valK b K)
 | _,_=>False
def Xqn (vals:List Value) (objs:List Xbe) (K:CK):Prop:=
 match vals,objs with
 | [.pointer (some ⟨_,o,none⟩)],[.cells cs]=>rd cs o fun v=>K (some v) [some (.cells cs)] none
 | [.pointer (some ⟨_,o,none⟩)],[.row w cs]=>rd cs o fun v=>K (some v) [some (.row w cs)] none
 | [.pointer (some ⟨_,o,none⟩)],[.ty t cs]=>rd cs o fun v=>K (some v) [some (.ty t cs)] none
 | _,_=>False
def XpP (n:Nat) (vals:List Value) (objs:List Xbe) (K:CK):Prop:=
 match vals,objs with
 | [.pointer (some ⟨_,o,none⟩)],[.cells cs]=>req (decide (o+n≤cs.length)) (rdN cs o n fun l=>K (some (.agg ⟨l⟩)) [some (.cells cs)] none)
 | [.pointer (some ⟨_,o,none⟩)],[.row w cs]=>req (decide (o+n≤cs.length)) (rdN cs o n fun l=>K (some (.agg ⟨l⟩)) [some (.row w cs)] none)
 | [.pointer (some ⟨_,o,none⟩)],[.ty t cs]=>req (decide (o+n≤cs.length)) (rdN cs o n fun l=>K (some (.agg ⟨l⟩)) [some (.ty t cs)] none)
 | _,_=>False
def XpM (n:Nat) (vals:List Value) (objs:List Xbe) (K:CK):Prop:=
 match vals,objs with
 | [.pointer (some ⟨_,o,none⟩),v],[.cells cs]=>req (decide ((Xa4 v).length=n∧o+n≤cs.length)&&(Xa4 v).all Xkj) (Xl2 (setAt cs o (Xa4 v)) fun cs'=>K none [some (.cells cs')] none)
 | [.pointer (some ⟨_,o,none⟩),v],[.ty t cs]=>req (decide ((Xa4 v).length=n∧o+n≤cs.length)&&(Xa4 v).all Xkj) (Xl2 (setAt cs o (Xa4 v)) fun cs'=>K none [some (.ty t cs')] none)
 | [.pointer (some ⟨_,o,none⟩),v],[.row true cs]=>req (decide ((Xa4 v).length=n∧o+n≤cs.length)&&(Xa4 v).all Xkj) (∃ cs',setAt cs o (Xa4 v)=cs'∧K none [some (.row true cs')] none)
 | _,_=>False
def binK (op:BinOp) (x y:Value) (K:CK):Prop:=
 match x,y with
 | .int k a,.int k' b=>match op with
   | .shl=>req (decide (0≤b)) (K (some (.int k (k.wrap (a*2^(min b.toNat k.bits))))) [] none)
   | .shr=>req (decide (0≤b)) (K (some (.int k (a.fdiv (2^(min b.toNat k.bits))))) [] none)
   | .quo=>req (decide (k=k')&&!(decide (b=0))) (K (some (.int k (k.wrap (a.tdiv b)))) [] none)
   | .rem=>req (decide (k=k')&&!(decide (b=0))) (K (some (.int k (a.tmod b))) [] none)
   | op=>XyG (match Xsa op (.int k a) (.int k' b) with|some v=>val v|none=>none) K
 | .string a,.string b=>match op with
   | .add=>req (decide (a.data.toList.length+b.data.toList.length<2^63)) (K (some (.string ⟨⟨a.data.toList++b.data.toList⟩⟩)) [] none)
   | op=>XyG (match Xsa op (.string a) (.string b) with|some v=>val v|none=>none) K
 | _,_=>False
def XzP (op:BinOp) (vals:List Value) (objs:List Xbe) (K:CK):Prop:=
 match vals,objs with
 | [x,y],[]=>binK op x y K
 | _,_=>False
def Xqg (k:Nat) (neg:Bool) (vals:List Value) (objs:List Xbe) (K:CK):Prop:=
 match k,vals,objs with
 | 1,[.slice (some _) n _],[]=>req (Nat.blt 0 n) (K (some (.bool neg)) [] none)
 | k,vals,objs=>XyG (Xkw k neg vals objs) K
def XBm (vals:List Value) (objs:List Xbe) (K:CK):Prop:=
 match vals,objs with
 | [.slice none 0 _],[]=>K (some (.string ⟨⟨[]⟩⟩)) [] none
 | [.slice (some ⟨_,o,none⟩) n 1],[ob]=>match ob.cs with
    | some cs=>req (decide (o+n≤cs.length)) (∃ bs,XiF ((cs.drop o).take n)=some bs∧K (some (.string ⟨⟨bs⟩⟩)) [some ob] none)
    | none=>False
 | _,_=>False
def XBK (vals:List Value) (objs:List Xbe) (top:Nat) (K:CK):Prop:=
 match vals,objs with
 | [.string s],[]=>∃ cs',ofBytes s.data.toList=cs'∧K (some (.slice (some ⟨top,0,none⟩) s.data.toList.length 1)) [] (some (.row true cs'))
 | _,_=>False
def XtF (sz bytes:Nat) (z:List Value) (vals:List Value) (objs:List Xbe) (top:Nat) (K:CK):Prop:=
 match vals,objs with
 | [.int _ l,.int _ c],[]=>req (decide (0≤l∧l≤c∧c<2^63∧(bytes:Int)*c≤2^48))
    (∃ cs',(List.replicate c.toNat z).flatten=cs'∧K (some (.slice (some ⟨top,0,none⟩) l.toNat sz)) [] (some (.row true cs')))
 | _,_=>False
def XmG (n:Nat) (hasLo hasHi:Bool) (bs:List Value) (K:Nat→Nat→Prop):Prop:=
 match hasLo,hasHi,bs with
 | false,false,[]=>K 0 n
 | true,false,[.int _ l]=>req (decide (0≤l∧l≤n)) (K l.toNat n)
 | false,true,[.int _ h]=>req (decide (0≤h∧h≤n)) (K 0 h.toNat)
 | true,true,[.int _ l,.int _ h]=>req (decide (0≤h∧h≤n∧0≤l∧l≤h.toNat)) (K l.toNat h.toNat)
 | _,_,_=>False
theorem XmG.elim {n:Nat} {hl hh:Bool} {bs:List Value} {K:Nat→Nat→Prop} (h:XmG n hl hh bs K):∃ l u,XvK n hl hh bs=some (l,u)∧K l u:=by
 unfold XmG at h
 split at h
 ·exact ⟨_,_,rfl,h⟩
 ·obtain ⟨h1,h2⟩:=h.elim;exact ⟨_,_,by simp only [XvK];rw [if_pos (of_decide_eq_true h1)],h2⟩
 ·obtain ⟨h1,h2⟩:=h.elim;exact ⟨_,_,by simp only [XvK];rw [if_pos (of_decide_eq_true h1)],h2⟩
 ·obtain ⟨h1,h2⟩:=h.elim;exact ⟨_,_,by simp only [XvK];rw [if_pos (of_decide_eq_true h1)],h2⟩
 ·exact h.elim
def Xow (bl bh:Bool) (vals:List Value) (objs:List Xbe) (K:CK):Prop:=
 match vals,objs with
 | .string s::bs,[]=>XmG s.data.toList.length bl bh bs fun l h=>K (some (.string ⟨⟨(s.data.toList.drop l).take (h - l)⟩⟩)) [] none
 | _,_=>False
def Xox (sz:Nat) (bl bh:Bool) (vals:List Value) (objs:List Xbe) (K:CK):Prop:=
 match vals,objs with
 | .slice none 0 c::bs,[]=>XmG 0 bl bh bs fun _ _=>K (some (.slice none 0 c)) [] none
 | .slice (some ⟨b,o,none⟩) n sz'::bs,[]=>req (Nat.beq sz sz') (XmG n bl bh bs fun l h=>K (some (.slice (some ⟨b,o+l*sz,none⟩) (h - l) sz)) [] none)
 | _,_=>False
def Xou (n sz:Nat) (bl bh:Bool) (vals:List Value) (objs:List Xbe) (K:CK):Prop:=
 match vals,objs with
 | .pointer (some ⟨b,o,none⟩)::bs,[ob]=>match ob.cs with
   | some cs=>req (decide (o+n*sz≤cs.length)) (XmG n bl bh bs fun l h=>K (some (.slice (some ⟨b,o+l*sz,none⟩) (h - l) sz)) [some ob] none)
   | none=>False
 | _,_=>False
def Xqj (n sz:Nat) (vals:List Value) (objs:List Xbe) (K:CK):Prop:=
 match vals,objs with
 | [.pointer (some ⟨b,o,none⟩),.int _ i],[]=>req (decide (0≤i∧i<n)) (K (some (.pointer (some ⟨b,o+i.toNat*sz,none⟩))) [] none)
 | _,_=>False
def XpJ (sz:Nat) (vals:List Value) (objs:List Xbe) (K:CK):Prop:=
 match vals,objs with
 | [.slice (some ⟨b,o,none⟩) n _,.int _ i],[]=>req (decide (0≤i∧i<n)) (K (some (.pointer (some ⟨b,o+i.toNat*sz,none⟩))) [] none)
 | _,_=>False
def Xp7 (n:Nat) (vals:List Value) (objs:List Xbe) (K:CK):Prop:=
 match vals,objs with
 | [.agg ⟨cs⟩,.int _ i],[]=>req (decide (0≤i∧i<n)) (rd cs i.toNat fun v=>K (some v) [] none)
 | _,_=>False
def Xp8 (n sz:Nat) (vals:List Value) (objs:List Xbe) (K:CK):Prop:=
 match vals,objs with
 | [.agg ⟨cs⟩,.int _ i],[]=>req (decide (0≤i∧i<n∧i.toNat*sz+sz≤cs.length)) (rdN cs (i.toNat*sz) sz fun l=>K (some (.agg ⟨l⟩)) [] none)
 | _,_=>False
def rdS (s:List UInt8) (i:Nat) (K:UInt8→Prop):Prop:=match s[i]? with|some b=>K b|none=>False
theorem rdS.intro {s:List UInt8} {i:Nat} {K:UInt8→Prop} {b:UInt8} (h:s[i]?=some b) (k:K b):rdS s i K:=by unfold rdS;rw [h];exact k
theorem rdS.elim {s:List UInt8} {i:Nat} {K:UInt8→Prop} (h:rdS s i K):∃ b,s[i]?=some b∧K b:=by
 unfold rdS at h;split at h
 ·exact ⟨_,by assumption,h⟩
 ·exact h.elim
def Xvm (vals:List Value) (objs:List Xbe) (K:CK):Prop:=
 match vals,objs with
 | [.string s,.int _ i],[]=>req (decide (0≤i)) (rdS s.data.toList i.toNat fun b=>K (some (.int .u8 b.toNat)) [] none)
 | _,_=>False
def XAx (vals:List Value) (objs:List Xbe) (K:CK):Prop:=
 match vals,objs with
 | [.string s,.int .u8 c],[]=>K (some (.int .i64 (ixB s.data.toList c))) [] none
 | _,_=>False
def Xuc (sz:Nat) (y:Value) (objs:List Xbe) (K:List Value→Nat→Prop):Prop:=
 match y,objs with
 | .string s,_=>K (ofBytes s.data.toList) s.data.toList.length
 | .slice none 0 _,_=>K [] 0
 | .slice (some a) n _,[o]=>match o.cs with
   | some cs=>req (decide (a.off+n*sz≤cs.length)) (K ((cs.drop a.off).take (n*sz)) n)
   | none=>False
 | _,_=>False
theorem Xuc.elim {sz:Nat} {y:Value} {objs:List Xbe} {K:List Value→Nat→Prop} (h:Xuc sz y objs K):∃ c n,XhY sz y objs=some c∧Xk7 y=some n∧K c n:=by
 unfold Xuc at h
 split at h
 ·exact ⟨_,_,rfl,rfl,h⟩
 ·exact ⟨_,_,rfl,rfl,h⟩
 ·split at h
  ·rename_i cs hcs
   obtain ⟨h1,h2⟩:=h.elim
   exact ⟨_,_,by simp only [XhY,hcs];rw [if_pos (of_decide_eq_true h1)],rfl,h2⟩
  ·exact h.elim
 ·exact h.elim
def XBO (t sz bytes:Nat) (vals:List Value) (objs:List Xbe) (top:Nat) (K:CK):Prop:=
 match vals,objs with
 | [.slice none 0 _,y],objs=>Xuc sz y objs fun new m=>req (decide (m*bytes≤2^47∧new.length=m*sz)) (∃ cs' n',new=cs'∧m=n'∧K (some (.slice (some ⟨top,0,none⟩) n' sz)) (objs.map some) (some (.row true cs')))
 | [.slice (some ⟨b,o,none⟩) n sz',y],.row true cs::objs=>Xuc sz y objs fun new m=>
    req (decide ((n+m)*bytes≤2^47∧o+n*sz≤cs.length∧sz=sz'∧new.length=m*sz)&&new.all Xkj&&(Xfk y).all (fun c=>!Nat.beq b c))
     (∃ cs' n',(cs.drop o).take (n*sz)++new=cs'∧n+m=n'∧K (some (.slice (some ⟨top,0,none⟩) n' sz)) (none::objs.map some) (some (.row true cs')))
 | [.func (.method _) ⟨[.slice none 0 e]⟩ ⟨[]⟩, y], objs => Xuc sz y objs fun new m => req (decide (m * bytes ≤ 2 ^ 47 ∧ new.length = m * sz ∧ sz = 1 ∧ e = t)) (∃ cs' n', new = cs' ∧ m = n' ∧ K (some (.func (.method "") ⟨[.slice (some ⟨top, 0, none⟩) n' 1]⟩ ⟨[]⟩)) (objs.map some) (some (.ty t cs')))
 | [.func (.method _) ⟨[.slice (some ⟨b,0,none⟩) n 1]⟩ ⟨[]⟩,y],.ty e cs::objs=>Xuc sz y objs fun new m=>
    req (decide ((n+m)*bytes≤2^47∧n≤cs.length∧sz=1∧e=t∧new.length=m)&&new.all Xkj&&(Xfk y).all (fun c=>!Nat.beq b c))
     (∃ cs' n', cs.take n ++ new = cs' ∧ n + m = n' ∧ K (some (.func (.method "") ⟨[.slice (some ⟨top, 0, none⟩) n' 1]⟩ ⟨[]⟩)) (none :: objs.map some) (some (.ty t cs')))
 | _,_=>False
def Xt2 (t:Nat) (vals:List Value) (objs:List Xbe) (K:CK):Prop:=
 match vals,objs with
 | [.pointer none,.int .i64 0],[]=>K (some (.string ⟨⟨[]⟩⟩)) [] none
 | [.func (.method _) ⟨[.slice (some ⟨_,0,none⟩) n 1]⟩ ⟨[.bool true]⟩,.int .i64 m],[.ty e cs]=>req (decide (e=t∧m=n∧n≤cs.length∧n<2^63))
    (∃ bs,XiF (cs.take n)=some bs∧K (some (.string ⟨⟨bs⟩⟩)) [some (.row false cs)] none)
 | _,_=>False
def Xz2 (sz:Nat) (vals:List Value) (objs:List Xbe) (K:CK):Prop:=
 match vals,objs with
 | [.slice none 0 _],[]=>K (some (.tuple ⟨[]⟩)) [] none
 | [.slice (some ⟨_,o,none⟩) n sz'],[.row true cs]=>req (decide (sz=sz'∧o+n*sz=cs.length)) (∃ cs',cs.take o=cs'∧K (some (.tuple ⟨[]⟩)) [some (.row true cs')] none)
 | _,_=>False
def XpH (vals:List Value) (objs:List Xbe) (K:CK):Prop:=
 match vals,objs with
 | [.pointer (some ⟨_,0,none⟩)],[.siter s pos]=>
    br (decide (pos<s.size)) (K (some (.tuple #[.bool true,.int .i64 pos,.int .i32 (Utf8.decode s pos).1])) [some (.siter s (pos+(Utf8.decode s pos).2))] none)
     (K (some (.tuple #[.bool false])) [some (.siter s pos)] none)
 | _,_=>False
def Xtd (os:List (Nat×SK)) (z:Value) (ok:Bool) (vals:List Value) (objs:List Xbe) (K:CK):Prop:=
 match vals,objs with
 | [.map none,.agg ⟨k⟩],[]=>req (Xbs k k os).isSome (K (some (cond ok (.tuple ⟨[z,.bool false]⟩) z)) [] none)
 | [.map (some _),.agg ⟨k⟩],[.mp cs]=>∃ v b,XsF os z k cs=some (v,b)∧K (some (cond ok (.tuple ⟨[v,.bool b]⟩) v)) [some (.mp cs)] none
 | _,_=>False
def Xtw (os:List (Nat×SK)) (vals:List Value) (objs:List Xbe) (K:CK):Prop:=
 match vals,objs with
 | [.map (some _),.agg ⟨k⟩,x],[.mp cs]=>∃ cs',Xsy os k x cs=some cs'∧K none [some (.mp cs')] none
 | _,_=>False
def XuF (os:List (Nat×SK)) (vals:List Value) (objs:List Xbe) (K:CK):Prop:=
 match vals,objs with
 | [.map none,.agg ⟨k⟩],[]=>req (Xbs k k os).isSome (K (some (.tuple ⟨[]⟩)) [] none)
 | [.map (some _),.agg ⟨k⟩],[.mp cs]=>∃ cs',Xsn os k cs=some cs'∧K (some (.tuple ⟨[]⟩)) [some (.mp cs')] none
 | _,_=>False
def Xt3 (vals:List Value) (objs:List Xbe) (K:CK):Prop:=
 match vals,objs with
 | [.map none],[]=>K (some (.int .i64 0)) [] none
 | [.map (some _)],[.mp cs]=>∃ n:Nat,cs.length=2*n∧K (some (.int .i64 n)) [some (.mp cs)] none
 | _,_=>False
def XAJ (op:VOp) (vals:List Value) (objs:List Xbe) (top:Nat) (K:CK):Prop:=
 match op with
 | .pick _ _ _=>Xtq vals objs K
 | .load1 _ _=>Xqn vals objs K
 | .loadN ks _=>XpP ks.length vals objs K
 | .store n _ _=>XpM n vals objs K
 | .bin op _ _=>XzP op vals objs K
 | .isNil k neg _=>Xqg k neg vals objs K
 | .b2s _=>XBm vals objs K
 | .s2b _=>XBK vals objs top K
 | .mkSl sz bytes z _ _=>XtF sz bytes z vals objs top K
 | .sliceS _ lo hi=>Xow lo.isSome hi.isSome vals objs K
 | .sliceL sz _ lo hi=>Xox sz lo.isSome hi.isSome vals objs K
 | .sliceA n sz _ lo hi=>Xou n sz lo.isSome hi.isSome vals objs K
 | .idxAA n sz _ _=>Xqj n sz vals objs K
 | .idxAL sz _ _=>XpJ sz vals objs K
 | .idxV1 n _ _=>Xp7 n vals objs K
 | .idxVN n sz _ _=>Xp8 n sz vals objs K
 | .idxS _ _=>Xvm vals objs K
 | .ixb _ _=>XAx vals objs K
 | .app t sz bytes _ _=>XBO t sz bytes vals objs top K
 | .ustr t _ _=>Xt2 t vals objs K
 | .clr sz _=>Xz2 sz vals objs K
 | .build z ps=>Xqh z ps vals objs K
 | .buildSl len sz z ps=>XmB len sz z ps vals objs top K
 | .nextS _=>XpH vals objs K
 | .mget os z ok _ _=>Xtd os z ok vals objs K
 | .mput os _ _ _=>Xtw os vals objs K
 | .mdel os _ _=>XuF os vals objs K
 | .lenM _=>Xt3 vals objs K
 | op=>XyG (core op vals objs top) K
theorem XpL {vals:List Value} {objs:List Xbe} {K:CK} (h:Xtq vals objs K):Good (Xpf vals objs) K:=by
 unfold Xtq at h
 split at h
 ·rename_i c _ _
  cases c
  ·simp only [br,valK,Xg6] at h;exact ⟨_,_,_,rfl,h⟩
  ·simp only [br,valK,Xg6] at h;exact ⟨_,_,_,rfl,h⟩
 ·exact h.elim
theorem Xpq {vals:List Value} {objs:List Xbe} {K:CK} (h:Xqn vals objs K):Good (Xh8 vals objs) K:=by
 unfold Xqn at h
 split at h
 ·obtain ⟨v,h1,h2⟩:=rd.elim h;exact ⟨_,_,_,by simp only [Xh8,Xbe.cs,h1],h2⟩
 ·obtain ⟨v,h1,h2⟩:=rd.elim h;exact ⟨_,_,_,by simp only [Xh8,Xbe.cs,h1],h2⟩
 ·obtain ⟨v,h1,h2⟩:=rd.elim h;exact ⟨_,_,_,by simp only [Xh8,Xbe.cs,h1],h2⟩
 ·exact h.elim
theorem Xo4 {n:Nat} {vals:List Value} {objs:List Xbe} {K:CK} (h:XpP n vals objs K):Good (Xic n vals objs) K:=by
 unfold XpP at h
 split at h
 ·obtain ⟨h1,h2⟩:=req.elim h
  obtain ⟨_,h3⟩:=rdN.elim h2
  exact ⟨_,_,_,by simp only [Xic,Xbe.cs,if_pos (of_decide_eq_true h1)],h3⟩
 ·obtain ⟨h1,h2⟩:=req.elim h
  obtain ⟨_,h3⟩:=rdN.elim h2
  exact ⟨_,_,_,by simp only [Xic,Xbe.cs,if_pos (of_decide_eq_true h1)],h3⟩
 ·obtain ⟨h1,h2⟩:=req.elim h
  obtain ⟨_,h3⟩:=rdN.elim h2
  exact ⟨_,_,_,by simp only [Xic,Xbe.cs,if_pos (of_decide_eq_true h1)],h3⟩
 ·exact h.elim
theorem Xpm {n:Nat} {vals:List Value} {objs:List Xbe} {K:CK} (h:XpM n vals objs K):Good (XiS n vals objs) K:=by
 unfold XpM at h
 split at h
 ·obtain ⟨h1,h2⟩:=req.elim h
  rw [Xjy] at h2
  simp only [Bool.and_eq_true,decide_eq_true_eq] at h1
  exact ⟨_,_,_,by simp only [XiS,Xbe.cs,Xbe.wr];rw [if_pos ⟨h1.1.1,h1.1.2,h1.2⟩],h2⟩
 ·obtain ⟨h1,h2⟩:=req.elim h
  rw [Xjy] at h2
  simp only [Bool.and_eq_true,decide_eq_true_eq] at h1
  exact ⟨_,_,_,by simp only [XiS,Xbe.cs,Xbe.wr];rw [if_pos ⟨h1.1.1,h1.1.2,h1.2⟩],h2⟩
 ·obtain ⟨h1,cs',rfl,h2⟩:=req.elim h
  simp only [Bool.and_eq_true,decide_eq_true_eq] at h1
  exact ⟨_,_,_,by simp only [XiS,Xbe.cs,Xbe.wr];rw [if_pos ⟨h1.1.1,h1.1.2,h1.2⟩],h2⟩
 ·exact h.elim
theorem Xsx {op:BinOp} {vals:List Value} {objs:List Xbe} {K:CK} (h:XzP op vals objs K):Good (XpO op vals objs) K:=by
 unfold XzP at h
 split at h
 ·rename_i x y
  have key:∀ v,Xsa op x y=some v→K (some v) [] none→Good (XpO op [x,y] []) K:=fun v h1 h2=>⟨_,_,_,by simp only [XpO,h1,val],h2⟩
  unfold binK at h
  split at h
  ·split at h
   ·obtain ⟨h1,h2⟩:=req.elim h
    exact key _ (by simp only [Xsa];rw [if_pos (of_decide_eq_true h1)]) h2
   ·obtain ⟨h1,h2⟩:=req.elim h
    exact key _ (by simp only [Xsa];rw [if_pos (of_decide_eq_true h1)]) h2
   ·obtain ⟨h1,h2⟩:=req.elim h
    simp only [Bool.and_eq_true,decide_eq_true_eq,Bool.not_eq_true',decide_eq_false_iff_not] at h1
    exact key _ (by simp only [Xsa];rw [if_pos h1.1,if_neg h1.2]) h2
   ·obtain ⟨h1,h2⟩:=req.elim h
    simp only [Bool.and_eq_true,decide_eq_true_eq,Bool.not_eq_true',decide_eq_false_iff_not] at h1
    exact key _ (by simp only [Xsa];rw [if_pos h1.1,if_neg h1.2]) h2
   ·exact h.good
  ·split at h
   ·obtain ⟨h1,h2⟩:=req.elim h
    exact key _ (by simp only [Xsa];rw [if_pos (of_decide_eq_true h1)]) h2
   ·exact h.good
  ·exact h.elim
 ·exact h.elim
theorem XoX {k:Nat} {neg:Bool} {vals:List Value} {objs:List Xbe} {K:CK} (h:Xqg k neg vals objs K):Good (Xkw k neg vals objs) K:=by
 unfold Xqg at h
 split at h
 ·rename_i n _
  obtain ⟨h1,h2⟩:=req.elim h
  cases n with
  | zero=>simp at h1
  | succ n=>exact ⟨_,_,_,by simp only [Xkw,XyQ,val];cases neg<;>rfl,h2⟩
 ·exact h.good
theorem Xsv {vals:List Value} {objs:List Xbe} {K:CK} (h:XBm vals objs K):Good (Xov vals objs) K:=by
 unfold XBm at h
 split at h
 ·exact ⟨_,_,_,rfl,h⟩
 ·split at h
  ·rename_i cs hcs
   obtain ⟨h1,bs,h2,h3⟩:=req.elim h
   exact ⟨_,_,_,by simp only [Xov,hcs];rw [if_pos (of_decide_eq_true h1)];simp only [h2],h3⟩
  ·exact h.elim
 ·exact h.elim
theorem XsL {vals:List Value} {objs:List Xbe} {top:Nat} {K:CK} (h:XBK vals objs top K):Good (XxM vals objs top) K:=by
 unfold XBK at h
 split at h
 ·obtain ⟨cs',rfl,h⟩:=h;exact ⟨_,_,_,rfl,h⟩
 ·exact h.elim
theorem XpX {sz bytes:Nat} {z:List Value} {vals:List Value} {objs:List Xbe} {top:Nat} {K:CK} (h:XtF sz bytes z vals objs top K):Good (XoK sz bytes z vals objs top) K:=by
 unfold XtF at h
 split at h
 ·obtain ⟨h1,cs',rfl,h2⟩:=req.elim h
  exact ⟨_,_,_,by simp only [XoK];rw [if_pos (of_decide_eq_true h1)],h2⟩
 ·exact h.elim
theorem XoB {bl bh:Bool} {vals:List Value} {objs:List Xbe} {K:CK} (h:Xow bl bh vals objs K):Good (Xj7 bl bh vals objs) K:=by
 unfold Xow at h
 split at h
 ·obtain ⟨l,u,h1,h2⟩:=XmG.elim h
  exact ⟨_,_,_,by simp only [Xj7,h1,val],h2⟩
 ·exact h.elim
theorem Xon {sz:Nat} {bl bh:Bool} {vals:List Value} {objs:List Xbe} {K:CK} (h:Xox sz bl bh vals objs K):Good (XiJ sz bl bh vals objs) K:=by
 unfold Xox at h
 split at h
 ·obtain ⟨l,u,h1,h2⟩:=XmG.elim h
  exact ⟨_,_,_,by simp only [XiJ,h1,val],h2⟩
 ·obtain ⟨h0,h⟩:=req.elim h
  obtain ⟨l,u,h1,h2⟩:=XmG.elim h
  exact ⟨_,_,_,by simp only [XiJ];rw [if_pos (Nat.eq_of_beq_eq_true h0)];simp only [h1,val],h2⟩
 ·exact h.elim
theorem Xot {n sz:Nat} {bl bh:Bool} {vals:List Value} {objs:List Xbe} {K:CK} (h:Xou n sz bl bh vals objs K):Good (Xh0 n sz bl bh vals objs) K:=by
 unfold Xou at h
 split at h
 ·split at h
  ·rename_i cs hcs
   obtain ⟨h0,h⟩:=req.elim h
   obtain ⟨l,u,h1,h2⟩:=XmG.elim h
   exact ⟨_,_,_,by simp only [Xh0,hcs];rw [if_pos (of_decide_eq_true h0)];simp only [h1],h2⟩
  ·exact h.elim
 ·exact h.elim
theorem Xpa {n sz:Nat} {vals:List Value} {objs:List Xbe} {K:CK} (h:Xqj n sz vals objs K):Good (XlB n sz vals objs) K:=by
 unfold Xqj at h
 split at h
 ·obtain ⟨h1,h2⟩:=req.elim h
  exact ⟨_,_,_,by simp only [XlB,val];rw [if_pos (of_decide_eq_true h1)],h2⟩
 ·exact h.elim
theorem Xpn {sz:Nat} {vals:List Value} {objs:List Xbe} {K:CK} (h:XpJ sz vals objs K):Good (XlA sz vals objs) K:=by
 unfold XpJ at h
 split at h
 ·obtain ⟨h1,h2⟩:=req.elim h
  exact ⟨_,_,_,by simp only [XlA,val];rw [if_pos (of_decide_eq_true h1)],h2⟩
 ·exact h.elim
theorem Xo9 {n:Nat} {vals:List Value} {objs:List Xbe} {K:CK} (h:Xp7 n vals objs K):Good (XlE n vals objs) K:=by
 unfold Xp7 at h
 split at h
 ·obtain ⟨h1,h2⟩:=req.elim h
  obtain ⟨v,h3,h4⟩:=rd.elim h2
  exact ⟨_,_,_,by simp only [XlE];rw [if_pos (of_decide_eq_true h1)];simp only [h3,val],h4⟩
 ·exact h.elim
theorem XoQ {n sz:Nat} {vals:List Value} {objs:List Xbe} {K:CK} (h:Xp8 n sz vals objs K):Good (XlH n sz vals objs) K:=by
 unfold Xp8 at h
 split at h
 ·obtain ⟨h1,h2⟩:=req.elim h
  obtain ⟨_,h3⟩:=rdN.elim h2
  exact ⟨_,_,_,by simp only [XlH,val];rw [if_pos (of_decide_eq_true h1)],h3⟩
 ·exact h.elim
theorem XpU {vals:List Value} {objs:List Xbe} {K:CK} (h:Xvm vals objs K):Good (Xnx vals objs) K:=by
 unfold Xvm at h
 split at h
 ·obtain ⟨h1,h2⟩:=req.elim h
  obtain ⟨v,h3,h4⟩:=rdS.elim h2
  exact ⟨_,_,_,by simp only [Xnx];rw [if_pos (of_decide_eq_true h1)];simp only [h3,val],h4⟩
 ·exact h.elim
theorem XsN {vals:List Value} {objs:List Xbe} {K:CK} (h:XAx vals objs K):Good (Xu9 vals objs) K:=by
 unfold XAx at h
 split at h
 ·exact ⟨_,_,_,rfl,h⟩
 ·exact h.elim
theorem XpV {t:Nat} {vals:List Value} {objs:List Xbe} {K:CK} (h:Xt2 t vals objs K):Good (Xnr t vals objs) K:=by
 unfold Xt2 at h
 split at h
 ·exact ⟨_,_,_,rfl,h⟩
 ·obtain ⟨h1,bs,h2,h3⟩:=req.elim h
  exact ⟨_,_,_,by simp only [Xnr];rw [if_pos (of_decide_eq_true h1)];simp only [h2],h3⟩
 ·exact h.elim
theorem XsU {sz:Nat} {vals:List Value} {objs:List Xbe} {K:CK} (h:Xz2 sz vals objs K):Good (XsM sz vals objs) K:=by
 unfold Xz2 at h
 split at h
 ·exact ⟨_,_,_,rfl,h⟩
 ·obtain ⟨h1,cs',rfl,h3⟩:=req.elim h
  exact ⟨_,_,_,by simp only [XsM];rw [if_pos (of_decide_eq_true h1)],h3⟩
 ·exact h.elim
theorem Xsc {t sz bytes:Nat} {vals:List Value} {objs:List Xbe} {top:Nat} {K:CK} (h:XBO t sz bytes vals objs top K):Good (Xqi t sz bytes vals objs top) K:=by
 unfold XBO at h
 split at h
 ·obtain ⟨c,m,h1,h2,h3⟩:=Xuc.elim h
  obtain ⟨h4,cs',n',rfl,rfl,h5⟩:=req.elim h3
  exact ⟨_,_,_,by simp only [Xqi,h1,h2];rw [if_pos (of_decide_eq_true h4)],h5⟩
 ·obtain ⟨c,m,h1,h2,h3⟩:=Xuc.elim h
  obtain ⟨h4,cs',n',rfl,rfl,h5⟩:=req.elim h3
  simp only [Bool.and_eq_true,decide_eq_true_eq] at h4
  exact ⟨_,_,_,by simp only [Xqi,h1,h2];rw [if_pos ⟨h4.1.1.1,h4.1.1.2.1,h4.1.1.2.2.1,h4.1.1.2.2.2,h4.1.2,h4.2⟩],h5⟩
 ·obtain ⟨c,m,h1,h2,h3⟩:=Xuc.elim h
  obtain ⟨h4,cs',n',rfl,rfl,h5⟩:=req.elim h3
  exact ⟨_,_,_,by simp only [Xqi,h1,h2,bSl];rw [if_pos (of_decide_eq_true h4)],h5⟩
 ·obtain ⟨c,m,h1,h2,h3⟩:=Xuc.elim h
  obtain ⟨h4,cs',n',rfl,rfl,h5⟩:=req.elim h3
  simp only [Bool.and_eq_true,decide_eq_true_eq] at h4
  exact ⟨_,_,_,by simp only [Xqi,h1,h2,bSl];rw [if_pos ⟨h4.1.1.1,h4.1.1.2.1,h4.1.1.2.2.1,h4.1.1.2.2.2.1,h4.1.1.2.2.2.2,h4.1.2,h4.2⟩],h5⟩
 ·exact h.elim
theorem Xo5 {vals:List Value} {objs:List Xbe} {K:CK} (h:XpH vals objs K):Good (XkI vals objs) K:=by
 unfold XpH at h
 split at h
 ·rename_i s pos
  cases hb:decide (pos<s.size) with
  | true=>rw [hb] at h;exact ⟨_,_,_,by simp only [XkI];rw [if_pos (of_decide_eq_true hb)],h⟩
  | false=>rw [hb] at h;exact ⟨_,_,_,by simp only [XkI];rw [if_neg (of_decide_eq_false hb)],h⟩
 ·exact h.elim
theorem Xp1 {os:List (Nat×SK)} {z:Value} {ok:Bool} {vals:List Value} {objs:List Xbe} {K:CK} (h:Xtd os z ok vals objs K):Good (Xlb os z ok vals objs) K:=by
 unfold Xtd at h
 split at h
 ·obtain ⟨h1,h2⟩:=h.elim
  exact ⟨_,_,_,by simp only [Xlb];rw [if_pos h1];cases ok<;>rfl,h2⟩
 ·obtain ⟨v,b,h1,h2⟩:=h
  exact ⟨_,_,_,by simp only [Xlb,h1];cases ok<;>rfl,h2⟩
 ·exact h.elim
theorem Xp0 {os:List (Nat×SK)} {vals:List Value} {objs:List Xbe} {K:CK} (h:Xtw os vals objs K):Good (XnE os vals objs) K:=by
 unfold Xtw at h
 split at h
 ·obtain ⟨cs',h1,h2⟩:=h
  exact ⟨_,_,_,by simp only [XnE,h1],h2⟩
 ·exact h.elim
theorem Xqd {os:List (Nat×SK)} {vals:List Value} {objs:List Xbe} {K:CK} (h:XuF os vals objs K):Good (Xnb os vals objs) K:=by
 unfold XuF at h
 split at h
 ·obtain ⟨h1,h2⟩:=h.elim
  exact ⟨_,_,_,by simp only [Xnb];rw [if_pos h1];rfl,h2⟩
 ·obtain ⟨cs',h1,h2⟩:=h
  exact ⟨_,_,_,by simp only [Xnb,h1],h2⟩
 ·exact h.elim
theorem XpE {vals:List Value} {objs:List Xbe} {K:CK} (h:Xt3 vals objs K):Good (XlS vals objs) K:=by
 unfold Xt3 at h
 split at h
 ·exact ⟨_,_,_,rfl,h⟩
 ·obtain ⟨n,h1,h2⟩:=h
  exact ⟨_,_,_,by simp only [XlS,h1];rw [show 2*n/2=n by omega],h2⟩
 ·exact h.elim
theorem XAJ.good {op:VOp} {vals:List Value} {objs:List Xbe} {top:Nat} {K:CK} (h:XAJ op vals objs top K):Good (core op vals objs top) K:=by
 cases op with
 | pick=>exact XpL h
 | load1=>exact Xpq h
 | loadN=>exact Xo4 h
 | store=>exact Xpm h
 | bin=>exact Xsx h
 | isNil=>exact XoX h
 | b2s=>exact Xsv h
 | s2b=>exact XsL h
 | mkSl=>exact XpX h
 | sliceS=>exact XoB h
 | sliceL=>exact Xon h
 | sliceA=>exact Xot h
 | idxAA=>exact Xpa h
 | idxAL=>exact Xpn h
 | idxV1=>exact Xo9 h
 | idxVN=>exact XoQ h
 | idxS=>exact XpU h
 | ixb=>exact XsN h
 | app=>exact Xsc h
 | ustr=>exact XpV h
 | clr=>exact XsU h
 | build=>exact Xpx h
 | buildSl=>exact Xnm h
 | nextS=>exact Xo5 h
 | mget=>exact Xp1 h
 | mput=>exact Xp0 h
 | mdel=>exact Xqd h
 | lenM=>exact XpE h
 | _=>exact XyG.good h
def Xl4 (h:Hp) (is:List Nat) (os:List (Option Xbe)) (K:Hp→Prop):Prop:=
 match is,os with
 | i::is,some o::os=>XoE h i o fun h'=>Xl4 h' is os K
 | i::is,none::os=>Xqp h i fun h'=>Xl4 h' is os K
 | _,_=>K h
theorem XmY:∀ (is:List Nat) (os:List (Option Xbe)) (h:Hp) (K:Hp→Prop),Xl4 h is os K=K (Xf6 h is os)
 | [],_,h,K=>by simp [Xl4,Xf6]
 | i::is,[],h,K=>by simp [Xl4,Xf6]
 | i::is,some o::os,h,K=>by rw [Xl4,XhX,XmY is os];simp [Xf6]
 | i::is,none::os,h,K=>by rw [Xl4,Xle,XmY is os];simp [Xf6]
def opK (op:VOp) (vals:List Value) (h:Hp) (top:Nat) (K:Option Value→Hp→Nat→Prop):Prop:=
 match XhE h (needs op vals) with
 | none=>False
 | some objs=>XAJ op vals objs top fun v os fr=>Xl4 h (needs op vals) os fun h'=>match fr with
   | none=>K v h' top
   | some o=>XoE h' top o fun h''=>K v h'' (top+1)
theorem opK.elim {op:VOp} {vals:List Value} {h:Hp} {top:Nat} {K:Option Value→Hp→Nat→Prop} (hk:opK op vals h top K):∃ v h' top',XbV op vals h top=some (v,h',top')∧K v h' top':=by
 unfold opK at hk
 split at hk
 ·exact hk.elim
 ·rename_i objs hobjs
  obtain ⟨v,os,fr,hc,hk⟩:=hk.good
  rw [XmY] at hk
  cases fr with
  | none=>exact ⟨v,_,_,by simp only [XbV,hobjs,hc],hk⟩
  | some o=>simp only [XhX] at hk;exact ⟨v,_,_,by simp only [XbV,hobjs,hc],hk⟩
def XoI (n:Nat) (e:Env) (d:Option Nat) (v:Value) (K:Env→Prop):Prop:=
 match d with
 | some i=>cond (Nat.blt i n) (XoE e i v K) (K e)
 | none=>K e
theorem Xhk (n:Nat) (e:Env) (d:Option Nat) (v:Value) (K:Env→Prop):XoI n e d v K=K (Xm5 n e d v):=by
 cases d with
 | none=>rfl
 | some i=>simp only [XoI,Xm5];cases Nat.blt i n<;>simp [XhX]
def Xw7 (i:Nat) (vs:List Value) (K:Env→Prop):Prop:=
 match vs with
 | []=>K []
 | v::vs=>Xw7 (i+1) vs fun e=>K ((i,v)::e)
theorem Xqv:∀ (vs:List Value) (i:Nat) (K:Env→Prop),Xw7 i vs K=K (XlI i vs)
 | [],_,_=>rfl
 | v::vs,i,K=>by rw [Xw7,Xqv vs];rfl
def Xmw (F:Fns) (f:Nat) (args:List Value) (K:Xbo→Prop):Prop:=
 match F f with
 | some ⟨nt,body,_⟩=>cond (Nat.ble args.length nt) (Xw7 0 args fun e=>K ⟨f,nt,e,[.code body],[],false,none⟩) False
 | none=>False
theorem Xmw.elim {F:Fns} {f:Nat} {args:List Value} {K:Xbo→Prop} (h:Xmw F f args K):∃ c,Xh7 F f args=some c∧K c:=by
 unfold Xmw at h
 split at h
 ·rename_i nt body rs hf
  cases hb:Nat.ble args.length nt with
  | false=>rw [hb] at h;exact h.elim
  | true=>
    rw [hb,cond_true,Xqv] at h
    exact ⟨_,by simp only [Xh7,hf];rw [if_pos (Nat.le_of_ble_eq_true hb)],h⟩
 ·exact h.elim
def Xos (u:Xbo) (v:Value) (K:Xbo→Prop):Prop:=
 match u with
 | ⟨fn,nt,env,.inReg (⟨dst,_,_⟩::rest)::k,defers,ret,round⟩=>XoI nt env dst v fun e=>K ⟨fn,nt,e,.inReg rest::k,defers,ret,round⟩
 | ⟨fn,nt,env,.inRangeFunc l::k,defers,ret,round⟩=>K ⟨fn,nt,env,.endRangeFunc l::k,defers,ret,round⟩
 | _=>False
theorem Xos.elim {u:Xbo} {v:Value} {K:Xbo→Prop} (h:Xos u v K):∃ u',finish u v=some u'∧K u':=by
 unfold Xos at h
 split at h
 ·rw [Xhk] at h;exact ⟨_,rfl,h⟩
 ·exact ⟨_,rfl,h⟩
 ·exact h.elim
def XtU (e:Env) (h:Hp) (rs:List XvO) (K:List Value→Prop):Prop:=
 match rs with
 | []=>K []
 | .tmp t::rs=>match XaY e t with
   | some v=>XtU e h rs fun vs=>K (v::vs)
   | none=>False
 | .cell t ks agg::rs=>match XaY e t with
   | some (.pointer (some ⟨b,o,none⟩))=>match XaY h b with
     | some ob=>match ob.cs with
       | some cs=>cond agg (req (decide (o+ks.length≤cs.length)) (rdN cs o ks.length fun l=>XtU e h rs fun vs=>K (.agg ⟨l⟩::vs))) (rd cs o fun v=>XtU e h rs fun vs=>K (v::vs))
       | none=>False
     | none=>False
   | _=>False
theorem XtU.elim {e:Env} {h:Hp}:∀ {rs:List XvO} {K:List Value→Prop},XtU e h rs K→∃ vs,XmE e h rs=some vs∧K vs
 | [],K,hk=>⟨[],rfl,hk⟩
 | .tmp t::rs,K,hk=>by
   simp only [XtU] at hk
   split at hk
   ·rename_i v hv
    obtain ⟨vs,h1,h2⟩:=XtU.elim hk
    exact ⟨v::vs,by simp only [XmE,resV,hv,h1],h2⟩
   ·exact hk.elim
 | .cell t ks agg::rs,K,hk=>by
   simp only [XtU] at hk
   split at hk
   ·rename_i b o hp
    split at hk
    ·rename_i ob hob
     split at hk
     ·rename_i cs hcs
      cases agg with
      | true=>
        obtain ⟨h1,h2⟩:=req.elim hk
        obtain ⟨_,h3⟩:=rdN.elim h2
        obtain ⟨vs,h4,h5⟩:=XtU.elim h3
        exact ⟨_,by simp only [XmE,resV,hp,hob,hcs,↓reduceIte,if_pos (of_decide_eq_true h1),h4],h5⟩
      | false=>
        obtain ⟨v,h1,h2⟩:=rd.elim hk
        obtain ⟨vs,h4,h5⟩:=XtU.elim h2
        exact ⟨_,by simp only [XmE,resV,hp,hob,hcs,Bool.false_eq_true,↓reduceIte,h1,h4],h5⟩
     ·exact hk.elim
    ·exact hk.elim
   ·exact hk.elim
def Xvf (o:Xbe) (K:Xbe→Prop):Prop:=
 match o with
 | .cells cs=>K (.cells cs)
 | .row own cs=>K (.row own cs)
 | .ty t cs=>K (.ty t cs)
 | .siter s p=>K (.siter s p)
 | .mp cs=>K (.mp cs)
 | .loop l=>K (.loop l)
 | .marks=>K .marks
theorem XoJ (o:Xbe) (K:Xbe→Prop):Xvf o K=K o:=by cases o<;>rfl
def Xru (h:Hp) (K:Hp→Prop):Prop:=
 match h with
 | []=>K []
 | (i,o)::l=>Xvf o fun o=>Xru l fun l=>K ((i,o)::l)
theorem XmW:∀ (h:Hp) (K:Hp→Prop),Xru h K=K h
 | [],K=>rfl
 | (i,o)::l,K=>by rw [Xru,XoJ,XmW l]
structure Xbn (s:Xc3) (vals:List Value) (h:Hp) (top:Nat) (K:Value→Hp→Nat→Prop):Prop where
 out:match XhB s vals h top with
 | some (v,h',top')=>Xg7 v fun v=>Xru h' fun h'=>K v h' top'
 | none=>False
theorem Xbn.elim {s:Xc3} {vals:List Value} {h:Hp} {top:Nat} {K:Value→Hp→Nat→Prop} (hk:Xbn s vals h top K):∃ v h' top',XhB s vals h top=some (v,h',top')∧K v h' top':=by
 replace hk:=hk.out
 split at hk
 ·rw [Xg6,XmW] at hk;exact ⟨_,_,_,by assumption,hk⟩
 ·exact hk.elim
def Xix (F:Fns) (S:XkL) (o:Xcv) (rest:List Xcv) (k:List Xf4) (fn nt:Nat) (env:Env) (defers:List Nat) (round:Option Nat) (up:List Xbo) (h:Hp) (top:Nat) (K:VM→Prop):Prop:=
 match o with
 | ⟨dst,op,g⟩=>match XkV env op.ops with
   | none=>False
   | some vals=>match op with
     | .callF f _=>match S f with
       | some s=>Xbn s vals h top fun v h' top'=>XoI nt env dst v fun e=>K ⟨⟨fn,nt,e,.inReg rest::k,defers,false,round⟩,up,h',top'⟩
       | none=>Xmw F f vals fun c=>K ⟨c,⟨fn,nt,env,.inReg (⟨dst,op,g⟩::rest)::k,defers,false,round⟩::up,h,top⟩
     | .callV _ _=>match vals with
       | .func (.func f) ⟨first⟩ ⟨caps⟩::args=>match S f with
         | some s=>Xbn s (first++args++caps) h top fun v h' top'=>XoI nt env dst v fun e=>K ⟨⟨fn,nt,e,.inReg rest::k,defers,false,round⟩,up,h',top'⟩
         | none=>Xmw F f (first++args++caps) fun c=>K ⟨c,⟨fn,nt,env,.inReg (⟨dst,op,g⟩::rest)::k,defers,false,round⟩::up,h,top⟩
       | .func (.yield l) ⟨[]⟩ ⟨[]⟩::args=>match XkS l args h with
         | some c=>K ⟨c,⟨fn,nt,env,.inReg (⟨dst,op,g⟩::rest)::k,defers,false,round⟩::up,h,top⟩
         | none=>False
       | _=>False
     | op=>opK op vals h top fun v h' top'=>match v with
       | some v=>XoI nt env dst v fun e=>K ⟨⟨fn,nt,e,.inReg rest::k,defers,false,round⟩,up,h',top'⟩
       | none=>XoI nt env dst Xg9 fun e=>K ⟨⟨fn,nt,e,.inReg rest::k,defers,false,round⟩,up,h',top'⟩
theorem Xix.elim {F:Fns} {S:XkL} {o:Xcv} {rest:List Xcv} {k:List Xf4} {fn nt:Nat} {env:Env} {todo:List Xf4} {defers:List Nat} {round:Option Nat} {up:List Xbo} {h:Hp} {top:Nat} {K:VM→Prop}
 (hk:Xix F S o rest k fn nt env defers round up h top K):∃ vm',XoS F S o rest k ⟨fn,nt,env,todo,defers,false,round⟩ up h top=some vm'∧K vm':=by
 obtain ⟨dst,op,g⟩:=o
 unfold Xix at hk
 unfold XoS
 simp only at hk ⊢
 split at hk
 ·exact hk.elim
 ·rename_i vals hv
  simp only [hv]
  split at hk
  ·rename_i f xs
   split at hk
   ·rename_i s hs
    obtain ⟨v,h',top',h1,h2⟩:=hk.elim
    rw [Xhk] at h2
    exact ⟨_,by simp only [hs,h1],h2⟩
   ·rename_i hs
    obtain ⟨c,h1,h2⟩:=hk.elim
    exact ⟨_,by simp only [hs,h1],h2⟩
  ·split at hk
   ·split at hk
    ·rename_i s hs
     obtain ⟨v,h',top',h1,h2⟩:=hk.elim
     rw [Xhk] at h2
     exact ⟨_,by simp only [hs,h1],h2⟩
    ·rename_i hs
     obtain ⟨c,h1,h2⟩:=hk.elim
     exact ⟨_,by simp only [hs,h1],h2⟩
   ·split at hk
    ·rename_i c hc
     exact ⟨_,by simp only [hc],hk⟩
    ·exact hk.elim
   ·exact hk.elim
  ·rename_i hne1 hne2
   obtain ⟨v,h',top',h1,h2⟩:=hk.elim
   refine ⟨⟨⟨fn,nt,Xm5 nt env dst (v.getD Xg9),.inReg rest::k,defers,false,round⟩,up,h',top'⟩,?_,?_⟩
   ·split
    ·exact absurd rfl (hne1 _ _)
    ·exact absurd rfl (hne2 _ _)
    ·simp only [h1]
   ·cases v with
    | none=>simp only [Xhk] at h2;exact h2
    | some v=>simp only [Xhk] at h2;exact h2
def Xm0 (e:Env) (d:Nat) (x:Bool) (K:Env→Prop):Prop:=
 match e with
 | []=>K []
 | (i,v)::l=>cond (Nat.beq i d) (K ((i,.bool x)::l)) (Xm0 l d x fun l'=>K ((i,v)::l'))
theorem Xlf:∀ {e:Env} {d:Nat} {x:Bool} {K:Env→Prop},XaY e d=some (.bool x)→Xm0 e d x K=K e
 | [],d,x,K,h=>rfl
 | (i,v)::l,d,x,K,h=>by
   simp only [XaY] at h
   simp only [Xm0]
   cases hb:Nat.beq i d with
   | true=>rw [hb,cond_true,Option.some.injEq] at h;subst h;rfl
   | false=>rw [hb,cond_false] at h;simp only [cond_false];rw [Xlf h]
def Xhg (l:Nat) (jump:Option VC) (up:List Xbo) (h:Hp) (top:Nat) (K:VM→Prop):Prop:=
 match Xhe l jump up h top with
 | some ⟨u,us,h',top'⟩=>K ⟨u,us,h',top'⟩
 | none=>False
theorem Xhg.elim {l:Nat} {jump:Option VC} {up:List Xbo} {h:Hp} {top:Nat} {K:VM→Prop} (hk:Xhg l jump up h top K):∃ vm',Xhe l jump up h top=some vm'∧K vm':=by
 unfold Xhg at hk
 split at hk
 ·exact ⟨_,by assumption,hk⟩
 ·exact hk.elim
def Xkv (l:List Nat) (K:List Nat→Prop):Prop:=
 match l with
 | []=>K []
 | n::l=>Xkv l (fun l'=>K (n::l'))
theorem Xim:∀ (l:List Nat) (K:List Nat→Prop),Xkv l K=K l
 | [],_=>rfl
 | v::l,K=>by rw [Xkv,Xim l]
def XjL (S:XkL) (nt:Nat) (o:Xcv) (e:Env) (h:Hp) (m:Nat) (K:Env→Hp→Nat→List Nat→List Nat→Prop):Prop:=
 match o with
 | ⟨dst,op,_⟩=>match XkV e op.ops with
   | none=>False
   | some vals=>match op with
     | .callF f _=>match S f with
       | some s=>Xbn s vals h m fun v h' m'=>XoI nt e dst v fun e=>Xkv (XcM (XiQ h s.modes vals)) fun r=>Xkv (Xkz (XiQ h s.modes vals)) fun w=>K e h' m' r w
       | none=>False
     | .callV _ _=>match vals with
       | .func (.func f) ⟨first⟩ ⟨caps⟩::args=>match S f with
         | some s=>Xbn s (first++args++caps) h m fun v h' m'=>XoI nt e dst v fun e=>Xkv (XcM (XiQ h s.modes (first++args++caps))) fun r=>Xkv (Xkz (XiQ h s.modes (first++args++caps))) fun w=>K e h' m' r w
         | none=>False
       | _=>False
     | op=>opK op vals h m fun v h' m'=>match v with
       | some v=>XoI nt e dst v fun e=>K e h' m' (needs op vals) (cond (Xul op) (needs op vals) [])
       | none=>XoI nt e dst Xg9 fun e=>K e h' m' (needs op vals) (cond (Xul op) (needs op vals) [])
theorem XjL.elim {S:XkL} {nt:Nat} {o:Xcv} {e:Env} {h:Hp} {m:Nat} {K:Env→Hp→Nat→List Nat→List Nat→Prop} (hk:XjL S nt o e h m K) (hw:XdP e o.g=some true) :
 ∃ e' h' m' r w,stepD S nt o e h m=some (e',h',m',r,w)∧K e' h' m' r w:=by
 obtain ⟨dst,op,g⟩:=o
 unfold XjL at hk
 simp only at hk hw
 unfold stepD
 simp only [hw]
 split at hk
 ·exact hk.elim
 ·rename_i vals hv
  simp only [hv]
  split at hk
  ·split at hk
   ·rename_i s hs
    obtain ⟨v,h',m',h1,h2⟩:=hk.elim
    rw [Xhk,Xim,Xim] at h2
    exact ⟨_,_,_,_,_,by simp only [hs,h1],h2⟩
   ·exact hk.elim
  ·split at hk
   ·split at hk
    ·rename_i s hs
     obtain ⟨v,h',m',h1,h2⟩:=hk.elim
     rw [Xhk,Xim,Xim] at h2
     exact ⟨_,_,_,_,_,by simp only [hs,h1],h2⟩
    ·exact hk.elim
   ·exact hk.elim
  ·rename_i hne1 hne2
   obtain ⟨v,h',m',h1,h2⟩:=hk.elim
   refine ⟨Xm5 nt e dst (v.getD Xg9),h',m',needs op vals,cond (Xul op) (needs op vals) [],?_,?_⟩
   ·split
    ·exact absurd rfl (hne1 _ _)
    ·exact absurd rfl (hne2 _ _)
    ·simp only [h1]
   ·cases v with
    | none=>simp only [Xhk] at h2;exact h2
    | some v=>simp only [Xhk] at h2;exact h2
def XrY (S:XkL) (nt:Nat) (o:Xcv) (e:Env) (h:Hp) (m:Nat) (K:Env→Hp→Nat→List Nat→List Nat→Prop):Prop:=
 match o with
 | ⟨dst,op,none⟩=>XjL S nt ⟨dst,op,none⟩ e h m K
 | ⟨dst,op,some (d,x)⟩=>match XaY e d with
   | some (.bool b)=>cond x
      (br b (Xm0 e d true fun e=>XjL S nt ⟨dst,op,some (d,x)⟩ e h m K) (Xm0 e d false fun e=>XoI nt e dst Xg9 fun e=>K e h m [] []))
      (br b (Xm0 e d true fun e=>XoI nt e dst Xg9 fun e=>K e h m [] []) (Xm0 e d false fun e=>XjL S nt ⟨dst,op,some (d,x)⟩ e h m K))
   | some (.tuple ⟨[]⟩)=>XoI nt e dst Xg9 fun e=>K e h m [] []
   | _=>False
def Xsu (S:XkL) (nt:Nat) (os:List Xcv) (e:Env) (h:Hp) (m:Nat) (K:List Fp→Env→Hp→Nat→Prop):Prop:=
 match os with
 | []=>K [] e h m
 | o::os=>XrY S nt o e h m fun e1 h1 m1 r w=>Xsu S nt os e1 h1 (m1+1) fun fps e h m'=>K ((r,w++List.range' m (m1 - m))::fps) e h m'
theorem br.cases {b:Bool} {p q:Prop} (h:br b p q):(b=true∧p)∨(b=false∧q):=by cases b;exact .inr ⟨rfl,h⟩;exact .inl ⟨rfl,h⟩
theorem XrY.elim {S:XkL} {nt:Nat} {o:Xcv} {e:Env} {h:Hp} {m:Nat} {K:Env→Hp→Nat→List Nat→List Nat→Prop} (hk:XrY S nt o e h m K) :
 ∃ e' h' m' r w,stepD S nt o e h m=some (e',h',m',r,w)∧K e' h' m' r w:=by
 obtain ⟨dst,op,g⟩:=o
 cases g with
 | none=>exact XjL.elim (o:=⟨dst,op,none⟩) hk rfl
 | some p=>
   obtain ⟨d,x⟩:=p
   simp only [XrY] at hk
   have skip:XdP e (some (d,x))=some false→(XoI nt e dst Xg9 fun e=>K e h m [] [])→∃ e' h' m' r w,stepD S nt ⟨dst,op,some (d,x)⟩ e h m=some (e',h',m',r,w)∧K e' h' m' r w:=fun hw hk=>by
    rw [Xhk] at hk
    exact ⟨_,_,_,_,_,by simp only [stepD,hw],hk⟩
   split at hk
   ·rename_i b hb
    cases x with
    | true=>
      rw [cond_true] at hk
      rcases hk.cases with ⟨rfl,hk⟩|⟨rfl,hk⟩<;>rw [Xlf hb] at hk
      ·exact XjL.elim (show XjL S nt ⟨dst,op,some (d,true)⟩ e h m K from hk) (by simp [XdP,hb])
      ·exact skip (by simp [XdP,hb]) hk
    | false=>
      rw [cond_false] at hk
      rcases hk.cases with ⟨rfl,hk⟩|⟨rfl,hk⟩<;>rw [Xlf hb] at hk
      ·exact skip (by simp [XdP,hb]) hk
      ·exact XjL.elim (show XjL S nt ⟨dst,op,some (d,false)⟩ e h m K from hk) (by simp [XdP,hb])
   ·rename_i hb
    exact skip (by simp [XdP,hb]) hk
   ·exact hk.elim
theorem Xsu.elim {S:XkL} {nt:Nat}:∀ {os:List Xcv} {e:Env} {h:Hp} {m:Nat} {K:List Fp→Env→Hp→Nat→Prop},Xsu S nt os e h m K→∃ fps e' h' m',Xyj S nt os e h m=some (fps,e',h',m')∧K fps e' h' m'
 | [],e,h,m,K,hk=>⟨_,_,_,_,rfl,hk⟩
 | o::os,e,h,m,K,hk=>by
   simp only [Xsu] at hk
   obtain ⟨e1,h1,m1,r,w,g1,g2⟩:=hk.elim
   obtain ⟨fps,e',h',m',k1,k2⟩:=Xsu.elim g2
   exact ⟨_,_,_,_,by simp only [Xyj,g1,k1],k2⟩
def Xus (F:Fns) (S:XkL) (f:Nat) (lp:Bool) (L:VM→Prop) (E:Value→Hp→Nat→Prop) (K:VM→Prop):VM→Prop
 | ⟨⟨fn,nt,env,todo,defers,ret,round⟩,up,h,top⟩=>
   match ret with
   | true=>match defers with
     | r::ds=>match XaY h r with
       | some .marks=>Xqp h r fun h'=>K ⟨⟨fn,nt,env,todo,ds,true,round⟩,up,h',top⟩
       | _=>False
     | []=>match F fn with
       | some ⟨_,_,rs⟩=>XtU env h rs fun vs=>match up with
         | u::us=>Xg7 (Xyn vs) fun v=>Xos u v fun u'=>K ⟨u',us,h,top⟩
         | []=>cond (Nat.beq fn f) (Xg7 (Xyn vs) fun v=>E v h top) False
       | none=>False
   | false=>match todo with
     | []=>match round with
       | none=>K ⟨⟨fn,nt,env,[],defers,true,none⟩,up,h,top⟩
       | some l=>Xhg l none up h top K
     | .code .ret::k=>match round with
       | none=>K ⟨⟨fn,nt,env,.code .ret::k,defers,true,none⟩,up,h,top⟩
       | some l=>Xhg l (some .ret) up h top K
     | .code .skip::k=>K ⟨⟨fn,nt,env,k,defers,false,round⟩,up,h,top⟩
     | .inScope::k=>K ⟨⟨fn,nt,env,k,defers,false,round⟩,up,h,top⟩
     | .code (.scope b)::k=>K ⟨⟨fn,nt,env,.code b::.inScope::k,defers,false,round⟩,up,h,top⟩
     | .inBlock _::k=>K ⟨⟨fn,nt,env,k,defers,false,round⟩,up,h,top⟩
     | .code (.seq a b)::k=>K ⟨⟨fn,nt,env,.code a::.code b::k,defers,false,round⟩,up,h,top⟩
     | .code (.cond c a b)::k=>match Xlr env c with
       | some (.bool x)=>br x (K ⟨⟨fn,nt,env,.code a::k,defers,false,round⟩,up,h,top⟩) (K ⟨⟨fn,nt,env,.code b::k,defers,false,round⟩,up,h,top⟩)
       | _=>False
     | .code (.block id b)::k=>K ⟨⟨fn,nt,env,.code b::.inBlock id::k,defers,false,round⟩,up,h,top⟩
     | .code (.loop b)::k=>cond lp (L ⟨⟨fn,nt,env,.code b::.inLoop b::k,defers,false,round⟩,up,h,top⟩) (K ⟨⟨fn,nt,env,.code b::.inLoop b::k,defers,false,round⟩,up,h,top⟩)
     | .inLoop b::k=>cond lp (L ⟨⟨fn,nt,env,.code b::.inLoop b::k,defers,false,round⟩,up,h,top⟩) (K ⟨⟨fn,nt,env,.code b::.inLoop b::k,defers,false,round⟩,up,h,top⟩)
     | .code (.exit id)::k=>match exitTo id k with
       | some k'=>K ⟨⟨fn,nt,env,k',defers,false,round⟩,up,h,top⟩
       | none=>match round with
         | none=>False
         | some l=>Xhg l (some (.exit id)) up h top K
     | .code (.reg ops)::k=>K ⟨⟨fn,nt,env,.inReg ops::k,defers,false,round⟩,up,h,top⟩
     | .code .stuck::_=>False
     | .code (.regD ops ord post)::k=>Xsu S nt ops env h top fun fps e h m=>req (Xlw fps ord) (K ⟨⟨fn,nt,e,.inReg post::k,defers,false,round⟩,up,h,m⟩)
     | .inReg []::k=>K ⟨⟨fn,nt,env,k,defers,false,round⟩,up,h,top⟩
     | .inReg (⟨dst,op,none⟩::rest)::k=>Xix F S ⟨dst,op,none⟩ rest k fn nt env defers round up h top K
     | .inReg (⟨dst,op,some (d,w)⟩::rest)::k=>match XaY env d with
       | some (.bool b)=>cond w
          (br b (Xm0 env d true fun env=>Xix F S ⟨dst,op,some (d,w)⟩ rest k fn nt env defers round up h top K) (Xm0 env d false fun env=>XoI nt env dst Xg9 fun e=>K ⟨⟨fn,nt,e,.inReg rest::k,defers,false,round⟩,up,h,top⟩))
          (br b (Xm0 env d true fun env=>XoI nt env dst Xg9 fun e=>K ⟨⟨fn,nt,e,.inReg rest::k,defers,false,round⟩,up,h,top⟩) (Xm0 env d false fun env=>Xix F S ⟨dst,op,some (d,w)⟩ rest k fn nt env defers round up h top K))
       | some (.tuple ⟨[]⟩)=>XoI nt env dst Xg9 fun e=>K ⟨⟨fn,nt,e,.inReg rest::k,defers,false,round⟩,up,h,top⟩
       | _=>False
     | .code (.rangeF f ps asg body)::k=>match Xlr env f,round with
       | some (.func (.func g) ⟨first⟩ ⟨caps⟩),none=>
         Xmw F g (first++[.func (.yield (top+1)) #[] #[]]++caps) fun c=>XoE h top .marks fun h1=>XoE h1 (top+1) (.loop ⟨.ready,none,fn,nt,env,ps,asg,body,top⟩) fun h2=>
          K ⟨c,⟨fn,nt,env,.inRangeFunc (top+1)::k,top::defers,false,none⟩::up,h2,top+2⟩
       | some (.func (.func g) ⟨first⟩ ⟨caps⟩),some l0=>match XaY h l0 with
         | some (.loop r0)=>Xmw F g (first++[.func (.yield top) #[] #[]]++caps) fun c=>XoE h top (.loop ⟨.ready,none,fn,nt,env,ps,asg,body,r0.defers⟩) fun h2=>
            K ⟨c,⟨fn,nt,env,.inRangeFunc top::k,defers,false,some l0⟩::up,h2,top+1⟩
         | _=>False
       | _,_=>False
     | .inRangeFunc _::_=>False
     | .endRangeFunc l::k=>match XaY h l with
       | some (.loop ⟨st,pend,fn',nt',env',ps,asg,body,ds⟩)=>match st with
         | .busy=>False
         | _=>XoE h l (.loop ⟨.exhausted,pend,fn',nt',env',ps,asg,body,ds⟩) fun h'=>match pend with
           | some c=>K ⟨⟨fn,nt,env,.code c::k,defers,false,round⟩,up,h',top⟩
           | none=>K ⟨⟨fn,nt,env,k,defers,false,round⟩,up,h',top⟩
       | _=>False
     | .beginRound::k=>match round with
       | some l=>match XaY h l with
         | some (.loop ⟨st,pend,fn',nt',env',ps,asg,body,ds⟩)=>match st with
           | .ready=>XoE h l (.loop ⟨.busy,pend,fn',nt',env',ps,asg,body,ds⟩) fun h'=>K ⟨⟨fn,nt,env,k,defers,false,some l⟩,up,h',top⟩
           | _=>False
         | _=>False
       | none=>False
section
variable {P:Program} {F:Fns} {S:XkL}
theorem Xve (hF:Xjx P F) (hS:XaL P S) {f base:Nat} {lp:Bool} {R:Value→Hp→Nat→Prop} {K:VM→Prop} (hK:∀ vm,K vm→Xa0 P f base vm R) {vm:VM}
 (h:Xus F S f lp (fun vm=>Xa0 P f base vm R) R K vm):Xa0 P f base vm R:=by
 obtain ⟨⟨fn,nt,env,todo,defers,ret,round⟩,up,H,top⟩:=vm
 unfold Xus at h
 simp only at h
 have go:∀ vm',XcH F S ⟨⟨fn,nt,env,todo,defers,ret,round⟩,up,H,top⟩=some vm'→K vm'→Xa0 P f base ⟨⟨fn,nt,env,todo,defers,ret,round⟩,up,H,top⟩ R:=
  fun vm' h1 h2=>Xa0.next hF hS h1 (hK _ h2)
 split at h
 ·split at h
  ·split at h
   ·rename_i hm
    rw [Xle] at h
    exact go _ (by simp only [XcH,hm]) h
   ·exact h.elim
  ·split at h
   ·rename_i nt' b' rs hf
    obtain ⟨vs,h1,h2⟩:=h.elim
    split at h2
    ·rw [Xg6] at h2
     obtain ⟨u',h3,h4⟩:=h2.elim
     exact go _ (by simp only [XcH,hf,h1,h3]) h4
    ·cases hb:Nat.beq fn f with
     | false=>rw [hb] at h2;exact h2.elim
     | true=>
       rw [hb,cond_true,Xg6] at h2
       have:=Nat.eq_of_beq_eq_true hb
       subst this
       exact Xa0.stop hF hf h1 h2
   ·exact h.elim
 ·split at h
  ·split at h
   ·exact go _ (by simp only [XcH]) h
   ·obtain ⟨vm',h1,h2⟩:=h.elim
    exact go _ (by simp only [XcH,h1]) h2
  ·split at h
   ·exact go _ (by simp only [XcH]) h
   ·obtain ⟨vm',h1,h2⟩:=h.elim
    exact go _ (by simp only [XcH,h1]) h2
  ·exact go _ (by simp only [XcH]) h
  ·exact go _ (by simp only [XcH]) h
  ·exact go _ (by simp only [XcH]) h
  ·exact go _ (by simp only [XcH]) h
  ·exact go _ (by simp only [XcH]) h
  ·split at h
   ·rename_i x hx
    rcases h.cases with ⟨rfl,h⟩|⟨rfl,h⟩
    ·exact go _ (by simp only [XcH,hx];rfl) h
    ·exact go _ (by simp only [XcH,hx];rfl) h
   ·exact h.elim
  ·exact go _ (by simp only [XcH]) h
  ·cases lp
   ·exact go _ (by simp only [XcH]) h
   ·exact Xa0.next hF hS (vm':=_) (by simp only [XcH]) h
  ·cases lp
   ·exact go _ (by simp only [XcH]) h
   ·exact Xa0.next hF hS (vm':=_) (by simp only [XcH]) h
  ·split at h
   ·rename_i k' hk'
    exact go _ (by simp only [XcH,hk']) h
   ·rename_i hk'
    split at h
    ·exact h.elim
    ·obtain ⟨vm',h1,h2⟩:=h.elim
     exact go _ (by simp only [XcH,hk',h1]) h2
  ·exact go _ (by simp only [XcH]) h
  ·exact h.elim
  ·obtain ⟨fps,e',h',m',g1,g2⟩:=h.elim
   obtain ⟨g3,g4⟩:=g2.elim
   exact go _ (by simp only [XcH,g1,g3]) g4
  ·exact go _ (by simp only [XcH]) h
  ·obtain ⟨vm',h1,h2⟩:=Xix.elim (todo:=_) h
   exact go _ (by simp only [XcH,XdP];exact h1) h2
  ·split at h
   ·rename_i b hb
    rename_i w _ _ _
    cases w
    ·rcases h.cases with ⟨rfl,h'⟩|⟨rfl,h'⟩<;>rw [Xlf hb] at h'
     ·rw [Xhk] at h'
      replace h:=h'
      exact go _ (by simp only [XcH,XdP,hb];rfl) h
     ·obtain ⟨vm',h1,h2⟩:=Xix.elim (todo:=_) h'
      exact go _ (by simp only [XcH,XdP,hb];exact h1) h2
    ·rcases h.cases with ⟨rfl,h'⟩|⟨rfl,h'⟩<;>rw [Xlf hb] at h'
     ·obtain ⟨vm',h1,h2⟩:=Xix.elim (todo:=_) h'
      exact go _ (by simp only [XcH,XdP,hb];exact h1) h2
     ·rw [Xhk] at h'
      replace h:=h'
      exact go _ (by simp only [XcH,XdP,hb];rfl) h
   ·rename_i hb
    rw [Xhk] at h
    exact go _ (by simp only [XcH,XdP,hb]) h
   ·exact h.elim
  ·split at h
   ·rename_i hfv
    obtain ⟨c,h1,h2⟩:=h.elim
    rw [XhX,XhX] at h2
    exact go _ (by simp only [XcH,hfv,h1]) h2
   ·rename_i hfv
    split at h
    ·rename_i r0 hr0
     obtain ⟨c,h1,h2⟩:=h.elim
     rw [XhX] at h2
     exact go _ (by simp only [XcH,hfv,hr0,h1]) h2
    ·exact h.elim
   ·exact h.elim
  ·exact h.elim
  ·split at h
   ·rename_i hl
    split at h
    ·exact h.elim
    ·rename_i hb
     rw [XhX] at h
     split at h
     ·rename_i st _ _ _ _ _ _ _ _ _ _
      exact go _ (by simp only [XcH,hl];cases st<;>first|exact absurd rfl hb|rfl) h
     ·rename_i st _ _ _ _ _ _ _ _ _
      exact go _ (by simp only [XcH,hl];cases st<;>first|exact absurd rfl hb|rfl) h
   ·exact h.elim
  ·split at h
   ·split at h
    ·rename_i hl
     split at h
     ·rw [XhX] at h
      exact go _ (by simp only [XcH,hl]) h
     ·exact h.elim
    ·exact h.elim
   ·exact h.elim
def ev (F:Fns) (S:XkL) (f:Nat) (lp:Bool) (L:VM→Prop) (E:Value→Hp→Nat→Prop):Nat→VM→Prop
 | 0,vm=>L vm
 | n+1,vm=>Xus F S f lp L E (ev F S f lp L E n) vm
theorem Xa1 (hF:Xjx P F) (hS:XaL P S) {f base:Nat} (lp:Bool) {R:Value→Hp→Nat→Prop}:∀ (n:Nat) {vm:VM},ev F S f lp (fun vm=>Xa0 P f base vm R) R n vm→Xa0 P f base vm R
 | 0,_,h=>h
 | n+1,_,h=>Xve hF hS (fun _ h=>Xa1 hF hS lp n h) h
end
end Go.Vm
namespace Go.Vm
open Go
def XCN (P:Program):List (Nat×VFn)→Prop
 | []=>True
 | (i,vf)::l=>(P.funcs[i]?).bind (Xco P)=some vf∧XCN P l
theorem Xjx.Xbk {P:Program}:∀ {l:List (Nat×VFn)},XCN P l→Xjx P (XaY l)
 | [],_,f,vf,h=>by simp [XaY] at h
 | (i,v)::l,hl,f,vf,h=>by
   obtain ⟨h1,h2⟩:=hl
   simp only [XaY] at h
   cases hb:Nat.beq i f with
   | true=>
     rw [hb,cond_true,Option.some.injEq] at h
     subst h
     have:=Nat.eq_of_beq_eq_true hb
     subst this
     cases hf:P.funcs[i]? with
     | none=>simp [hf] at h1
     | some fn=>rw [hf,Option.bind_some] at h1;exact ⟨fn,rfl,h1⟩
   | false=>
     rw [hb,cond_false] at h
     exact Xjx.Xbk h2 f vf h
theorem XaL.none {P:Program}:XaL P (fun _=>none):=fun _ _ h=>by cases h
end Go.Vm
namespace Go.Vm
open Go
def subE (e:Env):Env→Prop
 | []=>True
 | (i,v)::l=>XaY e i=some v∧subE e l
theorem XrR {e:Env}:∀ {l:Env},subE e l→∀ i v,XaY l i=some v→XaY e i=some v
 | [],_,i,v,h=>by simp [XaY] at h
 | (j,u)::l,h,i,v,hv=>by
   obtain ⟨h1,h2⟩:=h
   simp only [XaY] at hv
   cases hb:Nat.beq j i with
   | true=>
     rw [hb,cond_true,Option.some.injEq] at hv
     subst hv
     have:=Nat.eq_of_beq_eq_true hb;subst this
     exact h1
   | false=>
     rw [hb,cond_false] at hv
     exact XrR h2 i v hv
theorem Xa0.env {P:Program} {f base fn nt:Nat} {e e':Env} {todo:List Xf4} {defers:List Nat} {ret:Bool} {round:Option Nat} {up:List Xbo} {H:Hp} {top:Nat} {R:Value→Hp→Nat→Prop}
 (h:Xa0 P f base ⟨⟨fn,nt,e',todo,defers,ret,round⟩,up,H,top⟩ R) (hs:subE e e'):Xa0 P f base ⟨⟨fn,nt,e,todo,defers,ret,round⟩,up,H,top⟩ R:=by
 refine ⟨fun w0 U ρ rf rfs w cs hr=>?_⟩
 exact h.get w0 U ρ rf rfs w cs ⟨{ hr.cur with env:=fun i v hv=>hr.cur.env i v (XrR hs i v hv) },hr.up,hr.heap⟩
end Go.Vm
namespace Go.Vm
open Go Go.RowKit
inductive XCh where
 | v (x:Value)
 | sl (n:Nat) (cs:List Value)
def entry (k:Nat):List Md→List XCh→List Value
 | .v::ms,.v x::«as»=>x::entry k ms «as»
 | .sl sz::ms,.sl n _::«as»=>.slice (some ⟨k,0,none⟩) n sz::entry (k+1) ms «as»
 | _,_=>[]
def rowsOf (k:Nat):List XCh→Hp
 | .sl _ cs::«as»=>(k,.row false cs)::rowsOf (k+1) «as»
 | .v _::«as»=>rowsOf k «as»
 | []=>[]
def wins:List XCh→Nat
 | .sl _ _::«as»=>wins «as»+1
 | .v _::«as»=>wins «as»
 | []=>0
def XC3 (w:World):Md→XCh→Value→Prop
 | .v,.v x,rv=>Xa8 x=true∧rv=x
 | .sl sz,.sl n cs,rv=>((∃ a,rv=.slice a 0 0)∧n=0∧cs=[])∨∃ b o c,rv=.slice (some ⟨b,o,none⟩) n c∧n≤c∧∀ ρ,Xbc ρ w ⟨b,o,c*sz⟩ false cs
 | _,_,_=>False
inductive Xuz (w:World):List Md→List XCh→List Value→Prop
 | nil:Xuz w [] [] []
 | cons {m ms a «as» v vs} (h:XC3 w m a v) (t:Xuz w ms «as» vs):Xuz w (m::ms) (a::«as») (v::vs)
theorem XtY {k n:Nat} {ρc:Ren} {vs rvs:List Value} {Hr:Hp} {w:World} (c1:∀ i l,ρc i=some l→k+1≤i∧i<k+1+n) (c2:VRL ρc vs rvs)
 (c3:∀ i o,XaY Hr i=some o→∃ cs l,o=.row false cs∧ρc i=some l∧∀ ρ',Xbc ρ' w l false cs) (l:Loc) (cs:List Value) (hc:∀ ρ',Xbc ρ' w l false cs) :
 (∀ i l',upd ρc k l i=some l'→k≤i∧i<k+1+n)∧VRL (upd ρc k l) vs rvs ∧
   (∀ i o,XaY ((k,.row false cs)::Hr) i=some o→∃ cs l',o=.row false cs∧upd ρc k l i=some l'∧∀ ρ',Xbc ρ' w l' false cs)∧upd ρc k l k=some l:=by
 have hoff:ρc k=none:=by
  cases e:ρc k with
  | none=>rfl
  | some l=>have:=(c1 k l e).1;omega
 refine ⟨fun i l' e=>?_,c2.mono (Ext.upd hoff),fun i o e=>?_,upd_same _ _ _⟩
 ·by_cases hi:k=i
  ·subst hi;omega
  ·rw [upd_ne _ _ hi] at e;have:=c1 i l' e;omega
 ·rw [Xjw] at e
  split at e
  ·rename_i hk
   cases e;subst hk
   exact ⟨cs,l,rfl,upd_same _ _ _,hc⟩
  ·rename_i hk
   obtain ⟨cs',l',a,b,c⟩:=c3 i o e
   exact ⟨cs',l',a,by rw [upd_ne _ _ hk];exact b,c⟩
theorem XmL {w:World}:∀ {ms:List Md} {«as»:List XCh} {rvals:List Value} (k:Nat),Xuz w ms «as» rvals →
 ∃ ρc:Ren,(∀ i l,ρc i=some l→k≤i∧i<k+wins «as»)∧VRL ρc (entry k ms «as») rvals ∧
  (∀ i o,XaY (rowsOf k «as») i=some o→∃ cs l,o=.row false cs∧ρc i=some l∧∀ ρ',Xbc ρ' w l false cs)
 | _,_,_,k,.nil=>⟨fun _=>none,fun i l e=>by simp at e,.nil,fun i o e=>by simp [rowsOf,XaY] at e⟩
 | _,_,_,k,.cons (m:=m) (a:=a) (v:=v) h t=>by
   cases m with
   | v=>
     cases a with
     | v x=>
       obtain ⟨hf,rfl⟩:=h
       obtain ⟨ρc,c1,c2,c3⟩:=XmL k t
       exact ⟨ρc,c1,.cons (VR.flat _ _ hf) c2,c3⟩
     | _=>exact h.elim
   | sl sz=>
     cases a with
     | sl n cs=>
       obtain ⟨ρc,c1,c2,c3⟩:=XmL (k+1) t
       rcases h with ⟨⟨a,rfl⟩,rfl,rfl⟩|⟨b,o,c,rfl,hn,hc⟩
       ·obtain ⟨d1,d2,d3,d4⟩:=XtY c1 c2 c3 ⟨0,0,0⟩ [] (fun ρ'=>⟨Nat.zero_le _,fun i v e=>by simp at e,fun i hi=>absurd hi (Nat.not_lt_zero _)⟩)
        exact ⟨_,by simpa [wins,Nat.add_assoc,Nat.add_comm 1] using d1,.cons (.slice0 _) d2,d3⟩
       ·obtain ⟨d1,d2,d3,d4⟩:=XtY c1 c2 c3 ⟨b,o,c*sz⟩ cs hc
        exact ⟨_,by simpa [wins,Nat.add_assoc,Nat.add_comm 1] using d1,.cons (.slice d4 hn (by simp)) d2,d3⟩
     | _=>exact h.elim
   | pt n=>cases a<;>exact h.elim
   | tr ps=>cases a<;>exact h.elim
theorem XvP {P:Program} {F:Fns} (hF:Xjx P F) {f:Nat} {ms:List Md} {«as»:List XCh} {rvals:List Value} {w:World} {c:Xbo} {r:Bool}
 (ha:Xuz w ms «as» rvals) (hc:Xh7 F f (entry 0 ms «as»)=some c) (hl:Xa0 P f (wins «as») ⟨c,[],rowsOf 0 «as»,wins «as»⟩ (fun v _ _=>v=.bool r)) :
 Calls P f ⟨rvals⟩ w fun e w'=>e=.returned (.bool r)∧Below w.heap.size w w':=by
 intro cs
 obtain ⟨ρc,c1,c2,c3⟩:=XmL 0 ha
 have hpc:HpR P w UG.no ρc (rowsOf 0 «as») (wins «as») w:=
  { obj:=fun i o e=>by obtain ⟨cs',l,rfl,a,b⟩:=c3 i o e;exact ⟨l,a,b ρc,fun e=>by cases e⟩
    dis:=fun i j oi oj li lj _ hi _ _ _ hw=>by obtain ⟨cs',l,rfl,a,b⟩:=c3 i oi hi;cases hw
    lt:=fun i l e=>by have:=c1 i l e;exact .inr ⟨Nat.zero_le _,by omega⟩
    keep:=Keep.refl _ _ }
 obtain ⟨ρ',rv,fr',w',v',Hc,tc,g1,g2,g3,g4,g5,g6,g7⟩:=hl.get w _ ρc _ [] w cs ⟨(Xir hF hc c2).1,.nil,hpc⟩
 subst g7
 obtain rfl:=g4.Xuv
 exact ⟨.returned (.bool r),w',fr',⟨rfl,g5.keep.toBelow⟩,g1,g2,g3⟩
end Go.Vm
namespace Go.Vm
open Go
def Xyx (P:Program):List (Nat×Xc3)→Prop
 | []=>True
 | (i,s)::l=>Xgx P i s∧Xyx P l
theorem XaL.Xbk {P:Program}:∀ {l:List (Nat×Xc3)},Xyx P l→XaL P (XaY l)
 | [],_,f,s,h=>by simp [XaY] at h
 | (i,v)::l,hl,f,s,h=>by
   obtain ⟨h1,h2⟩:=hl
   simp only [XaY] at h
   cases hb:Nat.beq i f with
   | true=>
     rw [hb,cond_true,Option.some.injEq] at h
     subst h
     have:=Nat.eq_of_beq_eq_true hb
     subst this
     exact h1
   | false=>
     rw [hb,cond_false] at h
     exact XaL.Xbk h2 f s h
theorem Xbn.intro {s:Xc3} {vals:List Value} {h:Hp} {top:Nat} {K:Value→Hp→Nat→Prop} {v:Value} {h':Hp} {top':Nat} (e:XhB s vals h top=some (v,h',top')) (k:Xg7 v fun v=>K v h' top'):Xbn s vals h top K:=by
 refine ⟨?_⟩;rw [e];simp only [Xg6,XmW] at *;exact k
def unL {α:Type} (f:Value→Option α):List Value→Option (List α)
 | []=>some []
 | v::l=>match f v with
   | some x=>match unL f l with
     | some xs=>some (x::xs)
     | none=>none
   | none=>none
theorem Xty {α:Type} {f:Value→Option α} {g:α→Value} (h:∀ x,f (g x)=some x):∀ (xs:List α),unL f (xs.map g)=some xs
 | []=>rfl
 | x::xs=>by rw [List.map_cons,unL,h,Xty h xs]
theorem XqD {α:Type} {f:Value→Option α} {g:α→Value} (h:∀ v x,f v=some x→v=g x):∀ {cs:List Value} {xs:List α},unL f cs=some xs→cs=xs.map g
 | [],xs,e=>by simp only [unL,Option.some.injEq] at e;subst e;rfl
 | v::cs,xs,e=>by
   simp only [unL] at e
   split at e<;>try (cases e;done)
   rename_i x hx
   split at e<;>cases e
   rename_i ys hys
   rw [List.map_cons,←h v x hx,←XqD h hys]
theorem Xli {α:Type} {g:α→Value} (h:∀ x,Xa8 (g x)=true):∀ (xs:List α),Xa8.flatL (xs.map g)=true
 | []=>rfl
 | x::xs=>by rw [List.map_cons,Xa8.flatL,h,Xli h xs];rfl
def asB:Value→Option Bool|.bool b=>some b|_=>none
theorem Xtk (v:Value) (x:Bool) (h:asB v=some x):v=.bool x:=by cases v<;>simp [asB] at h;subst h;rfl
def asI (k:IntKind):Value→Option Int|.int k' n=>if k'=k then some n else none|_=>none
theorem Xgu (k:IntKind) (v:Value) (x:Int) (h:asI k v=some x):v=.int k x:=by
 cases v<;>simp [asI] at h
 obtain ⟨rfl,rfl⟩:=h;rfl
def reE (m:Nat→Option Nat) (e:Env):Env→Prop
 | []=>True
 | (i,v)::l=>(∃ v',XeB m v=some v'∧XaY e i=some v')∧reE m e l
theorem Xqo {m:Nat→Option Nat} {e:Env}:∀ {l:Env},reE m e l→XCp m e l
 | [],_=>trivial
 | (i,v)::l,⟨⟨v',h1,h2⟩,h3⟩=>⟨by rw [h1];exact h2,Xqo h3⟩
def reH (m:Nat→Option Nat) (H:Hp):Hp→Prop
 | []=>True
 | (i,o')::l=>(∃ j o,m i=some j∧XaY H j=some o∧XnN m o o')∧reH m H l
theorem Xvu {m:Nat→Option Nat} {H:Hp}:∀ {l:Hp},reH m H l→HSub m H l
 | [],_,i,o,h=>by simp [XaY] at h
 | (k,x)::l,⟨h1,h2⟩,i,o,h=>by
   rw [Xjw] at h
   split at h
   ·rename_i e;cases h;subst e;exact h1
   ·exact Xvu h2 i o h
def reU (m:Nat→Option Nat):List Xbo→List Xbo→Prop
 | [],[]=>True
 | ⟨fn,nt,e,td,ds,ret,rd⟩::l,⟨fn',nt',e',td',ds',ret',rd'⟩::l'=>(fn'=fn∧nt'=nt∧ret'=ret∧rd=none∧rd'=none∧reE m e e'∧Xw4 m td'=some td∧Xx8 m ds'=some ds)∧reU m l l'
 | _,_=>False
theorem XtB {m:Nat→Option Nat}:∀ {l l':List Xbo},reU m l l'→XjR (FSub m) l l'
 | [],[],_=>.nil
 | ⟨_,_,_,_,_,_,_⟩::l,⟨_,_,_,_,_,_,_⟩::l',⟨⟨h1,h2,h3,h4,h5,h6,h7,h8⟩,h9⟩=>.cons ⟨h1,h2,Xqo h6,h7,h8,h3,by simp only;rw [h4,h5];trivial⟩ (XtB h9)
 | [],_::_,h=>h.elim
 | _::_,[],h=>h.elim
def Xoi (j:Nat):List (Nat×Nat)→Bool
 | []=>true
 | (_,k)::l=>cond (Nat.beq j k) false (Xoi j l)
def XvJ (base top':Nat):List (Nat×Nat)→Bool
 | m=>injM m&&ltM m&&fixM m base
where
 injM:List (Nat×Nat)→Bool
  | []=>true
  | (_,j)::l=>Xoi j l&&injM l
 ltM:List (Nat×Nat)→Bool
  | []=>true
  | (i,_)::l=>Nat.blt i top'&&ltM l
 fixM (m:List (Nat×Nat)):Nat→Bool
  | 0=>true
  | n+1=>(match XaY m n with|some j=>Nat.beq j n|none=>false)&&fixM m n
theorem Xi8 {j:Nat}:∀ {l:List (Nat×Nat)},Xoi j l=true→∀ i,XaY l i≠some j
 | [],_,i,h=>by simp [XaY] at h
 | (a,k)::l,hv,i,h=>by
   simp only [Xoi] at hv
   cases hb:Nat.beq j k with
   | true=>rw [hb] at hv;cases hv
   | false=>
     rw [hb,cond_false] at hv
     rw [Xjw] at h
     split at h
     ·cases h;simp at hb
     ·exact Xi8 hv i h
theorem XoZ {top':Nat}:∀ {l:List (Nat×Nat)},XvJ.injM l=true→∀ i j k,XaY l i=some k→XaY l j=some k→i=j
 | [],_,i,j,k,h,_=>by simp [XaY] at h
 | (a,b)::l,hv,i,j,k,h1,h2=>by
   simp only [XvJ.injM,Bool.and_eq_true] at hv
   rw [Xjw] at h1 h2
   split at h1<;>split at h2
   ·omega
   ·cases h1;exact absurd h2 (Xi8 hv.1 j)
   ·cases h2;exact absurd h1 (Xi8 hv.1 i)
   ·exact XoZ (top':=top') hv.2 i j k h1 h2
theorem Xqu {top':Nat}:∀ {l:List (Nat×Nat)},XvJ.ltM top' l=true→∀ i j,XaY l i=some j→i<top'
 | [],_,i,j,h=>by simp [XaY] at h
 | (a,b)::l,hv,i,j,h=>by
   simp only [XvJ.ltM,Bool.and_eq_true] at hv
   rw [Xjw] at h
   split at h
   ·rename_i e;subst e;exact Nat.blt_eq.mp hv.1
   ·exact Xqu hv.2 i j h
theorem XoU {m:List (Nat×Nat)}:∀ {n:Nat},XvJ.fixM m n=true→∀ i,i<n→XaY m i=some i
 | 0,_,i,h=>absurd h (Nat.not_lt_zero _)
 | n+1,hv,i,h=>by
   simp only [XvJ.fixM,Bool.and_eq_true] at hv
   by_cases hi:i=n
   ·subst hi
    have:=hv.1
    split at this
    ·rename_i j hj;rw [hj,Nat.eq_of_beq_eq_true this]
    ·cases this
   ·exact XoU hv.2 i (by omega)
theorem Xa0.re {P:Program} {f base fn nt:Nat} {e e':Env} {todo todo':List Xf4} {ds ds':List Nat} {ret:Bool} {up up':List Xbo} {H H':Hp} {top top':Nat} {R:Value→Hp→Nat→Prop}
 (h:Xa0 P f base ⟨⟨fn,nt,e',todo',ds',ret,none⟩,up',H',top'⟩ R) (m:List (Nat×Nat)) (hc:XvJ base top' m=true) (he:reE (XaY m) e e') (hH:reH (XaY m) H H')
 (ht:Xw4 (XaY m) todo'=some todo:=by rfl) (hd:Xx8 (XaY m) ds'=some ds:=by rfl) (hu:reU (XaY m) up up':=by trivial) :
 Xa0 P f base ⟨⟨fn,nt,e,todo,ds,ret,none⟩,up,H,top⟩ R:=by
 simp only [XvJ,Bool.and_eq_true] at hc
 refine Xa0.sub (s:=XaY m) ?_ h
 exact ⟨⟨rfl,rfl,Xqo he,ht,hd,rfl,trivial⟩,XtB hu,Xvu hH,XoZ (top':=top') hc.1.1,Xqu hc.1.2,XoU hc.2⟩
end Go.Vm
namespace Go.Vm
open Go Go.RowKit Go.WideShapes
def Xm6 (g:TypeId→Option (List SK)) (P:Program) (o:Nat):List Field→Option (List SK)
 | []=>some []
 | f::fs=>if f.offset=o then match g f.type with
   | some a=>if a.length=P.cellsOf f.type then match Xm6 g P (o+a.length) fs with
     | some b=>some (a++b)
     | none=>none
     else none
   | none=>none
   else none
def XsD (P:Program):Nat→TypeId→Option (List SK)
 | 0,_=>none
 | n+1,t=>match P.underlying t with
   | some .bool=>some [.bool]
   | some (.int k)=>some [.int k]
   | some .string=>some [.str]
   | some (.struct fs)=>match Xm6 (XsD P n) P 0 fs.toList with
     | some ks=>if ks.length=P.cellsOf t then some ks else none
     | none=>none
   | _=>none
def XlR:SK→Value→Prop
 | .bool,v=>∃ b,v=.bool b
 | .int k,v=>∃ n,v=.int k n∧(Lit.int k n).wf=true
 | .str,v=>∃ s,v=.string s∧s.size≤maxLen
 | .oth,_=>False
def XcQ:List SK→List Value→Prop
 | [],[]=>True
 | k::ks,v::vs=>XlR k v∧XcQ ks vs
 | _,_=>False
theorem XcQ.append:∀ {a b:List SK} {x y:List Value},XcQ a x→XcQ b y→XcQ (a++b) (x++y)
 | [],_,[],_,_,k=>k
 | [],_,_::_,_,h,_=>h.elim
 | _::_,_,[],_,h,_=>h.elim
 | _::_,_,_::_,_,h,k=>⟨h.1,XcQ.append h.2 k⟩
theorem XcQ.length:∀ {a:List SK} {x:List Value},XcQ a x→x.length=a.length
 | [],[],_=>rfl
 | [],_::_,h=>h.elim
 | _::_,[],h=>h.elim
 | _::_,_::_,h=>by simp [XcQ.length h.2]
theorem XcQ.inv {k:SK} {ks:List SK} {cs:List Value} (h:XcQ (k::ks) cs):∃ v vs,cs=v::vs∧XlR k v∧XcQ ks vs:=by
 cases cs with
 | nil=>exact h.elim
 | cons v vs=>exact ⟨v,vs,rfl,h⟩
theorem XcQ.inv0 {cs:List Value} (h:XcQ [] cs):cs=[]:=by
 cases cs with
 | nil=>rfl
 | cons=>exact h.elim
section
variable {H:Type} {enc:TypeId×Value→H} {P:Program} {w:World} {base:Nat} {spare:Nat→Bool} {held:Bool}
theorem XnO {g:TypeId→Option (List SK)} {F:TypeId→List Value→Prop} (hg:∀ t ks cs,g t=some ks→F t cs→XcQ ks cs) {cs:List Value} :
 ∀ {fs:List Field} {o:Nat} {ks:List SK},Xm6 g P o fs=some ks→(∀ f∈fs,F f.type ((cs.drop f.offset).take (P.cellsOf f.type)))→XcQ ks ((cs.drop o).take ks.length)
 | [],o,ks,h,_=>by simp only [Xm6,Option.some.injEq] at h;subst h;simp [XcQ]
 | f::fs,o,ks,h,hm=>by
   simp only [Xm6] at h
   split at h<;>try (cases h;done)
   rename_i ho
   split at h<;>try (cases h;done)
   rename_i a ha
   split at h<;>try (cases h;done)
   rename_i hl
   split at h<;>cases h
   rename_i b hb
   have h1:=hg f.type a _ ha (hm f (by simp))
   have h2:=XnO hg hb (fun f' hf=>hm f' (by simp [hf]))
   have h3:=h1.append h2
   rw [ho,←hl] at h3
   rw [List.length_append,List.take_add,List.drop_drop]
   exact h3
theorem XmC:∀ {n:Nat} {t:TypeId} {ks:List SK} {fuel:Nat} {cs:List Value} {x:DataW H×List MemPlace},XsD P n t=some ks→DataW.trod enc P w base spare held fuel t cs=some x→XcQ ks cs
 | 0,t,ks,fuel,cs,x,h,_=>by simp [XsD] at h
 | n+1,t,ks,fuel,cs,x,h,hd=>by
   simp only [XsD] at h
   split at h
   ·rename_i ht
    cases h
    obtain ⟨b,rfl,_⟩:=DataW.trod_bool ht hd
    exact ⟨⟨_,rfl⟩,trivial⟩
   ·rename_i k ht
    cases h
    obtain ⟨b,rfl,_,hw⟩:=DataW.trod_int ht hd
    exact ⟨⟨_,rfl,hw⟩,trivial⟩
   ·rename_i ht
    cases h
    obtain ⟨b,rfl,_,hw⟩:=DataW.trod_string ht hd
    exact ⟨⟨_,rfl,hw⟩,trivial⟩
   ·rename_i fs ht
    split at h<;>try (cases h;done)
    rename_i ks' hks
    split at h<;>cases h
    rename_i hlen
    obtain ⟨xs,m,_,_,hcl,hxl,hf⟩:=DataW.trod_struct ht hd
    have:=XnO (P:=P) (cs:=cs) (F:=fun t cs=>∃ x,DataW.trod enc P w base spare held m t cs=some x) (fun t ks cs h1 ⟨x,h2⟩=>XmC h1 h2) hks (fun f hfm=>by
     obtain ⟨i,hi⟩:=List.getElem?_of_mem hfm
     rw [Array.getElem?_toList] at hi
     have hlt:i<xs.length:=by rw [hxl];exact (Array.getElem?_eq_some_iff.1 hi).1
     exact ⟨xs[i],by rw [hf i f hi,List.getElem?_eq_getElem hlt]⟩)
    rw [List.drop_zero,List.take_of_length_le (by omega)] at this
    exact this
   ·cases h
theorem XDL {r:Reach} {b0 n:Nat} {t:TypeId} {ks:List SK} {v:Value} {d:DataW H} {ps:List MemPlace} (hk:XsD P n t=some ks) (hval:Value.okWide P w r b0 t v) (hd:DataW.Trod enc P w base spare held t v d ps) :
 XcQ ks (Xa4 v)∧((XdY P t=true∧v=.agg ⟨Xa4 v⟩)∨XdY P t=false):=by
 obtain ⟨fuel,hf⟩:=hd
 refine ⟨XmC hk hf,?_⟩
 unfold Value.okWide at hval
 unfold XdY
 split at hval
 ·rename_i hu;rw [hu]
  obtain ⟨cs,rfl,_⟩:=hval
  exact .inl ⟨rfl,rfl⟩
 ·rename_i hu;rw [hu]
  obtain ⟨cs,rfl,_⟩:=hval
  exact .inl ⟨rfl,rfl⟩
 ·rename_i h1 h2
  right
  split
  ·rename_i hu;exact absurd hu (h1 _)
  ·rename_i hu;exact absurd hu (h2 _ _)
  ·rfl
def RowR (w:World) (k:SK) (a:Option Addr) (len cap:Nat) (zs:List Value):Prop:=
 (a=none∧len=0∧cap=0∧zs=[])∨∃ x,a=some x∧len≤cap∧cap≤maxLen∧zs.length=cap∧∀ (i:Nat) v,zs[i]?=some v→w.cell? (x.add i)=some v∧XlR k v
theorem XlR.flat {k:SK} {v:Value} (h:XlR k v):Xa8 v=true:=by
 cases k with
 | bool=>obtain ⟨b,rfl⟩:=h;rfl
 | int k=>obtain ⟨b,rfl,_⟩:=h;rfl
 | str=>obtain ⟨b,rfl,_⟩:=h;rfl
 | oth=>exact h.elim
theorem XC3.row {k:SK} {w:World} {a:Option Addr} {len cap:Nat} {zs:List Value} (h:RowR w k a len cap zs):XC3 w (.sl 1) (.sl len (zs.take len)) (.slice a len cap)∧(zs.take len).length=len∧(∀ v∈zs.take len,XlR k v)∧len≤maxLen:=by
 rcases h with ⟨rfl,rfl,rfl,rfl⟩|⟨x,rfl,hl,hm,hz,hc⟩
 ·exact ⟨.inl ⟨⟨_,rfl⟩,rfl,rfl⟩,rfl,fun v hv=>by simp at hv,by simp [maxLen]⟩
 ·have hleaf:∀ v∈zs.take len,XlR k v:=fun v hv=>by
   obtain ⟨i,hi⟩:=List.getElem?_of_mem (List.mem_of_mem_take hv)
   exact (hc i v hi).2
  refine ⟨?_,by simp;omega,hleaf,by omega⟩
  rcases Nat.eq_zero_or_pos cap with h0|h0
  ·subst h0
   obtain rfl:len=0:=by omega
   exact .inl ⟨⟨_,rfl⟩,rfl,by simp⟩
  ·have hs:x.spot=none:=by
    have:=(hc 0 zs[0] (List.getElem?_eq_getElem (by omega))).1
    cases hx:x.spot with
    | none=>rfl
    | some q=>
      simp only [Addr.add,↓reduceIte,World.cell?] at this
      split at this
      ·simp [hx] at this
      ·cases this
   obtain ⟨b,o,q⟩:=x
   simp only at hs
   subst hs
   have hadd:∀ i,(⟨b,o,none⟩:Addr).add i=⟨b,o+i,none⟩:=fun i=>by
    unfold Addr.add;split
    ·rename_i e;subst e;rfl
    ·rfl
   refine .inr ⟨b,o,cap,rfl,hl,fun ρ=>⟨by simp;omega,fun i v e=>?_,fun i hi=>?_⟩⟩
   ·have hi:i<len:=by
     rcases Nat.lt_or_ge i len with h|h
     ·exact h
     ·rw [List.getElem?_eq_none (by simp;omega)] at e;cases e
    rw [List.getElem?_take_of_lt hi] at e
    obtain ⟨h1,h2⟩:=hc i v e
    rw [hadd] at h1
    exact ⟨v,h1,VR.flat ρ v h2.flat⟩
   ·have hi':i<zs.length:=by simp at hi;omega
    obtain ⟨h1,_⟩:=hc i zs[i] (List.getElem?_eq_getElem hi')
    rw [hadd] at h1
    exact ⟨by simp [h1],fun e=>by cases e⟩
end
theorem wf_u8 {n:Int} (h:(Lit.int .u8 n).wf=true):0≤n∧n<256:=by simp [Lit.wf,IntKind.min,IntKind.max,IntKind.signed,IntKind.bits] at h;omega
end Go.Vm
namespace Go.Vm
open Go Go.RowKit
abbrev wI (k:IntKind) (n:Int):Int:=IntKind.wrap k n
abbrev XuG (k:IntKind) (a b:Int):Int:=IntKind.wrap k (BitVec.ofInt k.bits a &&& BitVec.ofInt k.bits b).toNat
abbrev Xse (k:IntKind) (a b:Int):Int:=IntKind.wrap k (BitVec.ofInt k.bits a ||| BitVec.ofInt k.bits b).toNat
abbrev Xf0 (k:IntKind) (a b:Int):Int:=IntKind.wrap k (BitVec.ofInt k.bits a ^^^ BitVec.ofInt k.bits b).toNat
def XaU {α:Type} (b:Bool) (x:Option α):Option α:=match b with|true=>x|false=>none
theorem XaU.elim {α:Type} {b:Bool} {x:Option α} {r:α} (h:XaU b x=some r):b=true∧x=some r:=by cases b;cases h;exact ⟨rfl,h⟩
theorem XaU.mk {α:Type} {b:Bool} {x:Option α} (h:b=true):XaU b x=x:=by subst h;rfl
theorem XaK.elim {α β:Type} {x:Option α} {F:α→Option β} {r:β} (h:x.bind F=some r):∃ a,x=some a∧F a=some r:=by cases x with|none=>cases h|some a=>exact ⟨a,rfl,h⟩
def FUEL:Nat:=2^64
def iter {σ ρ:Type} (f:σ→Option (Sum σ ρ)):Nat→σ→Option ρ
 | 0,_=>none
 | n+1,s=>match f s with
   | none=>none
   | some (.inl s')=>iter f n s'
   | some (.inr r)=>some r
theorem Xbl {σ ρ:Type} {P:Program} {f base:Nat} {R:Value→Hp→Nat→Prop} {step:σ→Option (Sum σ ρ)} {head:σ→VM} {C:ρ→Prop}
 (h:∀ s o,step s=some o→Sum.elim (fun s'=>Xa0 P f base (head s') R) C o→Xa0 P f base (head s) R) :
 ∀ n s r,iter step n s=some r→C r→Xa0 P f base (head s) R
 | 0,_,_,e,_=>by cases e
 | n+1,s,r,e,hc=>by
   rw [iter] at e
   split at e
   ·cases e
   ·rename_i s' hs
    exact h s _ hs (Xbl h n s' r e hc)
   ·rename_i r' hs
    cases e
    exact h s _ hs hc
def vI (k:IntKind) (xs:List Int):List Value:=xs.map (Value.int k)
def vB (xs:List Bool):List Value:=xs.map Value.bool
def vS (xs:List (List UInt8)):List Value:=xs.map fun s=>Value.string ⟨⟨s⟩⟩
def bI (l:List UInt8):List Int:=l.map fun b=>(b.toNat:Int)
@[simp] theorem vI_len (k:IntKind) (xs:List Int):(vI k xs).length=xs.length:=List.length_map _
@[simp] theorem vB_len (xs:List Bool):(vB xs).length=xs.length:=List.length_map _
@[simp] theorem vS_len (xs:List (List UInt8)):(vS xs).length=xs.length:=List.length_map _
@[simp] theorem bI_len (l:List UInt8):(bI l).length=l.length:=List.length_map _
theorem Xie (k:IntKind) (xs:List Int):Xa8.flatL (vI k xs)=true:=Xli (fun _=>rfl) xs
theorem Xls (xs:List Bool):Xa8.flatL (vB xs)=true:=Xli (fun _=>rfl) xs
theorem XlM (xs:List (List UInt8)):Xa8.flatL (vS xs)=true:=Xli (fun _=>rfl) xs
theorem XsB (l:List UInt8):ofBytes l=vI .u8 (bI l):=by simp [ofBytes,vI,bI,List.map_map]
theorem XCw (k:IntKind) (xs:List Int) (i:Nat) (x:Int):(vI k xs).set i (.int k x)=vI k (xs.set i x):=by simp [vI,List.map_set]
theorem XDo (xs:List Bool) (i:Nat) (x:Bool):(vB xs).set i (.bool x)=vB (xs.set i x):=by simp [vB,List.map_set]
theorem XDv (xs:List (List UInt8)) (i:Nat) (x:List UInt8):(vS xs).set i (.string ⟨⟨x⟩⟩)=vS (xs.set i x):=by simp [vS,List.map_set]
theorem XBv (k:IntKind) (xs:List Int) (n:Nat):(vI k xs).drop n=vI k (xs.drop n):=by simp [vI,List.map_drop]
theorem XzT (k:IntKind) (xs:List Int) (n:Nat):(vI k xs).take n=vI k (xs.take n):=by simp [vI,List.map_take]
theorem XA0 (xs:List Bool) (n:Nat):(vB xs).drop n=vB (xs.drop n):=by simp [vB,List.map_drop]
theorem XzM (xs:List Bool) (n:Nat):(vB xs).take n=vB (xs.take n):=by simp [vB,List.map_take]
theorem XAC (xs:List (List UInt8)) (n:Nat):(vS xs).drop n=vS (xs.drop n):=by simp [vS,List.map_drop]
theorem XBy (xs:List (List UInt8)) (n:Nat):(vS xs).take n=vS (xs.take n):=by simp [vS,List.map_take]
theorem br.h {α:Type} {b b':Bool} {X Y:Option α} {r:α} {p q:Prop} (h:cond b' X Y=some r) (e:b=b') (k1:b'=true→X=some r→p) (k2:b'=false→Y=some r→q):br b p q:=by
 subst e;cases b;exact k2 rfl h;exact k1 rfl h
theorem rd.I {k:IntKind} {xs:List Int} {o i:Nat} {x:Int} {K:Value→Prop} (hx:xs[i]?=some x) (e:o=i) (h:Xg7 (.int k x) K):rd (vI k xs) o K:=by
 subst e;exact rd.intro (v:=.int k x) (by simp [vI,hx]) h
theorem rd.B {xs:List Bool} {o i:Nat} {x:Bool} {K:Value→Prop} (hx:xs[i]?=some x) (e:o=i) (h:Xg7 (.bool x) K):rd (vB xs) o K:=by
 subst e;exact rd.intro (v:=.bool x) (by simp [vB,hx]) h
theorem rd.S {xs:List (List UInt8)} {o i:Nat} {x:List UInt8} {K:Value→Prop} (hx:xs[i]?=some x) (e:o=i) (h:Xg7 (.string ⟨⟨x⟩⟩) K):rd (vS xs) o K:=by
 subst e;exact rd.intro (v:=.string ⟨⟨x⟩⟩) (by simp [vS,hx]) h
theorem XCf {k:IntKind} {xs:List Int} {o i:Nat} {x:Int} (hb:decide (i<xs.length)=true) (e:o=i):(decide ((Xa4 (.int k x)).length=1∧o+1≤(vI k xs).length)&&(Xa4 (.int k x)).all Xkj)=true:=by
 subst e;have:=of_decide_eq_true hb;simp [Xa4,Value.cells,Xkj];omega
theorem XBM {xs:List Bool} {o i:Nat} {x:Bool} (hb:decide (i<xs.length)=true) (e:o=i):(decide ((Xa4 (.bool x)).length=1∧o+1≤(vB xs).length)&&(Xa4 (.bool x)).all Xkj)=true:=by
 subst e;have:=of_decide_eq_true hb;simp [Xa4,Value.cells,Xkj];omega
theorem XBj {xs:List (List UInt8)} {o i:Nat} {x:List UInt8} (hb:decide (i<xs.length)=true) (e:o=i):(decide ((Xa4 (.string ⟨⟨x⟩⟩)).length=1∧o+1≤(vS xs).length)&&(Xa4 (.string ⟨⟨x⟩⟩)).all Xkj)=true:=by
 subst e;have:=of_decide_eq_true hb;simp [Xa4,Value.cells,Xkj];omega
theorem XEG {k:IntKind} {xs:List Int} {o i:Nat} {x:Int} {K:List Value→Prop} (e:o=i) (h:K (vI k (xs.set i x))):∃ cs',setAt (vI k xs) o (Xa4 (.int k x))=cs'∧K cs':=
 ⟨_,by subst e;exact XCw k xs o x,h⟩
theorem XDq {xs:List Bool} {o i:Nat} {x:Bool} {K:List Value→Prop} (e:o=i) (h:K (vB (xs.set i x))):∃ cs',setAt (vB xs) o (Xa4 (.bool x))=cs'∧K cs':=
 ⟨_,by subst e;exact XDo xs o x,h⟩
theorem XDz {xs:List (List UInt8)} {o i:Nat} {x:List UInt8} {K:List Value→Prop} (e:o=i) (h:K (vS (xs.set i x))):∃ cs',setAt (vS xs) o (Xa4 (.string ⟨⟨x⟩⟩))=cs'∧K cs':=
 ⟨_,by subst e;exact XDv xs o x,h⟩
theorem XkY {k:IntKind} {n:Nat} {z:Int} {K:List Value→Prop} (h:K (vI k (List.replicate n z))):∃ cs',(List.replicate n [Value.int k z]).flatten=cs'∧K cs':=
 ⟨_,by simp [vI,List.flatten_replicate_singleton],h⟩
theorem XEO {l:List UInt8} {K:List Value→Prop} (h:K (vI .u8 (bI l))):∃ cs',ofBytes l=cs'∧K cs':=⟨_,XsB l,h⟩
def vT {α:Type} (f:α→List Value) (xs:List α):List Value:=xs.flatMap f
section
variable {α:Type} {f:α→List Value} {c:Nat}
theorem XnP (hf:∀ x,(f x).length=c) (xs:List α):(vT f xs).length=xs.length*c:=by
 induction xs with
 | nil=>simp [vT]
 | cons x xs ih=>
   have:vT f (x::xs)=f x++vT f xs:=rfl
   rw [this,List.length_append,hf,ih,List.length_cons,Nat.succ_mul];omega
theorem Xlu (hf:∀ x,Xa8.flatL (f x)=true) (xs:List α):Xa8.flatL (vT f xs)=true:=by
 have app:∀ a b:List Value,Xa8.flatL a=true→Xa8.flatL b=true→Xa8.flatL (a++b)=true:=by
  intro a b ha hb
  induction a with
  | nil=>exact hb
  | cons v a ih=>simp only [Xa8.flatL,Bool.and_eq_true,List.cons_append] at ha ⊢;exact ⟨ha.1,ih ha.2⟩
 induction xs with
 | nil=>rfl
 | cons x xs ih=>exact app _ _ (hf x) ih
theorem XEN (xs ys:List α):vT f xs++vT f ys=vT f (xs++ys):=by simp [vT]
theorem Xp6 (hf:∀ x,(f x).length=c) (xs:List α) (n:Nat):(vT f xs).drop (n*c)=vT f (xs.drop n):=by
 induction xs generalizing n with
 | nil=>simp [vT]
 | cons x xs ih=>
   cases n with
   | zero=>simp
   | succ n=>
     have:vT f (x::xs)=f x++vT f xs:=rfl
     rw [this,List.drop_succ_cons,Nat.succ_mul,Nat.add_comm,List.drop_append,hf,List.drop_eq_nil_of_le (by rw [hf];omega),List.nil_append,show c+n*c - c=n*c by omega,ih]
theorem Xqa (hf:∀ x,(f x).length=c) (xs:List α) (n:Nat):(vT f xs).take (n*c)=vT f (xs.take n):=by
 induction xs generalizing n with
 | nil=>simp [vT]
 | cons x xs ih=>
   cases n with
   | zero=>simp [vT]
   | succ n=>
     have:vT f (x::xs)=f x++vT f xs:=rfl
     have h2:vT f ((x::xs).take (n+1))=f x++vT f (xs.take n):=rfl
     rw [this,h2,Nat.succ_mul,Nat.add_comm,List.take_append,hf,List.take_of_length_le (by rw [hf];omega),show c+n*c - c=n*c by omega,ih]
theorem XyZ (hf:∀ x,(f x).length=c) {xs:List α} {i j:Nat} {x:α} (hx:xs[i]?=some x) (hj:j<c):(vT f xs)[i*c+j]?=(f x)[j]?:=by
 induction xs generalizing i with
 | nil=>simp at hx
 | cons y xs ih=>
   have:vT f (y::xs)=f y++vT f xs:=rfl
   rw [this]
   cases i with
   | zero=>
     simp at hx;subst hx
     rw [Nat.zero_mul,Nat.zero_add,List.getElem?_append_left (by rw [hf];exact hj)]
   | succ i=>
     rw [List.getElem?_append_right (by rw [hf,Nat.succ_mul];omega),hf,show (i+1)*c+j - c=i*c+j by rw [Nat.succ_mul];omega]
     exact ih (by simpa using hx)
theorem rd.T (hf:∀ x,(f x).length=c) {xs:List α} {o i j:Nat} {x:α} {v:Value} {K:Value→Prop} (hx:xs[i]?=some x) (e:o=i*c+j) (hj:j<c) (hv:(f x)[j]?=some v) (h:Xg7 v K):rd (vT f xs) o K:=by
 subst e;exact rd.intro (by rw [XyZ hf hx hj];exact hv) h
theorem rd.U (hf:∀ x,(f x).length=c) {xs:List α} {o i j:Nat} {x:α} {v:Value} {K:Value→Prop} (hx:xs[i]?=some x) (h:Xg7 v K) (e:o=i*c+j:=by first|omega|exact Nat.zero_add _|exact congrArg (·+_) (Nat.zero_add _)) (hj:j<c:=by decide) (hv:(f x)[j]?=some v:=by exact rfl):rd (vT f xs) o K:=rd.T hf hx e hj hv h
def unT (sz:Nat) (un:List Value→Option α):Nat→List Value→Option (List α)
 | 0,[]=>some []
 | 0,_::_=>none
 | _+1,[]=>some []
 | n+1,v::cs=>match un ((v::cs).take sz) with
   | some x=>match unT sz un n ((v::cs).drop sz) with
     | some xs=>some (x::xs)
     | none=>none
   | none=>none
theorem Xyw {un:List Value→Option α} (hf:∀ x,(f x).length=c) (h0:0<c) (hu:∀ x,un (f x)=some x):∀ (xs:List α) (n:Nat),xs.length≤n→unT c un n (vT f xs)=some xs
 | [],0,_=>rfl
 | [],n+1,_=>rfl
 | x::xs,0,h=>by simp at h
 | x::xs,n+1,h=>by
   have e:vT f (x::xs)=f x++vT f xs:=rfl
   obtain ⟨v,l,hv⟩:∃ v l,vT f (x::xs)=v::l:=by
    cases hx:f x with
    | nil=>have:=hf x;rw [hx] at this;simp at this;omega
    | cons v l=>exact ⟨v,l++vT f xs,by rw [e,hx];rfl⟩
   rw [hv,unT,←hv,e,List.take_append_of_le_length (by rw [hf];exact Nat.le_refl _),List.take_of_length_le (by rw [hf];exact Nat.le_refl _),hu,List.drop_append,hf,List.drop_eq_nil_of_le (by rw [hf];exact Nat.le_refl _),Nat.sub_self,List.drop_zero,List.nil_append,Xyw hf h0 hu xs n (by simpa using h)]
theorem XyI {un:List Value→Option α} (hu:∀ cs x,un cs=some x→cs=f x):∀ {n:Nat} {cs:List Value} {xs:List α},unT c un n cs=some xs→cs=vT f xs
 | 0,[],xs,h=>by simp only [unT,Option.some.injEq] at h;subst h;rfl
 | 0,_::_,xs,h=>by simp [unT] at h
 | n+1,[],xs,h=>by simp only [unT,Option.some.injEq] at h;subst h;rfl
 | n+1,v::cs,xs,h=>by
   simp only [unT] at h
   split at h<;>try (cases h;done)
   rename_i x hx
   split at h<;>cases h
   rename_i ys hys
   have e1:=hu _ _ hx
   have e2:=XyI hu hys
   have:vT f (x::ys)=f x++vT f ys:=rfl
   rw [this,←e1,←e2,List.take_append_drop]
def unR (sz:Nat) (un:List Value→Option α) (cs:List Value):Option (List α):=unT sz un cs.length cs
theorem XCU {un:List Value→Option α} (hf:∀ x,(f x).length=c) (h0:0<c) (hu:∀ x,un (f x)=some x) (xs:List α):unR c un (vT f xs)=some xs:=
 Xyw hf h0 hu xs _ (by rw [XnP hf];exact Nat.le_mul_of_pos_right _ h0)
end
theorem Xar {s:Xc3} {vals «as»:List Value} {os:List (Option Xbe)} {h h1 h2:Hp} {top n m t':Nat} {ws:List Wd} {r:Xdj} {v':Value} (e1:XcP h 0 s.modes vals=some («as»,os)) (ew:XiQ h s.modes vals=ws) {cw:List (Option (List Value))} (ec:XhF os=cw) (e2:s.run «as» cw=some r) (e3:apartB ws=true)
 (hn:r.new.length=n) (hm:Xj3 ws=m) (ht:top+n+m=t') (e4:XcG h (Xp5 top n ws) ws r.wr=some h1) (e5:XhK h1 (Xp5 top n ws) top r.new=some h2) (e6:XeB (Xp5 top n ws) r.v=some v'):XhB s vals h top=some (v',XhU h2 (top+n) m,t'):=by
 subst hn hm ht ec
 simp only [XhB,e1,e2,ew,e3,e4,e5,e6]
theorem XaP {h:Hp} {k:Nat}:XcP h k [] []=some ([],[]):=rfl
theorem Xam {h:Hp} {k k':Nat} {m:Md} {ms:List Md} {v a:Value} {vs «as»:List Value} {os os':List (Option Xbe)} (e:Xcw h k m v=some (a,os)) (hk:k+os.length=k') (t:XcP h k' ms vs=some («as»,os')):XcP h k (m::ms) (v::vs)=some (a::«as»,os++os'):=by
 subst hk
 simp only [XcP,e,t]
theorem XvQ {h:Hp} {k b o n m sz sz':Nat} {ob:Xbe} {cs cs':List Value} (ho:XaY h b=some ob) (hc:ob.cs=some cs) (hs:sz=sz') (en:n=m) (hle:o+n*sz≤cs.length) (e:(cs.drop o).take (n*sz)=cs') (hf:Xa8.flatL cs'=true) :
 Xcw h k (.sl sz) (.slice (some ⟨b,o,none⟩) n sz')=some (.slice (some ⟨k,0,none⟩) m sz,[some (.row false cs')]):=by
 subst hs en e
 simp only [Xcw,ho,hc,hle,hf,↓reduceIte]
theorem Xtx {h:Hp} {b o n i m sz kk:Nat} {k:IntKind} {own:Bool} {xs:List Int} (ho:XaY h b=some (.row own (vI k xs))) (hs:sz=1) (e0:o=i) (en:n=m) (hle:i+m≤xs.length):Xcw h kk (.sl 1) (.slice (some ⟨b,o,none⟩) n sz)=some (.slice (some ⟨kk,0,none⟩) m 1,[some (.row false (vI k ((xs.drop i).take m)))]):=by
 subst hs e0 en
 exact XvQ ho rfl rfl rfl (by simp;omega) (by rw [XBv,XzT,Nat.mul_one]) (Xie _ _)
theorem XyS {h:Hp} {b o n i m sz kk:Nat} {own:Bool} {xs:List (List UInt8)} (ho:XaY h b=some (.row own (vS xs))) (hs:sz=1) (e0:o=i) (en:n=m) (hle:i+m≤xs.length):Xcw h kk (.sl 1) (.slice (some ⟨b,o,none⟩) n sz)=some (.slice (some ⟨kk,0,none⟩) m 1,[some (.row false (vS ((xs.drop i).take m)))]):=by
 subst hs e0 en
 exact XvQ ho rfl rfl rfl (by simp;omega) (by rw [XAC,XBy,Nat.mul_one]) (XlM _)
theorem XyL {h:Hp} {b o n i m sz kk:Nat} {own:Bool} {xs:List Bool} (ho:XaY h b=some (.row own (vB xs))) (hs:sz=1) (e0:o=i) (en:n=m) (hle:i+m≤xs.length):Xcw h kk (.sl 1) (.slice (some ⟨b,o,none⟩) n sz)=some (.slice (some ⟨kk,0,none⟩) m 1,[some (.row false (vB ((xs.drop i).take m)))]):=by
 subst hs e0 en
 exact XvQ ho rfl rfl rfl (by simp;omega) (by rw [XA0,XzM,Nat.mul_one]) (Xls _)
theorem XAs {h:Hp} {b o n sz kk:Nat} {k:IntKind} {own:Bool} {xs:List Int} (ho:XaY h b=some (.row own (vI k xs))) (hs:sz=1) (e0:o=0) (en:n=xs.length):Xcw h kk (.sl 1) (.slice (some ⟨b,o,none⟩) n sz)=some (.slice (some ⟨kk,0,none⟩) xs.length 1,[some (.row false (vI k xs))]):=by
 have:=Xtx (kk:=kk) (i:=0) (m:=xs.length) ho hs e0 en (by omega)
 simpa using this
theorem XB6 {h:Hp} {b o n sz kk:Nat} {own:Bool} {xs:List (List UInt8)} (ho:XaY h b=some (.row own (vS xs))) (hs:sz=1) (e0:o=0) (en:n=xs.length):Xcw h kk (.sl 1) (.slice (some ⟨b,o,none⟩) n sz)=some (.slice (some ⟨kk,0,none⟩) xs.length 1,[some (.row false (vS xs))]):=by
 have:=XyS (kk:=kk) (i:=0) (m:=xs.length) ho hs e0 en (by omega)
 simpa using this
theorem Xz3 {h:Hp} {b o n sz kk:Nat} {own:Bool} {xs:List Bool} (ho:XaY h b=some (.row own (vB xs))) (hs:sz=1) (e0:o=0) (en:n=xs.length):Xcw h kk (.sl 1) (.slice (some ⟨b,o,none⟩) n sz)=some (.slice (some ⟨kk,0,none⟩) xs.length 1,[some (.row false (vB xs))]):=by
 have:=XyL (kk:=kk) (i:=0) (m:=xs.length) ho hs e0 en (by omega)
 simpa using this
theorem XyP {α:Type} {f:α→List Value} {c:Nat} (hf:∀ x,(f x).length=c) (hfl:∀ x,Xa8.flatL (f x)=true) {h:Hp} {b o n i m sz kk:Nat} {own:Bool} {xs:List α} (ho:XaY h b=some (.row own (vT f xs))) (hs:sz=c) (e0:o=i*c) (en:n=m) (hle:i+m≤xs.length):Xcw h kk (.sl c) (.slice (some ⟨b,o,none⟩) n sz)=some (.slice (some ⟨kk,0,none⟩) m c,[some (.row false (vT f ((xs.drop i).take m)))]):=by
 subst hs e0 en
 refine XvQ ho rfl rfl rfl ?_ (by rw [Xp6 hf,Xqa hf]) (Xlu hfl _)
 rw [XnP hf,←Nat.add_mul];exact Nat.mul_le_mul_right _ hle
theorem Xzx {α:Type} {f:α→List Value} {c:Nat} (hf:∀ x,(f x).length=c) (hfl:∀ x,Xa8.flatL (f x)=true) {h:Hp} {b o n sz kk:Nat} {own:Bool} {xs:List α} (ho:XaY h b=some (.row own (vT f xs))) (hs:sz=c) (e0:o=0) (en:n=xs.length):Xcw h kk (.sl c) (.slice (some ⟨b,o,none⟩) n sz)=some (.slice (some ⟨kk,0,none⟩) xs.length c,[some (.row false (vT f xs))]):=by
 have:=XyP hf hfl (kk:=kk) (i:=0) (m:=xs.length) ho hs (by simpa using e0) en (by omega)
 simpa using this
theorem Xa6 {h:Hp} {k:Nat} {ps:List Path} {bs:List PR} {v v' w:Value} {l:List (Option Xbe)} (e0:Xg2 h v ps []=bs) (e1:XeB (XsZ k bs) v=some v') (e2:Xfs h (XsZ k bs) (fun s=>Xky k s ps bs) 0 ps bs=some l) (e3:XqL v' (Xky k none ps bs)=w):Xcw h k (.tr ps) v=some (w,l):=by
 subst e0 e3
 simp only [Xcw,e1,e2]
theorem XaR {h:Hp} {s:Nat→Option Nat} {pat:Option Nat→List (Nat×Value)} {i:Nat}:Xfs h s pat i [] []=some []:=rfl
theorem Xan {h:Hp} {s:Nat→Option Nat} {pat:Option Nat→List (Nat×Value)} {i:Nat} {p:Path} {ps:List Path} {bs:List PR} {l:List (Option Xbe)} (t:Xfs h s pat (i+1) ps bs=some l):Xfs h s pat i (p::ps) (.no::bs)=some (none::l):=by
 simp only [Xfs,t]
theorem XDx {h:Hp} {s:Nat→Option Nat} {pat:Option Nat→List (Nat×Value)} {i z:Nat} {p:Path} {ps:List Path} {bs:List PR} {l:List (Option Xbe)} (t:Xfs h s pat (i+1) ps bs=some l) (hk:Nat.beq p.kind 3=false:=by rfl):Xfs h s pat i (p::ps) (.nil z::bs)=some (some (mkObj p.kind [])::l):=by
 simp only [Xfs,t,hk,cond_false]
theorem Xai {h:Hp} {s:Nat→Option Nat} {pat:Option Nat→List (Nat×Value)} {i b:Nat} {p:Path} {ps:List Path} {bs:List PR} {l:List (Option Xbe)} {ob:Xbe} {cs cs' cs'':List Value} (e1:XaY h b=some ob) (e2:(cond (isW p.kind) ob.wcs ob.cs)=some cs) (e3:XeB.renL s cs=some cs') (e4:Xpr cs' (pat (some i))=cs'')
 (t:Xfs h s pat (i+1) ps bs=some l) (hk:Nat.beq p.kind 3=false:=by rfl):Xfs h s pat i (p::ps) (.at b::bs)=some (some (mkObj p.kind cs'')::l):=by
 subst e4
 simp only [Xfs,XoN,e1,e2,e3,t,hk,cond_false]
theorem XCX {h:Hp} {s:Nat→Option Nat} {pat:Option Nat→List (Nat×Value)} {i b:Nat} {p:Path} {ps:List Path} {bs:List PR} {l:List (Option Xbe)} {cs:List Value} (e1:XaY h b=some (.mp cs)) (hk:Nat.beq p.kind 3=true)
 (t:Xfs h s pat (i+1) ps bs=some l):Xfs h s pat i (p::ps) (.at b::bs)=some (some (.mp cs)::l):=by
 simp only [Xfs,XoN,e1,t,hk,cond_true,mapB]
def skipW:Wd→Bool
 | .no|.emp _|.win _ _ _ false|.blk _ false=>true
 | _=>false
theorem XaN {h:Hp} {s:Nat→Option Nat}:XcG h s [] []=some h:=rfl
theorem Xab {h h':Hp} {s:Nat→Option Nat} {x:Wd} {ws:List Wd} {c:Option (List Value)} {cs:List (Option (List Value))} (hx:skipW x=true) (t:XcG h s ws cs=some h'):XcG h s (x::ws) (c::cs)=some h':=by
 cases x with
 | win b o n w=>cases w<;>first|(simp only [XcG];exact t)|cases hx
 | blk b w=>cases w<;>first|(simp only [XcG];exact t)|cases hx
 | _=>simp only [XcG];exact t
theorem Xu8 {h h':Hp} {s:Nat→Option Nat} {b off n:Nat} {ws:List Wd} {c c' x y:List Value} {cs:List (Option (List Value))} {ob ob':Xbe} (e1:XaY h b=some ob) (e2:ob.wcs=some x) (e3:XeB.renL s c=some c') (e4:c'.length=n∧off+n≤x.length) (e5:setAt x off c'=y) (e6:ob.wr y=some ob') (t:XcG (Xgt h b ob') s ws cs=some h') (hm:mk3 c=none:=by rfl) :
 XcG h s (.win b off n true::ws) (some c::cs)=some h':=by
 subst e5
 have e4':c'.length=n∧off+n≤x.length∧mk3 c=none:=⟨e4.1,e4.2,hm⟩
 simp only [XcG,e1,e2,e3,e6,if_pos e4'];exact t
theorem Xfo {h h':Hp} {s:Nat→Option Nat} {b:Nat} {ws:List Wd} {c c' x:List Value} {cs:List (Option (List Value))} {ob ob':Xbe} (e1:XaY h b=some ob) (e2:ob.wcs=some x) (e3:XeB.renL s c=some c') (e6:ob.wr c'=some ob') (t:XcG (Xgt h b ob') s ws cs=some h') (hm:mk3 c=none:=by rfl) :
 XcG h s (.blk b true::ws) (some c::cs)=some h':=by
 have:Xyy s ob c=some ob':=by
  unfold Xyy
  rw [hm]
  cases ob<;>first|(simp only [e2,e3];exact e6)|cases e2
 simp only [XcG,e1,this];exact t
theorem XCF {h h':Hp} {s:Nat→Option Nat} {b:Nat} {ws:List Wd} {c0 c:List Value} {cs:List (Option (List Value))} (e1:XaY h b=some (.mp c0)) (t:XcG (Xgt h b (.mp c)) s ws cs=some h') :
 XcG h s (.blk b true::ws) (some (.float .f64 0::c)::cs)=some h':=by
 simp only [XcG,e1,Xyy,mk3];exact t
theorem XcC {h h':Hp} {s:Nat→Option Nat} {b:Nat} {ws:List Wd} {cs:List (Option (List Value))} (t:XcG (Xl3 h b) s ws cs=some h'):XcG h s (.blk b true::ws) (none::cs)=some h':=by
 simp only [XcG];exact t
theorem XaM {h:Hp} {s:Nat→Option Nat} {top:Nat}:XhK h s top []=some h:=rfl
theorem XbR {h h':Hp} {s:Nat→Option Nat} {top:Nat} {c c':List Value} {cs:List (List Value)} (e:XeB.renL s c=some c') (t:XhK (Xgt h top (.row true c')) s (top+1) cs=some h'):XhK h s top (c::cs)=some h':=by
 simp only [XhK,e];exact t
theorem Xat {s:Nat→Option Nat} {k:IntKind} {xs:List Int}:XeB.renL s (vI k xs)=some (vI k xs):=XcJ _ _ (Xie _ _)
theorem XAL {s:Nat→Option Nat} {xs:List Bool}:XeB.renL s (vB xs)=some (vB xs):=XcJ _ _ (Xls _)
theorem XAX {s:Nat→Option Nat} {xs:List (List UInt8)}:XeB.renL s (vS xs)=some (vS xs):=XcJ _ _ (XlM _)
theorem XBF {s:Nat→Option Nat} {α:Type} {f:α→List Value} (hfl:∀ x,Xa8.flatL (f x)=true) {xs:List α}:XeB.renL s (vT f xs)=some (vT f xs):=XcJ _ _ (Xlu hfl _)
def XwX (n:Nat) (wr:List (Option (List Value))):List Nat→Prop
 | []=>True
 | j::js=>(n≤j∨wr[j]?=some none)∧XwX n wr js
theorem XqP {n:Nat} {wr:List (Option (List Value))}:∀ {js:List Nat},XwX n wr js→∀ j∈js,n≤j∨wr[j]?=some none
 | [],_,j,h=>by cases h
 | k::js,h,j,hj=>by
   rcases List.mem_cons.1 hj with rfl|hj
   ·exact h.1
   ·exact XqP h.2 j hj
theorem Res.of {n:Nat} {r:Xdj} {v':Value} {H':Hp} (js:List Nat) (e1:XeB (XpD js n) r.v=some v') (e2:Xo0 H' (XpD js n) js r.new) (e3:js.Nodup) (e4:XwX n r.wr js) (e5:XsO H' (XpD js n) 0 r.wr):Res n r v' H':=
 ⟨⟨js,e1,e2,e3,XqP e4,e5⟩⟩
theorem Xct {H:Hp} {j:Nat} {c:List Value} (h:XaY H j=some (.row true c)):Has H j c:=.inl h
theorem XgI {H:Hp} {j:Nat} {c:List Value} (h:XaY H j=some (.cells c)):Has H j c:=.inr (.inl h)
abbrev Dec:=List Value→List (Option (List Value))→Option Xdj
def dV {α:Type} (un:Value→Option α) (K:α→Dec):Dec:=fun vs cs=>match vs with
 | v::vs'=>match un v with
   | some x=>K x vs' cs
   | none=>none
 | []=>none
theorem XcF {α:Type} {un:Value→Option α} {K:α→Dec} {v:Value} {vs:List Value} {cs:List (Option (List Value))} {x:α} (h:un v=some x):dV un K (v::vs) cs=K x vs cs:=by simp only [dV,h]
theorem dV.elim {α:Type} {un:Value→Option α} {K:α→Dec} {vs:List Value} {cs:List (Option (List Value))} {r:Xdj} (h:dV un K vs cs=some r):∃ v vs' x,vs=v::vs'∧un v=some x∧K x vs' cs=some r:=by
 unfold dV at h
 split at h<;>try (cases h;done)
 split at h<;>try (cases h;done)
 exact ⟨_,_,_,rfl,by assumption,h⟩
def dSl {α:Type} (k sz:Nat) (un:List Value→Option (List α)) (K:List α→Dec):Dec:=fun vs cs=>match vs,cs with
 | .slice (some ⟨k',0,none⟩) n sz'::vs',some c::cs'=>match un c with
   | some xs=>if k'=k∧sz'=sz∧n=xs.length then K xs vs' cs' else none
   | none=>none
 | _,_=>none
theorem Xuy {α:Type} {k sz:Nat} {un:List Value→Option (List α)} {K:List α→Dec} {vs:List Value} {c:List Value} {cs:List (Option (List Value))} {xs:List α} (h:un c=some xs):dSl k sz un K (.slice (some ⟨k,0,none⟩) xs.length sz::vs) (some c::cs)=K xs vs cs:=by simp [dSl,h]
theorem dSl.elim {α:Type} {k sz:Nat} {un:List Value→Option (List α)} {K:List α→Dec} {vs:List Value} {cs:List (Option (List Value))} {r:Xdj} (h:dSl k sz un K vs cs=some r):∃ c vs' cs' xs,vs=.slice (some ⟨k,0,none⟩) xs.length sz::vs'∧cs=some c::cs'∧un c=some xs∧K xs vs' cs'=some r:=by
 unfold dSl at h
 split at h<;>try (cases h;done)
 split at h<;>try (cases h;done)
 split at h<;>try (cases h;done)
 rename_i hc
 obtain ⟨rfl,rfl,rfl⟩:=hc
 exact ⟨_,_,_,_,rfl,rfl,by assumption,h⟩
def dTr {α:Type} (n:Nat) (un:Value→List (Option (List Value))→Option α) (K:α→Dec):Dec:=fun vs cs=>match vs with
 | v::vs'=>match un v (cs.take n) with
   | some x=>K x vs' (cs.drop n)
   | none=>none
 | []=>none
theorem Xcx {α:Type} {n:Nat} {un:Value→List (Option (List Value))→Option α} {K:α→Dec} {v:Value} {vs:List Value} {cs cs1 cs2:List (Option (List Value))} {x:α} (h1:cs.take n=cs1) (h2:cs.drop n=cs2) (h:un v cs1=some x):dTr n un K (v::vs) cs=K x vs cs2:=by
 subst h1 h2;simp only [dTr,h]
theorem dTr.elim {α:Type} {n:Nat} {un:Value→List (Option (List Value))→Option α} {K:α→Dec} {vs:List Value} {cs:List (Option (List Value))} {r:Xdj} (h:dTr n un K vs cs=some r):∃ v vs' cs1 cs2 x,vs=v::vs'∧cs=cs1++cs2∧un v cs1=some x∧K x vs' cs2=some r:=by
 unfold dTr at h
 split at h<;>try (cases h;done)
 split at h<;>try (cases h;done)
 exact ⟨_,_,_,_,_,rfl,(List.take_append_drop n cs).symm,by assumption,h⟩
def dPt {α:Type} (k:Nat) (un:List Value→Option α) (K:α→Dec):Dec:=fun vs cs=>match vs,cs with
 | .pointer (some ⟨k',0,none⟩)::vs',some c::cs'=>match un c with
   | some x=>if k'=k then K x vs' cs' else none
   | none=>none
 | _,_=>none
theorem Xph {α:Type} {k:Nat} {un:List Value→Option α} {K:α→Dec} {vs:List Value} {c:List Value} {cs:List (Option (List Value))} {x:α} (h:un c=some x):dPt k un K (.pointer (some ⟨k,0,none⟩)::vs) (some c::cs)=K x vs cs:=by simp [dPt,h]
theorem dPt.elim {α:Type} {k:Nat} {un:List Value→Option α} {K:α→Dec} {vs:List Value} {cs:List (Option (List Value))} {r:Xdj} (h:dPt k un K vs cs=some r):∃ c vs' cs' x,vs=.pointer (some ⟨k,0,none⟩)::vs'∧cs=some c::cs'∧un c=some x∧K x vs' cs'=some r:=by
 unfold dPt at h
 split at h<;>try (cases h;done)
 split at h<;>try (cases h;done)
 split at h<;>try (cases h;done)
 rename_i hc
 subst hc
 exact ⟨_,_,_,_,rfl,rfl,by assumption,h⟩
def dNo:Nat→Dec→Dec
 | 0,K=>K
 | n+1,K=>fun vs cs=>match cs with
   | none::cs'=>dNo n K vs cs'
   | _=>none
theorem dNo.elim {K:Dec} {vs:List Value} {r:Xdj}:∀ {n:Nat} {cs:List (Option (List Value))},dNo n K vs cs=some r→∃ cs',cs=List.replicate n none++cs'∧K vs cs'=some r
 | 0,cs,h=>⟨cs,rfl,h⟩
 | n+1,cs,h=>by
   simp only [dNo] at h
   split at h<;>try (cases h;done)
   obtain ⟨cs',rfl,h2⟩:=dNo.elim h
   exact ⟨cs',rfl,h2⟩
def dNl (n:Nat) (K:Dec):Dec:=fun vs cs=>match vs with
 | .pointer none::vs'=>dNo n K vs' cs
 | _=>none
theorem dNl.elim {n:Nat} {K:Dec} {vs:List Value} {cs:List (Option (List Value))} {r:Xdj} (h:dNl n K vs cs=some r):∃ vs' cs',vs=.pointer none::vs'∧cs=List.replicate n none++cs'∧K vs' cs'=some r:=by
 unfold dNl at h
 split at h<;>try (cases h;done)
 obtain ⟨cs',rfl,h2⟩:=dNo.elim h
 exact ⟨_,cs',rfl,rfl,h2⟩
def Xfq (r:Option Xdj):Dec:=fun vs cs=>match vs,cs with
 | [],[]=>r
 | _,_=>none
theorem Xfq.elim {o:Option Xdj} {vs:List Value} {cs:List (Option (List Value))} {r:Xdj} (h:Xfq o vs cs=some r):vs=[]∧cs=[]∧o=some r:=by
 unfold Xfq at h
 split at h<;>try (cases h;done)
 exact ⟨rfl,rfl,h⟩
def orD (a b:Dec):Dec:=fun vs cs=>match a vs cs with
 | some r=>some r
 | none=>b vs cs
theorem orD.elim {a b:Dec} {vs:List Value} {cs:List (Option (List Value))} {r:Xdj} (h:orD a b vs cs=some r):a vs cs=some r∨b vs cs=some r:=by
 unfold orD at h
 split at h
 ·cases h;left;assumption
 ·exact .inr h
def ofG {α:Type} (o:Option α) (f:α→Xdj):Option Xdj:=match o with
 | some x=>some (f x)
 | none=>none
theorem Xbx {α:Type} {o:Option α} {f:α→Xdj} {x:α} (h:o=some x):ofG o f=some (f x):=by subst h;rfl
theorem ofG.elim {α:Type} {o:Option α} {f:α→Xdj} {r:Xdj} (h:ofG o f=some r):∃ x,o=some x∧f x=r:=by
 cases o with
 | none=>cases h
 | some x=>exact ⟨x,rfl,by cases h;rfl⟩
def asS:Value→Option (List UInt8)|.string s=>some s.data.toList|_=>none
theorem Xd1 (v:Value) (x:List UInt8) (h:asS v=some x):v=.string ⟨⟨x⟩⟩:=by cases v<;>simp [asS] at h;subst h;rfl
theorem XcT (k:IntKind) (xs:List Int):unL (asI k) (vI k xs)=some xs:=Xty (fun x=>by simp [asI]) xs
theorem XcY {k:IntKind} {cs:List Value} {xs:List Int} (h:unL (asI k) cs=some xs):cs=vI k xs:=XqD (Xgu k) h
theorem XCK {cs:List Value} {xs:List Bool} (h:unL asB cs=some xs):cs=vB xs:=XqD Xtk h
theorem XC5 {cs:List Value} {xs:List (List UInt8)} (h:unL asS cs=some xs):cs=vS xs:=XqD (g:=fun s=>Value.string ⟨⟨s⟩⟩) Xd1 h
end Go.Vm
namespace Go.Vm
open Go Go.RowKit
def opsD (c:VC) (n:Nat):List Xcv:=match c with|.reg ops=>ops.drop n|.regD _ _ post=>post.drop n|_=>[]
end Go.Vm
namespace Go.Vm
open Go Go.RowKit
theorem Xk5 {k:IntKind} {xs:List Int} {o i:Nat} {x:Int} {K:List Value→Prop} (hb:decide (i<xs.length)=true) (e:o=i) (h:K (vI k (xs.set i x))) :
 req (decide ((Xa4 (.int k x)).length=1∧o+1≤(vI k xs).length)&&(Xa4 (.int k x)).all Xkj) (∃ cs',setAt (vI k xs) o (Xa4 (.int k x))=cs'∧K cs'):=req.intro (XCf hb e) (XEG e h)
theorem st_B {xs:List Bool} {o i:Nat} {x:Bool} {K:List Value→Prop} (hb:decide (i<xs.length)=true) (e:o=i) (h:K (vB (xs.set i x))) :
 req (decide ((Xa4 (.bool x)).length=1∧o+1≤(vB xs).length)&&(Xa4 (.bool x)).all Xkj) (∃ cs',setAt (vB xs) o (Xa4 (.bool x))=cs'∧K cs'):=req.intro (XBM hb e) (XDq e h)
theorem st_S {xs:List (List UInt8)} {o i:Nat} {x:List UInt8} {K:List Value→Prop} (hb:decide (i<xs.length)=true) (e:o=i) (h:K (vS (xs.set i x))) :
 req (decide ((Xa4 (.string ⟨⟨x⟩⟩)).length=1∧o+1≤(vS xs).length)&&(Xa4 (.string ⟨⟨x⟩⟩)).all Xkj) (∃ cs',setAt (vS xs) o (Xa4 (.string ⟨⟨x⟩⟩))=cs'∧K cs'):=req.intro (XBj hb e) (XDz e h)
end Go.Vm
namespace Go.Vm
theorem br.h2 {α:Type} {b b':Bool} {X Y:Option α} {r:α} {p q:Prop} (h:cond b' X Y=some r) (e:b=b') (k2:b'=false→Y=some r→q) (k1:b'=true→X=some r→p):br b p q:=br.h h e k1 k2
end Go.Vm
namespace Go.Vm
open Go Go.RowKit
theorem VR.ofNil {ρ:Ren} {s:Nat} {rv:Value} (h:VR ρ (.slice none 0 s) rv) (j sz:Nat):VR ρ (.slice (some ⟨j,0,none⟩) 0 sz) rv:=by
 cases h;exact .slice0 none
mutual
inductive Nv (j:Nat):Value→Value→Prop
 | same (v):Nv j v v
 | nil (s sz):Nv j (.slice none 0 s) (.slice (some ⟨j,0,none⟩) 0 sz)
 | tup {a b:List Value} (h:NvL j a b):Nv j (.tuple ⟨a⟩) (.tuple ⟨b⟩)
 | agg {a b:List Value} (h:NvL j a b):Nv j (.agg ⟨a⟩) (.agg ⟨b⟩)
inductive NvL (j:Nat):List Value→List Value→Prop
 | nil:NvL j [] []
 | cons {v v':Value} {l l':List Value} (h:Nv j v v') (t:NvL j l l'):NvL j (v::l) (v'::l')
end
mutual
theorem Nv.vr {j:Nat} {ρ:Ren}:∀ {v v':Value},Nv j v v'→∀ {rv:Value},VR ρ v rv→VR ρ v' rv
 | _,_,.same v,_,h=>h
 | _,_,.nil s sz,_,h=>VR.ofNil h _ _
 | _,_,.tup hl,_,h=>by cases h with|tuple ht=>exact .tuple (NvL.vr hl ht)
 | _,_,.agg hl,_,h=>by cases h with|agg ht=>exact .agg (NvL.vr hl ht)
theorem NvL.vr {j:Nat} {ρ:Ren}:∀ {l l':List Value},NvL j l l'→∀ {rl:List Value},VRL ρ l rl→VRL ρ l' rl
 | _,_,.nil,_,h=>h
 | _,_,.cons hv ht,_,h=>by cases h with|cons a b=>exact .cons (Nv.vr hv a) (NvL.vr ht b)
end
end Go.Vm
namespace Go.Vm
end Go.Vm
namespace Go.Vm
open Go Go.RowKit
def XpS (o:Xbe) (K:Xbe→Prop):Prop:=
 match o with
 | .cells cs=>Xl2 cs fun cs=>K (.cells cs)
 | .row own cs=>Xl2 cs fun cs=>K (.row own cs)
 | .ty t cs=>K (.ty t cs)
 | .siter s p=>K (.siter s p)
 | .mp cs=>K (.mp cs)
 | .loop l=>K (.loop l)
 | .marks=>K .marks
theorem Xsw (o:Xbe) (K:Xbe→Prop):XpS o K=K o:=by
 cases o<;>simp only [XpS,Xjy]
def Xjk (bs:List Nat) (h:Hp) (K:Hp→Prop):Prop:=
 match h with
 | []=>K []
 | (i,o)::l=>cond (Xyc i bs) (XpS o fun o=>Xjk bs l fun l=>K ((i,o)::l)) (Xvf o fun o=>Xjk bs l fun l=>K ((i,o)::l))
theorem XlC (bs:List Nat):∀ (h:Hp) (K:Hp→Prop),Xjk bs h K=K h
 | [],K=>rfl
 | (i,o)::l,K=>by
   rw [Xjk]
   cases Xyc i bs
   ·rw [cond_false,XoJ,XlC bs l]
   ·rw [cond_true,Xsw,XlC bs l]
theorem Xbn.XaO {s:Xc3} {vals:List Value} {h:Hp} {top:Nat} {K:Value→Hp→Nat→Prop} {v:Value} {h':Hp} {top':Nat} (bs:List Nat) (e:XhB s vals h top=some (v,h',top')) (k:Xg7 v fun v=>Xjk bs h' fun h'=>K v h' top'):Xbn s vals h top K:=
 Xbn.intro e (by simpa only [Xg6,XlC] using k)
end Go.Vm
namespace Go.Vm
open Go Go.RowKit
inductive Xzv:Value→Hp→Nat→Value→Hp→Nat→Prop
 | refl (v:Value) (H:Hp) (t:Nat):Xzv v H t v H t
 | val {v v' v2:Value} {H H2:Hp} {t t2:Nat} (h:Nv t v v') (k:Xzv v' (Xgt H t (.row true [])) (t+1) v2 H2 t2):Xzv v H t v2 H2 t2
 | cell {v v2:Value} {H H2:Hp} {t t2 s:Nat} (b i sz:Nat) {cs:List Value} (hb:XaY H b=some (.cells cs)) (hi:cs[i]?=some (.slice none 0 s)) (k:Xzv v (Xgt (Xgt H b (.cells (cs.set i (.slice (some ⟨t,0,none⟩) 0 sz)))) t (.row true [])) (t+1) v2 H2 t2):Xzv v H t v2 H2 t2
theorem XAH {P:Program} {w0:World} {U:UG} {ρ:Ren} {H:Hp} {top s:Nat} {w:World} (h:HpR P w0 U ρ H top w) {b i:Nat} (sz:Nat) {cs:List Value} (hb:XaY H b=some (.cells cs)) (hi:cs[i]?=some (.slice none 0 s)):HpR P w0 U ρ (Xgt H b (.cells (cs.set i (.slice (some ⟨top,0,none⟩) 0 sz)))) top w:=
 { h with
   obj:=fun j o ho=>by
    rw [Xba] at ho
    split at ho
    ·rename_i hj;subst hj;cases ho
     obtain ⟨l,hl,hc,hw⟩:=h.obj b _ hb
     refine ⟨l,hl,?_,fun _=>hw rfl⟩
     obtain ⟨g1,g2,g3⟩:=(hc:Xbc ρ w l true cs)
     refine ⟨by simpa using g1,fun k v hv=>?_,g3⟩
     rw [List.getElem?_set] at hv
     split at hv
     ·rename_i hk;subst hk
      split at hv
      ·cases hv
       obtain ⟨v',a,b'⟩:=g2 i _ hi
       exact ⟨v',a,VR.ofNil b' _ _⟩
      ·cases hv
     ·exact g2 k v hv
    ·exact h.obj j o ho
   dis:=fun j k oj ok lj lk hjk hj hk hlj hlk hw=>by
    have key:∀ j o,XaY (Xgt H b (.cells (cs.set i (.slice (some ⟨top,0,none⟩) 0 sz)))) j=some o→∃ o',XaY H j=some o'∧(writable o=true→writable o'=true):=fun j o ho=>by
     rw [Xba] at ho
     split at ho
     ·rename_i hj;subst hj;exact ⟨_,hb,fun _=>rfl⟩
     ·exact ⟨o,ho,id⟩
    obtain ⟨oj',a1,a2⟩:=key j oj hj
    obtain ⟨ok',b1,_⟩:=key k ok hk
    exact h.dis j k oj' ok' lj lk hjk a1 b1 hlj hlk (a2 hw) }
theorem Xzv.ok {P:Program} {w0:World} {U:Nat→Nat→Prop} {v v2 rv:Value} {H H2:Hp} {t t2:Nat} (k:Xzv v H t v2 H2 t2):∀ {ρ:Ren} {w:World},VR ρ v rv→HpR P w0 (.of U) ρ H t w→∃ ρ',Ext ρ ρ'∧VR ρ' v2 rv∧HpR P w0 (.of U) ρ' H2 t2 w:=by
 induction k with
 | refl=>intro ρ w h1 h2;exact ⟨ρ,Ext.refl ρ,h1,h2⟩
 | val h k ih=>
   intro ρ w h1 h2
   have hx:=Ext.upd (l:=⟨0,0,0⟩) h2.Xmi
   obtain ⟨ρ',e1,e2,e3⟩:=ih ((h.vr h1).mono hx) (XkT h2)
   exact ⟨ρ',hx.trans e1,e2,e3⟩
 | cell b i sz hb hi k ih=>
   intro ρ w h1 h2
   have hx:=Ext.upd (l:=⟨0,0,0⟩) h2.Xmi
   obtain ⟨ρ',e1,e2,e3⟩:=ih (h1.mono hx) (XkT (XAH h2 sz hb hi))
   exact ⟨ρ',hx.trans e1,e2,e3⟩
end Go.Vm
namespace Go.Vm
end Go.Vm
namespace Go.Vm
open Go Go.RowKit
@[simp] theorem Xzp (l:List UInt8):(ofBytes l).length=l.length:=by simp [ofBytes]
def un1 {α:Type} (un:Value→Option α):List Value→Option α
 | [v]=>un v
 | _=>none
theorem XuL {α:Type} {un:Value→Option α} {g:α→Value} (h:∀ v x,un v=some x→v=g x) {cs:List Value} {x:α} (e:un1 un cs=some x):cs=[g x]:=by
 unfold un1 at e
 split at e
 ·rw [h _ _ e]
 ·cases e
theorem XgS (k:IntKind) {n:Int}:asI k (.int k n)=some n:=by simp [asI]
theorem Xg1 {s:List UInt8}:asS (.string ⟨⟨s⟩⟩)=some s:=rfl
def fvV:Option Nat→Value
 | none=>.nilFunc
 | some n=>.func (.func n) ⟨[]⟩ ⟨[]⟩
theorem Xho (x:Option Nat):Xa8 (fvV x)=true:=by cases x<;>rfl
theorem Xy3 {h:Hp} {k b o n:Nat} {ob:Xbe} {cs cs':List Value} (ho:XaY h b=some ob) (hc:ob.wcs=some cs) (hle:o+n≤cs.length) (e:(cs.drop o).take n=cs') (hf:Xa8.flatL cs'=true) :
 Xcw h k (.pt n) (.pointer (some ⟨b,o,none⟩))=some (.pointer (some ⟨k,0,none⟩),[some (.cells cs')]):=by
 subst e
 simp only [Xcw,ho,hc,hle,hf,↓reduceIte]
theorem fsp {α:Type} {x:Option Nat} {A:Option α} {B:Nat→Option α} {res:α} {G:Prop} (h:x.elim A B=some res) (t:x=none→A=some res→G) (f:∀ n,x=some n→B n=some res→G):G:=by
 cases x with
 | none=>exact t rfl h
 | some n=>exact f n rfl h
theorem fcase {α:Type} {x c:Nat} {A B:Option α} {res:α} {G:Prop} (h:cond (x==c) A B=some res) (t:x=c→A=some res→G) (f:B=some res→G):G:=by
 cases hx:(x==c)
 ·rw [hx] at h;exact f h
 ·rw [hx] at h;exact t (eq_of_beq hx) h
def XxE (i:Nat) (a b:Dec):Dec:=fun vs cs=>match vs[i]? with
 | some (.pointer none)=>b vs cs
 | _=>a vs cs
theorem XxE.elim {i:Nat} {a b:Dec} {vs:List Value} {cs:List (Option (List Value))} {r:Xdj} (h:XxE i a b vs cs=some r):a vs cs=some r∨b vs cs=some r:=by
 unfold XxE at h
 split at h
 ·exact .inr h
 ·exact .inl h
theorem Xs1 {H:Hp} {s:Nat→Option Nat}:Xo0 H s [] []:=trivial
theorem Xhx {H:Hp} {s:Nat→Option Nat} {j:Nat} {js:List Nat} {c c':List Value} {cs:List (List Value)} (e:XeB.renL s c=some c') (h:Has H j c') (t:Xo0 H s js cs):Xo0 H s (j::js) (c::cs):=⟨⟨_,e,h⟩,t⟩
theorem Xs3 {n:Nat} {wr:List (Option (List Value))}:XwX n wr []:=trivial
theorem Xhu {n j:Nat} {wr:List (Option (List Value))} {js:List Nat} (h:n≤j) (t:XwX n wr js):XwX n wr (j::js):=⟨.inl h,t⟩
theorem js_r {n j:Nat} {wr:List (Option (List Value))} {js:List Nat} (h:wr[j]?=some none) (t:XwX n wr js):XwX n wr (j::js):=⟨.inr h,t⟩
theorem Xs2 {H:Hp} {s:Nat→Option Nat} {k:Nat}:XsO H s k []:=trivial
theorem wr_n {H:Hp} {s:Nat→Option Nat} {k:Nat} {l:List (Option (List Value))} (t:XsO H s (k+1) l):XsO H s k (none::l):=t
theorem wr_s {H:Hp} {s:Nat→Option Nat} {k:Nat} {c c':List Value} {l:List (Option (List Value))} (e:XeB.renL s c=some c') (h:Has H k c') (t:XsO H s (k+1) l) (hm:mk3 c=none:=by rfl):XsO H s k (some c::l):=⟨by unfold HasW;rw [hm];exact ⟨_,e,h⟩,t⟩
theorem wr_m {H:Hp} {s:Nat→Option Nat} {k:Nat} {c:List Value} {l:List (Option (List Value))} (h:XaY H k=some (.mp c)) (t:XsO H s (k+1) l):XsO H s k (some (.float .f64 0::c)::l):=⟨h,t⟩
theorem Res.flat {n:Nat} {r:Xdj} {v':Value} {H':Hp} {b:Bool} (e:r.v=.bool b) (_:r.new=[]) (h:Res n r v' H'):v'=.bool b:=by
 obtain ⟨js,h1,h2,-⟩:=h.ex
 rw [e] at h1
 cases h1;rfl
theorem Xbn.q {s:Xc3} {vals:List Value} {h:Hp} {top:Nat} {K:Value→Hp→Nat→Prop} {r:Xdj} {v':Value} (e1:XcP h 0 s.modes vals=some (vals,[])) (ew:XiQ h s.modes vals=[]) (e2:s.run vals []=some r) (hn:r.new=[]) (hw:r.wr=[]) (e6:XeB (Xp5 top 0 []) r.v=some v')
 (k:Xg7 v' fun v=>Xjk [] h fun h'=>K v h' top):Xbn s vals h top K:=by
 refine Xbn.XaO [] (Xar (n:=0) (m:=0) (t':=top) e1 ew rfl e2 rfl (by rw [hn];rfl) rfl rfl (by rw [hw];exact XaN) (by rw [hn];exact XaM) e6) k
theorem Xhd {α:Type} {o:Option α} {f:α→Xdj} {vs:List Value} {cs:List (Option (List Value))} {r:Xdj} (h:Xfq (ofG o f) vs cs=some r):vs=[]∧cs=[]∧∃ x,o=some x∧f x=r:=by
 obtain ⟨a,b,c⟩:=Xfq.elim h
 exact ⟨a,b,ofG.elim c⟩
theorem Res.z {n:Nat} {r:Xdj} {v':Value} {H':Hp} (e1:XeB (XpD [] n) r.v=some v') (e2:r.new=[]) (e3:r.wr=[]):Res n r v' H':=
 Res.of [] e1 (by rw [e2];exact Xs1) (by decide) Xs3 (by rw [e3];exact Xs2)
theorem Xbn.p {s:Xc3} {vals:List Value} {h:Hp} {top:Nat} {K:Value→Hp→Nat→Prop} {r:Xdj} {v':Value} (e2:s.run vals []=some r)
 (k:Xg7 v' fun v=>Xjk [] h fun h'=>K v h' top) (e1:XcP h 0 s.modes vals=some (vals,[]):=by exact rfl) (ew:XiQ h s.modes vals=[]:=by exact rfl) (hn:r.new=[]:=by exact rfl) (hw:r.wr=[]:=by exact rfl) (e6:XeB (Xp5 top 0 []) r.v=some v':=by exact rfl):Xbn s vals h top K:=Xbn.q e1 ew e2 hn hw e6 k
theorem Res.y {n:Nat} {r:Xdj} {v':Value} {H':Hp} (e1:XeB (XpD [] n) r.v=some v':=by exact rfl) (e2:r.new=[]:=by exact rfl) (e3:r.wr=[]:=by exact rfl):Res n r v' H':=Res.z e1 e2 e3
end Go.Vm
namespace Go.Vm
open Go Go.RowKit
section
variable {α:Type} {f:α→List Value} {c:Nat}
end
end Go.Vm
namespace Go.Vm
end Go.Vm
namespace Go.Vm
open Go Go.RowKit Go.WideShapes
section
variable {H:Type} {enc:TypeId×Value→H} {P:Program} {w:World} {base:Nat} {held:Bool}
theorem XcQ.XDy:∀ {ks:List SK} {cs:List Value},XcQ ks cs→∀ v∈cs,Xa8 v=true
 | [],[],_,v,hv=>by cases hv
 | [],_::_,h,_,_=>h.elim
 | _::_,[],h,_,_=>h.elim
 | k::ks,c::cs,h,v,hv=>by
   rcases List.mem_cons.1 hv with rfl|hv
   ·exact XlR.flat h.1
   ·exact XcQ.XDy h.2 v hv
def RowN (w:World) (ks:List SK) (a:Option Addr) (len cap:Nat) (zs:List Value):Prop:=
 (a=none∧len=0∧cap=0∧zs=[])∨∃ x,a=some x∧len≤cap∧cap≤maxLen∧zs.length=cap*ks.length∧(∀ (i:Nat) v,zs[i]?=some v→w.cell? (x.add i)=some v)∧∀ i,i<cap→XcQ ks ((zs.drop (i*ks.length)).take ks.length)
theorem XCv {r:Reach} {b0 n:Nat} {t e:TypeId} {ks:List SK} {v:Value} {d:DataW H} {ps:List MemPlace} (ht:P.underlying t=some (.slice e)) (hc:P.cellsOf e=ks.length) (hk:XsD P n e=some ks) (hval:Value.okWide P w r b0 t v)
 (hd:DataW.Trod enc P w base (fun _=>true) held t v d ps):∃ a len cap zs,v=.slice a len cap∧RowN w ks a len cap zs:=by
 obtain ⟨a,len,cap,rfl⟩:=okWide_slice ht hval
 obtain ⟨fuel,hf⟩:=hd
 rcases Go.Deep.open_slice ht hf with ⟨h0,_⟩|⟨x,l,c,m,n',D,Pl,hcs,hb,hl,hm,hmm,_,hx⟩
 ·simp [Value.cells] at h0
  obtain ⟨rfl,rfl,rfl⟩:=h0
  exact ⟨_,_,_,[],rfl,.inl ⟨rfl,rfl,rfl,rfl⟩⟩
 ·simp [Value.cells] at hcs
  obtain ⟨rfl,rfl,rfl⟩:=hcs
  simp only [if_true] at hmm
  subst hmm
  obtain ⟨CS,hCS⟩:=Go.Deep.choose_lt (α:=List Value) (p:=fun i cs=>w.cells? base (x.add (i*P.cellsOf e)) (P.cellsOf e)=some cs∧DataW.trod enc P w base (fun _=>true) held n' e cs=some (D i,Pl i)) hx
  rw [hc] at hCS
  have hlen:∀ i,i<m→(CS i).length=ks.length:=fun i hi=>(World.cells?_some (hCS i hi).1).2.1
  refine ⟨_,_,_,vT (fun i=>if i<m then CS i else List.replicate ks.length (.bool false)) (List.range m),rfl,.inr ⟨x,rfl,hl,hm,?_,?_,?_⟩⟩
  all_goals
   have hF:∀ i,(if i<m then CS i else List.replicate ks.length (.bool false)).length=ks.length:=fun i=>by
    split
    ·rename_i hi;exact hlen i hi
    ·simp
  ·rw [XnP hF,List.length_range]
  ·intro k v ev
   have hk0:k<m*ks.length:=by
    rcases Nat.lt_or_ge k (m*ks.length) with h|h
    ·exact h
    ·rw [List.getElem?_eq_none (by rw [XnP hF,List.length_range];exact h)] at ev;cases ev
   have hpos:0<ks.length:=by
    rcases Nat.eq_zero_or_pos ks.length with h|h
    ·rw [h] at hk0;omega
    ·exact h
   have hi:k/ks.length<m:=(Nat.div_lt_iff_lt_mul hpos).2 hk0
   have hj:k%ks.length<ks.length:=Nat.mod_lt _ hpos
   have e1:k/ks.length*ks.length+k%ks.length=k:=by rw [Nat.mul_comm];exact Nat.div_add_mod k ks.length
   have e2:=XyZ hF (xs:=List.range m) (i:=k/ks.length) (j:=k%ks.length) (x:=k/ks.length) (List.getElem?_range hi) hj
   rw [e1,if_pos hi] at e2
   rw [e2] at ev
   have h3:=(World.cells?_some (hCS _ hi).1).2.2 (k%ks.length) hj
   rw [Go.Deep.add_add,e1] at h3
   rw [h3];exact ev
  ·intro i hi
   rw [Xp6 hF]
   have e1:=Xqa hF ((List.range m).drop i) 1
   rw [Nat.one_mul] at e1
   rw [e1]
   have e2:((List.range m).drop i).take 1=[i]:=by
    rw [List.drop_eq_getElem_cons (by simpa using hi)]
    simp
   rw [e2]
   show XcQ ks ((if i<m then CS i else List.replicate ks.length (.bool false))++[])
   rw [List.append_nil,if_pos hi]
   exact XmC hk (hCS i hi).2
theorem XC3.rowN {ks:List SK} {w:World} {a:Option Addr} {len cap:Nat} {zs:List Value} (h:RowN w ks a len cap zs) (hpos:0<ks.length):XC3 w (.sl ks.length) (.sl len (zs.take (len*ks.length))) (.slice a len cap)∧(zs.take (len*ks.length)).length=len*ks.length∧(∀ i,i<len→XcQ ks (((zs.take (len*ks.length)).drop (i*ks.length)).take ks.length))∧len≤maxLen:=by
 rcases h with ⟨rfl,rfl,rfl,rfl⟩|⟨x,rfl,hl,hm,hz,hc,ho⟩
 ·exact ⟨.inl ⟨⟨_,rfl⟩,rfl,by simp⟩,by simp,fun i hi=>absurd hi (Nat.not_lt_zero _),by simp [maxLen]⟩
 ·have hmul:len*ks.length≤cap*ks.length:=Nat.mul_le_mul_right _ hl
  have hcell:∀ i,i<len→XcQ ks (((zs.take (len*ks.length)).drop (i*ks.length)).take ks.length):=fun i hi=>by
   have h1:=ho i (by omega)
   have h2:(i+1)*ks.length≤len*ks.length:=Nat.mul_le_mul_right _ (by omega)
   rw [Nat.succ_mul] at h2
   rw [List.drop_take,List.take_take,Nat.min_eq_left (by omega)]
   exact h1
  refine ⟨?_,by rw [List.length_take];omega,hcell,by omega⟩
  rcases Nat.eq_zero_or_pos cap with h0|h0
  ·subst h0
   obtain rfl:len=0:=by omega
   exact .inl ⟨⟨_,rfl⟩,rfl,by simp⟩
  ·have hcap:0<cap*ks.length:=Nat.mul_pos h0 hpos
   have hs:x.spot=none:=by
    have:=hc 0 zs[0] (List.getElem?_eq_getElem (by omega))
    cases hx:x.spot with
    | none=>rfl
    | some q=>
      simp only [Addr.add,↓reduceIte,World.cell?] at this
      split at this
      ·simp [hx] at this
      ·cases this
   obtain ⟨b,o,q⟩:=x
   simp only at hs
   subst hs
   have hadd:∀ i,(⟨b,o,none⟩:Addr).add i=⟨b,o+i,none⟩:=fun i=>by
    unfold Addr.add;split
    ·rename_i e;subst e;rfl
    ·rfl
   have hflat:∀ (i:Nat) v,zs[i]?=some v→Xa8 v=true:=fun i v e=>by
    have hi:i<cap*ks.length:=by
     rcases Nat.lt_or_ge i (cap*ks.length) with h|h
     ·exact h
     ·rw [List.getElem?_eq_none (by omega)] at e;cases e
    have hq:i/ks.length<cap:=(Nat.div_lt_iff_lt_mul hpos).2 hi
    have hj:i%ks.length<ks.length:=Nat.mod_lt _ hpos
    have e1:i/ks.length*ks.length+i%ks.length=i:=by rw [Nat.mul_comm];exact Nat.div_add_mod i ks.length
    refine XcQ.XDy (ho _ hq) v (List.mem_of_getElem? (i:=i%ks.length) ?_)
    rw [List.getElem?_take_of_lt hj,List.getElem?_drop,e1];exact e
   refine .inr ⟨b,o,cap,rfl,hl,fun ρ=>⟨by rw [List.length_take];simp only;omega,fun i v e=>?_,fun i hi=>?_⟩⟩
   ·have hi:i<len*ks.length:=by
     rcases Nat.lt_or_ge i (len*ks.length) with h|h
     ·exact h
     ·rw [List.getElem?_eq_none (by rw [List.length_take];omega)] at e;cases e
    rw [List.getElem?_take_of_lt hi] at e
    have h1:=hc i v e
    rw [hadd] at h1
    exact ⟨v,h1,VR.flat ρ v (hflat i v e)⟩
   ·have hi':i<zs.length:=by simp only at hi;omega
    have h1:=hc i zs[i] (List.getElem?_eq_getElem hi')
    rw [hadd] at h1
    exact ⟨by simp [h1],fun e=>by cases e⟩
end
theorem XAk {α:Type} {ks:List SK} {c:α→List Value} {ok:α→Prop} (hc:∀ cs,XcQ ks cs→∃ x,cs=c x∧ok x):∀ (len:Nat) (zs:List Value),zs.length=len*ks.length→(∀ i,i<len→XcQ ks ((zs.drop (i*ks.length)).take ks.length))→∃ xs:List α,zs=vT c xs∧xs.length=len∧∀ x∈xs,ok x
 | 0,zs,hl,_=>⟨[],by rw [Nat.zero_mul] at hl;rw [List.eq_nil_of_length_eq_zero hl];rfl,rfl,fun _ h=>by cases h⟩
 | len+1,zs,hl,h=>by
   have h0:=h 0 (by omega)
   rw [Nat.zero_mul,List.drop_zero] at h0
   obtain ⟨x,hx,ox⟩:=hc _ h0
   obtain ⟨xs,h1,h2,h3⟩:=XAk hc len (zs.drop ks.length) (by rw [List.length_drop,hl,Nat.succ_mul];omega) (fun i hi=>by
    have:=h (i+1) (by omega)
    rw [List.drop_drop,show ks.length+i*ks.length=(i+1)*ks.length by rw [Nat.succ_mul,Nat.add_comm]];exact this)
   refine ⟨x::xs,?_,by simp [h2],fun y hy=>?_⟩
   ·have:vT c (x::xs)=c x++vT c xs:=rfl
    rw [this,←hx,←h1,List.take_append_drop]
   ·rcases List.mem_cons.1 hy with rfl|hy
    ·exact ox
    ·exact h3 y hy
end Go.Vm
namespace Go.Vm
open Go
theorem Xfn {n:Int} (h1:-9223372036854775808≤n) (h2:n<9223372036854775808):wI .i64 n=n:=by
 show IntKind.wrap .i64 n=n;rw [IntKind.wrap_i64];omega
theorem XqQ {n:Int} (h1:0≤n) (h2:n<18446744073709551616):wI .u64 n=n:=by
 show IntKind.wrap .u64 n=n
 simp only [IntKind.wrap,IntKind.bits,IntKind.signed];simp;omega
theorem XtS (n:Int):wI .u64 n=n%18446744073709551616:=by
 show IntKind.wrap .u64 n=_
 simp only [IntKind.wrap,IntKind.bits,IntKind.signed];simp
theorem bv64 {n:Nat} (h:n<18446744073709551616):(BitVec.ofInt 64 (n:Int)).toNat=n:=by
 rw [BitVec.toNat_ofInt];omega
theorem XCZ {a b:Nat} (ha:a<18446744073709551616) (hb:b<18446744073709551616):XuG .u64 (a:Int) (b:Int)=((a &&& b:Nat):Int):=by
 have h:a &&& b≤a:=Nat.and_le_left
 show IntKind.wrap .u64 _=_
 rw [show IntKind.bits .u64=64 from rfl,BitVec.toNat_and,bv64 (by omega),bv64 (by omega)]
 exact XqQ (by omega) (by omega)
theorem XDm {a b:Nat} (ha:a<18446744073709551616) (hb:b<18446744073709551616):Xse .u64 (a:Int) (b:Int)=((a ||| b:Nat):Int):=by
 have h:a ||| b<2^64:=Nat.or_lt_two_pow (by omega) (by omega)
 show IntKind.wrap .u64 _=_
 rw [show IntKind.bits .u64=64 from rfl,BitVec.toNat_or,bv64 (by omega),bv64 (by omega)]
 exact XqQ (by omega) (by omega)
theorem Xwb (a k:Nat):a &&& (2^k - 1)=a%2^k:=Nat.and_two_pow_sub_one_eq_mod a k
theorem XCx {a b k:Nat} (hb:b<2^k):(a*2^k) ||| b=a*2^k+b:=by
 rw [Nat.mul_comm];exact (Nat.two_pow_add_eq_or_of_lt hb a).symm
theorem Xkx (k:Nat) {a m:Int} (hm:m=2^k - 1) (hk:k≤64) (h0:0≤a) (h1:a<18446744073709551616):XuG .u64 a m=a%2^k:=by
 obtain ⟨n,rfl⟩:=Int.eq_ofNat_of_zero_le h0
 have hp:2^k≤2^64:=Nat.pow_le_pow_right (by decide) hk
 have hp1:1≤2^k:=Nat.one_le_two_pow
 have:m=((2^k - 1:Nat):Int):=by rw [hm];push_cast [hp1];rfl
 rw [this,XCZ (by omega) (by omega),Xwb];push_cast;rfl
theorem XCd (a:Int) (k:Nat):a.fdiv (2^k)=a/2^k:=Int.fdiv_eq_ediv_of_nonneg a (Int.le_of_lt (Int.pow_pos (by decide)))
theorem XaX {α:Type} {p:Prop} [Decidable p] {x:Option α} (h:p):XaU (decide p) x=x:=XaU.mk (decide_eq_true h)
theorem Xcl {α:Type} {p:Prop} [Decidable p] {x y:α} (h:p):cond (decide p) x y=x:=by rw [decide_eq_true h,cond_true]
theorem Xbd {α:Type} {p:Prop} [Decidable p] {x y:α} (h:¬ p):cond (decide p) x y=y:=by rw [decide_eq_false h,cond_false]
theorem Xw8 {α:Type} {p:Prop} [Decidable p] {x y:α}:cond (decide p) x y=if p then x else y:=by
 by_cases h:p<;>simp [h]
theorem iter_eq {σ ρ:Type} {step:σ→Option (Sum σ ρ)} (F:σ→ρ) (P:σ→Prop) (μ:σ→Nat)
 (h:∀ s,P s→step s=some (.inr (F s))∨∃ s',step s=some (.inl s')∧P s'∧μ s'<μ s∧F s'=F s):∀ n s,P s→μ s<n→iter step n s=some (F s)
 | 0,s,hp,hn=>by omega
 | n+1,s,hp,hn=>by
   rw [iter]
   rcases h s hp with e|⟨s',e,hp',hm,hf⟩
   ·rw [e]
   ·rw [e];exact hf▸iter_eq F P μ h n s' hp' (by omega)
theorem Xc0:FUEL=18446744073709551616:=rfl
end Go.Vm
namespace Go.Vm.Code
open Go Go.Vm Go.Proofs
def τ0:Operand:=.tmp 0
def τ1:Operand:=.tmp 1
def τ2:Operand:=.tmp 2
def τ3:Operand:=.tmp 3
def τ4:Operand:=.tmp 4
def τ5:Operand:=.tmp 5
def τ6:Operand:=.tmp 6
def τ7:Operand:=.tmp 7
def τ8:Operand:=.tmp 8
def τ9:Operand:=.tmp 9
def Xif:Operand:=.tmp 10
def XhV:Operand:=.tmp 11
def Xig:Operand:=.tmp 12
def Xil:Operand:=.tmp 13
def XjC:Operand:=.tmp 14
def XiI:Operand:=.tmp 15
def Xki:Operand:=.tmp 16
def XiZ:Operand:=.tmp 17
def Xi2:Operand:=.tmp 18
def XlP:Operand:=.tmp 19
def XkW:Operand:=.tmp 20
def XlT:Operand:=.tmp 21
def Xnd:Operand:=.tmp 22
def XmX:Operand:=.tmp 23
def Xnj:Operand:=.tmp 24
def Xm1:Operand:=.tmp 25
def Xns:Operand:=.tmp 26
def Xoe:Operand:=.tmp 27
def XpA:Operand:=.tmp 28
def Xpp:Operand:=.tmp 29
def XpC:Operand:=.tmp 30
def XpB:Operand:=.tmp 31
def XpZ:Operand:=.tmp 32
def Xr8:Operand:=.tmp 33
def XpG:Operand:=.tmp 34
def Xrr:Operand:=.tmp 35
def Xsr:Operand:=.tmp 36
def XsP:Operand:=.tmp 37
def Xrc:Operand:=.tmp 38
def Xsl:Operand:=.tmp 39
def Xs0:Operand:=.tmp 40
def XsY:Operand:=.tmp 41
def Xs5:Operand:=.tmp 42
def Xs4:Operand:=.tmp 43
def XsX:Operand:=.tmp 44
def Xt8:Operand:=.tmp 45
def XtA:Operand:=.tmp 46
def XvM:Operand:=.tmp 47
def XvN:Operand:=.tmp 48
def XvL:Operand:=.tmp 49
def Xy2:Operand:=.tmp 50
def XzA:Operand:=.tmp 51
def XzS:Operand:=.tmp 52
def Xzb:Operand:=.tmp 53
def XAq:Operand:=.tmp 54
def XBE:Operand:=.tmp 55
def XAR:Operand:=.tmp 56
def Xza:Operand:=.tmp 57
def XzC:Operand:=.tmp 58
def XAy:Operand:=.tmp 59
def XCt:Operand:=.tmp 60
def XCm:Operand:=.tmp 61
def XCo:Operand:=.tmp 62
def XCC:Operand:=.tmp 63
def Xym:Operand:=.tmp 64
def XD1:Operand:=.tmp 65
def XEh:Operand:=.tmp 66
def XEt:Operand:=.tmp 67
def XDg:Operand:=.tmp 68
def XEv:Operand:=.tmp 69
def XED:Operand:=.tmp 70
def τ71:Operand:=.tmp 71
def τ72:Operand:=.tmp 72
def τ73:Operand:=.tmp 73
def τ74:Operand:=.tmp 74
def τ75:Operand:=.tmp 75
def τ76:Operand:=.tmp 76
def τ77:Operand:=.tmp 77
def τ78:Operand:=.tmp 78
def τ79:Operand:=.tmp 79
def τ80:Operand:=.tmp 80
def τ81:Operand:=.tmp 81
def XCS:Operand:=.tmp 82
def τ83:Operand:=.tmp 83
def τ84:Operand:=.tmp 84
def τ85:Operand:=.tmp 85
def τ86:Operand:=.tmp 86
def τ87:Operand:=.tmp 87
def τ88:Operand:=.tmp 88
def τ89:Operand:=.tmp 89
def τ90:Operand:=.tmp 90
def τ91:Operand:=.tmp 91
def τ92:Operand:=.tmp 92
def τ93:Operand:=.tmp 93
def τ94:Operand:=.tmp 94
def τ95:Operand:=.tmp 95
def τ96:Operand:=.tmp 96
def τ97:Operand:=.tmp 97
def τ98:Operand:=.tmp 98
def τ99:Operand:=.tmp 99
def Xzj:Operand:=.tmp 100
def XzI:Operand:=.tmp 101
def XAu:Operand:=.tmp 102
def XBD:Operand:=.tmp 103
def XzK:Operand:=.tmp 104
def XBQ:Operand:=.tmp 105
def Xzy:Operand:=.tmp 106
def Xzc:Operand:=.tmp 107
def XBr:Operand:=.tmp 108
def Xy6:Operand:=.tmp 109
def XBc:Operand:=.tmp 110
def XBU:Operand:=.tmp 111
def XB3:Operand:=.tmp 112
def Xzl:Operand:=.tmp 113
def XDT:Operand:=.tmp 114
def XD8:Operand:=.tmp 115
def τ116:Operand:=.tmp 116
def τ117:Operand:=.tmp 117
def τ118:Operand:=.tmp 118
def τ119:Operand:=.tmp 119
def τ120:Operand:=.tmp 120
def τ121:Operand:=.tmp 121
def τ122:Operand:=.tmp 122
def τ123:Operand:=.tmp 123
def τ124:Operand:=.tmp 124
def τ125:Operand:=.tmp 125
def τ126:Operand:=.tmp 126
def τ127:Operand:=.tmp 127
def τ128:Operand:=.tmp 128
def τ129:Operand:=.tmp 129
def τ130:Operand:=.tmp 130
def τ131:Operand:=.tmp 131
def τ132:Operand:=.tmp 132
def τ133:Operand:=.tmp 133
def τ134:Operand:=.tmp 134
def τ135:Operand:=.tmp 135
def τ136:Operand:=.tmp 136
def τ137:Operand:=.tmp 137
def τ138:Operand:=.tmp 138
def τ139:Operand:=.tmp 139
def τ140:Operand:=.tmp 140
def τ141:Operand:=.tmp 141
def τ142:Operand:=.tmp 142
def τ143:Operand:=.tmp 143
def τ144:Operand:=.tmp 144
def τ145:Operand:=.tmp 145
def τ146:Operand:=.tmp 146
def τ147:Operand:=.tmp 147
def τ148:Operand:=.tmp 148
def τ149:Operand:=.tmp 149
def τ150:Operand:=.tmp 150
def τ151:Operand:=.tmp 151
def τ152:Operand:=.tmp 152
def τ153:Operand:=.tmp 153
def τ154:Operand:=.tmp 154
def τ155:Operand:=.tmp 155
def τ156:Operand:=.tmp 156
def τ157:Operand:=.tmp 157
def τ158:Operand:=.tmp 158
def oD (n:Nat) (o:VOp):Xcv:=⟨some n,o,none⟩
def oN (o:VOp):Xcv:=⟨none,o,none⟩
def oM (n:Nat) (x:Operand):Xcv:=⟨some n,.mv x,none⟩
def oG (n:Nat) (o:VOp) (j:Nat) (b:Bool):Xcv:=⟨some n,o,some (j,b)⟩
def oE (n i:Nat) (x:Operand):Xcv:=⟨some n,.extract i x,none⟩
def k3_6:VC:=.regD [oM 36 τ0,oM 37 τ1,oD 38 (.loadN [(.int .u64),(.int .u64)] τ9),oD 39 (.callF 10 [Xsr,XsP,Xrc]),oM 40 τ0,oM 41 τ1,oD 42 (.loadN [(.int .u64),(.int .u64)] τ9)] [(3,6)] [oD 43 (.callF 10 [Xs0,XsY,Xs5]),oM 15 Xsl,oM 16 Xs4]
def k3_21:VC:=.regD [oM 59 XiI,oM 60 τ3,oM 61 XiZ,oD 62 (.idxAL 2 XCt XCm),oD 63 (.fieldA 0 XCo),oD 64 (.load1 .str XCC),oM 65 τ3,oM 66 XiZ,oD 67 (.idxAL 2 XD1 XEh),oD 68 (.fieldA 1 XEt),oD 69 (.load1 (.int .i64) XDg),oD 70 (.callF 12 [XAy,Xym,XEv]),oM 71 τ3,oM 72 XiZ,oD 73 (.idxAL 2 τ71 τ72),oD 74 (.loadN [.str,(.int .i64)] τ73)] [(11,15)] [oD 75 (.callF 13 [τ74]),oD 76 (.eqB true XED τ75)]
def k3_37:VC:=.regD [oM 83 Xki,oM 84 τ4,oM 85 Xi2,oD 86 (.idxAL 2 τ84 τ85),oD 87 (.fieldA 0 τ86),oD 88 (.load1 .str τ87),oM 89 τ4,oM 90 Xi2,oD 91 (.idxAL 2 τ89 τ90),oD 92 (.fieldA 1 τ91),oD 93 (.load1 (.int .i64) τ92)] [] [oD 94 (.callF 12 [τ83,τ88,τ93])]
def k3_59:VC:=.regD [oM 131 XiI,oM 132 τ5,oD 133 (.callF 16 [τ131,τ132]),oD 134 (.loadN [(.int .u64),(.int .u64)] τ9),oM 135 τ0,oM 136 τ1,oM 137 XkW,oM 138 τ5,oD 139 (.callF 17 [τ134,τ135,τ136,τ137,τ138]),oD 140 (.bin .eql τ133 τ139),oM 141 τ140,oG 142 (.mv XiI) 141 true,oG 143 (.callF 18 [τ142]) 141 true,oG 144 (.mv XkW) 141 true,oG 145 (.callF 19 [τ144]) 141 true,oG 146 (.bin .eql τ143 τ145) 141 true,oD 147 (.pick τ141 τ146 (.const (.bool false))),oM 148 τ147,oG 149 (.mv XiI) 148 true,oG 150 (.mv τ6) 148 true,oG 151 (.mv τ5) 148 true,oG 152 (.callF 20 [τ149,τ150,τ151]) 148 true,oG 153 (.mv XlT) 148 true] [(2,3)] [oG 154 (.bin .eql τ152 τ153) 148 true,oD 155 (.pick τ148 τ154 (.const (.bool false))),oM 156 τ155,oG 157 (.callF 9 []) 156 true,oD 158 (.pick τ156 τ157 (.const (.bool false))),oM 14 τ158]
def k3_74:VC:=.seq (.reg [oD 9 (.box τ2),oD 14 (.mv (.const (.bool false)))]) (.seq (.seq (.reg [oM 22 τ3,oD 23 (.callF 8 [Xnd]),oD 24 (.not XmX),oM 25 Xnj,oG 26 (.mv τ4) 25 false,oG 27 (.callF 8 [Xns]) 25 false,oG 28 (.not Xoe) 25 false,oD 29 (.pick Xm1 (.const (.bool true)) XpA),oM 30 Xpp,oG 31 (.mv τ5) 30 false,oG 32 (.lenS XpB) 30 false,oG 33 (.bin .gtr XpZ (.const (.int .i64 20))) 30 false,oD 34 (.pick XpC (.const (.bool true)) Xr8)]) (.cond XpG (.seq (.reg [oD 35 (.callF 9 []),oM 14 Xrr]) .ret) .skip)) (.seq k3_6 (.seq (.seq (.reg [oM 44 XiI,oD 45 (.isNil 0 false XsX),oM 46 τ0,oM 47 τ1,oD 48 (.callF 11 [XtA,XvM]),oD 49 (.eqB false Xt8 XvN)]) (.cond XvL (.seq (.reg [oD 14 (.mv (.const (.bool false)))]) .ret) .skip)) (.seq (.seq (.reg [oM 50 XiI,oD 51 (.isNil 0 false Xy2)]) (.cond XzA (.seq (.reg [oD 52 (.callF 9 []),oM 14 XzS]) .ret) .skip)) (.seq (.seq (.reg [oD 17 (.mv (.const (.int .i64 0)))]) (.block 0 (.loop (.seq (.seq (.reg [oM 53 XiZ,oM 54 τ3,oD 55 (.lenL XAq),oD 56 (.bin .lss Xzb XBE)]) (.cond XAR .skip (.exit 0))) (.seq (.block 1 (.seq k3_21 (.cond τ76 (.seq (.reg [oD 14 (.mv (.const (.bool false)))]) .ret) .skip))) (.reg [oM 57 XiZ,oD 58 (.bin .add Xza (.const (.int .i64 1))),oM 17 XzC])))))) (.seq (.seq (.reg [oD 18 (.mv (.const (.int .i64 0)))]) (.block 2 (.loop (.seq (.seq (.reg [oM 77 Xi2,oM 78 τ4,oD 79 (.lenL τ78),oD 80 (.bin .lss τ77 τ79)]) (.cond τ80 .skip (.exit 2))) (.seq (.block 3 k3_37) (.reg [oM 81 Xi2,oD 82 (.bin .add τ81 (.const (.int .i64 1))),oM 18 XCS])))))) (.seq (.reg [oM 95 τ0,oM 96 τ1,oD 97 (.fieldA 0 τ9),oD 98 (.load1 (.int .u64) τ97),oD 99 (.fieldA 1 τ9),oD 100 (.load1 (.int .u64) τ99),oD 101 (.bin .add Xzj (.const (.int .u64 1))),oD 102 (.build [(.int .u64 0),(.int .u64 0)] [(0,1,τ98),(1,1,XzI)]),oD 103 (.callF 10 [τ95,τ96,XAu]),oM 19 XBD]) (.seq (.seq (.reg [oM 104 XiI,oM 105 Xki,oD 106 (.callF 14 [XzK,XBQ]),oD 107 (.not Xzy),oM 108 Xzc,oG 109 (.mv XiI) 108 false,oG 110 (.mv XlP) 108 false,oG 111 (.callF 14 [Xy6,XBc]) 108 false,oD 112 (.pick XBr (.const (.bool true)) XBU)]) (.cond XB3 (.seq (.reg [oD 14 (.mv (.const (.bool false)))]) .ret) .skip)) (.seq (.reg [oD 20 (.mv (.const (.slice none 0 0)))]) (.seq (.reg [oM 113 XkW,oM 114 τ3,oD 115 (.app 33 2 24 Xzl XDT),oM 20 XD8]) (.seq (.reg [oM 116 XkW,oM 117 τ4,oD 118 (.app 33 2 24 τ116 τ117),oM 20 τ118]) (.seq (.reg [oD 21 (.mv (.const (.int .i64 (-1))))]) (.seq (.seq (.reg [oM 119 τ6,oD 120 (.bin .geq τ119 (.const (.int .i64 0))),oM 121 τ120,oG 122 (.mv τ6) 121 true,oG 123 (.mv τ0) 121 true,oG 124 (.bin .lss τ122 τ123) 121 true,oD 125 (.pick τ121 τ124 (.const (.bool false)))]) (.cond τ125 (.reg [oD 126 (.loadN [(.int .u64),(.int .u64)] τ9),oM 127 τ6,oM 128 τ1,oM 129 τ5,oD 130 (.callF 15 [τ126,τ127,τ128,τ129]),oM 21 τ130]) .skip)) (.seq k3_59 .ret))))))))))))))
def fn3:VFn:=⟨159,k3_74,[.tmp 14]⟩
def Xzo:VC:=.seq (.seq (.reg [oM 4 τ3,oM 5 τ0,oD 6 (.lenL τ5),oD 7 (.bin .lss τ4 τ6),oM 8 τ7,oG 9 (.mv τ3) 8 true,oG 10 (.bin .lss τ9 (.const (.int .i64 30))) 8 true,oD 11 (.pick τ8 Xif (.const (.bool false)))]) (.cond XhV .skip (.exit 0))) (.seq (.block 1 (.seq (.reg [oM 14 τ0,oM 15 τ3,oD 16 (.idxAL 2 XjC XiI),oD 17 (.fieldA 0 Xki),oD 18 (.load1 .str XiZ),oD 19 (.lenS Xi2),oD 20 (.bin .gtr XlP (.const (.int .i64 20)))]) (.cond XkW (.seq (.reg [oD 2 (.mv (.const (.bool false)))]) .ret) .skip))) (.reg [oM 12 τ3,oD 13 (.bin .add Xig (.const (.int .i64 1))),oM 3 Xil]))
def XEK:VC:=.seq (.reg [oM 21 τ0,oD 22 (.lenL XlT),oD 23 (.bin .leq Xnd (.const (.int .i64 30))),oM 2 XmX]) .ret
def XCY:VC:=.seq (.reg [oD 2 (.mv (.const (.bool false)))]) (.seq (.seq (.reg [oD 3 (.mv (.const (.int .i64 0)))]) (.block 0 (.loop Xzo))) XEK)
def fn8:VFn:=⟨24,XCY,[.tmp 2]⟩
def k9_6:VC:=.reg [oM 23 τ2,oM 24 XmX,oG 25 (.mv τ3) 24 true,oG 26 (.bin .eql Xm1 (.const (.int .i64 3))) 24 true,oG 27 (.mv Xns) 24 true,oG 28 (.mv τ3) 27 false,oG 29 (.bin .eql XpA (.const (.int .i64 7))) 27 false,oG 30 (.pick Xoe (.const (.bool true)) Xpp) 24 true,oD 31 (.pick Xnj XpC (.const (.bool false))),oM 32 XpB,oG 33 (.mv τ1) 32 true,oG 34 (.callF 18 [Xr8]) 32 true,oG 35 (.bin .eql XpG (.const (.int .i64 7))) 32 true,oD 36 (.pick XpZ Xrr (.const (.bool false))),oM 37 Xsr,oG 38 (.mv τ4) 37 true,oG 39 (.callF 12 [Xrc,(.const (.string ⟨⟨[97]⟩⟩)),(.const (.int .i64 1))]) 37 true,oG 40 (.not Xsl) 37 true,oD 41 (.pick XsP Xs0 (.const (.bool false))),oM 42 XsY,oG 43 (.mv τ5) 42 true,oG 44 (.callF 12 [Xs4,(.const (.string ⟨⟨[97]⟩⟩)),(.const (.int .i64 1))]) 42 true,oG 45 (.not XsX) 42 true,oD 46 (.pick Xs5 Xt8 (.const (.bool false))),oM 47 XtA,oG 48 (.mv τ4) 47 true,oG 49 (.callF 16 [XvN,(.const (.string ⟨⟨[97]⟩⟩))]) 47 true,oG 50 (.mv τ5) 47 true,oG 51 (.callF 18 [Xy2]) 47 true,oG 52 (.bin .add XvL XzA) 47 true,oG 53 (.bin .eql XzS (.const (.int .i64 0))) 47 true,oD 54 (.pick XvM Xzb (.const (.bool false))),oM 55 XAq,oG 56 (.mv τ4) 55 true,oG 57 (.callF 20 [XAR,(.const (.int .i64 0)),(.const (.string ⟨⟨[97]⟩⟩))]) 55 true,oG 58 (.bin .eql Xza (.const (.int .i64 (-1)))) 55 true,oD 59 (.pick XBE XzC (.const (.bool false))),oM 60 XAy,oG 61 (.mv τ5) 60 true,oG 62 (.mv τ5) 60 true,oG 63 (.callF 14 [XCm,XCo]) 60 true,oG 64 (.not XCC) 60 true,oD 65 (.pick XCt Xym (.const (.bool false))),oM 66 XD1,oG 67 (.build [(.int .u64 0),(.int .u64 0)] []) 66 true,oG 68 (.callF 10 [(.const (.int .i64 0)),(.const (.int .i64 1)),XEt]) 66 true,oG 69 (.isNil 0 false XDg) 66 true,oD 70 (.pick XEh XEv (.const (.bool false))),oM 0 XED]
def XDC:VC:=.seq (.reg [oD 0 (.mv (.const (.bool false)))]) (.seq (.reg [oD 6 (.build [(.int .u64 0),(.int .u64 0)] [(0,1,(.const (.int .u64 1)))]),oD 7 (.callF 10 [(.const (.int .i64 2)),(.const (.int .i64 10)),τ6]),oM 1 τ7]) (.seq (.reg [oM 8 τ1,oD 9 (.callF 12 [τ8,(.const (.string ⟨⟨[97]⟩⟩)),(.const (.int .i64 3))]),oM 10 τ9,oG 11 (.mv τ1) 10 true,oG 12 (.callF 12 [XhV,(.const (.string ⟨⟨[98]⟩⟩)),(.const (.int .i64 4))]) 10 true,oD 13 (.pick Xif Xig (.const (.bool false))),oM 14 Xil,oG 15 (.mv τ1) 14 true,oG 16 (.callF 12 [XiI,(.const (.string ⟨⟨[97]⟩⟩)),(.const (.int .i64 (-1)))]) 14 true,oG 17 (.not Xki) 14 true,oD 18 (.pick XjC XiZ (.const (.bool false))),oM 2 Xi2]) (.seq (.reg [oM 19 τ1,oD 20 (.callF 16 [XlP,(.const (.string ⟨⟨[97]⟩⟩))]),oM 3 XkW]) (.seq (.reg [oD 4 (.mv (.const (.pointer none)))]) (.seq (.reg [oD 21 (.build [(.int .u64 0),(.int .u64 0),(.slice none 0 0),(.int .i64 0)] []),oD 22 (.box XlT),oM 5 Xnd]) (.seq k9_6 .ret))))))
def fn9:VFn:=⟨71,XDC,[.tmp 0]⟩
def XEb:VC:=.regD [oM 28 τ7,oM 29 τ7,oD 30 (.nilCheck Xpp),oD 31 (.fieldA 2 XpC),oD 32 (.load1 .oth XpB),oM 33 τ1,oD 34 (.mkSl 1 8 [(.int .i64 0)] Xr8 Xr8),oD 35 (.buildSl 1 1 [(.slice none 0 0)] [(0,1,XpG)]),oD 36 (.app 69 1 24 XpZ Xrr)] [(4,6),(4,7)] [oD 37 (.nilCheck XpA),oD 38 (.fieldA 2 XsP),oN (.store 1 Xrc Xsr)]
def Xyl:VC:=.seq (.reg [oD 5 (.box τ2),oD 6 (.mv (.const (.pointer none)))]) (.seq (.seq (.reg [oM 8 τ0,oD 9 (.bin .lss τ8 (.const (.int .i64 1))),oM 10 τ9,oG 11 (.mv τ0) 10 false,oG 12 (.bin .gtr XhV (.const (.int .i64 8))) 10 false,oD 13 (.pick Xif (.const (.bool true)) Xig),oM 14 Xil,oG 15 (.mv τ1) 14 false,oG 16 (.bin .lss XiI (.const (.int .i64 1))) 14 false,oD 17 (.pick XjC (.const (.bool true)) Xki),oM 18 XiZ,oG 19 (.mv τ1) 18 false,oG 20 (.bin .gtr XlP (.const (.int .i64 4096))) 18 false,oD 21 (.pick Xi2 (.const (.bool true)) XkW)]) (.cond XlT (.seq (.reg [oD 6 (.mv (.const (.pointer none)))]) .ret) .skip)) (.seq (.reg [oD 22 (.loadN [(.int .u64),(.int .u64)] τ5),oD 23 (.build [(.int .u64 0),(.int .u64 0),(.slice none 0 0),(.int .i64 0)] [(0,2,Xnd)]),oD 24 (.box XmX),oM 7 Xnj]) (.seq (.seq (.reg [oM 25 τ0,oD 26 (.mv (.const (.int .i64 0)))]) (.block 0 (.loop (.seq (.reg [oD 27 (.bin .lss Xns Xm1)]) (.seq (.cond Xoe .skip (.exit 0)) (.seq (.block 1 XEb) (.reg [oD 39 (.bin .add Xns (.const (.int .i64 1))),oM 26 Xsl]))))))) (.seq (.reg [oM 40 τ7,oM 6 Xs0]) .ret))))
def fn10:VFn:=⟨41,Xyl,[.tmp 6]⟩
def XC0:VC:=.reg [oM 18 τ0,oM 19 τ1,oD 20 (.mkFunc 40 [] [τ5]),oD 21 (.callF 39 [Xi2,XlP,XkW])]
def k12_7:VC:=.regD [oM 22 τ0,oD 23 (.nilCheck Xnd),oD 24 (.fieldA 3 XmX),oD 25 (.load1 (.int .i64) τ5)] [] [oD 26 (.callF 41 [Xnj,Xm1])]
def XyD:VC:=.seq k12_7 (.seq (.reg [oD 6 (.mv (.const (.bool true)))]) .ret)
def XjS:VC:=.seq (.reg [oD 5 (.box τ2),oD 6 (.mv (.const (.bool false)))]) (.seq (.seq (.reg [oM 7 τ0,oD 8 (.callF 38 [τ7]),oD 9 (.not τ8),oM 10 τ9,oG 11 (.load1 (.int .i64) τ5) 10 false,oG 12 (.bin .lss XhV (.const (.int .i64 0))) 10 false,oD 13 (.pick Xif (.const (.bool true)) Xig),oM 14 Xil,oG 15 (.load1 (.int .i64) τ5) 14 false,oG 16 (.bin .gtr XiI (.const (.int .i64 1048576))) 14 false,oD 17 (.pick XjC (.const (.bool true)) Xki)]) (.cond XiZ (.seq (.reg [oD 6 (.mv (.const (.bool false)))]) .ret) .skip)) (.seq XC0 XyD))
def fn12:VFn:=⟨27,XjS,[.tmp 6]⟩
def XmH:VC:=.seq (.reg [oD 2 (.mv (.const (.bool false)))]) (.seq (.reg [oM 3 τ0,oD 4 (.isNil 0 true τ3),oM 5 τ4,oG 6 (.mv τ0) 5 true,oG 7 (.nilCheck τ6) 5 true,oG 8 (.fieldA 2 τ7) 5 true,oG 9 (.load1 .oth τ8) 5 true,oG 10 (.lenL τ9) 5 true,oG 11 (.bin .gtr Xif (.const (.int .i64 0))) 5 true,oD 12 (.pick τ5 XhV (.const (.bool false))),oM 2 Xig]) .ret)
def fn38:VFn:=⟨13,XmH,[.tmp 2]⟩
def k40_0:VC:=.reg [oM 3 τ0,oD 4 (.load1 (.int .i64) τ1),oD 5 (.callF 41 [τ3,τ4])]
def fn40:VFn:=⟨6,k40_0,[]⟩
def k41_0:VC:=.reg [oM 4 τ0,oM 5 τ0,oD 6 (.nilCheck τ5),oD 7 (.load1 (.int .i64) τ6),oM 8 τ1,oD 9 (.bin .add τ7 τ8),oD 10 (.minmax false [(.const (.int .i64 1099511627776)),τ9]),oD 11 (.nilCheck τ4),oN (.store 1 XhV Xif)]
def fn41:VFn:=⟨12,k41_0,[]⟩
def k39_4:VC:=.regD [oM 15 τ2,oM 16 τ0,oD 17 (.nilCheck Xki),oD 18 (.fieldA 2 XiZ),oD 19 (.load1 .oth Xi2),oM 20 τ6,oD 21 (.idxAL 1 XlP XkW),oD 22 (.load1 .oth XlT),oM 23 τ0,oM 24 τ6,oM 25 τ1,oD 26 (.callF 20 [XmX,Xnj,Xm1]),oD 27 (.idxAL 1 Xnd Xns)] [(4,11),(7,11)] [oD 28 (.callV XiI [Xoe])]
def XtX:VC:=.seq (.reg [oD 13 (.bin .lss Xig XhV)]) (.seq (.cond Xil .skip (.exit 0)) (.seq (.block 1 (.seq (.reg [oM 14 Xig,oM 6 XjC]) k39_4)) (.reg [oD 29 (.bin .add Xig (.const (.int .i64 1))),oM 12 Xpp])))
def XEq:VC:=.seq (.reg [oM 7 τ0,oD 8 (.nilCheck τ7),oD 9 (.fieldA 2 τ8),oD 10 (.load1 .oth τ9),oD 11 (.lenL Xif),oD 12 (.mv (.const (.int .i64 0)))]) (.block 0 (.loop XtX))
def fn39:VFn:=⟨30,XEq,[]⟩
def k20_6:VC:=.regD [oM 24 τ0,oD 25 (.nilCheck Xnj),oD 26 (.fieldA 0 Xm1),oD 27 (.fieldA 0 Xns),oD 28 (.load1 (.int .u64) Xoe),oM 29 τ1,oD 30 (.conv .u64 Xpp),oD 31 (.bin .add XpA XpC),oM 32 τ0,oD 33 (.nilCheck XpZ),oD 34 (.fieldA 0 Xr8),oD 35 (.fieldA 1 XpG),oD 36 (.load1 (.int .u64) Xrr),oD 37 (.build [(.int .u64 0),(.int .u64 0)] [(0,1,XpB),(1,1,Xsr)]),oD 7 (.alloc [(.int .u64 0),(.int .u64 0)])] [(4,14),(12,14)] [oN (.store 2 τ7 XsP)]
def k20_7:VC:=.regD [oD 38 (.loadN [(.int .u64),(.int .u64)] τ7),oM 39 τ2,oD 40 (.callF 47 [Xrc,Xsl]),oM 41 τ0,oD 42 (.nilCheck XsY),oD 43 (.fieldA 2 Xs5),oD 44 (.load1 .oth Xs4),oM 45 τ1,oD 46 (.idxAL 1 XsX Xt8),oD 47 (.load1 .oth XtA),oD 48 (.lenL XvM)] [(2,6),(2,9)] [oD 49 (.callF 46 [Xs0,XvN]),oM 6 XvL]
def Xkt:VC:=.seq (.reg [oD 6 (.mv (.const (.int .i64 0)))]) (.seq (.seq (.reg [oM 8 τ0,oD 9 (.callF 38 [τ8]),oD 10 (.not τ9),oM 11 Xif,oG 12 (.mv τ1) 11 false,oG 13 (.bin .lss Xig (.const (.int .i64 0))) 11 false,oD 14 (.pick XhV (.const (.bool true)) Xil),oM 15 XjC,oG 16 (.mv τ1) 15 false,oG 17 (.mv τ0) 15 false,oG 18 (.nilCheck XiZ) 15 false,oG 19 (.fieldA 2 Xi2) 15 false,oG 20 (.load1 .oth XlP) 15 false,oG 21 (.lenL XkW) 15 false,oG 22 (.bin .geq Xki XlT) 15 false,oD 23 (.pick XiI (.const (.bool true)) Xnd)]) (.cond XmX (.seq (.reg [oD 6 (.mv (.const (.int .i64 (-1))))]) .ret) .skip)) (.seq k20_6 (.seq k20_7 .ret)))
def fn20:VFn:=⟨50,Xkt,[.tmp 6]⟩
def XEz:VC:=.seq (.reg [oD 2 (.box τ0),oD 4 (.mv (.const (.int .u64 0)))]) (.seq (.reg [oD 6 (.loadN [(.int .u64),(.int .u64)] τ2),oD 7 (.callF 61 [τ6]),oM 5 τ7]) (.seq (.reg [oM 8 τ5,oM 9 τ1,oD 10 (.callF 62 [τ8,τ9])]) (.seq (.reg [oM 11 τ5,oD 12 (.callF 63 [XhV]),oM 4 Xig]) .ret)))
def fn47:VFn:=⟨13,XEz,[.tmp 4]⟩
def XEe:VC:=.seq (.reg [oD 1 (.box τ0),oD 2 (.mv (.const (.pointer none)))]) (.seq (.reg [oD 3 (.fieldA 0 τ1),oD 4 (.load1 (.int .u64) τ3),oD 5 (.bin .xor (.const (.int .u64 8317987319222330741)) τ4),oD 6 (.fieldA 1 τ1),oD 7 (.load1 (.int .u64) τ6),oD 8 (.bin .xor (.const (.int .u64 7237128888997146477)) τ7),oD 9 (.fieldA 0 τ1),oD 10 (.load1 (.int .u64) τ9),oD 11 (.bin .xor (.const (.int .u64 7816392313619706465)) Xif),oD 12 (.fieldA 1 τ1),oD 13 (.load1 (.int .u64) Xig),oD 14 (.bin .xor (.const (.int .u64 8387220255154660723)) Xil),oD 15 (.build [(.int .u64 0),(.int .u64 0),(.int .u64 0),(.int .u64 0)] [(0,1,τ5),(1,1,τ8),(2,1,XhV),(3,1,XjC)]),oD 16 (.build [(.bool false),(.int .u64 0),(.int .u64 0),(.int .u64 0),(.int .u64 0),(.int .u64 0),(.int .i64 0)] [(0,1,(.const (.bool true))),(1,4,XiI)]),oD 17 (.box Xki),oM 2 XiZ]) .ret)
def fn61:VFn:=⟨18,XEe,[.tmp 2]⟩
def k62_7:VC:=.regD [oM 22 τ0,oD 23 (.nilCheck Xnd),oD 24 (.fieldA 5 XmX),oD 25 (.load1 (.int .u64) Xnj),oM 26 τ5,oD 27 (.conv .u64 Xns),oM 28 τ0,oD 29 (.nilCheck XpA),oD 30 (.fieldA 6 Xpp),oD 31 (.load1 (.int .i64) XpC),oD 32 (.bin .rem XpB (.const (.int .i64 8))),oD 33 (.bin .mul (.const (.int .i64 8)) XpZ),oD 34 (.bin .shl Xoe Xr8)] [] [oD 35 (.bin .or Xm1 XpG),oD 36 (.nilCheck Xnd),oD 37 (.fieldA 5 Xsr),oN (.store 1 XsP Xrr)]
def XDS:VC:=.regD [oM 51 τ0,oD 52 (.nilCheck XzA),oD 53 (.fieldA 1 XzS),oM 54 τ0,oD 55 (.nilCheck XAq),oD 56 (.fieldA 5 XBE),oD 57 (.load1 (.int .u64) XAR)] [] [oD 58 (.callF 72 [Xzb,Xza])]
def Xtm:VC:=.seq (.reg [oD 19 (.bin .lss Xi2 XiZ)]) (.seq (.cond XlP .skip (.exit 0)) (.seq (.block 1 (.seq (.reg [oD 20 (.idxAL 1 Xki Xi2),oD 21 (.load1 (.int .u8) XkW),oM 5 XlT]) (.seq k62_7 (.seq (.reg [oM 38 τ0,oD 39 (.nilCheck Xrc),oD 40 (.fieldA 6 Xsl),oD 41 (.load1 (.int .i64) Xs0),oD 42 (.bin .add XsY (.const (.int .i64 1))),oD 43 (.nilCheck Xrc),oD 44 (.fieldA 6 Xs4),oN (.store 1 XsX Xs5)]) (.seq (.reg [oM 45 τ0,oD 46 (.nilCheck Xt8),oD 47 (.fieldA 6 XtA),oD 48 (.load1 (.int .i64) XvM),oD 49 (.bin .rem XvN (.const (.int .i64 8))),oD 50 (.bin .eql XvL (.const (.int .i64 0)))]) (.cond Xy2 (.seq XDS (.reg [oM 59 τ0,oD 60 (.nilCheck XAy),oD 61 (.fieldA 5 XCt),oN (.store 1 XCm (.const (.int .u64 0)))])) .skip)))))) (.reg [oD 62 (.bin .add Xi2 (.const (.int .i64 1))),oM 18 XCo])))
def XyW:VC:=.seq (.seq (.reg [oM 6 τ0,oD 7 (.isNil 0 false τ6),oM 8 τ7,oG 9 (.mv τ0) 8 false,oG 10 (.nilCheck τ9) 8 false,oG 11 (.fieldA 0 Xif) 8 false,oG 12 (.load1 .bool XhV) 8 false,oG 13 (.not Xig) 8 false,oD 14 (.pick τ8 (.const (.bool true)) Xil)]) (.cond XjC .ret .skip)) (.seq (.reg [oM 15 τ1,oD 16 (.s2b XiI),oD 17 (.lenL Xki),oD 18 (.mv (.const (.int .i64 0)))]) (.block 0 (.loop Xtm)))
def fn62:VFn:=⟨63,XyW,[]⟩
def k72_0:VC:=.regD [oM 4 τ0,oD 5 (.nilCheck τ4),oD 6 (.idxAA 4 1 τ5 (.const (.int .i64 3))),oD 7 (.load1 (.int .u64) τ6),oM 8 τ1,oD 9 (.bin .xor τ7 τ8),oD 10 (.nilCheck τ4)] [] [oD 11 (.idxAA 4 1 Xif (.const (.int .i64 3))),oN (.store 1 XhV τ9)]
def k72_2:VC:=.regD [oM 14 τ0,oD 15 (.nilCheck XjC),oD 16 (.idxAA 4 1 XiI (.const (.int .i64 0))),oD 17 (.load1 (.int .u64) Xki),oM 18 τ1,oD 19 (.bin .xor XiZ Xi2),oD 20 (.nilCheck XjC)] [] [oD 21 (.idxAA 4 1 XkW (.const (.int .i64 0))),oN (.store 1 XlT XlP)]
def XDZ:VC:=.seq k72_0 (.seq (.reg [oM 12 τ0,oD 13 (.callF 73 [Xig,(.const (.int .i64 2))])]) k72_2)
def fn72:VFn:=⟨22,XDZ,[]⟩
def XCc:VC:=.seq (.reg [oD 8 (.bin .lss τ7 τ6)]) (.seq (.cond τ8 .skip (.exit 0)) (.seq (.block 1 (.reg [oM 9 τ0,oD 10 (.callF 76 [τ9])])) (.reg [oD 11 (.bin .add τ7 (.const (.int .i64 1))),oM 7 XhV])))
def Xyh:VC:=.seq (.reg [oM 4 τ1,oD 5 (.minmax false [τ4,(.const (.int .i64 64))]),oD 6 (.minmax true [(.const (.int .i64 0)),τ5]),oD 7 (.mv (.const (.int .i64 0)))]) (.block 0 (.loop XCc))
def fn73:VFn:=⟨12,Xyh,[]⟩
def k76_0:VC:=.regD [oM 2 τ0,oD 3 (.nilCheck τ2),oD 4 (.idxAA 4 1 τ3 (.const (.int .i64 0))),oD 5 (.load1 (.int .u64) τ4),oM 6 τ0,oD 7 (.nilCheck τ6),oD 8 (.idxAA 4 1 τ7 (.const (.int .i64 1))),oD 9 (.load1 (.int .u64) τ8),oD 10 (.bin .add τ5 τ9),oD 11 (.nilCheck τ2)] [] [oD 12 (.idxAA 4 1 XhV (.const (.int .i64 0))),oN (.store 1 Xig Xif)]
def k76_1:VC:=.regD [oM 13 τ0,oM 14 τ0,oD 15 (.nilCheck XjC),oD 16 (.idxAA 4 1 XiI (.const (.int .i64 1))),oD 17 (.load1 (.int .u64) Xki),oD 18 (.callF 78 [XiZ,(.const (.int .i64 13))]),oM 19 τ0,oD 20 (.nilCheck XlP),oD 21 (.idxAA 4 1 XkW (.const (.int .i64 0))),oD 22 (.load1 (.int .u64) XlT),oD 23 (.bin .xor Xi2 Xnd),oD 24 (.nilCheck Xil)] [(5,9)] [oD 25 (.idxAA 4 1 Xnj (.const (.int .i64 1))),oN (.store 1 Xm1 XmX)]
def k76_2:VC:=.regD [oM 26 τ0,oM 27 τ0,oD 28 (.nilCheck Xoe),oD 29 (.idxAA 4 1 XpA (.const (.int .i64 0))),oD 30 (.load1 (.int .u64) Xpp),oD 31 (.callF 78 [XpC,(.const (.int .i64 32))]),oD 32 (.nilCheck Xns)] [] [oD 33 (.idxAA 4 1 XpZ (.const (.int .i64 0))),oN (.store 1 Xr8 XpB)]
def k76_3:VC:=.regD [oM 34 τ0,oD 35 (.nilCheck XpG),oD 36 (.idxAA 4 1 Xrr (.const (.int .i64 2))),oD 37 (.load1 (.int .u64) Xsr),oM 38 τ0,oD 39 (.nilCheck Xrc),oD 40 (.idxAA 4 1 Xsl (.const (.int .i64 3))),oD 41 (.load1 (.int .u64) Xs0),oD 42 (.bin .add XsP XsY),oD 43 (.nilCheck XpG)] [] [oD 44 (.idxAA 4 1 Xs4 (.const (.int .i64 2))),oN (.store 1 XsX Xs5)]
def k76_4:VC:=.regD [oM 45 τ0,oM 46 τ0,oD 47 (.nilCheck XtA),oD 48 (.idxAA 4 1 XvM (.const (.int .i64 3))),oD 49 (.load1 (.int .u64) XvN),oD 50 (.callF 78 [XvL,(.const (.int .i64 16))]),oM 51 τ0,oD 52 (.nilCheck XzA),oD 53 (.idxAA 4 1 XzS (.const (.int .i64 2))),oD 54 (.load1 (.int .u64) Xzb),oD 55 (.bin .xor Xy2 XAq),oD 56 (.nilCheck Xt8)] [(5,9)] [oD 57 (.idxAA 4 1 XAR (.const (.int .i64 3))),oN (.store 1 Xza XBE)]
def k76_5:VC:=.regD [oM 58 τ0,oD 59 (.nilCheck XzC),oD 60 (.idxAA 4 1 XAy (.const (.int .i64 0))),oD 61 (.load1 (.int .u64) XCt),oM 62 τ0,oD 63 (.nilCheck XCo),oD 64 (.idxAA 4 1 XCC (.const (.int .i64 3))),oD 65 (.load1 (.int .u64) Xym),oD 66 (.bin .add XCm XD1),oD 67 (.nilCheck XzC)] [] [oD 68 (.idxAA 4 1 XEt (.const (.int .i64 0))),oN (.store 1 XDg XEh)]
def k76_6:VC:=.regD [oM 69 τ0,oM 70 τ0,oD 71 (.nilCheck XED),oD 72 (.idxAA 4 1 τ71 (.const (.int .i64 3))),oD 73 (.load1 (.int .u64) τ72),oD 74 (.callF 78 [τ73,(.const (.int .i64 21))]),oM 75 τ0,oD 76 (.nilCheck τ75),oD 77 (.idxAA 4 1 τ76 (.const (.int .i64 0))),oD 78 (.load1 (.int .u64) τ77),oD 79 (.bin .xor τ74 τ78),oD 80 (.nilCheck XEv)] [(5,9)] [oD 81 (.idxAA 4 1 τ80 (.const (.int .i64 3))),oN (.store 1 τ81 τ79)]
def k76_7:VC:=.regD [oM 82 τ0,oD 83 (.nilCheck XCS),oD 84 (.idxAA 4 1 τ83 (.const (.int .i64 2))),oD 85 (.load1 (.int .u64) τ84),oM 86 τ0,oD 87 (.nilCheck τ86),oD 88 (.idxAA 4 1 τ87 (.const (.int .i64 1))),oD 89 (.load1 (.int .u64) τ88),oD 90 (.bin .add τ85 τ89),oD 91 (.nilCheck XCS)] [] [oD 92 (.idxAA 4 1 τ91 (.const (.int .i64 2))),oN (.store 1 τ92 τ90)]
def k76_8:VC:=.regD [oM 93 τ0,oM 94 τ0,oD 95 (.nilCheck τ94),oD 96 (.idxAA 4 1 τ95 (.const (.int .i64 1))),oD 97 (.load1 (.int .u64) τ96),oD 98 (.callF 78 [τ97,(.const (.int .i64 17))]),oM 99 τ0,oD 100 (.nilCheck τ99),oD 101 (.idxAA 4 1 Xzj (.const (.int .i64 2))),oD 102 (.load1 (.int .u64) XzI),oD 103 (.bin .xor τ98 XAu),oD 104 (.nilCheck τ93)] [(5,9)] [oD 105 (.idxAA 4 1 XzK (.const (.int .i64 1))),oN (.store 1 XBQ XBD)]
def k76_9:VC:=.regD [oM 106 τ0,oM 107 τ0,oD 108 (.nilCheck Xzc),oD 109 (.idxAA 4 1 XBr (.const (.int .i64 2))),oD 110 (.load1 (.int .u64) Xy6),oD 111 (.callF 78 [XBc,(.const (.int .i64 32))]),oD 112 (.nilCheck Xzy)] [] [oD 113 (.idxAA 4 1 XB3 (.const (.int .i64 2))),oN (.store 1 Xzl XBU)]
def Xys:VC:=.seq k76_0 (.seq k76_1 (.seq k76_2 (.seq k76_3 (.seq k76_4 (.seq k76_5 (.seq k76_6 (.seq k76_7 (.seq k76_8 k76_9))))))))
def fn76:VFn:=⟨114,Xys,[]⟩
def XEs:VC:=.seq (.reg [oD 4 (.mv (.const (.int .u64 0)))]) (.seq (.reg [oM 6 τ1,oD 7 (.conv .u64 τ6),oD 8 (.bin .and τ7 (.const (.int .u64 63))),oM 5 τ8]) (.seq (.reg [oM 9 τ0,oM 10 τ5,oD 11 (.bin .shl τ9 Xif),oM 12 τ0,oM 13 τ5,oD 14 (.bin .sub (.const (.int .u64 64)) Xil),oD 15 (.bin .shr Xig XjC),oD 16 (.bin .or XhV XiI),oM 4 Xki]) .ret))
def fn78:VFn:=⟨17,XEs,[.tmp 4]⟩
def k63_7:VC:=.regD [oM 17 τ0,oD 18 (.nilCheck XiZ),oD 19 (.fieldA 5 Xi2),oD 20 (.load1 (.int .u64) XlP),oM 21 τ0,oD 22 (.nilCheck XlT),oD 23 (.fieldA 6 Xnd),oD 24 (.load1 (.int .i64) XmX),oD 25 (.conv .u64 Xnj),oD 26 (.bin .shl Xm1 (.const (.int .u64 56)))] [] [oD 27 (.bin .or XkW Xns),oD 28 (.callF 72 [τ3,Xoe])]
def XyK:VC:=.seq (.reg [oD 2 (.mv (.const (.int .u64 0)))]) (.seq (.seq (.reg [oM 4 τ0,oD 5 (.isNil 0 false τ4),oM 6 τ5,oG 7 (.mv τ0) 6 false,oG 8 (.nilCheck τ7) 6 false,oG 9 (.fieldA 0 τ8) 6 false,oG 10 (.load1 .bool τ9) 6 false,oG 11 (.not Xif) 6 false,oD 12 (.pick τ6 (.const (.bool true)) XhV)]) (.cond Xig (.seq (.reg [oD 2 (.mv (.const (.int .u64 0)))]) .ret) .skip)) (.seq (.reg [oM 13 τ0,oD 14 (.nilCheck Xil),oD 15 (.fieldA 1 XjC),oD 16 (.loadN [(.int .u64),(.int .u64),(.int .u64),(.int .u64)] XiI),oD 3 (.alloc [(.int .u64 0),(.int .u64 0),(.int .u64 0),(.int .u64 0)]),oN (.store 4 τ3 Xki)]) (.seq k63_7 (.seq (.reg [oD 29 (.idxAA 4 1 τ3 (.const (.int .i64 2))),oD 30 (.load1 (.int .u64) Xpp),oD 31 (.bin .xor XpC (.const (.int .u64 255))),oD 32 (.idxAA 4 1 τ3 (.const (.int .i64 2))),oN (.store 1 XpZ XpB)]) (.seq (.reg [oD 33 (.callF 73 [τ3,(.const (.int .i64 4))])]) (.seq (.reg [oD 34 (.idxAA 4 1 τ3 (.const (.int .i64 0))),oD 35 (.load1 (.int .u64) XpG),oD 36 (.idxAA 4 1 τ3 (.const (.int .i64 1))),oD 37 (.load1 (.int .u64) Xsr),oD 38 (.bin .xor Xrr XsP),oD 39 (.idxAA 4 1 τ3 (.const (.int .i64 2))),oD 40 (.load1 (.int .u64) Xsl),oD 41 (.bin .xor Xrc Xs0),oD 42 (.idxAA 4 1 τ3 (.const (.int .i64 3))),oD 43 (.load1 (.int .u64) Xs5),oD 44 (.bin .xor XsY Xs4),oM 2 XsX]) .ret))))))
def fn63:VFn:=⟨45,XyK,[.tmp 2]⟩
def XDO:VC:=.seq (.reg [oD 4 (.mv (.const (.int .i64 0)))]) (.seq (.seq (.reg [oM 5 τ1,oD 6 (.bin .lss τ5 (.const (.int .i64 1))),oM 7 τ6,oG 8 (.mv τ1) 7 false,oG 9 (.bin .gtr τ8 (.const (.int .i64 2147483648))) 7 false,oD 10 (.pick τ7 (.const (.bool true)) τ9)]) (.cond Xif (.seq (.reg [oD 4 (.mv (.const (.int .i64 0)))]) .ret) .skip)) (.seq (.reg [oM 11 τ0,oM 12 τ1,oD 13 (.conv .u64 Xig),oD 14 (.callF 60 [XhV,Xil]),oD 15 (.idxV1 2 XjC (.const (.int .i64 0))),oD 16 (.conv .i64 XiI),oM 4 Xki]) .ret))
def fn46:VFn:=⟨17,XDO,[.tmp 4]⟩
def XD3:VC:=.seq (.reg [oD 4 (.alloc [(.int .u64 0),(.int .u64 0)])]) (.seq (.reg [oM 8 τ0,oM 9 τ1,oD 10 (.callF 71 [τ8,τ9]),oM 7 Xif,oE 11 0 τ7,oE 12 1 τ7,oM 5 XhV,oM 6 Xig]) (.seq (.reg [oM 13 τ5,oM 14 τ6,oD 15 (.build [(.int .u64 0),(.int .u64 0)] [(0,1,Xil),(1,1,XjC)]),oN (.store 2 τ4 XiI)]) .ret))
def fn60:VFn:=⟨16,XD3,[.cell 4 [(.int .u64),(.int .u64)] true]⟩
def XyB:VC:=.seq (.reg [oD 4 (.mv (.const (.int .u64 0))),oD 5 (.mv (.const (.int .u64 0)))]) (.seq (.reg [oM 14 τ0,oD 15 (.bin .and XjC (.const (.int .u64 4294967295))),oM 6 XiI]) (.seq (.reg [oM 16 τ0,oD 17 (.bin .shr Xki (.const (.int .u64 32))),oM 7 XiZ]) (.seq (.reg [oM 18 τ1,oD 19 (.bin .and Xi2 (.const (.int .u64 4294967295))),oM 8 XlP]) (.seq (.reg [oM 20 τ1,oD 21 (.bin .shr XkW (.const (.int .u64 32))),oM 9 XlT]) (.seq (.reg [oM 22 τ6,oM 23 τ8,oD 24 (.bin .mul Xnd XmX),oM 10 Xnj]) (.seq (.reg [oM 25 τ7,oM 26 τ8,oD 27 (.bin .mul Xm1 Xns),oM 28 Xif,oD 29 (.bin .shr XpA (.const (.int .u64 32))),oD 30 (.bin .add Xoe Xpp),oM 11 XpC]) (.seq (.reg [oM 31 XhV,oD 32 (.bin .and XpB (.const (.int .u64 4294967295))),oM 12 XpZ]) (.seq (.reg [oM 33 XhV,oD 34 (.bin .shr Xr8 (.const (.int .u64 32))),oM 13 XpG]) (.seq (.reg [oM 35 Xig,oM 36 τ6,oM 37 τ9,oD 38 (.bin .mul Xsr XsP),oD 39 (.bin .add Xrr Xrc),oM 12 Xsl]) (.seq (.reg [oM 40 τ7,oM 41 τ9,oD 42 (.bin .mul Xs0 XsY),oM 43 Xil,oD 44 (.bin .add Xs5 Xs4),oM 45 Xig,oD 46 (.bin .shr Xt8 (.const (.int .u64 32))),oD 47 (.bin .add XsX XtA),oM 4 XvM]) (.seq (.reg [oM 48 τ0,oM 49 τ1,oD 50 (.bin .mul XvN XvL),oM 5 Xy2]) .ret)))))))))))
def fn71:VFn:=⟨51,XyB,[.tmp 4,.tmp 5]⟩
def Xkk:VC:=.seq (.reg [oD 4 (.mv (.const (.int .i64 0)))]) (.seq (.seq (.reg [oM 6 τ0,oD 7 (.callF 38 [τ6]),oD 8 (.not τ7)]) (.cond τ8 (.seq (.reg [oD 4 (.mv (.const (.int .i64 0)))]) .ret) .skip)) (.seq (.reg [oD 5 (.alloc [(.int .i64 0)]),oN (.store 1 τ5 (.const (.int .i64 1099511627776)))]) (.seq (.reg [oM 9 τ0,oM 10 τ1,oD 11 (.mkFunc 45 [] [τ5]),oD 12 (.callF 39 [τ9,Xif,XhV])]) (.seq (.reg [oD 13 (.load1 (.int .i64) τ5),oM 4 Xil]) .ret))))
def fn16:VFn:=⟨14,Xkk,[.tmp 4]⟩
def k45_0:VC:=.regD [oD 3 (.load1 (.int .i64) τ1),oM 4 τ0,oD 5 (.nilCheck τ4),oD 6 (.load1 (.int .i64) τ5)] [] [oD 7 (.minmax false [τ3,τ6]),oN (.store 1 τ1 τ7)]
def fn45:VFn:=⟨8,k45_0,[]⟩
def Xnk:VC:=.seq (.reg [oD 2 (.mv (.const (.int .i64 0)))]) (.seq (.seq (.reg [oM 3 τ0,oD 4 (.callF 38 [τ3]),oD 5 (.not τ4)]) (.cond τ5 (.seq (.reg [oD 2 (.mv (.const (.int .i64 0)))]) .ret) .skip)) (.seq (.reg [oM 6 τ0,oD 7 (.nilCheck τ6),oD 8 (.fieldA 3 τ7),oD 9 (.load1 (.int .i64) τ8),oM 2 τ9]) .ret))
def fn18:VFn:=⟨10,Xnk,[.tmp 2]⟩
def Xud:VC:=.seq (.reg [oD 19 (.bin .lss Xi2 XiZ)]) (.seq (.cond XlP .skip (.exit 0)) (.seq (.block 1 (.seq (.reg [oM 20 Xi2,oD 21 (.idxAL 1 Xki Xi2),oD 22 (.load1 .oth XlT),oM 5 XkW,oM 6 Xnd]) (.seq (.reg [oM 23 τ6,oD 24 (.lenL XmX),oD 25 (.mv (.const (.int .i64 0)))]) (.block 2 (.loop (.seq (.reg [oD 26 (.bin .lss Xm1 Xnj)]) (.seq (.cond Xns .skip (.exit 2)) (.seq (.block 3 (.seq (.reg [oM 27 Xm1,oD 28 (.idxAL 1 XmX Xm1),oD 29 (.load1 (.int .i64) XpA),oM 7 Xoe,oM 8 Xpp]) (.reg [oM 30 τ0,oD 31 (.nilCheck XpC),oD 32 (.fieldA 2 XpB),oD 33 (.load1 .oth XpZ),oM 34 τ5,oD 35 (.idxAL 1 Xr8 XpG),oD 36 (.load1 .oth Xrr),oM 37 τ7,oD 38 (.idxAL 1 Xsr XsP),oM 39 τ8,oD 40 (.callF 41 [Xrc,Xsl])]))) (.reg [oD 41 (.bin .add Xm1 (.const (.int .i64 1))),oM 25 XsY]))))))))) (.reg [oD 42 (.bin .add Xi2 (.const (.int .i64 1))),oM 18 Xs5])))
def XDi:VC:=.regD [oM 43 τ0,oD 44 (.nilCheck Xs4),oD 45 (.fieldA 3 XsX),oM 46 τ1,oD 47 (.nilCheck XtA),oD 48 (.fieldA 3 XvM),oD 49 (.load1 (.int .i64) XvN)] [] [oD 50 (.callF 41 [Xt8,XvL])]
def Xye:VC:=.seq XDi (.seq (.reg [oD 4 (.mv (.const (.bool true)))]) .ret)
def XEn:VC:=.seq (.reg [oD 4 (.mv (.const (.bool false)))]) (.seq (.seq (.reg [oM 9 τ0,oM 10 τ1,oD 11 (.callF 42 [τ9,Xif]),oD 12 (.not XhV)]) (.cond Xig (.seq (.reg [oD 4 (.mv (.const (.bool false)))]) .ret) .skip)) (.seq (.seq (.reg [oM 13 τ1,oD 14 (.nilCheck Xil),oD 15 (.fieldA 2 XjC),oD 16 (.load1 .oth XiI),oD 17 (.lenL Xki),oD 18 (.mv (.const (.int .i64 0)))]) (.block 0 (.loop Xud))) Xye))
def fn14:VFn:=⟨51,XEn,[.tmp 4]⟩
def k42_1:VC:=.regD [oM 5 τ0,oD 6 (.callF 38 [τ5]),oD 7 (.not τ6),oM 8 τ7,oG 9 (.mv τ1) 8 false,oG 10 (.callF 38 [τ9]) 8 false,oG 11 (.not Xif) 8 false,oD 12 (.pick τ8 (.const (.bool true)) XhV),oM 13 Xig,oG 14 (.mv τ0) 13 false,oG 15 (.nilCheck XjC) 13 false,oG 16 (.fieldA 0 XiI) 13 false,oG 17 (.loadN [(.int .u64),(.int .u64)] Xki) 13 false,oG 18 (.mv τ1) 13 false,oG 19 (.nilCheck Xi2) 13 false,oG 20 (.fieldA 0 XlP) 13 false,oG 21 (.loadN [(.int .u64),(.int .u64)] XkW) 13 false] [] [oG 22 (.eqAgg true [(0,(.int .u64)),(1,(.int .u64))] XiZ XlT) 13 false,oD 23 (.pick Xil (.const (.bool true)) Xnd)]
def XDW:VC:=.regD [oM 24 τ0,oD 25 (.nilCheck Xnj),oD 26 (.fieldA 2 Xm1),oD 27 (.load1 .oth Xns),oM 28 τ1,oD 29 (.nilCheck XpA),oD 30 (.fieldA 2 Xpp),oD 31 (.load1 .oth XpC)] [] [oD 32 (.callF 54 [Xoe,XpB,(.func 55)]),oM 4 XpZ]
def Xnl:VC:=.seq (.reg [oD 4 (.mv (.const (.bool false)))]) (.seq (.seq k42_1 (.cond XmX (.seq (.reg [oD 4 (.mv (.const (.bool false)))]) .ret) .skip)) (.seq XDW .ret))
def fn42:VFn:=⟨33,Xnl,[.tmp 4]⟩
def XuN:VC:=.seq (.reg [oD 18 (.bin .lss XiZ Xki)]) (.seq (.cond Xi2 .skip (.exit 0)) (.seq (.block 1 (.seq (.reg [oM 19 XiZ,oD 20 (.idxAL 1 XiI XiZ),oD 21 (.load1 .oth XkW),oM 7 XlP,oM 8 XlT]) (.seq (.reg [oM 22 τ1,oM 23 τ7,oD 24 (.idxAL 1 Xnd XmX),oD 25 (.load1 .oth Xnj),oM 9 Xm1]) (.seq (.reg [oM 26 τ2,oM 27 τ8,oM 28 τ9,oD 29 (.callV Xns [Xoe,XpA]),oD 30 (.not Xpp)]) (.cond XpC (.seq (.reg [oD 6 (.mv (.const (.bool false)))]) .ret) .skip))))) (.reg [oD 31 (.bin .add XiZ (.const (.int .i64 1))),oM 17 XpB])))
def Xyk:VC:=.seq (.reg [oD 6 (.mv (.const (.bool true)))]) .ret
def XCD:VC:=.seq (.reg [oD 6 (.mv (.const (.bool false)))]) (.seq (.seq (.reg [oM 10 τ0,oD 11 (.lenL Xif),oM 12 τ1,oD 13 (.lenL Xig),oD 14 (.bin .neq XhV Xil)]) (.cond XjC (.seq (.reg [oD 6 (.mv (.const (.bool false)))]) .ret) .skip)) (.seq (.seq (.reg [oM 15 τ0,oD 16 (.lenL XiI),oD 17 (.mv (.const (.int .i64 0)))]) (.block 0 (.loop XuN))) Xyk))
def fn54:VFn:=⟨32,XCD,[.tmp 6]⟩
def XCy:VC:=.seq (.reg [oD 4 (.mv (.const (.bool false)))]) (.seq (.reg [oM 5 τ0,oD 6 (.lenL τ5),oM 7 τ1,oD 8 (.lenL τ7),oD 9 (.bin .eql τ6 τ8),oM 4 τ9]) .ret)
def fn55:VFn:=⟨10,XCy,[.tmp 4]⟩
def k11_3:VC:=.seq (.reg [oD 4 (.mv (.const (.bool false)))]) (.seq (.reg [oM 5 τ0,oD 6 (.bin .geq τ5 (.const (.int .i64 1))),oM 7 τ6,oG 8 (.mv τ0) 7 true,oG 9 (.bin .leq τ8 (.const (.int .i64 8))) 7 true,oD 10 (.pick τ7 τ9 (.const (.bool false))),oM 11 Xif,oG 12 (.mv τ1) 11 true,oG 13 (.bin .geq Xig (.const (.int .i64 1))) 11 true,oD 14 (.pick XhV Xil (.const (.bool false))),oM 15 XjC,oG 16 (.mv τ1) 15 true,oG 17 (.bin .leq Xki (.const (.int .i64 4096))) 15 true,oD 18 (.pick XiI XiZ (.const (.bool false))),oM 4 Xi2]) .ret)
def fn11:VFn:=⟨19,k11_3,[.tmp 4]⟩
def k13_3:VC:=.seq (.reg [oD 1 (.box τ0),oD 2 (.mv (.const (.bool false)))]) (.seq (.reg [oD 3 (.fieldA 1 τ1),oD 4 (.load1 (.int .i64) τ3),oD 5 (.bin .geq τ4 (.const (.int .i64 0))),oM 6 τ5,oG 7 (.fieldA 1 τ1) 6 true,oG 8 (.load1 (.int .i64) τ7) 6 true,oG 9 (.bin .leq τ8 (.const (.int .i64 1048576))) 6 true,oD 10 (.pick τ6 τ9 (.const (.bool false))),oM 2 Xif]) .ret)
def fn13:VFn:=⟨11,k13_3,[.tmp 2]⟩
def k15_3:VC:=.seq (.reg [oD 4 (.box τ0),oD 8 (.mv (.const (.int .i64 0)))]) (.seq (.reg [oD 9 (.fieldA 0 τ4),oD 10 (.load1 (.int .u64) τ9),oM 11 τ1,oD 12 (.conv .u64 XhV),oD 13 (.bin .add Xif Xig),oD 14 (.fieldA 1 τ4),oD 15 (.load1 (.int .u64) XjC),oD 16 (.build [(.int .u64 0),(.int .u64 0)] [(0,1,Xil),(1,1,XiI)]),oM 17 τ3,oD 18 (.callF 44 [Xki,XiZ]),oM 19 τ2,oD 20 (.callF 43 [Xi2,XlP]),oM 8 XkW]) .ret)
def fn15:VFn:=⟨21,k15_3,[.tmp 8]⟩
def k44_1:VC:=.regD [oD 14 (.fieldA 0 τ2),oD 15 (.load1 (.int .u64) XjC),oD 16 (.bin .xor (.const (.int .u64 8317987319222330741)) XiI),oD 17 (.fieldA 1 τ2),oD 18 (.load1 (.int .u64) XiZ),oD 19 (.bin .xor (.const (.int .u64 7237128888997146477)) Xi2),oM 5 Xki] [] [oM 6 XlP]
def k44_2:VC:=.regD [oD 20 (.fieldA 0 τ2),oD 21 (.load1 (.int .u64) XkW),oD 22 (.bin .xor (.const (.int .u64 7816392313619706465)) XlT),oD 23 (.fieldA 1 τ2),oD 24 (.load1 (.int .u64) XmX),oD 25 (.bin .xor (.const (.int .u64 8387220255154660723)) Xnj),oM 7 Xnd] [] [oM 8 Xm1]
def XEB:VC:=.seq (.reg [oD 2 (.box τ0),oD 4 (.mv (.const (.int .u64 0)))]) (.seq k44_1 (.seq k44_2 (.seq (.reg [oM 26 τ1,oD 27 (.lenS Xns),oD 28 (.bin .quo Xoe (.const (.int .i64 8))),oD 29 (.bin .mul XpA (.const (.int .i64 8))),oM 9 Xpp]) (.seq (.seq (.reg [oD 10 (.mv (.const (.int .i64 0)))]) (.block 0 (.loop (.seq (.seq (.reg [oM 30 Xif,oM 31 τ9,oD 32 (.bin .leq XpC XpB)]) (.cond XpZ .skip (.exit 0))) (.seq (.block 1 (.seq (.reg [oM 35 τ1,oM 36 Xif,oM 37 Xif,oD 38 (.bin .add XsP (.const (.int .i64 8))),oM 39 τ1,oD 40 (.lenS Xsl),oD 41 (.minmax false [Xrc,Xs0]),oD 42 (.sliceS Xrr (some Xsr) (some XsY)),oD 43 (.callF 57 [Xs5]),oM 11 Xs4]) (.seq (.seq (.reg [oM 44 Xif,oM 45 τ9,oD 46 (.bin .eql XsX Xt8)]) (.cond XtA (.reg [oM 47 τ1,oM 48 Xif,oD 49 (.sliceS XvM (some XvN) none),oD 50 (.callF 57 [XvL]),oM 51 τ1,oD 52 (.lenS XzA),oD 53 (.bin .rem XzS (.const (.int .i64 256))),oD 54 (.conv .u64 Xzb),oD 55 (.bin .shl XAq (.const (.int .u64 56))),oD 56 (.bin .add Xy2 XBE),oM 11 XAR]) .skip)) (.seq (.reg [oM 57 τ8,oM 58 XhV,oD 59 (.bin .xor Xza XzC),oM 8 XAy]) (.seq (.seq (.reg [oD 12 (.mv (.const (.int .i64 0)))]) (.block 2 (.loop (.seq (.seq (.reg [oM 60 Xig,oD 61 (.bin .lss XCt (.const (.int .i64 2)))]) (.cond XCm .skip (.exit 2))) (.seq (.block 3 (.reg [oM 65 τ5,oM 66 τ6,oM 67 τ7,oM 68 τ8,oD 69 (.callF 58 [XD1,XEh,XEt,XDg]),oM 64 XEv,oE 70 0 Xym,oE 71 1 Xym,oE 72 2 Xym,oE 73 3 Xym,oM 5 XED,oM 6 τ71,oM 7 τ72,oM 8 τ73])) (.reg [oM 62 Xig,oD 63 (.bin .add XCo (.const (.int .i64 1))),oM 12 XCC])))))) (.reg [oM 74 τ5,oM 75 XhV,oD 76 (.bin .xor τ74 τ75),oM 5 τ76])))))) (.reg [oM 33 Xif,oD 34 (.bin .add Xr8 (.const (.int .i64 8))),oM 10 XpG])))))) (.seq (.reg [oM 77 τ7,oD 78 (.bin .xor τ77 (.const (.int .u64 255))),oM 7 τ78]) (.seq (.reg [oM 79 τ5,oM 80 τ6,oM 81 τ7,oM 82 τ8,oD 83 (.callF 59 [τ79,τ80,τ81,XCS,(.const (.int .i64 4))]),oD 13 (.alloc [(.int .u64 0),(.int .u64 0),(.int .u64 0),(.int .u64 0)]),oN (.store 4 Xil τ83)]) (.seq (.reg [oD 84 (.idxAA 4 1 Xil (.const (.int .i64 0))),oD 85 (.load1 (.int .u64) τ84),oD 86 (.idxAA 4 1 Xil (.const (.int .i64 1))),oD 87 (.load1 (.int .u64) τ86),oD 88 (.bin .xor τ85 τ87),oD 89 (.idxAA 4 1 Xil (.const (.int .i64 2))),oD 90 (.load1 (.int .u64) τ89),oD 91 (.bin .xor τ88 τ90),oD 92 (.idxAA 4 1 Xil (.const (.int .i64 3))),oD 93 (.load1 (.int .u64) τ92),oD 94 (.bin .xor τ91 τ93),oM 4 τ94]) .ret)))))))
def fn44:VFn:=⟨95,XEB,[.tmp 4]⟩
def XEd:VC:=.seq (.reg [oD 2 (.mv (.const (.int .u64 0)))]) (.seq (.reg [oD 3 (.mv (.const (.int .u64 0)))]) (.seq (.seq (.reg [oM 5 τ0,oD 6 (.lenS τ5),oD 7 (.bin .sub τ6 (.const (.int .i64 1))),oM 4 τ7]) (.block 0 (.loop (.seq (.seq (.reg [oM 8 τ4,oD 9 (.bin .geq τ8 (.const (.int .i64 0)))]) (.cond τ9 .skip (.exit 0))) (.seq (.block 1 (.reg [oM 12 τ3,oD 13 (.bin .shl Xig (.const (.int .u64 8))),oM 14 τ0,oM 15 τ4,oD 16 (.idxS XjC XiI),oD 17 (.conv .u64 Xki),oD 18 (.bin .add Xil XiZ),oM 3 Xi2])) (.reg [oM 10 τ4,oD 11 (.bin .sub Xif (.const (.int .i64 1))),oM 4 XhV])))))) (.seq (.reg [oM 19 τ3,oM 2 XlP]) .ret)))
def fn57:VFn:=⟨20,XEd,[.tmp 2]⟩
def XDP:VC:=.seq (.reg [oD 8 (.mv (.const (.int .u64 0))),oD 9 (.mv (.const (.int .u64 0))),oD 10 (.mv (.const (.int .u64 0))),oD 11 (.mv (.const (.int .u64 0)))]) (.seq (.reg [oM 12 τ0,oM 13 τ1,oD 14 (.bin .add Xig Xil),oM 0 XjC]) (.seq (.reg [oM 15 τ1,oD 16 (.callF 70 [XiI,(.const (.int .i64 13))]),oM 17 τ0,oD 18 (.bin .xor Xki XiZ),oM 1 Xi2]) (.seq (.reg [oM 19 τ0,oD 20 (.callF 70 [XlP,(.const (.int .i64 32))]),oM 0 XkW]) (.seq (.reg [oM 21 τ2,oM 22 τ3,oD 23 (.bin .add XlT Xnd),oM 2 XmX]) (.seq (.reg [oM 24 τ3,oD 25 (.callF 70 [Xnj,(.const (.int .i64 16))]),oM 26 τ2,oD 27 (.bin .xor Xm1 Xns),oM 3 Xoe]) (.seq (.reg [oM 28 τ0,oM 29 τ3,oD 30 (.bin .add XpA Xpp),oM 0 XpC]) (.seq (.reg [oM 31 τ3,oD 32 (.callF 70 [XpB,(.const (.int .i64 21))]),oM 33 τ0,oD 34 (.bin .xor XpZ Xr8),oM 3 XpG]) (.seq (.reg [oM 35 τ2,oM 36 τ1,oD 37 (.bin .add Xrr Xsr),oM 2 XsP]) (.seq (.reg [oM 38 τ1,oD 39 (.callF 70 [Xrc,(.const (.int .i64 17))]),oM 40 τ2,oD 41 (.bin .xor Xsl Xs0),oM 1 XsY]) (.seq (.reg [oM 42 τ2,oD 43 (.callF 70 [Xs5,(.const (.int .i64 32))]),oM 2 Xs4]) (.seq (.reg [oM 44 τ0,oM 45 τ1,oM 46 τ2,oM 47 τ3,oM 8 XsX,oM 9 Xt8,oM 10 XtA,oM 11 XvM]) .ret)))))))))))
def fn58:VFn:=⟨48,XDP,[.tmp 8,.tmp 9,.tmp 10,.tmp 11]⟩
def k70_1:VC:=.regD [oM 5 τ0,oM 6 τ1,oD 7 (.bin .shl τ5 τ6),oM 8 τ0,oM 9 τ1,oD 10 (.bin .sub (.const (.int .i64 64)) τ9),oD 11 (.bin .shr τ8 Xif)] [] [oD 12 (.bin .or τ7 XhV),oM 4 Xig]
def k70_3:VC:=.seq (.reg [oD 4 (.mv (.const (.int .u64 0)))]) (.seq k70_1 .ret)
def fn70:VFn:=⟨13,k70_3,[.tmp 4]⟩
def XCR:VC:=.seq (.reg [oD 10 (.alloc [(.int .u64 0),(.int .u64 0),(.int .u64 0),(.int .u64 0)])]) (.seq (.seq (.reg [oD 11 (.mv (.const (.int .i64 0)))]) (.block 0 (.loop (.seq (.seq (.reg [oM 12 XhV,oM 13 τ4,oD 14 (.bin .lss Xig Xil),oM 15 XjC,oG 16 (.mv XhV) 15 true,oG 17 (.bin .lss Xki (.const (.int .i64 64))) 15 true,oD 18 (.pick XiI XiZ (.const (.bool false)))]) (.cond Xi2 .skip (.exit 0))) (.seq (.block 1 (.reg [oM 22 τ0,oM 23 τ1,oM 24 τ2,oM 25 τ3,oD 26 (.callF 58 [Xnd,XmX,Xnj,Xm1]),oM 21 Xns,oE 27 0 XlT,oE 28 1 XlT,oE 29 2 XlT,oE 30 3 XlT,oM 0 Xoe,oM 1 XpA,oM 2 Xpp,oM 3 XpC])) (.reg [oM 19 XhV,oD 20 (.bin .add XlP (.const (.int .i64 1))),oM 11 XkW])))))) (.seq (.reg [oM 31 τ0,oM 32 τ1,oM 33 τ2,oM 34 τ3,oD 35 (.build [(.int .u64 0),(.int .u64 0),(.int .u64 0),(.int .u64 0)] [(0,1,XpB),(1,1,XpZ),(2,1,Xr8),(3,1,XpG)]),oN (.store 4 Xif Xrr)]) .ret))
def fn59:VFn:=⟨36,XCR,[.cell 10 [(.int .u64),(.int .u64),(.int .u64),(.int .u64)] true]⟩
def XCA:VC:=.seq (.reg [oD 4 (.mv (.const (.int .i64 0)))]) (.seq (.seq (.reg [oM 7 τ1,oD 8 (.bin .lss τ7 (.const (.int .i64 1))),oM 9 τ8,oG 10 (.mv τ1) 9 false,oG 11 (.bin .gtr Xif (.const (.int .i64 2147483648))) 9 false,oD 12 (.pick τ9 (.const (.bool true)) XhV)]) (.cond Xig (.seq (.reg [oD 4 (.mv (.const (.int .i64 0)))]) .ret) .skip)) (.seq (.reg [oM 14 τ0,oM 15 τ1,oD 16 (.conv .u64 XiI),oD 17 (.callF 56 [XjC,Xki]),oM 13 XiZ,oE 18 0 Xil,oE 19 1 Xil,oM 5 Xi2,oM 6 XlP]) (.seq (.reg [oM 20 τ5,oD 21 (.conv .i64 XkW),oM 4 XlT]) .ret)))
def fn43:VFn:=⟨22,XCA,[.tmp 4]⟩
def XCI:VC:=.seq (.reg [oD 4 (.mv (.const (.int .u64 0))),oD 5 (.mv (.const (.int .u64 0)))]) (.seq (.reg [oD 6 (.mv (.const (.int .u64 0))),oD 7 (.mv (.const (.int .u64 0)))]) (.seq (.seq (.reg [oD 8 (.mv (.const (.int .i64 63)))]) (.block 0 (.loop (.seq (.seq (.reg [oM 10 τ8,oD 11 (.bin .geq Xif (.const (.int .i64 0)))]) (.cond XhV .skip (.exit 0))) (.seq (.block 1 (.seq (.reg [oD 9 (.mv (.const (.int .u64 0)))]) (.seq (.seq (.reg [oM 14 τ0,oM 15 τ8,oD 16 (.bin .shr XjC XiI),oD 17 (.bin .and Xki (.const (.int .u64 1))),oD 18 (.bin .eql XiZ (.const (.int .u64 1)))]) (.cond Xi2 (.reg [oM 19 τ1,oM 9 XlP]) .skip)) (.reg [oM 21 τ6,oM 22 τ7,oM 23 τ9,oD 24 (.callF 69 [XlT,Xnd,XmX]),oM 20 Xnj,oE 25 0 XkW,oE 26 1 XkW,oM 6 Xm1,oM 7 Xns])))) (.reg [oM 12 τ8,oD 13 (.bin .sub Xig (.const (.int .i64 1))),oM 8 Xil])))))) (.seq (.reg [oM 27 τ6,oM 28 τ7,oM 4 Xoe,oM 5 XpA]) .ret)))
def fn56:VFn:=⟨29,XCI,[.tmp 4,.tmp 5]⟩
def XDU:VC:=.seq (.reg [oD 6 (.mv (.const (.int .u64 0))),oD 7 (.mv (.const (.int .u64 0)))]) (.seq (.reg [oM 11 τ0,oD 12 (.bin .shl XhV (.const (.int .u64 1))),oM 13 τ1,oD 14 (.bin .shr Xil (.const (.int .u64 63))),oD 15 (.bin .or Xig XjC),oM 8 XiI]) (.seq (.reg [oM 16 τ1,oD 17 (.bin .shl Xki (.const (.int .u64 1))),oM 9 XiZ]) (.seq (.reg [oM 18 τ9,oM 19 τ2,oD 20 (.bin .add Xi2 XlP),oM 10 XkW]) (.seq (.seq (.reg [oM 21 Xif,oM 22 τ9,oD 23 (.bin .lss XlT Xnd)]) (.cond XmX (.reg [oM 24 τ8,oD 25 (.bin .add Xnj (.const (.int .u64 1))),oM 8 Xm1]) .skip)) (.seq (.reg [oM 26 τ8,oM 27 Xif,oM 6 Xns,oM 7 Xoe]) .ret)))))
def fn69:VFn:=⟨28,XDU,[.tmp 6,.tmp 7]⟩
def XDk:VC:=.regD [oM 26 τ3,oM 27 XjC,oD 28 (.idxAL 2 Xns Xoe),oD 29 (.loadN [.str,(.int .i64)] XpA),oD 30 (.callF 13 [Xpp]),oM 31 XpC,oG 32 (.loadN [(.int .u64),(.int .u64)] τ5) 31 true,oG 33 (.mv Xig) 31 true,oG 34 (.mv τ2) 31 true,oG 35 (.mv τ3) 31 true,oG 36 (.mv XjC) 31 true,oG 37 (.idxAL 2 Xrr Xsr) 31 true,oG 38 (.fieldA 0 XsP) 31 true,oG 39 (.load1 .str Xrc) 31 true,oG 40 (.callF 15 [XpZ,Xr8,XpG,Xsl]) 31 true,oG 41 (.loadN [(.int .u64),(.int .u64)] τ5) 31 true,oG 42 (.mv Xig) 31 true,oG 43 (.mv τ2) 31 true,oG 44 (.mv τ4) 31 true] [(14,15)] [oG 45 (.callF 15 [XsY,Xs5,Xs4,XsX]) 31 true,oG 46 (.bin .eql Xs0 Xt8) 31 true,oD 47 (.pick XpB XtA (.const (.bool false)))]
def XDB:VC:=.seq (.reg [oD 5 (.box τ0),oD 10 (.mv (.const (.int .i64 0)))]) (.seq (.reg [oD 11 (.mv (.const (.int .i64 1099511627776)))]) (.seq (.seq (.reg [oD 12 (.mv (.const (.int .i64 0)))]) (.block 0 (.loop (.seq (.seq (.reg [oM 15 Xig,oM 16 τ1,oD 17 (.bin .lss XiI Xki)]) (.cond XiZ .skip (.exit 0))) (.seq (.block 1 (.seq (.reg [oD 13 (.mv (.const (.int .i64 0)))]) (.seq (.seq (.reg [oD 14 (.mv (.const (.int .i64 0)))]) (.block 2 (.loop (.seq (.seq (.reg [oM 20 XjC,oM 21 τ3,oD 22 (.lenL XlT),oD 23 (.bin .lss XkW Xnd)]) (.cond XmX .skip (.exit 2))) (.seq (.block 3 (.seq XDk (.cond XvM (.reg [oM 48 Xil,oM 49 τ3,oM 50 XjC,oD 51 (.idxAL 2 XvL Xy2),oD 52 (.fieldA 1 XzA),oD 53 (.load1 (.int .i64) XzS),oD 54 (.bin .add XvN Xzb),oD 55 (.minmax false [(.const (.int .i64 1099511627776)),XAq]),oM 13 XBE]) .skip))) (.reg [oM 24 XjC,oD 25 (.bin .add Xnj (.const (.int .i64 1))),oM 14 Xm1])))))) (.reg [oM 56 XhV,oM 57 Xil,oD 58 (.minmax false [XAR,Xza]),oM 11 XzC])))) (.reg [oM 18 Xig,oD 19 (.bin .add Xi2 (.const (.int .i64 1))),oM 12 XlP])))))) (.seq (.reg [oM 59 XhV,oM 10 XAy]) .ret)))
def fn17:VFn:=⟨60,XDB,[.tmp 10]⟩
def XEf:VC:=.seq (.reg [oD 2 (.mv (.const (.int .i64 0)))]) (.seq (.reg [oD 3 (.mv (.const (.int .i64 0)))]) (.seq (.seq (.reg [oD 4 (.mv (.const (.int .i64 0)))]) (.block 0 (.loop (.seq (.seq (.reg [oM 5 τ4,oM 6 τ0,oD 7 (.lenL τ6),oD 8 (.bin .lss τ5 τ7)]) (.cond τ8 .skip (.exit 0))) (.seq (.block 1 (.seq (.reg [oM 11 τ0,oM 12 τ4,oD 13 (.idxAL 2 XhV Xig),oD 14 (.loadN [.str,(.int .i64)] Xil),oD 15 (.callF 13 [XjC])]) (.cond XiI (.reg [oM 16 τ3,oM 17 τ0,oM 18 τ4,oD 19 (.idxAL 2 XiZ Xi2),oD 20 (.fieldA 1 XlP),oD 21 (.load1 (.int .i64) XkW),oD 22 (.bin .add Xki XlT),oD 23 (.minmax false [(.const (.int .i64 1099511627776)),Xnd]),oM 3 XmX]) .skip))) (.reg [oM 9 τ4,oD 10 (.bin .add τ9 (.const (.int .i64 1))),oM 4 Xif])))))) (.seq (.reg [oM 24 τ3,oM 2 Xnj]) .ret)))
def fn19:VFn:=⟨25,XEf,[.tmp 2]⟩
def k4_16:VC:=.regD [oM 36 τ9,oM 37 τ3,oM 38 Xif,oD 39 (.idxAL 2 XsP Xrc),oD 40 (.fieldA 0 Xsl),oD 41 (.load1 .str Xs0),oM 42 τ3,oM 43 Xif,oD 44 (.idxAL 2 Xs5 Xs4),oD 45 (.fieldA 1 XsX),oD 46 (.load1 (.int .i64) Xt8)] [] [oD 47 (.callF 12 [Xsr,XsY,XtA])]
def XiX:VC:=.seq (.seq (.reg [oM 30 Xif,oM 31 τ3,oD 32 (.lenL XpB),oD 33 (.bin .lss XpC XpZ)]) (.cond Xr8 .skip (.exit 0))) (.seq (.block 1 k4_16) (.reg [oM 34 Xif,oD 35 (.bin .add XpG (.const (.int .i64 1))),oM 10 Xrr]))
def k4_33:VC:=.regD [oM 60 τ3,oM 61 Xil,oD 62 (.idxAL 2 XCt XCm),oD 63 (.fieldA 0 XCo),oD 64 (.load1 .str XCC),oM 65 τ3,oM 66 XhV,oD 67 (.idxAL 2 XD1 XEh),oD 68 (.fieldA 0 XEt),oD 69 (.load1 .str XDg),oD 70 (.bin .eql Xym XEv),oM 71 XED,oG 72 (.mv τ3) 71 true,oG 73 (.mv Xil) 71 true,oG 74 (.idxAL 2 τ72 τ73) 71 true,oG 75 (.fieldA 1 τ74) 71 true,oG 76 (.load1 (.int .i64) τ75) 71 true,oG 77 (.bin .geq τ76 (.const (.int .i64 0))) 71 true,oD 78 (.pick τ71 τ77 (.const (.bool false))),oM 79 τ78,oG 80 (.mv τ3) 79 true,oG 81 (.mv Xil) 79 true] [] [oG 82 (.idxAL 2 τ80 τ81) 79 true,oG 83 (.fieldA 1 XCS) 79 true,oG 84 (.load1 (.int .i64) τ83) 79 true,oG 85 (.bin .leq τ84 (.const (.int .i64 1048576))) 79 true,oD 86 (.pick τ79 τ85 (.const (.bool false)))]
def XjA:VC:=.seq (.seq (.reg [oM 54 Xil,oM 55 τ3,oD 56 (.lenL XBE),oD 57 (.bin .lss XAq XAR)]) (.cond Xza .skip (.exit 4))) (.seq (.block 5 (.seq k4_33 (.cond τ86 (.reg [oM 87 Xig,oM 88 τ3,oM 89 Xil,oD 90 (.idxAL 2 τ88 τ89),oD 91 (.fieldA 1 τ90),oD 92 (.load1 (.int .i64) τ91),oD 93 (.bin .add τ87 τ92),oM 12 τ93]) .skip))) (.reg [oM 58 Xil,oD 59 (.bin .add XzC (.const (.int .i64 1))),oM 13 XAy]))
def Xoq:VC:=.seq (.reg [oM 94 τ9,oM 95 τ3,oM 96 XhV,oD 97 (.idxAL 2 τ95 τ96),oD 98 (.fieldA 0 τ97),oD 99 (.load1 .str τ98),oD 100 (.callF 16 [τ94,τ99]),oM 101 Xig,oD 102 (.bin .lss Xzj XzI),oM 103 XAu,oG 104 (.mv τ9) 103 false,oG 105 (.mv τ3) 103 false,oG 106 (.mv XhV) 103 false,oG 107 (.idxAL 2 XBQ Xzy) 103 false,oG 108 (.fieldA 0 Xzc) 103 false,oG 109 (.load1 .str XBr) 103 false,oG 110 (.callF 16 [XzK,Xy6]) 103 false,oG 111 (.mv τ9) 103 false,oG 112 (.callF 18 [XBU]) 103 false,oG 113 (.bin .gtr XBc XB3) 103 false,oD 114 (.pick XBD (.const (.bool true)) Xzl)]) (.cond XDT (.seq (.reg [oD 8 (.mv (.const (.bool false)))]) .ret) .skip)
def Xop:VC:=.reg [oM 52 XhV,oD 53 (.bin .add XzS (.const (.int .i64 1))),oM 11 Xzb]
def Xhy:VC:=.seq (.seq (.reg [oM 48 XhV,oM 49 τ3,oD 50 (.lenL XvL),oD 51 (.bin .lss XvN Xy2)]) (.cond XzA .skip (.exit 2))) (.seq (.block 3 (.seq (.reg [oD 12 (.mv (.const (.int .i64 0)))]) (.seq (.seq (.reg [oD 13 (.mv (.const (.int .i64 0)))]) (.block 4 (.loop XjA))) Xoq))) Xop)
def Xje:VC:=.seq (.reg [oD 115 (.callF 9 []),oM 8 XD8]) .ret
def XnW:VC:=.seq (.seq (.reg [oD 11 (.mv (.const (.int .i64 0)))]) (.block 2 (.loop Xhy))) Xje
def XDN:VC:=.seq (.reg [oD 6 (.box τ2),oD 8 (.mv (.const (.bool false)))]) (.seq (.seq (.reg [oM 14 τ3,oD 15 (.callF 8 [XjC]),oD 16 (.not XiI)]) (.cond Xki (.seq (.reg [oD 17 (.callF 9 []),oM 8 XiZ]) .ret) .skip)) (.seq (.reg [oM 18 τ0,oD 19 (.conv .i64 Xi2),oD 20 (.bin .rem XlP (.const (.int .i64 8))),oD 21 (.bin .add (.const (.int .i64 1)) XkW),oM 22 τ1,oD 23 (.conv .i64 Xnd),oD 24 (.bin .rem XmX (.const (.int .i64 64))),oD 25 (.bin .add (.const (.int .i64 1)) Xnj),oD 26 (.loadN [(.int .u64),(.int .u64)] τ6),oD 27 (.callF 10 [XlT,Xm1,Xns]),oM 9 Xoe]) (.seq (.seq (.reg [oM 28 τ9,oD 29 (.isNil 0 false XpA)]) (.cond Xpp (.seq (.reg [oD 8 (.mv (.const (.bool false)))]) .ret) .skip)) (.seq (.seq (.reg [oD 10 (.mv (.const (.int .i64 0)))]) (.block 0 (.loop XiX))) XnW))))
def fn4:VFn:=⟨116,XDN,[.tmp 8]⟩
theorem XD6:(Try.prog.funcs[3]?).bind (Xco Try.prog)=some fn3:=by kernel_rfl
theorem XEr:(Try.prog.funcs[8]?).bind (Xco Try.prog)=some fn8:=by kernel_rfl
theorem XCE:(Try.prog.funcs[9]?).bind (Xco Try.prog)=some fn9:=by kernel_rfl
theorem XzL:(Try.prog.funcs[10]?).bind (Xco Try.prog)=some fn10:=by kernel_rfl
theorem XAr:(Try.prog.funcs[12]?).bind (Xco Try.prog)=some fn12:=by kernel_rfl
theorem XB9:(Try.prog.funcs[38]?).bind (Xco Try.prog)=some fn38:=by kernel_rfl
theorem XBN:(Try.prog.funcs[40]?).bind (Xco Try.prog)=some fn40:=by kernel_rfl
theorem XAl:(Try.prog.funcs[41]?).bind (Xco Try.prog)=some fn41:=by kernel_rfl
theorem XBh:(Try.prog.funcs[39]?).bind (Xco Try.prog)=some fn39:=by kernel_rfl
theorem XBf:(Try.prog.funcs[20]?).bind (Xco Try.prog)=some fn20:=by kernel_rfl
theorem XBW:(Try.prog.funcs[47]?).bind (Xco Try.prog)=some fn47:=by kernel_rfl
theorem XAt:(Try.prog.funcs[61]?).bind (Xco Try.prog)=some fn61:=by kernel_rfl
theorem XBn:(Try.prog.funcs[62]?).bind (Xco Try.prog)=some fn62:=by kernel_rfl
theorem XAI:(Try.prog.funcs[72]?).bind (Xco Try.prog)=some fn72:=by kernel_rfl
theorem XBg:(Try.prog.funcs[73]?).bind (Xco Try.prog)=some fn73:=by kernel_rfl
theorem XCj:(Try.prog.funcs[76]?).bind (Xco Try.prog)=some fn76:=by kernel_rfl
theorem XAU:(Try.prog.funcs[78]?).bind (Xco Try.prog)=some fn78:=by kernel_rfl
theorem Xzn:(Try.prog.funcs[63]?).bind (Xco Try.prog)=some fn63:=by kernel_rfl
theorem XBl:(Try.prog.funcs[46]?).bind (Xco Try.prog)=some fn46:=by kernel_rfl
theorem XAG:(Try.prog.funcs[60]?).bind (Xco Try.prog)=some fn60:=by kernel_rfl
theorem XAA:(Try.prog.funcs[71]?).bind (Xco Try.prog)=some fn71:=by kernel_rfl
theorem XBS:(Try.prog.funcs[16]?).bind (Xco Try.prog)=some fn16:=by kernel_rfl
theorem XzW:(Try.prog.funcs[45]?).bind (Xco Try.prog)=some fn45:=by kernel_rfl
theorem XBA:(Try.prog.funcs[18]?).bind (Xco Try.prog)=some fn18:=by kernel_rfl
theorem XA1:(Try.prog.funcs[14]?).bind (Xco Try.prog)=some fn14:=by kernel_rfl
theorem XCa:(Try.prog.funcs[42]?).bind (Xco Try.prog)=some fn42:=by kernel_rfl
theorem XzD:(Try.prog.funcs[54]?).bind (Xco Try.prog)=some fn54:=by kernel_rfl
theorem Xzs:(Try.prog.funcs[55]?).bind (Xco Try.prog)=some fn55:=by kernel_rfl
theorem XBs:(Try.prog.funcs[11]?).bind (Xco Try.prog)=some fn11:=by kernel_rfl
theorem XBB:(Try.prog.funcs[13]?).bind (Xco Try.prog)=some fn13:=by kernel_rfl
theorem XA4:(Try.prog.funcs[15]?).bind (Xco Try.prog)=some fn15:=by kernel_rfl
theorem Xz4:(Try.prog.funcs[44]?).bind (Xco Try.prog)=some fn44:=by kernel_rfl
theorem XBI:(Try.prog.funcs[57]?).bind (Xco Try.prog)=some fn57:=by kernel_rfl
theorem XzB:(Try.prog.funcs[58]?).bind (Xco Try.prog)=some fn58:=by kernel_rfl
theorem XA6:(Try.prog.funcs[70]?).bind (Xco Try.prog)=some fn70:=by kernel_rfl
theorem XAD:(Try.prog.funcs[59]?).bind (Xco Try.prog)=some fn59:=by kernel_rfl
theorem XAS:(Try.prog.funcs[43]?).bind (Xco Try.prog)=some fn43:=by kernel_rfl
theorem XB2:(Try.prog.funcs[56]?).bind (Xco Try.prog)=some fn56:=by kernel_rfl
theorem XAQ:(Try.prog.funcs[69]?).bind (Xco Try.prog)=some fn69:=by kernel_rfl
theorem XAo:(Try.prog.funcs[17]?).bind (Xco Try.prog)=some fn17:=by kernel_rfl
theorem XAw:(Try.prog.funcs[19]?).bind (Xco Try.prog)=some fn19:=by kernel_rfl
theorem XEa:(Try.prog.funcs[4]?).bind (Xco Try.prog)=some fn4:=by kernel_rfl
def tab:List (Nat×VFn):=[(3,fn3),(8,fn8),(9,fn9),(10,fn10),(12,fn12),(38,fn38),(40,fn40),(41,fn41),(39,fn39),(20,fn20),(47,fn47),(61,fn61),(62,fn62),(72,fn72),(73,fn73),(76,fn76),(78,fn78),(63,fn63),(46,fn46),(60,fn60),(71,fn71),(16,fn16),(45,fn45),(18,fn18),(14,fn14),(42,fn42),(54,fn54),(55,fn55),(11,fn11),(13,fn13),(15,fn15),(44,fn44),(57,fn57),(58,fn58),(70,fn70),(59,fn59),(43,fn43),(56,fn56),(69,fn69),(17,fn17),(19,fn19),(4,fn4)]
theorem XaJ:Xjx Try.prog (XaY tab):=Xjx.Xbk ⟨XD6,XEr,XCE,XzL,XAr,XB9,XBN,XAl,XBh,XBf,XBW,XAt,XBn,XAI,XBg,XCj,XAU,Xzn,XBl,XAG,XAA,XBS,XzW,XBA,XA1,XCa,XzD,Xzs,XBs,XBB,XA4,Xz4,XBI,XzB,XA6,XAD,XAS,XB2,XAQ,XAo,XAw,XEa,trivial⟩
end Go.Vm.Code
namespace Go.Vm
open Go Go.RowKit
theorem XC9 {h h':Hp} {s:Nat→Option Nat} {b n:Nat} {ws:List Wd} {c c' x:List Value} {cs:List (Option (List Value))} {ob ob':Xbe} (e1:XaY h b=some ob) (e2:ob.wcs=some x) (e3:XeB.renL s c=some c') (e4:Nat.beq c'.length n=true) (e5:Nat.beq x.length n=true) (e6:ob.wr c'=some ob') (t:XcG (Xgt h b ob') s ws cs=some h') (hm:mk3 c=none:=by rfl) :
 XcG h s (.win b 0 n true::ws) (some c::cs)=some h':=by
 have h4:=Nat.eq_of_beq_eq_true e4
 have h5:=Nat.eq_of_beq_eq_true e5
 refine Xu8 e1 e2 e3 ⟨h4,by omega⟩ ?_ e6 t hm
 apply List.ext_getElem?
 intro k
 rw [Xii _ _ _ _ (by omega)]
 by_cases hk:k<n
 ·rw [if_pos (by omega)];simp
 ·rw [if_neg (by omega),List.getElem?_eq_none (by omega),List.getElem?_eq_none (by omega)]
theorem XDK {h:Hp} {k b n:Nat} {ob:Xbe} {cs:List Value} (ho:XaY h b=some ob) (hc:ob.wcs=some cs) (hn:Nat.beq cs.length n=true) (hf:Xa8.flatL cs=true) :
 Xcw h k (.pt n) (.pointer (some ⟨b,0,none⟩))=some (.pointer (some ⟨k,0,none⟩),[some (.cells cs)]):=
 Xy3 ho hc (by have:=Nat.eq_of_beq_eq_true hn;omega) (by have:=Nat.eq_of_beq_eq_true hn;rw [List.drop_zero];exact List.take_of_length_le (by omega)) hf
theorem XeT {a b:Dec} {vs:List Value} {cs:List (Option (List Value))} {r:Xdj} (h:a vs cs=some r):orD a b vs cs=some r:=by unfold orD;rw [h]
theorem XaZ {a b:Dec} {vs:List Value} {cs:List (Option (List Value))} {r:Xdj} (h:a vs cs=none) (k:b vs cs=some r):orD a b vs cs=some r:=by unfold orD;rw [h];exact k
theorem Xr3 {K:Dec} {vs:List Value} {cs:List (Option (List Value))}:dNl 10 K (.pointer none::vs) (none::none::none::none::none::none::none::none::none::none::cs)=K vs cs:=rfl
end Go.Vm
namespace Go.Vm
open Go Go.RowKit
section
variable {α κ ν:Type}
def XCl (key:α→κ) (eqk:κ→κ→Bool) (t:κ) (xs:List α):Bool:=xs.any fun e=>eqk t (key e)
def XzG (key:α→κ) (eqk:κ→κ→Bool) (val:α→ν) (z:ν) (t:κ):List α→ν
 | []=>z
 | e::l=>cond (eqk t (key e)) (val e) (XzG key eqk val z t l)
def XAn (key:α→κ) (eqk:κ→κ→Bool) (mk:κ→ν→α) (t:κ) (v:ν):List α→List α
 | []=>[mk t v]
 | e::l=>cond (eqk t (key e)) (mk (key e) v::l) (e::XAn key eqk mk t v l)
def Xz6 (key:α→κ) (eqk:κ→κ→Bool) (t:κ):List α→List α
 | []=>[]
 | e::l=>cond (eqk t (key e)) l (e::Xz6 key eqk t l)
structure Xqc (f:α→List Value) (kc:κ→List Value) (vc:ν→Value) (key:α→κ) (val:α→ν) (mk:κ→ν→α) (eqk:κ→κ→Bool) (os:List (Nat×SK)):Prop where
 cells:∀ e,f e=[.agg ⟨kc (key e)⟩,vc (val e)]
 eq:∀ a b,Xbs (kc a) (kc b) os=some (eqk a b)
 len:∀ a b,(kc a).length=(kc b).length
 offs:∀ a,os.map (·.1)=List.range (kc a).length
 fk:∀ a,Xa8.flatL (kc a)=true
 fv:∀ v,Xa8 (vc v)=true
 mkk:∀ k v,key (mk k v)=k
 mkv:∀ k v,val (mk k v)=v
variable {f:α→List Value} {kc:κ→List Value} {vc:ν→Value} {key:α→κ} {val:α→ν} {mk:κ→ν→α} {eqk:κ→κ→Bool} {os:List (Nat×SK)}
theorem Xqc.cons (h:Xqc f kc vc key val mk eqk os) (e:α) (l:List α):vT f (e::l)=.agg ⟨kc (key e)⟩::vc (val e)::vT f l:=by
 show f e++vT f l=_
 rw [h.cells];rfl
theorem Xqc.find (h:Xqc f kc vc key val mk eqk os) (t:κ):∀ xs:List α,∃ r,XhC os (kc t) (vT f xs)=some r ∧
 ((r=none∧XCl key eqk t xs=false∧(∀ z,XzG key eqk val z t xs=z)∧(∀ v,XAn key eqk mk t v xs=xs++[mk t v])∧Xz6 key eqk t xs=xs) ∨
  ∃ i v,r=some (2*i,vc v)∧XCl key eqk t xs=true∧(∀ z,XzG key eqk val z t xs=v)∧(∀ v,(vT f xs).set (2*i+1) (vc v)=vT f (XAn key eqk mk t v xs))∧(vT f xs).take (2*i)++(vT f xs).drop (2*i+2)=vT f (Xz6 key eqk t xs))
 | []=>⟨none,rfl,.inl ⟨rfl,rfl,fun _=>rfl,fun _=>rfl,rfl⟩⟩
 | e::l=>by
   obtain ⟨r,h1,h2⟩:=Xqc.find h t l
   rw [h.cons]
   cases he:eqk t (key e) with
   | true=>
     refine ⟨some (0,vc (val e)),?_,.inr ⟨0,val e,rfl,?_,fun z=>?_,fun v=>?_,?_⟩⟩
     ·simp only [XhC,h.eq,he,cond_true,if_pos (h.len (key e) t)]
     ·simp [XCl,he]
     ·simp [XzG,he]
     ·simp only [XAn,he,cond_true];rw [h.cons,h.mkk,h.mkv];rfl
     ·simp [Xz6,he]
   | false=>
     have hm:XhC os (kc t) (.agg ⟨kc (key e)⟩::vc (val e)::vT f l)=some (r.map fun q=>(q.1+2,q.2)):=by
      simp only [XhC,h.eq,he,cond_false,h1];rfl
     rcases h2 with ⟨rfl,g1,g2,g3,g4⟩|⟨i,v,rfl,g1,g2,g3,g4⟩
     ·refine ⟨none,hm,.inl ⟨rfl,?_,fun z=>?_,fun v=>?_,?_⟩⟩
      ·simp only [XCl,List.any_cons,he,Bool.false_or];exact g1
      ·simp only [XzG,he,cond_false];exact g2 z
      ·simp only [XAn,he,cond_false,g3];rfl
      ·simp only [Xz6,he,cond_false,g4]
     ·refine ⟨some (2*i+2,vc v),hm,.inr ⟨i+1,v,by congr 2,?_,fun z=>?_,fun v=>?_,?_⟩⟩
      ·simp only [XCl,List.any_cons,he,Bool.false_or];exact g1
      ·simp only [XzG,he,cond_false];exact g2 z
      ·simp only [XAn,he,cond_false];rw [h.cons,←g3,show 2*(i+1)+1=(2*i+1)+1+1 by omega];rfl
      ·simp only [Xz6,he,cond_false];rw [h.cons,←g4,show 2*(i+1)=2*i+1+1 by omega];rfl
theorem Xqc.self (h:Xqc f kc vc key val mk eqk os) (t:κ):(Xbs (kc t) (kc t) os).isSome=true:=by rw [h.eq];rfl
theorem Xqc.get (h:Xqc f kc vc key val mk eqk os) (z:ν) (t:κ) (xs:List α):XsF os (vc z) (kc t) (vT f xs)=some (vc (XzG key eqk val z t xs),XCl key eqk t xs):=by
 obtain ⟨r,h1,⟨rfl,g1,g2,_⟩|⟨i,v,rfl,g1,g2,_⟩⟩:=h.find t xs
 ·simp only [XsF,if_pos (h.self t),h1,g1,g2]
 ·simp only [XsF,if_pos (h.self t),h1,g1,g2]
theorem Xqc.put (h:Xqc f kc vc key val mk eqk os) (t:κ) (v:ν) (xs:List α):Xsy os (kc t) (vc v) (vT f xs)=some (vT f (XAn key eqk mk t v xs)):=by
 have hc:=And.intro (h.self t) (And.intro (h.offs t) (And.intro (h.fk t) (h.fv v)))
 obtain ⟨r,h1,⟨rfl,_,_,g3,_⟩|⟨i,u,rfl,_,_,g3,_⟩⟩:=h.find t xs
 ·simp only [Xsy,if_pos hc,h1,g3]
  rw [←XEN,show vT f [mk t v]=[.agg ⟨kc t⟩,vc v] by rw [h.cons,h.mkk,h.mkv];rfl]
 ·simp only [Xsy,if_pos hc,h1,g3]
theorem Xqc.del (h:Xqc f kc vc key val mk eqk os) (t:κ) (xs:List α):Xsn os (kc t) (vT f xs)=some (vT f (Xz6 key eqk t xs)):=by
 obtain ⟨r,h1,⟨rfl,_,_,_,g4⟩|⟨i,u,rfl,_,_,_,g4⟩⟩:=h.find t xs
 ·simp only [Xsn,if_pos (h.self t),h1,g4]
 ·simp only [Xsn,if_pos (h.self t),h1,g4]
theorem Xqc.length (h:Xqc f kc vc key val mk eqk os) (xs:List α):(vT f xs).length=2*xs.length:=by
 rw [XnP (c:=2) (fun e=>by rw [h.cells];rfl),Nat.mul_comm]
end
end Go.Vm
namespace Go.Vm.Code
open Go Go.Vm Go.Proofs
set_option maxRecDepth 100000
set_option maxHeartbeats 4000000
set_option linter.unusedVariables false
@[ext] structure XaD where
 A:Int
 B:Int
 deriving DecidableEq
@[ext] structure Xaz where
 Text:List UInt8
 N:Int
 deriving DecidableEq
@[ext] structure XdW where
 e0:List Int
 m0:Nat
 deriving DecidableEq
@[ext] structure XaH where
 key:XaD
 rows:XdW
 total:Int
 deriving DecidableEq
@[ext] structure Xc5 where
 e0:List Int
 e1:List Int
 m0:Nat
 m1:Nat
 deriving DecidableEq
@[ext] structure XaG where
 key:XaD
 rows:Xc5
 total:Int
 deriving DecidableEq
@[ext] structure XcN where
 e0:List Int
 e1:List Int
 e2:List Int
 m0:Nat
 m1:Nat
 m2:Nat
 deriving DecidableEq
@[ext] structure XaF where
 key:XaD
 rows:XcN
 total:Int
 deriving DecidableEq
@[ext] structure XcD where
 e0:List Int
 e1:List Int
 e2:List Int
 e3:List Int
 m0:Nat
 m1:Nat
 m2:Nat
 m3:Nat
 deriving DecidableEq
@[ext] structure XaC where
 key:XaD
 rows:XcD
 total:Int
 deriving DecidableEq
@[ext] structure Xcr where
 e0:List Int
 e1:List Int
 e2:List Int
 e3:List Int
 e4:List Int
 m0:Nat
 m1:Nat
 m2:Nat
 m3:Nat
 m4:Nat
 deriving DecidableEq
@[ext] structure XaB where
 key:XaD
 rows:Xcr
 total:Int
 deriving DecidableEq
@[ext] structure Xb5 where
 e0:List Int
 e1:List Int
 e2:List Int
 e3:List Int
 e4:List Int
 e5:List Int
 m0:Nat
 m1:Nat
 m2:Nat
 m3:Nat
 m4:Nat
 m5:Nat
 deriving DecidableEq
@[ext] structure Xay where
 key:XaD
 rows:Xb5
 total:Int
 deriving DecidableEq
@[ext] structure XbT where
 e0:List Int
 e1:List Int
 e2:List Int
 e3:List Int
 e4:List Int
 e5:List Int
 e6:List Int
 m0:Nat
 m1:Nat
 m2:Nat
 m3:Nat
 m4:Nat
 m5:Nat
 m6:Nat
 deriving DecidableEq
@[ext] structure Xaw where
 key:XaD
 rows:XbT
 total:Int
 deriving DecidableEq
@[ext] structure XbQ where
 e0:List Int
 e1:List Int
 e2:List Int
 e3:List Int
 e4:List Int
 e5:List Int
 e6:List Int
 e7:List Int
 m0:Nat
 m1:Nat
 m2:Nat
 m3:Nat
 m4:Nat
 m5:Nat
 m6:Nat
 m7:Nat
 deriving DecidableEq
@[ext] structure Xav where
 key:XaD
 rows:XbQ
 total:Int
 deriving DecidableEq
@[ext] structure XaT where
 e0:Int
 e1:Int
 e2:Int
 e3:Int
 deriving DecidableEq
@[ext] structure XaV where
 made:Bool
 s:XaT
 last:Int
 count:Int
 deriving DecidableEq
@[ext] structure Xf3 where
 e0:Int
 e1:Int
 deriving DecidableEq
structure Xbr where
 mk ::
 deriving DecidableEq
@[ext] structure Xax where
 key:XaD
 rows:Xbr
 total:Int
 deriving DecidableEq
@[ext] structure Xx1 where
 key:XaD
 rows:List (List Int)
 total:Int
 deriving DecidableEq
inductive Xbq where
 | nil
 | v1 (x:XaH)
 | v2 (x:XaG)
 | v3 (x:XaF)
 | v4 (x:XaC)
 | v5 (x:XaB)
 | v6 (x:Xay)
 | v7 (x:Xaw)
 | v8 (x:Xav)
 deriving DecidableEq
def Xml (x:XaD):List Value:=[.int .u64 x.A,.int .u64 x.B]
theorem Xo2 (x:XaD):(Xml x).length=2:=rfl
def Xm2:List Value→Option XaD
 | [.int .u64 a1,.int .u64 a2]=>some (XaD.mk a1 a2)
 | _=>none
theorem Xl5 (cs:List Value) (x:XaD) (h:Xm2 cs=some x):cs=Xml x:=by
 unfold Xm2 at h;split at h
 ·cases h;rfl
 ·cases h
def XhL:Value→Option XaD
 | .agg ⟨cs⟩=>Xm2 cs
 | _=>none
theorem Xpk (v:Value) (x:XaD) (h:XhL v=some x):v=.agg ⟨Xml x⟩:=by
 unfold XhL at h;split at h
 ·rw [Xl5 _ _ h]
 ·cases h
theorem XkB (x:XaD):XhL (.agg ⟨Xml x⟩)=some x:=rfl
def Xbt (x:Xaz):List Value:=[.string ⟨⟨x.Text⟩⟩,.int .i64 x.N]
theorem XaA (x:Xaz):(Xbt x).length=2:=rfl
theorem Xcu (x:Xaz):Xa8.flatL (Xbt x)=true:=rfl
@[simp] theorem Xxb (xs:List Xaz):(vT Xbt xs).length=xs.length*2:=XnP XaA xs
@[simp] theorem XwN (xs:List Xaz) (n:Nat):(vT Xbt xs).take (n*2)=vT Xbt (xs.take n):=Xqa XaA xs n
@[simp] theorem Xv8 (xs:List Xaz) (n:Nat):(vT Xbt xs).drop (n*2)=vT Xbt (xs.drop n):=Xp6 XaA xs n
def Xin:List Value→Option Xaz
 | [.string ⟨⟨a1⟩⟩,.int .i64 a2]=>some (Xaz.mk a1 a2)
 | _=>none
theorem Xju (cs:List Value) (x:Xaz) (h:Xin cs=some x):cs=Xbt x:=by
 unfold Xin at h;split at h
 ·cases h;rfl
 ·cases h
theorem XpK (x:Xaz):Xin (Xbt x)=some x:=rfl
def Xpi:Value→Option Xaz
 | .agg ⟨cs⟩=>Xin cs
 | _=>none
theorem Xo6 (v:Value) (x:Xaz) (h:Xpi v=some x):v=.agg ⟨Xbt x⟩:=by
 unfold Xpi at h;split at h
 ·rw [Xju _ _ h]
 ·cases h
def XkP (x:XaT):List Value:=[.int .u64 x.e0,.int .u64 x.e1,.int .u64 x.e2,.int .u64 x.e3]
theorem XnY (x:XaT):(XkP x).length=4:=rfl
def Xhh:List Value→Option XaT
 | [.int .u64 a1,.int .u64 a2,.int .u64 a3,.int .u64 a4]=>some (XaT.mk a1 a2 a3 a4)
 | _=>none
theorem Xk3 (cs:List Value) (x:XaT) (h:Xhh cs=some x):cs=XkP x:=by
 unfold Xhh at h;split at h
 ·cases h;rfl
 ·cases h
theorem XjE (x:XaT):Xhh (XkP x)=some x:=rfl
def Xnv:Value→Option XaT
 | .agg ⟨cs⟩=>Xhh cs
 | _=>none
theorem Xoo (v:Value) (x:XaT) (h:Xnv v=some x):v=.agg ⟨XkP x⟩:=by
 unfold Xnv at h;split at h
 ·rw [Xk3 _ _ h]
 ·cases h
def Xiy (x:XaV):List Value:=[.bool x.made,.int .u64 x.s.e0,.int .u64 x.s.e1,.int .u64 x.s.e2,.int .u64 x.s.e3,.int .u64 x.last,.int .i64 x.count]
theorem XmA (x:XaV):(Xiy x).length=7:=rfl
def XgY:List Value→Option XaV
 | [.bool a1,.int .u64 a2,.int .u64 a3,.int .u64 a4,.int .u64 a5,.int .u64 a6,.int .i64 a7]=>some (XaV.mk a1 (XaT.mk a2 a3 a4 a5) a6 a7)
 | _=>none
theorem Xjq (cs:List Value) (x:XaV) (h:XgY cs=some x):cs=Xiy x:=by
 unfold XgY at h;split at h
 ·cases h;rfl
 ·cases h
theorem Xkr (x:XaV):XgY (Xiy x)=some x:=rfl
def XlO:Value→Option XaV
 | .agg ⟨cs⟩=>XgY cs
 | _=>none
theorem Xmx (v:Value) (x:XaV) (h:XlO v=some x):v=.agg ⟨Xiy x⟩:=by
 unfold XlO at h;split at h
 ·rw [Xjq _ _ h]
 ·cases h
def Xmu (x:Xf3):List Value:=[.int .u64 x.e0,.int .u64 x.e1]
theorem XoF (x:Xf3):(Xmu x).length=2:=rfl
def Xlq:List Value→Option Xf3
 | [.int .u64 a1,.int .u64 a2]=>some (Xf3.mk a1 a2)
 | _=>none
theorem Xk1 (cs:List Value) (x:Xf3) (h:Xlq cs=some x):cs=Xmu x:=by
 unfold Xlq at h;split at h
 ·cases h;rfl
 ·cases h
def XnM:Value→Option Xf3
 | .agg ⟨cs⟩=>Xlq cs
 | _=>none
theorem Xn6 (v:Value) (x:Xf3) (h:XnM v=some x):v=.agg ⟨Xmu x⟩:=by
 unfold XnM at h;split at h
 ·rw [Xk1 _ _ h]
 ·cases h
def XcE (k:Nat):Value→List (Option (List Value))→Option Xax
 | .pointer (some ⟨k0,0,none⟩),[some [.int .u64 a1,.int .u64 a2,.slice none 0 0,.int .i64 a3],none,none,none,none,none,none,none,none,none]=>if k0=k+0 then some (Xax.mk (XaD.mk a1 a2) Xbr.mk a3) else none
 | _,_=>none
theorem Xc1 {k:Nat} {v:Value} {cs:List (Option (List Value))} {x:Xax} (h:XcE k v cs=some x):v=.pointer (some ⟨k+0,0,none⟩)∧cs=[some [.int .u64 x.key.A,.int .u64 x.key.B,.slice none 0 0,.int .i64 x.total],none,none,none,none,none,none,none,none,none]:=by
 unfold XcE at h;split at h<;>try (cases h;done)
 split at h<;>cases h
 rename_i hk
 subst hk
 exact ⟨rfl,rfl⟩
theorem XeQ (k:Nat) (x:Xax):XcE k (.pointer (some ⟨k+0,0,none⟩)) [some [.int .u64 x.key.A,.int .u64 x.key.B,.slice none 0 0,.int .i64 x.total],none,none,none,none,none,none,none,none,none]=some x:=by
 simp only [XcE];simp
def XbX (k:Nat):Value→List (Option (List Value))→Option XaH
 | .pointer (some ⟨k0,0,none⟩),[some [.int .u64 a1,.int .u64 a2,.slice (some ⟨k1,0,none⟩) 1 1,.int .i64 a3],some [.slice (some ⟨k2,0,none⟩) n2 s2],some c2,none,none,none,none,none,none,none]=>match (unL (asI .i64)) c2 with|some x2=>(if k0=k+0∧k1=k+1∧k2=k+2∧s2=1 then some (XaH.mk (XaD.mk a1 a2) (XdW.mk x2 n2) a3) else none)|none=>none
 | _,_=>none
theorem Xcn {k:Nat} {v:Value} {cs:List (Option (List Value))} {x:XaH} (h:XbX k v cs=some x):v=.pointer (some ⟨k+0,0,none⟩)∧cs=[some [.int .u64 x.key.A,.int .u64 x.key.B,.slice (some ⟨k+1,0,none⟩) 1 1,.int .i64 x.total],some [.slice (some ⟨k+2,0,none⟩) x.rows.m0 1],some (vI .i64 x.rows.e0),none,none,none,none,none,none,none]:=by
 unfold XbX at h;split at h<;>try (cases h;done)
 split at h<;>try (cases h;done)
 rename_i x2 e2
 split at h<;>cases h
 rename_i hk
 obtain ⟨rfl,rfl,rfl,rfl⟩:=hk
 obtain rfl:=XcY e2
 exact ⟨rfl,rfl⟩
theorem XeP (k:Nat) (x:XaH):XbX k (.pointer (some ⟨k+0,0,none⟩)) [some [.int .u64 x.key.A,.int .u64 x.key.B,.slice (some ⟨k+1,0,none⟩) 1 1,.int .i64 x.total],some [.slice (some ⟨k+2,0,none⟩) x.rows.m0 1],some (vI .i64 x.rows.e0),none,none,none,none,none,none,none]=some x:=by
 simp only [XbX,XcT];simp
def Xb4 (k:Nat):Value→List (Option (List Value))→Option XaG
 | .pointer (some ⟨k0,0,none⟩),[some [.int .u64 a1,.int .u64 a2,.slice (some ⟨k1,0,none⟩) 2 1,.int .i64 a3],some [.slice (some ⟨k2,0,none⟩) n2 s2,.slice (some ⟨k3,0,none⟩) n3 s3],some c2,some c3,none,none,none,none,none,none]=>match (unL (asI .i64)) c2 with|some x2=>(match (unL (asI .i64)) c3 with|some x3=>(if k0=k+0∧k1=k+1∧k2=k+2∧s2=1∧k3=k+3∧s3=1 then some (XaG.mk (XaD.mk a1 a2) (Xc5.mk x2 x3 n2 n3) a3) else none)|none=>none)|none=>none
 | _,_=>none
theorem Xcp {k:Nat} {v:Value} {cs:List (Option (List Value))} {x:XaG} (h:Xb4 k v cs=some x):v=.pointer (some ⟨k+0,0,none⟩)∧cs=[some [.int .u64 x.key.A,.int .u64 x.key.B,.slice (some ⟨k+1,0,none⟩) 2 1,.int .i64 x.total],some [.slice (some ⟨k+2,0,none⟩) x.rows.m0 1,.slice (some ⟨k+3,0,none⟩) x.rows.m1 1],some (vI .i64 x.rows.e0),some (vI .i64 x.rows.e1),none,none,none,none,none,none]:=by
 unfold Xb4 at h;split at h<;>try (cases h;done)
 split at h<;>try (cases h;done)
 rename_i x2 e2
 split at h<;>try (cases h;done)
 rename_i x3 e3
 split at h<;>cases h
 rename_i hk
 obtain ⟨rfl,rfl,rfl,rfl,rfl,rfl⟩:=hk
 obtain rfl:=XcY e2
 obtain rfl:=XcY e3
 exact ⟨rfl,rfl⟩
theorem XeE (k:Nat) (x:XaG):Xb4 k (.pointer (some ⟨k+0,0,none⟩)) [some [.int .u64 x.key.A,.int .u64 x.key.B,.slice (some ⟨k+1,0,none⟩) 2 1,.int .i64 x.total],some [.slice (some ⟨k+2,0,none⟩) x.rows.m0 1,.slice (some ⟨k+3,0,none⟩) x.rows.m1 1],some (vI .i64 x.rows.e0),some (vI .i64 x.rows.e1),none,none,none,none,none,none]=some x:=by
 simp only [Xb4,XcT,XcT];simp
def XbW (k:Nat):Value→List (Option (List Value))→Option XaF
 | .pointer (some ⟨k0,0,none⟩),[some [.int .u64 a1,.int .u64 a2,.slice (some ⟨k1,0,none⟩) 3 1,.int .i64 a3],some [.slice (some ⟨k2,0,none⟩) n2 s2,.slice (some ⟨k3,0,none⟩) n3 s3,.slice (some ⟨k4,0,none⟩) n4 s4],some c2,some c3,some c4,none,none,none,none,none]=>match (unL (asI .i64)) c2 with|some x2=>(match (unL (asI .i64)) c3 with|some x3=>(match (unL (asI .i64)) c4 with|some x4=>(if k0=k+0∧k1=k+1∧k2=k+2∧s2=1∧k3=k+3∧s3=1∧k4=k+4∧s4=1 then some (XaF.mk (XaD.mk a1 a2) (XcN.mk x2 x3 x4 n2 n3 n4) a3) else none)|none=>none)|none=>none)|none=>none
 | _,_=>none
theorem Xce {k:Nat} {v:Value} {cs:List (Option (List Value))} {x:XaF} (h:XbW k v cs=some x):v=.pointer (some ⟨k+0,0,none⟩)∧cs=[some [.int .u64 x.key.A,.int .u64 x.key.B,.slice (some ⟨k+1,0,none⟩) 3 1,.int .i64 x.total],some [.slice (some ⟨k+2,0,none⟩) x.rows.m0 1,.slice (some ⟨k+3,0,none⟩) x.rows.m1 1,.slice (some ⟨k+4,0,none⟩) x.rows.m2 1],some (vI .i64 x.rows.e0),some (vI .i64 x.rows.e1),some (vI .i64 x.rows.e2),none,none,none,none,none]:=by
 unfold XbW at h;split at h<;>try (cases h;done)
 split at h<;>try (cases h;done)
 rename_i x2 e2
 split at h<;>try (cases h;done)
 rename_i x3 e3
 split at h<;>try (cases h;done)
 rename_i x4 e4
 split at h<;>cases h
 rename_i hk
 obtain ⟨rfl,rfl,rfl,rfl,rfl,rfl,rfl,rfl⟩:=hk
 obtain rfl:=XcY e2
 obtain rfl:=XcY e3
 obtain rfl:=XcY e4
 exact ⟨rfl,rfl⟩
theorem XeM (k:Nat) (x:XaF):XbW k (.pointer (some ⟨k+0,0,none⟩)) [some [.int .u64 x.key.A,.int .u64 x.key.B,.slice (some ⟨k+1,0,none⟩) 3 1,.int .i64 x.total],some [.slice (some ⟨k+2,0,none⟩) x.rows.m0 1,.slice (some ⟨k+3,0,none⟩) x.rows.m1 1,.slice (some ⟨k+4,0,none⟩) x.rows.m2 1],some (vI .i64 x.rows.e0),some (vI .i64 x.rows.e1),some (vI .i64 x.rows.e2),none,none,none,none,none]=some x:=by
 simp only [XbW,XcT,XcT,XcT];simp
def Xb2 (k:Nat):Value→List (Option (List Value))→Option XaC
 | .pointer (some ⟨k0,0,none⟩),[some [.int .u64 a1,.int .u64 a2,.slice (some ⟨k1,0,none⟩) 4 1,.int .i64 a3],some [.slice (some ⟨k2,0,none⟩) n2 s2,.slice (some ⟨k3,0,none⟩) n3 s3,.slice (some ⟨k4,0,none⟩) n4 s4,.slice (some ⟨k5,0,none⟩) n5 s5],some c2,some c3,some c4,some c5,none,none,none,none]=>match (unL (asI .i64)) c2 with|some x2=>(match (unL (asI .i64)) c3 with|some x3=>(match (unL (asI .i64)) c4 with|some x4=>(match (unL (asI .i64)) c5 with|some x5=>(if k0=k+0∧k1=k+1∧k2=k+2∧s2=1∧k3=k+3∧s3=1∧k4=k+4∧s4=1∧k5=k+5∧s5=1 then some (XaC.mk (XaD.mk a1 a2) (XcD.mk x2 x3 x4 x5 n2 n3 n4 n5) a3) else none)|none=>none)|none=>none)|none=>none)|none=>none
 | _,_=>none
theorem Xci {k:Nat} {v:Value} {cs:List (Option (List Value))} {x:XaC} (h:Xb2 k v cs=some x):v=.pointer (some ⟨k+0,0,none⟩)∧cs=[some [.int .u64 x.key.A,.int .u64 x.key.B,.slice (some ⟨k+1,0,none⟩) 4 1,.int .i64 x.total],some [.slice (some ⟨k+2,0,none⟩) x.rows.m0 1,.slice (some ⟨k+3,0,none⟩) x.rows.m1 1,.slice (some ⟨k+4,0,none⟩) x.rows.m2 1,.slice (some ⟨k+5,0,none⟩) x.rows.m3 1],some (vI .i64 x.rows.e0),some (vI .i64 x.rows.e1),some (vI .i64 x.rows.e2),some (vI .i64 x.rows.e3),none,none,none,none]:=by
 unfold Xb2 at h;split at h<;>try (cases h;done)
 split at h<;>try (cases h;done)
 rename_i x2 e2
 split at h<;>try (cases h;done)
 rename_i x3 e3
 split at h<;>try (cases h;done)
 rename_i x4 e4
 split at h<;>try (cases h;done)
 rename_i x5 e5
 split at h<;>cases h
 rename_i hk
 obtain ⟨rfl,rfl,rfl,rfl,rfl,rfl,rfl,rfl,rfl,rfl⟩:=hk
 obtain rfl:=XcY e2
 obtain rfl:=XcY e3
 obtain rfl:=XcY e4
 obtain rfl:=XcY e5
 exact ⟨rfl,rfl⟩
theorem XeL (k:Nat) (x:XaC):Xb2 k (.pointer (some ⟨k+0,0,none⟩)) [some [.int .u64 x.key.A,.int .u64 x.key.B,.slice (some ⟨k+1,0,none⟩) 4 1,.int .i64 x.total],some [.slice (some ⟨k+2,0,none⟩) x.rows.m0 1,.slice (some ⟨k+3,0,none⟩) x.rows.m1 1,.slice (some ⟨k+4,0,none⟩) x.rows.m2 1,.slice (some ⟨k+5,0,none⟩) x.rows.m3 1],some (vI .i64 x.rows.e0),some (vI .i64 x.rows.e1),some (vI .i64 x.rows.e2),some (vI .i64 x.rows.e3),none,none,none,none]=some x:=by
 simp only [Xb2,XcT,XcT,XcT,XcT];simp
def Xb1 (k:Nat):Value→List (Option (List Value))→Option XaB
 | .pointer (some ⟨k0,0,none⟩),[some [.int .u64 a1,.int .u64 a2,.slice (some ⟨k1,0,none⟩) 5 1,.int .i64 a3],some [.slice (some ⟨k2,0,none⟩) n2 s2,.slice (some ⟨k3,0,none⟩) n3 s3,.slice (some ⟨k4,0,none⟩) n4 s4,.slice (some ⟨k5,0,none⟩) n5 s5,.slice (some ⟨k6,0,none⟩) n6 s6],some c2,some c3,some c4,some c5,some c6,none,none,none]=>match (unL (asI .i64)) c2 with|some x2=>(match (unL (asI .i64)) c3 with|some x3=>(match (unL (asI .i64)) c4 with|some x4=>(match (unL (asI .i64)) c5 with|some x5=>(match (unL (asI .i64)) c6 with|some x6=>(if k0=k+0∧k1=k+1∧k2=k+2∧s2=1∧k3=k+3∧s3=1∧k4=k+4∧s4=1∧k5=k+5∧s5=1∧k6=k+6∧s6=1 then some (XaB.mk (XaD.mk a1 a2) (Xcr.mk x2 x3 x4 x5 x6 n2 n3 n4 n5 n6) a3) else none)|none=>none)|none=>none)|none=>none)|none=>none)|none=>none
 | _,_=>none
theorem Xcg {k:Nat} {v:Value} {cs:List (Option (List Value))} {x:XaB} (h:Xb1 k v cs=some x):v=.pointer (some ⟨k+0,0,none⟩)∧cs=[some [.int .u64 x.key.A,.int .u64 x.key.B,.slice (some ⟨k+1,0,none⟩) 5 1,.int .i64 x.total],some [.slice (some ⟨k+2,0,none⟩) x.rows.m0 1,.slice (some ⟨k+3,0,none⟩) x.rows.m1 1,.slice (some ⟨k+4,0,none⟩) x.rows.m2 1,.slice (some ⟨k+5,0,none⟩) x.rows.m3 1,.slice (some ⟨k+6,0,none⟩) x.rows.m4 1],some (vI .i64 x.rows.e0),some (vI .i64 x.rows.e1),some (vI .i64 x.rows.e2),some (vI .i64 x.rows.e3),some (vI .i64 x.rows.e4),none,none,none]:=by
 unfold Xb1 at h;split at h<;>try (cases h;done)
 split at h<;>try (cases h;done)
 rename_i x2 e2
 split at h<;>try (cases h;done)
 rename_i x3 e3
 split at h<;>try (cases h;done)
 rename_i x4 e4
 split at h<;>try (cases h;done)
 rename_i x5 e5
 split at h<;>try (cases h;done)
 rename_i x6 e6
 split at h<;>cases h
 rename_i hk
 obtain ⟨rfl,rfl,rfl,rfl,rfl,rfl,rfl,rfl,rfl,rfl,rfl,rfl⟩:=hk
 obtain rfl:=XcY e2
 obtain rfl:=XcY e3
 obtain rfl:=XcY e4
 obtain rfl:=XcY e5
 obtain rfl:=XcY e6
 exact ⟨rfl,rfl⟩
theorem XeR (k:Nat) (x:XaB):Xb1 k (.pointer (some ⟨k+0,0,none⟩)) [some [.int .u64 x.key.A,.int .u64 x.key.B,.slice (some ⟨k+1,0,none⟩) 5 1,.int .i64 x.total],some [.slice (some ⟨k+2,0,none⟩) x.rows.m0 1,.slice (some ⟨k+3,0,none⟩) x.rows.m1 1,.slice (some ⟨k+4,0,none⟩) x.rows.m2 1,.slice (some ⟨k+5,0,none⟩) x.rows.m3 1,.slice (some ⟨k+6,0,none⟩) x.rows.m4 1],some (vI .i64 x.rows.e0),some (vI .i64 x.rows.e1),some (vI .i64 x.rows.e2),some (vI .i64 x.rows.e3),some (vI .i64 x.rows.e4),none,none,none]=some x:=by
 simp only [Xb1,XcT,XcT,XcT,XcT,XcT];simp
def XbY (k:Nat):Value→List (Option (List Value))→Option Xay
 | .pointer (some ⟨k0,0,none⟩),[some [.int .u64 a1,.int .u64 a2,.slice (some ⟨k1,0,none⟩) 6 1,.int .i64 a3],some [.slice (some ⟨k2,0,none⟩) n2 s2,.slice (some ⟨k3,0,none⟩) n3 s3,.slice (some ⟨k4,0,none⟩) n4 s4,.slice (some ⟨k5,0,none⟩) n5 s5,.slice (some ⟨k6,0,none⟩) n6 s6,.slice (some ⟨k7,0,none⟩) n7 s7],some c2,some c3,some c4,some c5,some c6,some c7,none,none]=>match (unL (asI .i64)) c2 with|some x2=>(match (unL (asI .i64)) c3 with|some x3=>(match (unL (asI .i64)) c4 with|some x4=>(match (unL (asI .i64)) c5 with|some x5=>(match (unL (asI .i64)) c6 with|some x6=>(match (unL (asI .i64)) c7 with|some x7=>(if k0=k+0∧k1=k+1∧k2=k+2∧s2=1∧k3=k+3∧s3=1∧k4=k+4∧s4=1∧k5=k+5∧s5=1∧k6=k+6∧s6=1∧k7=k+7∧s7=1 then some (Xay.mk (XaD.mk a1 a2) (Xb5.mk x2 x3 x4 x5 x6 x7 n2 n3 n4 n5 n6 n7) a3) else none)|none=>none)|none=>none)|none=>none)|none=>none)|none=>none)|none=>none
 | _,_=>none
theorem Xcc {k:Nat} {v:Value} {cs:List (Option (List Value))} {x:Xay} (h:XbY k v cs=some x):v=.pointer (some ⟨k+0,0,none⟩)∧cs=[some [.int .u64 x.key.A,.int .u64 x.key.B,.slice (some ⟨k+1,0,none⟩) 6 1,.int .i64 x.total],some [.slice (some ⟨k+2,0,none⟩) x.rows.m0 1,.slice (some ⟨k+3,0,none⟩) x.rows.m1 1,.slice (some ⟨k+4,0,none⟩) x.rows.m2 1,.slice (some ⟨k+5,0,none⟩) x.rows.m3 1,.slice (some ⟨k+6,0,none⟩) x.rows.m4 1,.slice (some ⟨k+7,0,none⟩) x.rows.m5 1],some (vI .i64 x.rows.e0),some (vI .i64 x.rows.e1),some (vI .i64 x.rows.e2),some (vI .i64 x.rows.e3),some (vI .i64 x.rows.e4),some (vI .i64 x.rows.e5),none,none]:=by
 unfold XbY at h;split at h<;>try (cases h;done)
 split at h<;>try (cases h;done)
 rename_i x2 e2
 split at h<;>try (cases h;done)
 rename_i x3 e3
 split at h<;>try (cases h;done)
 rename_i x4 e4
 split at h<;>try (cases h;done)
 rename_i x5 e5
 split at h<;>try (cases h;done)
 rename_i x6 e6
 split at h<;>try (cases h;done)
 rename_i x7 e7
 split at h<;>cases h
 rename_i hk
 obtain ⟨rfl,rfl,rfl,rfl,rfl,rfl,rfl,rfl,rfl,rfl,rfl,rfl,rfl,rfl⟩:=hk
 obtain rfl:=XcY e2
 obtain rfl:=XcY e3
 obtain rfl:=XcY e4
 obtain rfl:=XcY e5
 obtain rfl:=XcY e6
 obtain rfl:=XcY e7
 exact ⟨rfl,rfl⟩
theorem XeO (k:Nat) (x:Xay):XbY k (.pointer (some ⟨k+0,0,none⟩)) [some [.int .u64 x.key.A,.int .u64 x.key.B,.slice (some ⟨k+1,0,none⟩) 6 1,.int .i64 x.total],some [.slice (some ⟨k+2,0,none⟩) x.rows.m0 1,.slice (some ⟨k+3,0,none⟩) x.rows.m1 1,.slice (some ⟨k+4,0,none⟩) x.rows.m2 1,.slice (some ⟨k+5,0,none⟩) x.rows.m3 1,.slice (some ⟨k+6,0,none⟩) x.rows.m4 1,.slice (some ⟨k+7,0,none⟩) x.rows.m5 1],some (vI .i64 x.rows.e0),some (vI .i64 x.rows.e1),some (vI .i64 x.rows.e2),some (vI .i64 x.rows.e3),some (vI .i64 x.rows.e4),some (vI .i64 x.rows.e5),none,none]=some x:=by
 simp only [XbY,XcT,XcT,XcT,XcT,XcT,XcT];simp
def Xb0 (k:Nat):Value→List (Option (List Value))→Option Xaw
 | .pointer (some ⟨k0,0,none⟩),[some [.int .u64 a1,.int .u64 a2,.slice (some ⟨k1,0,none⟩) 7 1,.int .i64 a3],some [.slice (some ⟨k2,0,none⟩) n2 s2,.slice (some ⟨k3,0,none⟩) n3 s3,.slice (some ⟨k4,0,none⟩) n4 s4,.slice (some ⟨k5,0,none⟩) n5 s5,.slice (some ⟨k6,0,none⟩) n6 s6,.slice (some ⟨k7,0,none⟩) n7 s7,.slice (some ⟨k8,0,none⟩) n8 s8],some c2,some c3,some c4,some c5,some c6,some c7,some c8,none]=>match (unL (asI .i64)) c2 with|some x2=>(match (unL (asI .i64)) c3 with|some x3=>(match (unL (asI .i64)) c4 with|some x4=>(match (unL (asI .i64)) c5 with|some x5=>(match (unL (asI .i64)) c6 with|some x6=>(match (unL (asI .i64)) c7 with|some x7=>(match (unL (asI .i64)) c8 with|some x8=>(if k0=k+0∧k1=k+1∧k2=k+2∧s2=1∧k3=k+3∧s3=1∧k4=k+4∧s4=1∧k5=k+5∧s5=1∧k6=k+6∧s6=1∧k7=k+7∧s7=1∧k8=k+8∧s8=1 then some (Xaw.mk (XaD.mk a1 a2) (XbT.mk x2 x3 x4 x5 x6 x7 x8 n2 n3 n4 n5 n6 n7 n8) a3) else none)|none=>none)|none=>none)|none=>none)|none=>none)|none=>none)|none=>none)|none=>none
 | _,_=>none
theorem Xcd {k:Nat} {v:Value} {cs:List (Option (List Value))} {x:Xaw} (h:Xb0 k v cs=some x):v=.pointer (some ⟨k+0,0,none⟩)∧cs=[some [.int .u64 x.key.A,.int .u64 x.key.B,.slice (some ⟨k+1,0,none⟩) 7 1,.int .i64 x.total],some [.slice (some ⟨k+2,0,none⟩) x.rows.m0 1,.slice (some ⟨k+3,0,none⟩) x.rows.m1 1,.slice (some ⟨k+4,0,none⟩) x.rows.m2 1,.slice (some ⟨k+5,0,none⟩) x.rows.m3 1,.slice (some ⟨k+6,0,none⟩) x.rows.m4 1,.slice (some ⟨k+7,0,none⟩) x.rows.m5 1,.slice (some ⟨k+8,0,none⟩) x.rows.m6 1],some (vI .i64 x.rows.e0),some (vI .i64 x.rows.e1),some (vI .i64 x.rows.e2),some (vI .i64 x.rows.e3),some (vI .i64 x.rows.e4),some (vI .i64 x.rows.e5),some (vI .i64 x.rows.e6),none]:=by
 unfold Xb0 at h;split at h<;>try (cases h;done)
 split at h<;>try (cases h;done)
 rename_i x2 e2
 split at h<;>try (cases h;done)
 rename_i x3 e3
 split at h<;>try (cases h;done)
 rename_i x4 e4
 split at h<;>try (cases h;done)
 rename_i x5 e5
 split at h<;>try (cases h;done)
 rename_i x6 e6
 split at h<;>try (cases h;done)
 rename_i x7 e7
 split at h<;>try (cases h;done)
 rename_i x8 e8
 split at h<;>cases h
 rename_i hk
 obtain ⟨rfl,rfl,rfl,rfl,rfl,rfl,rfl,rfl,rfl,rfl,rfl,rfl,rfl,rfl,rfl,rfl⟩:=hk
 obtain rfl:=XcY e2
 obtain rfl:=XcY e3
 obtain rfl:=XcY e4
 obtain rfl:=XcY e5
 obtain rfl:=XcY e6
 obtain rfl:=XcY e7
 obtain rfl:=XcY e8
 exact ⟨rfl,rfl⟩
theorem XeS (k:Nat) (x:Xaw):Xb0 k (.pointer (some ⟨k+0,0,none⟩)) [some [.int .u64 x.key.A,.int .u64 x.key.B,.slice (some ⟨k+1,0,none⟩) 7 1,.int .i64 x.total],some [.slice (some ⟨k+2,0,none⟩) x.rows.m0 1,.slice (some ⟨k+3,0,none⟩) x.rows.m1 1,.slice (some ⟨k+4,0,none⟩) x.rows.m2 1,.slice (some ⟨k+5,0,none⟩) x.rows.m3 1,.slice (some ⟨k+6,0,none⟩) x.rows.m4 1,.slice (some ⟨k+7,0,none⟩) x.rows.m5 1,.slice (some ⟨k+8,0,none⟩) x.rows.m6 1],some (vI .i64 x.rows.e0),some (vI .i64 x.rows.e1),some (vI .i64 x.rows.e2),some (vI .i64 x.rows.e3),some (vI .i64 x.rows.e4),some (vI .i64 x.rows.e5),some (vI .i64 x.rows.e6),none]=some x:=by
 simp only [Xb0,XcT,XcT,XcT,XcT,XcT,XcT,XcT];simp
def Xb3 (k:Nat):Value→List (Option (List Value))→Option Xav
 | .pointer (some ⟨k0,0,none⟩),[some [.int .u64 a1,.int .u64 a2,.slice (some ⟨k1,0,none⟩) 8 1,.int .i64 a3],some [.slice (some ⟨k2,0,none⟩) n2 s2,.slice (some ⟨k3,0,none⟩) n3 s3,.slice (some ⟨k4,0,none⟩) n4 s4,.slice (some ⟨k5,0,none⟩) n5 s5,.slice (some ⟨k6,0,none⟩) n6 s6,.slice (some ⟨k7,0,none⟩) n7 s7,.slice (some ⟨k8,0,none⟩) n8 s8,.slice (some ⟨k9,0,none⟩) n9 s9],some c2,some c3,some c4,some c5,some c6,some c7,some c8,some c9]=>match (unL (asI .i64)) c2 with|some x2=>(match (unL (asI .i64)) c3 with|some x3=>(match (unL (asI .i64)) c4 with|some x4=>(match (unL (asI .i64)) c5 with|some x5=>(match (unL (asI .i64)) c6 with|some x6=>(match (unL (asI .i64)) c7 with|some x7=>(match (unL (asI .i64)) c8 with|some x8=>(match (unL (asI .i64)) c9 with|some x9=>(if k0=k+0∧k1=k+1∧k2=k+2∧s2=1∧k3=k+3∧s3=1∧k4=k+4∧s4=1∧k5=k+5∧s5=1∧k6=k+6∧s6=1∧k7=k+7∧s7=1∧k8=k+8∧s8=1∧k9=k+9∧s9=1 then some (Xav.mk (XaD.mk a1 a2) (XbQ.mk x2 x3 x4 x5 x6 x7 x8 x9 n2 n3 n4 n5 n6 n7 n8 n9) a3) else none)|none=>none)|none=>none)|none=>none)|none=>none)|none=>none)|none=>none)|none=>none)|none=>none
 | _,_=>none
theorem Xck {k:Nat} {v:Value} {cs:List (Option (List Value))} {x:Xav} (h:Xb3 k v cs=some x):v=.pointer (some ⟨k+0,0,none⟩)∧cs=[some [.int .u64 x.key.A,.int .u64 x.key.B,.slice (some ⟨k+1,0,none⟩) 8 1,.int .i64 x.total],some [.slice (some ⟨k+2,0,none⟩) x.rows.m0 1,.slice (some ⟨k+3,0,none⟩) x.rows.m1 1,.slice (some ⟨k+4,0,none⟩) x.rows.m2 1,.slice (some ⟨k+5,0,none⟩) x.rows.m3 1,.slice (some ⟨k+6,0,none⟩) x.rows.m4 1,.slice (some ⟨k+7,0,none⟩) x.rows.m5 1,.slice (some ⟨k+8,0,none⟩) x.rows.m6 1,.slice (some ⟨k+9,0,none⟩) x.rows.m7 1],some (vI .i64 x.rows.e0),some (vI .i64 x.rows.e1),some (vI .i64 x.rows.e2),some (vI .i64 x.rows.e3),some (vI .i64 x.rows.e4),some (vI .i64 x.rows.e5),some (vI .i64 x.rows.e6),some (vI .i64 x.rows.e7)]:=by
 unfold Xb3 at h;split at h<;>try (cases h;done)
 split at h<;>try (cases h;done)
 rename_i x2 e2
 split at h<;>try (cases h;done)
 rename_i x3 e3
 split at h<;>try (cases h;done)
 rename_i x4 e4
 split at h<;>try (cases h;done)
 rename_i x5 e5
 split at h<;>try (cases h;done)
 rename_i x6 e6
 split at h<;>try (cases h;done)
 rename_i x7 e7
 split at h<;>try (cases h;done)
 rename_i x8 e8
 split at h<;>try (cases h;done)
 rename_i x9 e9
 split at h<;>cases h
 rename_i hk
 obtain ⟨rfl,rfl,rfl,rfl,rfl,rfl,rfl,rfl,rfl,rfl,rfl,rfl,rfl,rfl,rfl,rfl,rfl,rfl⟩:=hk
 obtain rfl:=XcY e2
 obtain rfl:=XcY e3
 obtain rfl:=XcY e4
 obtain rfl:=XcY e5
 obtain rfl:=XcY e6
 obtain rfl:=XcY e7
 obtain rfl:=XcY e8
 obtain rfl:=XcY e9
 exact ⟨rfl,rfl⟩
theorem XeF (k:Nat) (x:Xav):Xb3 k (.pointer (some ⟨k+0,0,none⟩)) [some [.int .u64 x.key.A,.int .u64 x.key.B,.slice (some ⟨k+1,0,none⟩) 8 1,.int .i64 x.total],some [.slice (some ⟨k+2,0,none⟩) x.rows.m0 1,.slice (some ⟨k+3,0,none⟩) x.rows.m1 1,.slice (some ⟨k+4,0,none⟩) x.rows.m2 1,.slice (some ⟨k+5,0,none⟩) x.rows.m3 1,.slice (some ⟨k+6,0,none⟩) x.rows.m4 1,.slice (some ⟨k+7,0,none⟩) x.rows.m5 1,.slice (some ⟨k+8,0,none⟩) x.rows.m6 1,.slice (some ⟨k+9,0,none⟩) x.rows.m7 1],some (vI .i64 x.rows.e0),some (vI .i64 x.rows.e1),some (vI .i64 x.rows.e2),some (vI .i64 x.rows.e3),some (vI .i64 x.rows.e4),some (vI .i64 x.rows.e5),some (vI .i64 x.rows.e6),some (vI .i64 x.rows.e7)]=some x:=by
 simp only [Xb3,XcT,XcT,XcT,XcT,XcT,XcT,XcT,XcT];simp
theorem XDY {h:Hp} {b o n i sz kk:Nat} {k:IntKind} {own:Bool} {xs ys:List Int} (ho:XaY h b=some (.row own (vI k xs))) (hs:sz=1) (e0:o=i) (hle:i+n≤xs.length) (hy:(xs.drop i).take n=ys):Xcw h kk (.sl 1) (.slice (some ⟨b,o,none⟩) n sz)=some (.slice (some ⟨kk,0,none⟩) ys.length 1,[some (.row false (vI k ys))]):=by
 have hl:n=ys.length:=by rw [←hy];simp;omega
 subst hy
 have:=Xtx (kk:=kk) ho hs e0 hl (by omega)
 rw [this,←hl]
theorem Xbn.a {s:Xc3} {vals «as»:List Value} {os:List (Option Xbe)} {h h1 h2:Hp} {top n m t':Nat} {ws:List Wd} {r:Xdj} {v':Value} {cw:List (Option (List Value))} {K:Value→Hp→Nat→Prop} (e2:s.run «as» cw=some r)
 (k:Xg7 v' fun v=>Xjk [] (XhU h2 (top+n) m) fun h'=>K v h' t')
 (e1:XcP h 0 s.modes vals=some («as»,os):=by repeat' first|exact XaP|apply Xam|(apply Xa6 rfl rfl _ rfl;repeat' first|exact XaR|apply XDx|apply Xan|apply XCX rfl rfl|apply Xai rfl rfl (by first|rfl|exact Xat|exact XAX|exact XAL|exact XBF Xcu|exact XcJ _ _ (by simp only [Xa8.flatL,Xho];rfl)) rfl)|rfl|exact XDK rfl rfl rfl (by first|rfl|(simp only [Xa8.flatL,Xho];rfl))|exact Xy3 rfl rfl (Nat.le_of_ble_eq_true rfl) rfl (by first|rfl|(simp only [Xa8.flatL,Xho];rfl))|exact XAs rfl rfl (by first|rfl|omega) (by first|rfl|(simp;done))|exact XB6 rfl rfl (by first|rfl|omega) (by first|rfl|(simp;done))|exact Xz3 rfl rfl (by first|rfl|omega) (by first|rfl|(simp;done))|exact Xzx XaA Xcu rfl rfl (by first|rfl|omega) (by first|rfl|(simp;done))|exact XDY rfl rfl (by first|rfl|omega) (by simp at *;omega) rfl|exact Xtx rfl rfl (by first|rfl|omega) (by first|rfl|omega) (by first|omega|(simp at *;omega))|exact XyS rfl rfl (by first|rfl|omega) (by first|rfl|omega) (by first|omega|(simp at *;omega))|exact XyL rfl rfl (by first|rfl|omega) (by first|rfl|omega) (by first|omega|(simp at *;omega))|exact XyP XaA Xcu rfl rfl (by first|rfl|omega) (by first|rfl|omega) (by first|omega|(simp at *;omega)))
 (ec:XhF os=cw:=by rfl)
 (ew:XiQ h s.modes vals=ws:=by first|exact (rfl:_=[_,_,_,_,_,_,_,_,_,_])|exact (rfl:_=[_,_,_,_,_,_,_,_,_,_,_,_,_,_,_,_,_,_,_,_])|exact (rfl:_=[])|exact (rfl:_=[_])|exact (rfl:_=[_,_])|exact (rfl:_=[_,_,_])|exact (rfl:_=[_,_,_,_])|exact (rfl:_=[_,_,_,_,_])|exact (rfl:_=[_,_,_,_,_,_])|exact (rfl:_=[_,_,_,_,_,_,_])|exact (rfl:_=[_,_,_,_,_,_,_,_])|exact (rfl:_=[_,_,_,_,_,_,_,_,_])|exact (rfl:_=[_,_,_,_,_,_,_,_,_,_,_])|exact (rfl:_=[_,_,_,_,_,_,_,_,_,_,_,_])|exact (rfl:_=[_,_,_,_,_,_,_,_,_,_,_,_,_])|exact (rfl:_=[_,_,_,_,_,_,_,_,_,_,_,_,_,_,_,_,_,_,_,_,_])|exact (rfl:_=[_,_,_,_,_,_,_,_,_,_,_,_,_,_,_,_,_,_,_,_,_,_])|exact (rfl:_=[_,_,_,_,_,_,_,_,_,_,_,_,_,_,_,_,_,_,_,_,_,_,_]))
 (e3:apartB ws=true:=by exact rfl)
 (hn:r.new.length=n:=by first|exact (rfl:_=0)|exact (rfl:_=1)|exact (rfl:_=2)|exact (rfl:_=3)|exact (rfl:_=4)|exact (rfl:_=5)|exact (rfl:_=6)|exact (rfl:_=7)|exact (rfl:_=8)|exact (rfl:_=9)|exact (rfl:_=10)|exact (rfl:_=11)|exact (rfl:_=12)|exact (rfl:_=13)|exact (rfl:_=14)|exact (rfl:_=15)|exact (rfl:_=16)|exact (rfl:_=17)|exact (rfl:_=18)|exact (rfl:_=19))
 (hm:Xj3 ws=m:=by first|exact (rfl:_=0)|exact (rfl:_=1)|exact (rfl:_=2)|exact (rfl:_=3)|exact (rfl:_=4))
 (ht:top+n+m=t':=by simp only [Nat.reduceAdd];rfl)
 (e4:XcG h (Xp5 top n ws) ws r.wr=some h1:=by repeat' first|exact XaN|apply Xab rfl|apply XC9 rfl rfl (by first|rfl|exact Xat|exact XAX|exact XAL|exact XBF Xcu|exact XcJ _ _ (by simp only [Xa8.flatL,Xho];rfl)) rfl rfl rfl|apply Xu8 rfl rfl (by first|rfl|exact Xat|exact XAX|exact XAL|exact XBF Xcu|exact XcJ _ _ (by simp only [Xa8.flatL,Xho];rfl)) ⟨rfl,Nat.le_of_ble_eq_true rfl⟩ rfl rfl|apply Xfo rfl rfl (by first|rfl|exact Xat|exact XAX|exact XAL|exact XBF Xcu|exact XcJ _ _ (by simp only [Xa8.flatL,Xho];rfl)) rfl|apply XcC|apply XCF rfl)
 (e5:XhK h1 (Xp5 top n ws) top r.new=some h2:=by repeat' first|exact XaM|apply XbR (by first|rfl|exact Xat|exact XAX|exact XAL|exact XBF Xcu|exact XcJ _ _ (by simp only [Xa8.flatL,Xho];rfl)))
 (e6:XeB (Xp5 top n ws) r.v=some v':=by first|exact rfl|exact Xlg _ _ (by first|rfl|(simp only [Xa8,Xa8.flatL,Xho];rfl))):Xbn s vals h top K:=Xbn.XaO [] (Xar e1 ew ec e2 e3 hn hm ht e4 e5 e6) k
theorem Res.w {n:Nat} {r:Xdj} {v':Value} {H':Hp} (js:List Nat) (e1:XeB (XpD js n) r.v=some v') (e2:Xo0 H' (XpD js n) js r.new:=by (repeat' first|exact Xs1|apply Xhx (by first|rfl|exact Xat|exact XAX|exact XAL|exact XBF Xcu|exact XcJ _ _ (by simp only [Xa8.flatL,Xho];rfl)) (by first|exact Xct rfl|exact XgI rfl));first|done|fail) (e3:js.Nodup:=by decide) (e4:XwX n r.wr js:=by (repeat' first|exact Xs3|apply Xhu (by decide)|apply js_r rfl);first|done|fail) (e5:XsO H' (XpD js n) 0 r.wr:=by (repeat' first|exact Xs2|apply wr_n|apply wr_m rfl|apply wr_s (by first|rfl|exact Xat|exact XAX|exact XAL|exact XBF Xcu|exact XcJ _ _ (by simp only [Xa8.flatL,Xho];rfl)) (by first|exact XgI rfl|exact Xct rfl));first|done|fail):Res n r v' H':=Res.of js e1 e2 e3 e4 e5
theorem W {G:Prop} (g:G:=by
 repeat' first
  | (refine fsp h ?_ ?_<;>(clear h;intros;rename_i hx h;rw [hx];conv=>whnf))
  | (refine fcase h ?_ ?_<;>first|(clear h;intro hx h;(first|subst hx|rw [hx]);conv=>whnf)|(clear h;intro h))
  | (refine br.h h (by rfl) ?_ ?_<;>(clear h;intro hb h;conv=>whnf))
  | (replace h:=XaU.elim h;obtain ⟨hb,h⟩:=h;first|(refine req.intro hb ?_;conv=>whnf)|(refine Xk5 hb (by first|rfl|(rw [Nat.zero_add,Nat.mul_one];try rfl;done)|omega) ?_;conv=>whnf)|(refine st_S hb (by first|rfl|(rw [Nat.zero_add,Nat.mul_one];try rfl;done)|omega) ?_;conv=>whnf)|(refine st_B hb (by first|rfl|(rw [Nat.zero_add,Nat.mul_one];try rfl;done)|omega) ?_;conv=>whnf)|skip)
  | (replace h:=XaK.elim h;obtain ⟨x,hy,h⟩:=h;(first|refine Xbn.a (R1 hy) ?_|refine Xbn.a (R2 hy) ?_|refine Xbn.a (R3 hy) ?_|refine Xbn.a (R4 hy) ?_|refine rdS.intro hy ?_|refine rd.I hy (by first|rfl|(rw [Nat.zero_add,Nat.mul_one];try rfl;done)|omega) ?_|refine rd.S hy (by first|rfl|(rw [Nat.zero_add,Nat.mul_one];try rfl;done)|omega) ?_|refine rd.B hy (by first|rfl|(rw [Nat.zero_add,Nat.mul_one];try rfl;done)|omega) ?_|refine rd.U (j:=0) XaA hy ?_|refine rd.U (j:=1) XaA hy ?_);conv=>whnf)
  | (cases h;done)
  | (cases h;(try cases hc);first|exact Res.y|exact Res.w [] rfl|exact Res.w [_] rfl|exact Res.w [_,_] rfl|exact Res.w [_,_,_] rfl|exact Res.w [_,_,_,_] rfl|exact Res.w [2] rfl|exact Res.w [2,3] rfl|exact Res.w [2,3,4] rfl|exact Res.w [2,3,4,5] rfl|exact Res.w [2,3,4,5,6] rfl|exact Res.w [2,3,4,5,6,7] rfl|exact Res.w [2,3,4,5,6,7,8] rfl|exact Res.w [2,3,4,5,6,7,8,9] rfl)
  | (refine Xa1 XaJ hS true 3000 ?_;conv=>whnf)):G:=g
theorem okA {f : Nat} {s : Xc3} (hfn : ∃ fn, Try.prog.funcs[f]? = some fn ∧ fn.name ≠ "runtime.NumGoroutine" ∧ fn.body.isSome = true)
 (H:∀ ar os r,XgQ (Xra s.modes) os→s.run ar (XhF os)=some r→∃ c,Xh7 (XaY tab) f ar=some c∧Xa0 Try.prog f os.length ⟨c,[],Xnh 0 os,os.length⟩ (fun v' H' _=>Res os.length r v' H'):=by
 intro ar os r ha hr
 generalize hc:XhF os=C at hr
 repeat' first
  | (replace hr:=XxE.elim hr;rcases hr with hr|hr)
  | (replace hr:=orD.elim hr;rcases hr with hr|hr)
  | (replace hr:=dV.elim hr;obtain ⟨v,l,y,rfl,e,hr⟩:=hr;first|obtain rfl:=Xgu _ _ _ e|obtain rfl:=Xd1 _ _ e|obtain rfl:=Xtk _ _ e|obtain rfl:=Xpk _ _ e|obtain rfl:=Xo6 _ _ e|obtain rfl:=Xoo _ _ e|obtain rfl:=Xmx _ _ e|obtain rfl:=Xn6 _ _ e)
  | (have hq:=dSl.elim hr;clear hr;obtain ⟨c,l,C,y,rfl,rfl,e,hr⟩:=hq;first|obtain rfl:=XcY e|obtain rfl:=XC5 e|obtain rfl:=XCK e|obtain rfl:=XyI Xju e)
  | (have hq:=dPt.elim hr;clear hr;obtain ⟨c,l,C,y,rfl,rfl,e,hr⟩:=hq;first|obtain rfl:=Xl5 _ _ e|obtain rfl:=Xju _ _ e|obtain rfl:=Xk3 _ _ e|obtain rfl:=Xjq _ _ e|obtain rfl:=Xk1 _ _ e|obtain rfl:=XuL (Xgu _) e|obtain rfl:=XuL Xd1 e|obtain rfl:=XuL Xtk e)
  | (have hq:=dTr.elim hr;clear hr;obtain ⟨v,l,c,C,y,rfl,rfl,e,hr⟩:=hq;(first|obtain ⟨rfl,rfl⟩:=Xc1 e|obtain ⟨rfl,rfl⟩:=Xcn e|obtain ⟨rfl,rfl⟩:=Xcp e|obtain ⟨rfl,rfl⟩:=Xce e|obtain ⟨rfl,rfl⟩:=Xci e|obtain ⟨rfl,rfl⟩:=Xcg e|obtain ⟨rfl,rfl⟩:=Xcc e|obtain ⟨rfl,rfl⟩:=Xcd e|obtain ⟨rfl,rfl⟩:=Xck e);simp only [List.nil_append,List.cons_append] at hc)
  | (have hq:=dNl.elim hr;clear hr;obtain ⟨l,C,rfl,rfl,hr⟩:=hq;simp only [List.replicate,List.nil_append,List.cons_append] at hc)
  | (replace hr:=Xhd hr;obtain ⟨rfl,rfl,x,h,rfl⟩:=hr;(repeat (first|(replace ha:=Xag ha hc;obtain ⟨os,rfl,ha,hc⟩:=ha)|(replace ha:=Xaj ha hc;obtain ⟨os,rfl,ha,hc⟩:=ha)));obtain rfl:=Xa5 hc;first|exact ⟨_,rfl,hL (h:=h) ..⟩|exact ⟨_,rfl,hN (h:=h) ..⟩|exact ⟨_,rfl,L0 (h:=h) ..⟩|exact ⟨_,rfl,L1 (h:=h) ..⟩|exact ⟨_,rfl,L2 (h:=h) ..⟩|exact ⟨_,rfl,L3 (h:=h) ..⟩|exact ⟨_,rfl,L4 (h:=h) ..⟩|exact ⟨_,rfl,L5 (h:=h) ..⟩|exact ⟨_,rfl,L6 (h:=h) ..⟩|exact ⟨_,rfl,L7 (h:=h) ..⟩|exact ⟨_,rfl,L8 (h:=h) ..⟩|exact ⟨_,rfl,L9 (h:=h) ..⟩)):Xgx Try.prog f s:=Xgx.XiG XaJ H hfn
def Xn9 (k:XaD):Option XaV:=
 some (XaV.mk true (XaT.mk (Xf0 .u64 8317987319222330741 k.A) (Xf0 .u64 7237128888997146477 k.B) (Xf0 .u64 7816392313619706465 k.A) (Xf0 .u64 8387220255154660723 k.B)) 0 0)
def rx61 (x:XaV):Xdj:=⟨.pointer (some ⟨0,0,none⟩),[[.bool x.made,.int .u64 x.s.e0,.int .u64 x.s.e1,.int .u64 x.s.e2,.int .u64 x.s.e3,.int .u64 x.last,.int .i64 x.count]],[]⟩
abbrev XgW:=XaD→Option XaV
def r61 (g:XgW):Dec:=dV XhL fun (y0:XaD)=>Xfq (ofG (g y0) rx61)
theorem r61_c {g:XgW} {y0:XaD} {x:XaV} (hx:g y0=some x):r61 g [.agg ⟨[.int .u64 y0.A,.int .u64 y0.B]⟩] []=some (rx61 x):=(XcF (XkB _)).trans (Xbx hx)
def s61 (g:XgW):Xc3:=⟨[.v],r61 g⟩
theorem XD0 {g:XgW} {y0:XaD} {x:XaV} (hx:g y0=some x):(s61 g).run [.agg ⟨[.int .u64 y0.A,.int .u64 y0.B]⟩] []=some (rx61 x):=r61_c hx
abbrev XC2:List (Nat×Xc3):=[]
theorem Xz7 (hS:XaL Try.prog (XaY (XC2))) (k:XaD) (res:XaV) (h:Xn9 k=some res) :
 Xa0 Try.prog 61 0 ⟨⟨61,18,[(0,.agg ⟨[.int .u64 k.A,.int .u64 k.B]⟩)],[.code XEe],[],false,none⟩,[],[],0⟩ (fun v H _=>Res 0 (rx61 res) v H):=by
 unfold Xn9 at h
 refine Xa1 XaJ hS true 3000 ?_
 conv=>whnf
 exact W
def Xhz:XgW:=Xn9
theorem XCB:Xgx Try.prog 61 (s61 Xhz):=by
 have hL:=Xz7 (XaL.Xbk trivial)
 exact okA ⟨Try.f61,rfl,by decide,rfl⟩
def XdT (x:Int) (k:Int):Option Int:=
 XaU (decide (0≤(XuG .u64 (wI .u64 k) 63))) <|
 let t:=wI .u64 (x*2^(min (XuG .u64 (wI .u64 k) 63).toNat 64))
 let t1:=wI .u64 (64 - (XuG .u64 (wI .u64 k) 63))
 XaU (decide (0≤t1)) <|
 let t2:=Xse .u64 t (x.fdiv (2^(min t1.toNat 64)))
 some (t2)
def rx78 (x:Int):Xdj:=⟨.int .u64 x,[],[]⟩
abbrev Xbu:=Int→Int→Option Int
def r78 (g:Xbu):Dec:=dV (asI .u64) fun (y0:Int)=>dV (asI .i64) fun (y1:Int)=>Xfq (ofG (g y0 y1) rx78)
theorem r78_c {g:Xbu} {y0:Int} {y1:Int} {x:Int} (hx:g y0 y1=some x):r78 g [.int .u64 y0,.int .i64 y1] []=some (rx78 x):=(XcF (XgS _)).trans ((XcF (XgS _)).trans (Xbx hx))
def s78 (g:Xbu):Xc3:=⟨[.v,.v],r78 g⟩
theorem XDV {g:Xbu} {y0:Int} {y1:Int} {x:Int} (hx:g y0 y1=some x):(s78 g).run [.int .u64 y0,.int .i64 y1] []=some (rx78 x):=r78_c hx
abbrev XD2:List (Nat×Xc3):=[]
theorem XBL (hS:XaL Try.prog (XaY (XD2))) (x:Int) (k:Int) (res:Int) (h:XdT x k=some res) :
 Xa0 Try.prog 78 0 ⟨⟨78,17,[(0,.int .u64 x),(1,.int .i64 k)],[.code XEs],[],false,none⟩,[],[],0⟩ (fun v H _=>Res 0 (rx78 res) v H):=by
 unfold XdT at h
 refine Xa1 XaJ hS true 3000 ?_
 conv=>whnf
 exact W
def Xa3:Xbu:=XdT
theorem XDQ:Xgx Try.prog 78 (s78 Xa3):=by
 have hL:=XBL (XaL.Xbk trivial)
 exact okA ⟨Try.f78,rfl,by decide,rfl⟩
def XgG (Xa3:Xbu) (s:XaT):Option XaT:=
 (Xa3 s.e1 13).bind fun xr=>
 (Xa3 (wI .u64 (s.e0+s.e1)) 32).bind fun xr1=>
 (Xa3 s.e3 16).bind fun xr2=>
 let t:=wI .u64 (xr1+(Xf0 .u64 xr2 (wI .u64 (s.e2+s.e3))))
 (Xa3 (Xf0 .u64 xr2 (wI .u64 (s.e2+s.e3))) 21).bind fun xr3=>
 let t1:=wI .u64 ((wI .u64 (s.e2+s.e3))+(Xf0 .u64 xr (wI .u64 (s.e0+s.e1))))
 (Xa3 (Xf0 .u64 xr (wI .u64 (s.e0+s.e1))) 17).bind fun xr4=>
 (Xa3 t1 32).bind fun xr5=>
 some (XaT.mk t (Xf0 .u64 xr4 t1) xr5 (Xf0 .u64 xr3 t))
def rx76 (x:XaT):Xdj:=⟨.tuple ⟨[]⟩,[],[some [.int .u64 x.e0,.int .u64 x.e1,.int .u64 x.e2,.int .u64 x.e3]]⟩
abbrev XbU:=XaT→Option XaT
def r76 (g:XbU):Dec:=dPt 0 Xhh fun (y0:XaT)=>Xfq (ofG (g y0) rx76)
theorem r76_c {g:XbU} {y0:XaT} {x:XaT} (hx:g y0=some x):r76 g [.pointer (some ⟨0,0,none⟩)] [some [.int .u64 y0.e0,.int .u64 y0.e1,.int .u64 y0.e2,.int .u64 y0.e3]]=some (rx76 x):=(Xph (XjE _)).trans (Xbx hx)
def s76 (g:XbU):Xc3:=⟨[.pt 4],r76 g⟩
theorem XD4 {g:XbU} {y0:XaT} {x:XaT} (hx:g y0=some x):(s76 g).run [.pointer (some ⟨0,0,none⟩)] [some [.int .u64 y0.e0,.int .u64 y0.e1,.int .u64 y0.e2,.int .u64 y0.e3]]=some (rx76 x):=r76_c hx
abbrev XDs (Xa3:Xbu):List (Nat×Xc3):=[(78,s78 Xa3)]
theorem XzF (Xa3:Xbu) (hS:XaL Try.prog (XaY (XDs Xa3))) (s:XaT) (res:XaT) (h:XgG Xa3 s=some res) :
 Xa0 Try.prog 76 1 ⟨⟨76,114,[(0,.pointer (some ⟨0,0,none⟩))],[.code Xys],[],false,none⟩,[],[(0,.cells [.int .u64 s.e0,.int .u64 s.e1,.int .u64 s.e2,.int .u64 s.e3])],1⟩ (fun v H _=>Res 1 (rx76 res) v H):=by
 unfold XgG at h
 have R1:=@XDV Xa3
 refine Xa1 XaJ hS true 3000 ?_
 conv=>whnf
 exact W
def Xbf:XbU:=XgG Xa3
theorem XEE:Xgx Try.prog 76 (s76 Xbf):=by
 have hL:=XzF Xa3 (XaL.Xbk ⟨XDQ,trivial⟩)
 exact okA ⟨Try.f76,rfl,by decide,rfl⟩
theorem Xfj {P:Program} {f base fn nt:Nat} {e e':Env} {todo todo':List Xf4} {ds ds':List Nat} {ret:Bool} {up up':List Xbo} {H H':Hp} {top top':Nat} {R:Value→Hp→Nat→Prop}
 (h:Xa0 P f base ⟨⟨fn,nt,e',todo',ds',ret,none⟩,up',H',top'⟩ R) (m:List (Nat×Nat)) (hc:XvJ base top' m=true) (he:reE (XaY m) e e':=by repeat' first|exact trivial|refine ⟨⟨_,rfl,rfl⟩,?_⟩|refine ⟨⟨_,_,rfl,rfl,.rowF (Xie _ _) id⟩,?_⟩|refine ⟨⟨_,_,rfl,rfl,.rowF (XlM _) id⟩,?_⟩|refine ⟨⟨_,_,rfl,rfl,.rowF (Xls _) id⟩,?_⟩|refine ⟨⟨_,_,rfl,rfl,.rowF (Xlu (by first|exact Xcu) _) id⟩,?_⟩|refine ⟨⟨_,_,rfl,rfl,.tyF (Xie _ _)⟩,?_⟩|refine ⟨⟨_,_,rfl,rfl,.ty rfl⟩,?_⟩|refine ⟨⟨_,_,rfl,rfl,.cells rfl⟩,?_⟩|refine ⟨⟨_,_,rfl,rfl,.row rfl id⟩,?_⟩|refine ⟨⟨_,_,rfl,rfl,.cr rfl⟩,?_⟩|refine ⟨⟨_,_,rfl,rfl,.rc rfl⟩,?_⟩|refine ⟨⟨_,_,rfl,rfl,.marks⟩,?_⟩|refine ⟨⟨_,_,rfl,rfl,.mp _⟩,?_⟩|refine ⟨⟨_,_,rfl,rfl,.siter _ _⟩,?_⟩|refine ⟨⟨_,_,rfl,rfl,.loop rfl rfl rfl rfl (by repeat' first|exact trivial|refine ⟨rfl,?_⟩) rfl rfl rfl rfl⟩,?_⟩) (hH:reH (XaY m) H H':=by repeat' first|exact trivial|refine ⟨⟨_,rfl,rfl⟩,?_⟩|refine ⟨⟨_,_,rfl,rfl,.rowF (Xie _ _) id⟩,?_⟩|refine ⟨⟨_,_,rfl,rfl,.rowF (XlM _) id⟩,?_⟩|refine ⟨⟨_,_,rfl,rfl,.rowF (Xls _) id⟩,?_⟩|refine ⟨⟨_,_,rfl,rfl,.rowF (Xlu (by first|exact Xcu) _) id⟩,?_⟩|refine ⟨⟨_,_,rfl,rfl,.tyF (Xie _ _)⟩,?_⟩|refine ⟨⟨_,_,rfl,rfl,.ty rfl⟩,?_⟩|refine ⟨⟨_,_,rfl,rfl,.cells rfl⟩,?_⟩|refine ⟨⟨_,_,rfl,rfl,.row rfl id⟩,?_⟩|refine ⟨⟨_,_,rfl,rfl,.cr rfl⟩,?_⟩|refine ⟨⟨_,_,rfl,rfl,.rc rfl⟩,?_⟩|refine ⟨⟨_,_,rfl,rfl,.marks⟩,?_⟩|refine ⟨⟨_,_,rfl,rfl,.mp _⟩,?_⟩|refine ⟨⟨_,_,rfl,rfl,.siter _ _⟩,?_⟩|refine ⟨⟨_,_,rfl,rfl,.loop rfl rfl rfl rfl (by repeat' first|exact trivial|refine ⟨rfl,?_⟩) rfl rfl rfl rfl⟩,?_⟩)
 (ht:Xw4 (XaY m) todo'=some todo:=by rfl) (hd:Xx8 (XaY m) ds'=some ds:=by rfl) (hu:reU (XaY m) up up':=by trivial) :
 Xa0 P f base ⟨⟨fn,nt,e,todo,ds,ret,none⟩,up,H,top⟩ R:=Xa0.re h m hc he hH ht hd hu
theorem lrA1 {P:Program} {f base fn nt:Nat} {e e':Env} {todo todo':List Xf4} {ds ds':List Nat} {ret:Bool} {up up':List Xbo} {H H':Hp} {top top':Nat} {R:Value→Hp→Nat→Prop}
 (h:Xa0 P f base ⟨⟨fn,nt,e',todo',ds',ret,none⟩,up',H',top'⟩ R) (m:List (Nat×Nat)) (hc:XvJ base top' m=true) (he:reE (XaY m) e e':=by repeat' first|exact trivial|refine ⟨⟨_,rfl,rfl⟩,?_⟩|refine ⟨⟨_,_,rfl,rfl,.rowF (Xie _ _) id⟩,?_⟩|refine ⟨⟨_,_,rfl,rfl,.rowF (XlM _) id⟩,?_⟩|refine ⟨⟨_,_,rfl,rfl,.rowF (Xls _) id⟩,?_⟩|refine ⟨⟨_,_,rfl,rfl,.rowF (Xlu (by first|exact Xcu) _) id⟩,?_⟩|refine ⟨⟨_,_,rfl,rfl,.tyF (Xie _ _)⟩,?_⟩|refine ⟨⟨_,_,rfl,rfl,.ty rfl⟩,?_⟩|refine ⟨⟨_,_,rfl,rfl,.cells rfl⟩,?_⟩|refine ⟨⟨_,_,rfl,rfl,.row rfl id⟩,?_⟩|refine ⟨⟨_,_,rfl,rfl,.cr rfl⟩,?_⟩|refine ⟨⟨_,_,rfl,rfl,.rc rfl⟩,?_⟩|refine ⟨⟨_,_,rfl,rfl,.marks⟩,?_⟩|refine ⟨⟨_,_,rfl,rfl,.mp _⟩,?_⟩|refine ⟨⟨_,_,rfl,rfl,.siter _ _⟩,?_⟩|refine ⟨⟨_,_,rfl,rfl,.loop rfl rfl rfl rfl (by repeat' first|exact trivial|refine ⟨rfl,?_⟩) rfl rfl rfl rfl⟩,?_⟩) (hH:reH (XaY m) H H':=by repeat' first|exact trivial|refine ⟨⟨_,rfl,rfl⟩,?_⟩|refine ⟨⟨_,_,rfl,rfl,.rowF (Xie _ _) id⟩,?_⟩|refine ⟨⟨_,_,rfl,rfl,.rowF (XlM _) id⟩,?_⟩|refine ⟨⟨_,_,rfl,rfl,.rowF (Xls _) id⟩,?_⟩|refine ⟨⟨_,_,rfl,rfl,.rowF (Xlu (by first|exact Xcu) _) id⟩,?_⟩|refine ⟨⟨_,_,rfl,rfl,.tyF (Xie _ _)⟩,?_⟩|refine ⟨⟨_,_,rfl,rfl,.ty rfl⟩,?_⟩|refine ⟨⟨_,_,rfl,rfl,.cells rfl⟩,?_⟩|refine ⟨⟨_,_,rfl,rfl,.row rfl id⟩,?_⟩|refine ⟨⟨_,_,rfl,rfl,.cr rfl⟩,?_⟩|refine ⟨⟨_,_,rfl,rfl,.rc rfl⟩,?_⟩|refine ⟨⟨_,_,rfl,rfl,.marks⟩,?_⟩|refine ⟨⟨_,_,rfl,rfl,.mp _⟩,?_⟩|refine ⟨⟨_,_,rfl,rfl,.siter _ _⟩,?_⟩|refine ⟨⟨_,_,rfl,rfl,.loop rfl rfl rfl rfl (by repeat' first|exact trivial|refine ⟨rfl,?_⟩) rfl rfl rfl rfl⟩,?_⟩)
 (ht:Xw4 (XaY m) todo'=some todo:=by rfl) (hd:Xx8 (XaY m) ds'=some ds:=by rfl) (hu:reU (XaY m) up up':=by repeat' first|exact trivial|refine ⟨⟨rfl,rfl,rfl,rfl,rfl,?_,rfl,rfl⟩,?_⟩|refine ⟨⟨_,rfl,rfl⟩,?_⟩) :
 Xa0 P f base ⟨⟨fn,nt,e,todo,ds,ret,none⟩,up,H,top⟩ R:=Xa0.re h m hc he hH ht hd hu
def XeC (Xbf:XbU) (t:Int) (t7:Int) (s1:Int) (s2:Int) (s3:Int) (s4:Int):Option (Sum (Int×Int×Int×Int×Int) XaT):=
 cond (decide (t7<t))
  (
  (Xbf (XaT.mk s1 s2 s3 s4)).bind fun xr=>
  some (.inl (wI .i64 (t7+1),xr.e0,xr.e1,xr.e2,xr.e3)))
  (
  some (.inr (XaT.mk s1 s2 s3 s4)))
def Xhn (Xbf:XbU) (s:XaT) (rounds:Int):Option XaT:=
 let t:=if (if 64<rounds then 64 else rounds)>0 then if 64<rounds then 64 else rounds else 0
 iter (fun st=>XeC Xbf t st.1 st.2.1 st.2.2.1 st.2.2.2.1 st.2.2.2.2) FUEL (0,s.e0,s.e1,s.e2,s.e3)
def XCq (x:XaT):Xdj:=⟨.tuple ⟨[]⟩,[],[some [.int .u64 x.e0,.int .u64 x.e1,.int .u64 x.e2,.int .u64 x.e3]]⟩
abbrev XbZ:=XaT→Int→Option XaT
def r73 (g:XbZ):Dec:=dPt 0 Xhh fun (y0:XaT)=>dV (asI .i64) fun (y1:Int)=>Xfq (ofG (g y0 y1) XCq)
theorem r73_c {g:XbZ} {y0:XaT} {y1:Int} {x:XaT} (hx:g y0 y1=some x):r73 g [.pointer (some ⟨0,0,none⟩),.int .i64 y1] [some [.int .u64 y0.e0,.int .u64 y0.e1,.int .u64 y0.e2,.int .u64 y0.e3]]=some (XCq x):=(Xph (XjE _)).trans ((XcF (XgS _)).trans (Xbx hx))
def s73 (g:XbZ):Xc3:=⟨[.pt 4,.v],r73 g⟩
theorem XyV {g:XbZ} {y0:XaT} {y1:Int} {x:XaT} (hx:g y0 y1=some x):(s73 g).run [.pointer (some ⟨0,0,none⟩),.int .i64 y1] [some [.int .u64 y0.e0,.int .u64 y0.e1,.int .u64 y0.e2,.int .u64 y0.e3]]=some (XCq x):=r73_c hx
abbrev XyY (Xbf:XbU):List (Nat×Xc3):=[(76,s76 Xbf)]
def XkZ (t:Int) (t7:Int) (s1:Int) (s2:Int) (s3:Int) (s4:Int):VM:=
 ⟨⟨73,12,[(0,.pointer (some ⟨0,0,none⟩)),(6,.int .i64 t),(7,.int .i64 t7)],[.code XCc,.inLoop XCc,.inBlock 0],[],false,none⟩,[],[(0,.cells [.int .u64 s1,.int .u64 s2,.int .u64 s3,.int .u64 s4])],1⟩
theorem XxB (Xbf:XbU) (hS:XaL Try.prog (XaY (XyY Xbf))) (t:Int) (res:XaT):∀ fuel (st:Int×Int×Int×Int×Int) (o:XaT),iter (fun st=>XeC Xbf t st.1 st.2.1 st.2.2.1 st.2.2.2.1 st.2.2.2.2) fuel st=some o→(o=res) →
 Xa0 Try.prog 73 1 (XkZ t st.1 st.2.1 st.2.2.1 st.2.2.2.1 st.2.2.2.2) (fun v H _=>Res 1 (XCq res) v H):=by
 intro fuel st o h hc
 refine Xbl (head:=fun st=>XkZ t st.1 st.2.1 st.2.2.1 st.2.2.2.1 st.2.2.2.2) (C:=fun o=>(o=res)) ?_ fuel st o h hc
 clear h hc o st fuel
 intro st o h hc
 obtain ⟨t7,s1,s2,s3,s4⟩:=st
 replace h:XeC Xbf t t7 s1 s2 s3 s4=some o:=h
 show Xa0 Try.prog 73 1 (XkZ t t7 s1 s2 s3 s4) (fun v H _=>Res 1 (XCq res) v H)
 unfold XeC at h
 refine Xa1 XaJ hS true 3000 ?_
 conv=>whnf
 refine br.h2 h (by rfl) ?_ ?_
 ·clear h;intro hb h;conv=>whnf
  exact W
 clear h;intro hb h;conv=>whnf
 replace h:=XaK.elim h;obtain ⟨xr,hy,h⟩:=h
 refine Xbn.a (XD4 hy) ?_
 conv=>whnf
 cases h;simp only [Sum.elim_inl,XkZ] at hc
 exact Xfj hc [(0,0)] rfl
theorem Xz0 (Xbf:XbU) (hS:XaL Try.prog (XaY (XyY Xbf))) (s:XaT) (rounds:Int) (res:XaT) (h:Xhn Xbf s rounds=some res) :
 Xa0 Try.prog 73 1 ⟨⟨73,12,[(0,.pointer (some ⟨0,0,none⟩)),(1,.int .i64 rounds)],[.code Xyh],[],false,none⟩,[],[(0,.cells [.int .u64 s.e0,.int .u64 s.e1,.int .u64 s.e2,.int .u64 s.e3])],1⟩ (fun v H _=>Res 1 (XCq res) v H):=by
 unfold Xhn at h
 refine Xa1 XaJ hS true 3000 ?_
 conv=>whnf
 let t:Int:=if (if 64<rounds then 64 else rounds)>0 then if 64<rounds then 64 else rounds else 0
 have hl:=XxB Xbf hS _ res _ _ _ h rfl;simp only [XkZ] at hl
 exact Xfj hl [(0,0)] rfl
def Xbj:XbZ:=Xhn Xbf
theorem Xyb:Xgx Try.prog 73 (s73 Xbj):=by
 have hL:=Xz0 Xbf (XaL.Xbk ⟨XEE,trivial⟩)
 exact okA ⟨Try.f73,rfl,by decide,rfl⟩
def Xha (Xbj:XbZ) (s:XaT) (m:Int):Option XaT:=
 (Xbj (XaT.mk s.e0 s.e1 s.e2 (Xf0 .u64 s.e3 m)) 2).bind fun m1=>
 some (XaT.mk (Xf0 .u64 m1.e0 m) m1.e1 m1.e2 m1.e3)
def rx72 (x:XaT):Xdj:=⟨.tuple ⟨[]⟩,[],[some [.int .u64 x.e0,.int .u64 x.e1,.int .u64 x.e2,.int .u64 x.e3]]⟩
abbrev Xbv:=XaT→Int→Option XaT
def r72 (g:Xbv):Dec:=dPt 0 Xhh fun (y0:XaT)=>dV (asI .u64) fun (y1:Int)=>Xfq (ofG (g y0 y1) rx72)
theorem r72_c {g:Xbv} {y0:XaT} {y1:Int} {x:XaT} (hx:g y0 y1=some x):r72 g [.pointer (some ⟨0,0,none⟩),.int .u64 y1] [some [.int .u64 y0.e0,.int .u64 y0.e1,.int .u64 y0.e2,.int .u64 y0.e3]]=some (rx72 x):=(Xph (XjE _)).trans ((XcF (XgS _)).trans (Xbx hx))
def s72 (g:Xbv):Xc3:=⟨[.pt 4,.v],r72 g⟩
theorem Xyp {g:Xbv} {y0:XaT} {y1:Int} {x:XaT} (hx:g y0 y1=some x):(s72 g).run [.pointer (some ⟨0,0,none⟩),.int .u64 y1] [some [.int .u64 y0.e0,.int .u64 y0.e1,.int .u64 y0.e2,.int .u64 y0.e3]]=some (rx72 x):=r72_c hx
abbrev XEy (Xbj:XbZ):List (Nat×Xc3):=[(73,s73 Xbj)]
theorem XBP (Xbj:XbZ) (hS:XaL Try.prog (XaY (XEy Xbj))) (s:XaT) (m:Int) (res:XaT) (h:Xha Xbj s m=some res) :
 Xa0 Try.prog 72 1 ⟨⟨72,22,[(0,.pointer (some ⟨0,0,none⟩)),(1,.int .u64 m)],[.code XDZ],[],false,none⟩,[],[(0,.cells [.int .u64 s.e0,.int .u64 s.e1,.int .u64 s.e2,.int .u64 s.e3])],1⟩ (fun v H _=>Res 1 (rx72 res) v H):=by
 unfold Xha at h
 have R1:=@XyV Xbj
 refine Xa1 XaJ hS true 3000 ?_
 conv=>whnf
 exact W
def Xa7:Xbv:=Xha Xbj
theorem XyX:Xgx Try.prog 72 (s72 Xa7):=by
 have hL:=XBP Xbj (XaL.Xbk ⟨Xyb,trivial⟩)
 exact okA ⟨Try.f72,rfl,by decide,rfl⟩
def Xc2 (Xa7:Xbv) (ha0:XaV) (s:List UInt8) (t18:Int) (xh:Int) (xh1:Int) (xh2:Int) (xh3:Int) (xh4:Int) (xh5:Int):Option (Sum (Int×Int×Int×Int×Int×Int×Int) XaV):=
 cond (decide (t18<(s.length:Int)))
  (
  XaU (decide ((0:Int)≤t18∧t18<(s.length:Int))) <|
  ((bI s)[t18.toNat]?).bind fun (e:Int)=>
  XaU (decide (0≤(wI .i64 (8*(xh5.tmod 8))))) <|
  let t:=wI .u64 ((wI .u64 e)*2^(min (wI .i64 (8*(xh5.tmod 8))).toNat 64))
  cond (((wI .i64 (xh5+1)).tmod 8)==0)
   (
   (Xa7 (XaT.mk xh xh1 xh2 xh3) (Xse .u64 xh4 t)).bind fun t1=>
   some (.inl (wI .i64 (t18+1),t1.e0,t1.e1,t1.e2,t1.e3,0,wI .i64 (xh5+1))))
   (
   some (.inl (wI .i64 (t18+1),xh,xh1,xh2,xh3,Xse .u64 xh4 t,wI .i64 (xh5+1)))))
  (
  some (.inr (XaV.mk ha0.made (XaT.mk xh xh1 xh2 xh3) xh4 xh5)))
def Xfd (Xa7:Xbv) (ha0:XaV) (s:List UInt8):Option XaV:=
 cond (!ha0.made)
  (
  some (ha0))
  (
  iter (fun st=>Xc2 Xa7 ha0 s st.1 st.2.1 st.2.2.1 st.2.2.2.1 st.2.2.2.2.1 st.2.2.2.2.2.1 st.2.2.2.2.2.2) FUEL (0,ha0.s.e0,ha0.s.e1,ha0.s.e2,ha0.s.e3,ha0.last,ha0.count))
def XCr (x:XaV):Xdj:=⟨.tuple ⟨[]⟩,[],[some [.bool x.made,.int .u64 x.s.e0,.int .u64 x.s.e1,.int .u64 x.s.e2,.int .u64 x.s.e3,.int .u64 x.last,.int .i64 x.count]]⟩
abbrev Xcm:=XaV→(List UInt8)→Option XaV
def r62 (g:Xcm):Dec:=dPt 0 XgY fun (y0:XaV)=>dV asS fun (y1:List UInt8)=>Xfq (ofG (g y0 y1) XCr)
theorem r62_c {g:Xcm} {y0:XaV} {y1:List UInt8} {x:XaV} (hx:g y0 y1=some x):r62 g [.pointer (some ⟨0,0,none⟩),.string ⟨⟨y1⟩⟩] [some [.bool y0.made,.int .u64 y0.s.e0,.int .u64 y0.s.e1,.int .u64 y0.s.e2,.int .u64 y0.s.e3,.int .u64 y0.last,.int .i64 y0.count]]=some (XCr x):=(Xph (Xkr _)).trans ((XcF (Xg1)).trans (Xbx hx))
def s62 (g:Xcm):Xc3:=⟨[.pt 7,.v],r62 g⟩
theorem XDd {g:Xcm} {y0:XaV} {y1:List UInt8} {x:XaV} (hx:g y0 y1=some x):(s62 g).run [.pointer (some ⟨0,0,none⟩),.string ⟨⟨y1⟩⟩] [some [.bool y0.made,.int .u64 y0.s.e0,.int .u64 y0.s.e1,.int .u64 y0.s.e2,.int .u64 y0.s.e3,.int .u64 y0.last,.int .i64 y0.count]]=some (XCr x):=r62_c hx
abbrev Xy4 (Xa7:Xbv):List (Nat×Xc3):=[(72,s72 Xa7)]
def Xj0 (ha0:XaV) (s:List UInt8) (t18:Int) (xh:Int) (xh1:Int) (xh2:Int) (xh3:Int) (xh4:Int) (xh5:Int):VM:=
 ⟨⟨62,63,[(0,.pointer (some ⟨0,0,none⟩)),(16,.slice (some ⟨1,0,none⟩) s.length 1),(17,.int .i64 (s.length:Int)),(18,.int .i64 t18)],[.code Xtm,.inLoop Xtm,.inBlock 0],[],false,none⟩,[],[(0,.cells [.bool ha0.made,.int .u64 xh,.int .u64 xh1,.int .u64 xh2,.int .u64 xh3,.int .u64 xh4,.int .i64 xh5]),(1,.row true (vI .u8 (bI s)))],2⟩
theorem Xw5 (Xa7:Xbv) (hS:XaL Try.prog (XaY (Xy4 Xa7))) (ha0:XaV) (s:List UInt8) (res:XaV):∀ fuel (st:Int×Int×Int×Int×Int×Int×Int) (o:XaV),iter (fun st=>Xc2 Xa7 ha0 s st.1 st.2.1 st.2.2.1 st.2.2.2.1 st.2.2.2.2.1 st.2.2.2.2.2.1 st.2.2.2.2.2.2) fuel st=some o→(o=res) →
 Xa0 Try.prog 62 1 (Xj0 ha0 s st.1 st.2.1 st.2.2.1 st.2.2.2.1 st.2.2.2.2.1 st.2.2.2.2.2.1 st.2.2.2.2.2.2) (fun v H _=>Res 1 (XCr res) v H):=by
 intro fuel st o h hc
 refine Xbl (head:=fun st=>Xj0 ha0 s st.1 st.2.1 st.2.2.1 st.2.2.2.1 st.2.2.2.2.1 st.2.2.2.2.2.1 st.2.2.2.2.2.2) (C:=fun o=>(o=res)) ?_ fuel st o h hc
 clear h hc o st fuel
 intro st o h hc
 obtain ⟨t18,xh,xh1,xh2,xh3,xh4,xh5⟩:=st
 replace h:Xc2 Xa7 ha0 s t18 xh xh1 xh2 xh3 xh4 xh5=some o:=h
 show Xa0 Try.prog 62 1 (Xj0 ha0 s t18 xh xh1 xh2 xh3 xh4 xh5) (fun v H _=>Res 1 (XCr res) v H)
 unfold Xc2 at h
 refine Xa1 XaJ hS true 3000 ?_
 conv=>whnf
 refine br.h2 h (by rfl) ?_ ?_
 ·clear h;intro hb h;conv=>whnf
  all_goals (cases h;cases hc)
  all_goals exact Res.of [] rfl Xs1 (by decide) Xs3 (wr_s (rfl) (XgI rfl) Xs2)
 clear h;intro hb h;conv=>whnf
 replace h:=XaU.elim h;obtain ⟨hb,h⟩:=h
 try (refine req.intro hb ?_;conv=>whnf)
 replace h:=XaK.elim h;obtain ⟨e,hy,h⟩:=h
 refine rd.I hy (by first|rfl|(rw [Nat.zero_add,Nat.mul_one];try rfl;done)|omega) ?_
 conv=>whnf
 replace h:=XaU.elim h;obtain ⟨hb,h⟩:=h
 try (refine req.intro hb ?_;conv=>whnf)
 let t:Int:=wI .u64 ((wI .u64 e)*2^(min (wI .i64 (8*(xh5.tmod 8))).toNat 64))
 refine br.h2 h (by rfl) ?_ ?_
 ·clear h;intro hb h;conv=>whnf
  cases h;simp only [Sum.elim_inl,Xj0] at hc
  exact Xfj hc [(0,0),(1,1)] rfl
 clear h;intro hb h;conv=>whnf
 replace h:=XaK.elim h;obtain ⟨t1,hy,h⟩:=h
 refine Xbn.XaO [0] (Xar («as»:=[.pointer (some ⟨0,0,none⟩),.int .u64 (Xse .u64 xh4 t)]) (ws:=[.win 0 1 4 true]) (n:=0) (m:=0) (t':=22) (Xam rfl rfl (Xam rfl rfl XaP)) rfl (by rfl) (Xyp hy) rfl rfl rfl rfl (Xu8 rfl rfl rfl ⟨rfl,Nat.le_of_ble_eq_true rfl⟩ rfl rfl XaN) XaM rfl) ?_
 conv=>whnf
 cases h;simp only [Sum.elim_inl,Xj0] at hc
 exact Xfj hc [(0,0),(1,1)] rfl
theorem XBd (Xa7:Xbv) (hS:XaL Try.prog (XaY (Xy4 Xa7))) (ha0:XaV) (s:List UInt8) (res:XaV) (h:Xfd Xa7 ha0 s=some res) :
 Xa0 Try.prog 62 1 ⟨⟨62,63,[(0,.pointer (some ⟨0,0,none⟩)),(1,.string ⟨⟨s⟩⟩)],[.code XyW],[],false,none⟩,[],[(0,.cells [.bool ha0.made,.int .u64 ha0.s.e0,.int .u64 ha0.s.e1,.int .u64 ha0.s.e2,.int .u64 ha0.s.e3,.int .u64 ha0.last,.int .i64 ha0.count])],1⟩ (fun v H _=>Res 1 (XCr res) v H):=by
 unfold Xfd at h
 refine Xa1 XaJ hS true 3000 ?_
 conv=>whnf
 refine br.h h (by rfl) ?_ ?_
 ·clear h;intro hb h;conv=>whnf
  all_goals (cases h)
  all_goals exact Res.of [] rfl Xs1 (by decide) Xs3 (wr_s (rfl) (XgI rfl) Xs2)
 clear h;intro hb h;conv=>whnf
 refine XEO ?_
 conv=>whnf
 have hl:=Xw5 Xa7 hS _ _ res _ _ _ h rfl;simp only [Xj0] at hl
 exact Xfj hl [(0,0),(1,1)] rfl
def XbJ:Xcm:=Xfd Xa7
theorem XCT:Xgx Try.prog 62 (s62 XbJ):=by
 have hL:=XBd Xa7 (XaL.Xbk ⟨XyX,trivial⟩)
 exact okA ⟨Try.f62,rfl,by decide,rfl⟩
def Xg3 (Xbj:XbZ) (Xa7:Xbv) (ha0:XaV):Option (Int×XaV):=
 cond (!ha0.made)
  (
  some ((0,ha0)))
  (
  let t:=Xse .u64 ha0.last (wI .u64 ((wI .u64 ha0.count)*2^56))
  (Xa7 ha0.s t).bind fun t1=>
  (Xbj (XaT.mk t1.e0 t1.e1 (Xf0 .u64 t1.e2 255) t1.e3) 4).bind fun m=>
  let t2:=Xf0 .u64 (Xf0 .u64 (Xf0 .u64 m.e0 m.e1) m.e2) m.e3
  some ((t2,ha0)))
def rx63 (x:Int×XaV):Xdj:=⟨.int .u64 x.1,[],[some [.bool x.2.made,.int .u64 x.2.s.e0,.int .u64 x.2.s.e1,.int .u64 x.2.s.e2,.int .u64 x.2.s.e3,.int .u64 x.2.last,.int .i64 x.2.count]]⟩
abbrev XcI:=XaV→Option (Int×XaV)
def r63 (g:XcI):Dec:=dPt 0 XgY fun (y0:XaV)=>Xfq (ofG (g y0) rx63)
theorem r63_c {g:XcI} {y0:XaV} {x:Int×XaV} (hx:g y0=some x):r63 g [.pointer (some ⟨0,0,none⟩)] [some [.bool y0.made,.int .u64 y0.s.e0,.int .u64 y0.s.e1,.int .u64 y0.s.e2,.int .u64 y0.s.e3,.int .u64 y0.last,.int .i64 y0.count]]=some (rx63 x):=(Xph (Xkr _)).trans (Xbx hx)
def s63 (g:XcI):Xc3:=⟨[.pt 7],r63 g⟩
theorem XDn {g:XcI} {y0:XaV} {x:Int×XaV} (hx:g y0=some x):(s63 g).run [.pointer (some ⟨0,0,none⟩)] [some [.bool y0.made,.int .u64 y0.s.e0,.int .u64 y0.s.e1,.int .u64 y0.s.e2,.int .u64 y0.s.e3,.int .u64 y0.last,.int .i64 y0.count]]=some (rx63 x):=r63_c hx
abbrev XCz (Xbj:XbZ) (Xa7:Xbv):List (Nat×Xc3):=[(73,s73 Xbj),(72,s72 Xa7)]
theorem XAZ (Xbj:XbZ) (Xa7:Xbv) (hS:XaL Try.prog (XaY (XCz Xbj Xa7))) (ha0:XaV) (res:Int×XaV) (h:Xg3 Xbj Xa7 ha0=some res) :
 Xa0 Try.prog 63 1 ⟨⟨63,45,[(0,.pointer (some ⟨0,0,none⟩))],[.code XyK],[],false,none⟩,[],[(0,.cells [.bool ha0.made,.int .u64 ha0.s.e0,.int .u64 ha0.s.e1,.int .u64 ha0.s.e2,.int .u64 ha0.s.e3,.int .u64 ha0.last,.int .i64 ha0.count])],1⟩ (fun v H _=>Res 1 (rx63 res) v H):=by
 unfold Xg3 at h
 have R1:=@Xyp Xa7
 have R2:=@XyV Xbj
 refine Xa1 XaJ hS true 3000 ?_
 conv=>whnf
 exact W
def Xb6:XcI:=Xg3 Xbj Xa7
theorem XCQ:Xgx Try.prog 63 (s63 Xb6):=by
 have hL:=XAZ Xbj Xa7 (XaL.Xbk ⟨Xyb,XyX,trivial⟩)
 exact okA ⟨Try.f63,rfl,by decide,rfl⟩
end Go.Vm.Code
namespace Go.Vm.Code
open Go Go.Vm
def trn (x k:Int):Int:=Xse .u64 (wI .u64 (x*2^(min k.toNat 64))) (x.fdiv (2^(min (64 - k).toNat 64)))
theorem XoV {x k:Int} (h:k=13∨k=16∨k=17∨k=21∨k=32):Xa3 x k=some (trn x k):=by
 have e1:XuG .u64 (wI .u64 k) 63=k:=by rcases h with rfl|rfl|rfl|rfl|rfl<;>decide +kernel
 have e2:wI .u64 (64 - k)=64 - k:=XqQ (by omega) (by omega)
 unfold Xa3 XdT trn
 rw [e1,e2,XaX (by omega)]
 simp only []
 rw [XaX (by omega)]
def rnd (s:XaT):XaT:=
 let a1:=wI .u64 (s.e0+s.e1)
 let b1:=Xf0 .u64 (trn s.e1 13) a1
 let c1:=wI .u64 (s.e2+s.e3)
 let d1:=Xf0 .u64 (trn s.e3 16) c1
 let t:=wI .u64 (trn a1 32+d1)
 let t1:=wI .u64 (c1+b1)
 ⟨t,Xf0 .u64 (trn b1 17) t1,trn t1 32,Xf0 .u64 (trn d1 21) t⟩
theorem round_eq (s:XaT):Xbf s=some (rnd s):=by
 unfold Xbf XgG
 simp only [XoV (k:=13) (by omega),XoV (k:=16) (by omega),XoV (k:=17) (by omega),XoV (k:=21) (by omega),XoV (k:=32) (by omega),Option.bind_some]
 rfl
def XBZ:Nat→XaT→XaT
 | 0,q=>q
 | n+1,q=>XBZ n (rnd q)
def cnt (n:Int):Nat:=(if (if 64<n then 64 else n)>0 then if 64<n then 64 else n else 0:Int).toNat
theorem Xyd (s:XaT) (n:Int):Xbj s n=some (XBZ (cnt n) s):=by
 unfold Xbj Xhn cnt
 generalize ht:(if (if 64<n then 64 else n)>0 then if 64<n then 64 else n else 0:Int)=t
 have hb:0≤t∧t≤64:=by rw [←ht];split<;>split<;>omega
 have key:=iter_eq (step:=fun (st:Int×Int×Int×Int×Int)=>XeC Xbf t st.1 st.2.1 st.2.2.1 st.2.2.2.1 st.2.2.2.2) (fun st=>XBZ (t - st.1).toNat ⟨st.2.1,st.2.2.1,st.2.2.2.1,st.2.2.2.2⟩) (fun st=>0≤st.1∧st.1≤t) (fun st=>(t - st.1).toNat) ?_ FUEL (0,s.e0,s.e1,s.e2,s.e3) ⟨by simp,hb.1⟩ (by rw [Xc0];simp only;omega)
 ·simp only [] at key ⊢
  rw [key];simp
 rintro ⟨i,a,b,c,d⟩ ⟨g1,g2⟩
 simp only at g1 g2 ⊢
 unfold XeC
 by_cases hi:i<t
 ·refine .inr ⟨(i+1,(rnd ⟨a,b,c,d⟩).e0,(rnd ⟨a,b,c,d⟩).e1,(rnd ⟨a,b,c,d⟩).e2,(rnd ⟨a,b,c,d⟩).e3),?_,⟨by simp only;omega,by simp only;omega⟩,by simp only;omega,?_⟩
  ·rw [Xcl hi,round_eq,Option.bind_some,Xfn (by omega) (by omega)]
  ·simp only []
   have e:(t - i).toNat=(t - (i+1)).toNat+1:=by omega
   rw [e];rfl
 ·refine .inl ?_
  rw [Xbd hi]
  have e:(t - i).toNat=0:=by omega
  simp only [e,XBZ]
def tak (s:XaT) (m:Int):XaT:=
 let q:=XBZ 2 ⟨s.e0,s.e1,s.e2,Xf0 .u64 s.e3 m⟩
 ⟨Xf0 .u64 q.e0 m,q.e1,q.e2,q.e3⟩
theorem XuB (s:XaT) (m:Int):Xa7 s m=some (tak s m):=by
 unfold Xa7 Xha
 rw [Xyd,show cnt 2=2 from rfl,Option.bind_some]
 simp only [tak]
def wrT (T:XaT→Int→XaT) (h:XaV) (b:UInt8):XaV:=
 let m:=Xse .u64 h.last (wI .u64 ((b.toNat:Int)*2^(8*(h.count.toNat%8))))
 if (h.count.toNat+1)%8=0 then ⟨h.made,T h.s m,0,h.count+1⟩ else ⟨h.made,h.s,m,h.count+1⟩
theorem Xvv (T:XaT→Int→XaT) {h:XaV} {s:List UInt8} (hm:h.made=true) (h0:0≤h.count) (h1:h.count+s.length<2^62):Xfd (fun q m=>some (T q m)) h s=some (s.foldl (wrT T) h):=by
 unfold Xfd
 rw [hm,Bool.not_true,cond_false]
 have key:=iter_eq (step:=fun (st:Int×Int×Int×Int×Int×Int×Int)=>Xc2 (fun q m=>some (T q m)) h s st.1 st.2.1 st.2.2.1 st.2.2.2.1 st.2.2.2.2.1 st.2.2.2.2.2.1 st.2.2.2.2.2.2)
  (fun st=>(s.drop st.1.toNat).foldl (wrT T) ⟨true,⟨st.2.1,st.2.2.1,st.2.2.2.1,st.2.2.2.2.1⟩,st.2.2.2.2.2.1,st.2.2.2.2.2.2⟩) (fun st=>0≤st.1∧st.1≤s.length∧st.2.2.2.2.2.2=h.count+st.1) (fun st=>(s.length - st.1).toNat) ?_ FUEL (0,h.s.e0,h.s.e1,h.s.e2,h.s.e3,h.last,h.count) ⟨by simp,by simp,by simp⟩ (by rw [Xc0];simp only;omega)
 ·rw [key]
  simp only [Int.toNat_zero,List.drop_zero]
  rw [←hm]
 rintro ⟨p,a,b,c,d,l,n⟩ ⟨g1,g2,g3⟩
 simp only at g1 g2 g3 ⊢
 obtain ⟨i,rfl⟩:=Int.eq_ofNat_of_zero_le g1
 obtain ⟨k,hk⟩:=Int.eq_ofNat_of_zero_le (show 0≤n by omega)
 subst hk
 simp only [Int.toNat_natCast]
 unfold Xc2
 by_cases hi:i<s.length
 ·have hb:=s[i].toNat_lt
  have e1:(bI s)[i]?=some (s[i].toNat:Int):=by simp [bI,hi]
  have e2:((k:Int).tmod 8)=((k%8:Nat):Int):=by rw [Int.tmod_eq_emod_of_nonneg (by omega)];rfl
  have e3:min (8*((k%8:Nat):Int)).toNat 64=8*(k%8):=by omega
  have e4:(((k:Int)+1).tmod 8==0)=decide ((k+1)%8=0):=by
   rw [Int.tmod_eq_emod_of_nonneg (by omega),Bool.eq_iff_iff,beq_iff_eq,decide_eq_true_eq];omega
  refine .inr ⟨(((i+1:Nat):Int),(wrT T ⟨true,⟨a,b,c,d⟩,l,k⟩ s[i]).s.e0,(wrT T ⟨true,⟨a,b,c,d⟩,l,k⟩ s[i]).s.e1,(wrT T ⟨true,⟨a,b,c,d⟩,l,k⟩ s[i]).s.e2,(wrT T ⟨true,⟨a,b,c,d⟩,l,k⟩ s[i]).s.e3,(wrT T ⟨true,⟨a,b,c,d⟩,l,k⟩ s[i]).last,(k:Int)+1),?_,⟨by simp only;omega,by simp only;omega,by simp only;omega⟩,by simp only;omega,?_⟩
  ·simp (disch:=omega) only [Xcl,XaX,Int.toNat_natCast,e1,Option.bind_some,e2,Xfn,e3,e4,XqQ (n:=(s[i].toNat:Int)),Xw8]
   unfold wrT
   simp only [Int.toNat_natCast]
   split<;>rfl
  ·simp only [Int.toNat_natCast]
   rw [List.drop_eq_getElem_cons hi,List.foldl_cons]
   congr 1
   unfold wrT
   simp only [Int.toNat_natCast]
   split<;>rfl
 ·refine .inl ?_
  rw [Xbd (by omega),List.drop_eq_nil_of_le (by omega),hm];rfl
def wrB:XaV→UInt8→XaV:=wrT tak
theorem XxJ {h:XaV} {s:List UInt8} (hm:h.made=true) (h0:0≤h.count) (h1:h.count+s.length<2^62):XbJ h s=some (s.foldl wrB h):=by
 unfold XbJ
 rw [show Xa7=fun q m=>some (tak q m) from funext fun q=>funext fun m=>XuB q m]
 exact Xvv tak hm h0 h1
theorem XwT (T:XaT→Int→XaT) (h:XaV) (b:UInt8):(wrT T h b).made=h.made:=by unfold wrT;simp only;split<;>rfl
theorem Xtc (T:XaT→Int→XaT) (h:XaV) (b:UInt8):(wrT T h b).count=h.count+1:=by unfold wrT;simp only;split<;>rfl
theorem XxG (h:XaV) (b:UInt8):(wrB h b).made=h.made:=XwT tak h b
theorem Xto (h:XaV) (b:UInt8):(wrB h b).count=h.count+1:=Xtc tak h b
theorem wrL:∀ (s:List UInt8) (h:XaV),(s.foldl wrB h).made=h.made∧(s.foldl wrB h).count=h.count+s.length
 | [],h=>⟨rfl,by simp⟩
 | b::s,h=>by
   obtain ⟨a1,a2⟩:=wrL s (wrB h b)
   rw [List.foldl_cons,a1,a2,XxG,Xto,List.length_cons]
   exact ⟨rfl,by omega⟩
def sumV (h:XaV):Int:=
 let t:=tak h.s (Xse .u64 h.last (wI .u64 ((wI .u64 h.count)*2^56)))
 let m:=XBZ 4 ⟨t.e0,t.e1,Xf0 .u64 t.e2 255,t.e3⟩
 Xf0 .u64 (Xf0 .u64 (Xf0 .u64 m.e0 m.e1) m.e2) m.e3
theorem XDc {h:XaV} (hm:h.made=true):Xb6 h=some (sumV h,h):=by
 unfold Xb6 Xg3
 rw [hm,Bool.not_true,cond_false]
 simp only [XuB,Xyd,Option.bind_some,show cnt 4=4 from rfl,sumV]
def newV (k:XaD):XaV:=⟨true,⟨Xf0 .u64 8317987319222330741 k.A,Xf0 .u64 7237128888997146477 k.B,Xf0 .u64 7816392313619706465 k.A,Xf0 .u64 8387220255154660723 k.B⟩,0,0⟩
theorem XC6 (k:XaD):Xhz k=some (newV k):=rfl
end Go.Vm.Code
namespace Go.Vm.Code
open Go Go.Vm Go.Proofs
set_option maxRecDepth 100000
set_option maxHeartbeats 4000000
set_option linter.unusedVariables false
end Go.Vm.Code
namespace Go.Vm.Code
open Go Go.Vm
theorem Xk9 (k:Nat) {a b:Int} (h0:0≤a) (h1:a*2^k<18446744073709551616) (hb0:0≤b) (hb:b<2^k) (hb1:b<18446744073709551616):Xse .u64 b (a*2^k)=a*2^k+b:=by
 obtain ⟨n,rfl⟩:=Int.eq_ofNat_of_zero_le h0
 obtain ⟨m,rfl⟩:=Int.eq_ofNat_of_zero_le hb0
 have e:((n:Int)*2^k)=((n*2^k:Nat):Int):=by push_cast;rfl
 rw [e] at h1 ⊢
 rw [XDm (by omega) (by omega),Nat.or_comm,XCx (by exact_mod_cast hb)];push_cast;rfl
def wrd:List UInt8→Nat
 | []=>0
 | b::l=>b.toNat+256*wrd l
theorem Xug:∀ l:List UInt8,wrd l<256^l.length
 | []=>by simp [wrd]
 | b::l=>by
   have:=Xug l
   have hb:=b.toNat_lt
   rw [wrd,List.length_cons,Nat.pow_succ];omega
theorem XqW:∀ (l:List UInt8) (b:UInt8),wrd (l++[b])=wrd l+256^l.length*b.toNat
 | [],b=>by simp [wrd]
 | c::l,b=>by
   have:=XqW l b
   rw [List.cons_append,wrd,this,wrd,List.length_cons,Nat.pow_succ,Nat.mul_add,Nat.mul_comm (256^l.length) 256,Nat.mul_assoc];omega
theorem Xzg {j:Nat} (h:j≤8):256^j≤18446744073709551616:=by
 have:(256:Nat)^j≤256^8:=Nat.pow_le_pow_right (by decide) h
 simpa using this
def XCu (q:XaT):Int:=
 let m:=XBZ 4 ⟨q.e0,q.e1,Xf0 .u64 q.e2 255,q.e3⟩
 Xf0 .u64 (Xf0 .u64 (Xf0 .u64 m.e0 m.e1) m.e2) m.e3
theorem XpF (T:XaT→Int→XaT):∀ (l:List UInt8) (h:XaV) (j v:Nat),h.count.toNat%8=j→0≤h.count→h.last=(v:Int)→v<256^j→j+l.length<8→l.foldl (wrT T) h=⟨h.made,h.s,((v+256^j*wrd l:Nat):Int),h.count+l.length⟩
 | [],h,j,v,hj,h0,hv,hlt,hl=>by
   obtain ⟨m,s,la,c⟩:=h
   simp only at hv;subst hv
   simp [wrd]
 | b::l,h,j,v,hj,h0,hv,hlt,hl=>by
   rw [List.length_cons] at hl
   have hb:=b.toNat_lt
   have hp:(256:Nat)^j=2^(8*j):=by rw [Nat.pow_mul]
   have hp2:=Xzg (j:=j+1) (by omega)
   rw [Nat.pow_succ] at hp2
   have hb2:b.toNat*256^j≤255*256^j:=Nat.mul_le_mul_right _ (by omega)
   have hpI:(2:Int)^(8*j)=((256^j:Nat):Int):=by rw [hp];push_cast;rfl
   have e1:wI .u64 ((b.toNat:Int)*2^(8*j))=(b.toNat:Int)*2^(8*j):=by
    rw [hpI,←Int.natCast_mul];exact XqQ (by omega) (by omega)
   have e2:Xse .u64 (v:Int) ((b.toNat:Int)*2^(8*j))=((v+256^j*b.toNat:Nat):Int):=by
    rw [Xk9 (8*j) (by omega) (by rw [hpI,←Int.natCast_mul];omega) (by omega) (by rw [hpI];omega) (by omega),hpI,←Int.natCast_mul,Nat.mul_comm];omega
   have hw:wrT T h b=⟨h.made,h.s,((v+256^j*b.toNat:Nat):Int),h.count+1⟩:=by
    unfold wrT
    rw [hj,hv,if_neg (by omega),e1,e2]
   rw [List.foldl_cons,hw,XpF T l _ (j+1) (v+256^j*b.toNat) (by simp only;omega) (by simp only;omega) rfl (by rw [Nat.pow_succ,Nat.mul_comm (256^j) b.toNat];omega) (by omega)]
   simp only [wrd,Nat.pow_succ,List.length_cons]
   congr 1
   ·rw [Nat.mul_add,←Nat.mul_assoc,Nat.add_assoc]
   ·omega
theorem XAc (T:XaT→Int→XaT) {l:List UInt8} {h:XaV} (hl:l.length=8) (hc:h.count.toNat%8=0) (h0:0≤h.count) (hv:h.last=0):l.foldl (wrT T) h=⟨h.made,T h.s (wrd l:Int),0,h.count+8⟩:=by
 obtain ⟨l7,b,rfl⟩:∃ l7 b,l=l7++[b]:=⟨l.dropLast,l.getLast (by intro e;rw [e] at hl;simp at hl),(List.dropLast_concat_getLast _).symm⟩
 have h7:l7.length=7:=by simp at hl;omega
 have hb:=b.toNat_lt
 have hw:=Xug l7
 rw [h7] at hw
 rw [List.foldl_append,XpF T l7 h 0 0 hc h0 (by rw [hv];rfl) (by simp) (by omega),h7,XqW,h7]
 simp only [List.foldl_cons,List.foldl_nil,wrT,Nat.pow_zero,Nat.one_mul,Nat.zero_add]
 have e0:(h.count+((7:Nat):Int)).toNat%8=7:=by omega
 have e00:((h.count+((7:Nat):Int)).toNat+1)%8=0:=by omega
 rw [e0,if_pos e00]
 have e1:wI .u64 ((b.toNat:Int)*2^(8*7))=(b.toNat:Int)*2^(8*7):=XqQ (by omega) (by omega)
 have e2:Xse .u64 (wrd l7:Int) ((b.toNat:Int)*2^(8*7))=((wrd l7+256^7*b.toNat:Nat):Int):=by
  rw [Xk9 (8*7) (by omega) (by omega) (by omega) (by omega) (by omega)];omega
 rw [e1,e2]
 congr 1
 omega
def Xm9 (T:XaT→Int→XaT) (fin:XaT→Int) (n:Nat) (q:XaT) (l:List UInt8):Int:=
 if h:8≤l.length then Xm9 T fin n (T q (wrd (l.take 8):Int)) (l.drop 8) else fin (T q ((wrd l+n%256*2^56:Nat):Int))
termination_by l.length
decreasing_by simp;omega
theorem Xsk (T:XaT→Int→XaT) (fin:XaT→Int):∀ (k:Nat) (l:List UInt8) (h:XaV),l.length≤k→h.count.toNat%8=0→0≤h.count→h.last=0→∀ n:Nat,(n:Int)=h.count+l.length →
 fin (T (l.foldl (wrT T) h).s (Xse .u64 (l.foldl (wrT T) h).last (wI .u64 ((wI .u64 (l.foldl (wrT T) h).count)*2^56))))=Xm9 T fin n h.s l:=by
 intro k
 induction k with
 | zero=>
   intro l h hl hc h0 hv n hn
   obtain rfl:l=[]:=List.length_eq_zero_iff.1 (by omega)
   rw [Xm9,dif_neg (by simp)]
   simp only [List.foldl_nil,hv,wrd]
   congr 2
   simp at hn
   rw [←hn]
   have e1:wI .u64 ((wI .u64 (n:Int))*2^56)=((n%256:Nat):Int)*2^56:=by rw [XtS,XtS];omega
   rw [e1,Xk9 56 (by omega) (by omega) (by omega) (by omega) (by omega)];omega
 | succ k ih=>
   intro l h hl hc h0 hv n hn
   by_cases h8:8≤l.length
   ·rw [Xm9,dif_pos h8]
    have hs:l.foldl (wrT T) h=(l.drop 8).foldl (wrT T) ⟨h.made,T h.s (wrd (l.take 8):Int),0,h.count+8⟩:=by
     rw [←XAc T (l:=l.take 8) (by simp;omega) hc h0 hv,←List.foldl_append,List.take_append_drop]
    rw [hs]
    exact ih (l.drop 8) ⟨h.made,T h.s (wrd (l.take 8):Int),0,h.count+8⟩ (by simp;omega) (by simp only;omega) (by simp only;omega) rfl n (by simp;omega)
   ·rw [Xm9,dif_neg h8,XpF T l h 0 0 hc h0 (by rw [hv];rfl) (by simp) (by omega)]
    simp only [Nat.zero_add,Nat.pow_zero,Nat.one_mul]
    congr 2
    rw [←hn]
    have hw:wrd l<256^7:=Nat.lt_of_lt_of_le (Xug l) (Nat.pow_le_pow_right (by decide) (by omega))
    have e1:wI .u64 ((wI .u64 (n:Int))*2^56)=((n%256:Nat):Int)*2^56:=by rw [XtS,XtS];omega
    rw [e1,Xk9 56 (by omega) (by omega) (by omega) (by omega) (by omega)];omega
end Go.Vm.Code
namespace Go.Vm.Code
open Go Go.Vm Go.Proofs
set_option maxRecDepth 100000
set_option maxHeartbeats 4000000
set_option linter.unusedVariables false
def XkR (Xb6:XcI) (XbJ:Xcm) (Xhz:XgW) (k:XaD) (s:List UInt8):Option Int:=
 (Xhz k).bind fun n=>
 (XbJ n s).bind fun w=>
 (Xb6 w).bind fun s1=>
 some (s1.1)
def rx47 (x:Int):Xdj:=⟨.int .u64 x,[],[]⟩
abbrev Xbh:=XaD→(List UInt8)→Option Int
def r47 (g:Xbh):Dec:=dV XhL fun (y0:XaD)=>dV asS fun (y1:List UInt8)=>Xfq (ofG (g y0 y1) rx47)
theorem r47_c {g:Xbh} {y0:XaD} {y1:List UInt8} {x:Int} (hx:g y0 y1=some x):r47 g [.agg ⟨[.int .u64 y0.A,.int .u64 y0.B]⟩,.string ⟨⟨y1⟩⟩] []=some (rx47 x):=(XcF (XkB _)).trans ((XcF (Xg1)).trans (Xbx hx))
def s47 (g:Xbh):Xc3:=⟨[.v,.v],r47 g⟩
theorem XlV {g:Xbh} {y0:XaD} {y1:List UInt8} {x:Int} (hx:g y0 y1=some x):(s47 g).run [.agg ⟨[.int .u64 y0.A,.int .u64 y0.B]⟩,.string ⟨⟨y1⟩⟩] []=some (rx47 x):=r47_c hx
abbrev XD5 (Xb6:XcI) (XbJ:Xcm) (Xhz:XgW):List (Nat×Xc3):=[(63,s63 Xb6),(62,s62 XbJ),(61,s61 Xhz)]
theorem XCi (Xb6:XcI) (XbJ:Xcm) (Xhz:XgW) (hS:XaL Try.prog (XaY (XD5 Xb6 XbJ Xhz))) (k:XaD) (s:List UInt8) (res:Int) (h:XkR Xb6 XbJ Xhz k s=some res) :
 Xa0 Try.prog 47 0 ⟨⟨47,13,[(0,.agg ⟨[.int .u64 k.A,.int .u64 k.B]⟩),(1,.string ⟨⟨s⟩⟩)],[.code XEz],[],false,none⟩,[],[],0⟩ (fun v H _=>Res 0 (rx47 res) v H):=by
 unfold XkR at h
 have R1:=@XD0 Xhz
 have R2:=@XDd XbJ
 have R3:=@XDn Xb6
 refine Xa1 XaJ hS true 3000 ?_
 conv=>whnf
 exact W
def XaW:Xbh:=XkR Xb6 XbJ Xhz
theorem Xl1:Xgx Try.prog 47 (s47 XaW):=by
 have hL:=XCi Xb6 XbJ Xhz (XaL.Xbk ⟨XCQ,XCT,XCB,trivial⟩)
 exact okA ⟨Try.f47,rfl,by decide,rfl⟩
end Go.Vm.Code
namespace Go.Vm.Code
open Go Go.Vm
theorem XAK {k:XaD} {s:List UInt8} (h:s.length<2^61):XaW k s=some (sumV (s.foldl wrB (newV k))):=by
 unfold XaW XkR
 rw [XC6,Option.bind_some,XxJ rfl (by simp [newV]) (by simp [newV];omega),Option.bind_some,XDc (by rw [(wrL s _).1];rfl)];rfl
theorem XC8 {k:XaD} {s:List UInt8} (h:s.length<2^61):XaW k s=some (Xm9 tak XCu s.length (newV k).s s):=by
 rw [XAK h]
 congr 1
 exact Xsk tak XCu s.length s (newV k) (Nat.le_refl _) rfl (by simp [newV]) rfl s.length (by simp [newV])
theorem Xxt (a b:Int):0≤Xf0 .u64 a b∧Xf0 .u64 a b<2^64:=by
 have:=XtS (((BitVec.ofInt (IntKind.bits .u64) a ^^^ BitVec.ofInt (IntKind.bits .u64) b).toNat:Nat):Int)
 have e:Xf0 .u64 a b=wI .u64 (((BitVec.ofInt (IntKind.bits .u64) a ^^^ BitVec.ofInt (IntKind.bits .u64) b).toNat:Nat):Int):=rfl
 rw [e,this];omega
theorem Xwh (q:XaT):0≤XCu q∧XCu q<2^64:=Xxt _ _
theorem Xpz (T:XaT→Int→XaT) (fin:XaT→Int) (hf:∀ q,0≤fin q∧fin q<2^64) (n:Nat):∀ (k:Nat) (l:List UInt8) (q:XaT),l.length≤k→0≤Xm9 T fin n q l∧Xm9 T fin n q l<2^64
 | 0,l,q,h=>by
   rw [Xm9,dif_neg (by omega)];exact hf _
 | k+1,l,q,h=>by
   rw [Xm9]
   split
   ·exact Xpz T fin hf n k _ _ (by simp;omega)
   ·exact hf _
end Go.Vm.Code
namespace Go.Vm.Code
open Go Go.Vm Go.Proofs
set_option maxRecDepth 100000
set_option maxHeartbeats 4000000
set_option linter.unusedVariables false
def XgJ (x:Int) (y:Int):Option (Int×Int):=
 let t:=wI .u64 ((XuG .u64 x 4294967295)*(XuG .u64 y 4294967295))
 let t1:=wI .u64 ((x.fdiv (2^32))*(XuG .u64 y 4294967295))
 let t2:=XuG .u64 (wI .u64 (t1+(t.fdiv (2^32)))) 4294967295
 let t3:=(wI .u64 (t1+(t.fdiv (2^32)))).fdiv (2^32)
 let t4:=wI .u64 ((XuG .u64 x 4294967295)*(y.fdiv (2^32)))
 let t5:=wI .u64 ((x.fdiv (2^32))*(y.fdiv (2^32)))
 let t6:=wI .u64 ((wI .u64 (t5+t3))+((wI .u64 (t2+t4)).fdiv (2^32)))
 some ((t6,wI .u64 (x*y)))
def rx71 (x:Int×Int):Xdj:=⟨.tuple ⟨[.int .u64 x.1,.int .u64 x.2]⟩,[],[]⟩
abbrev XcA:=Int→Int→Option (Int×Int)
def r71 (g:XcA):Dec:=dV (asI .u64) fun (y0:Int)=>dV (asI .u64) fun (y1:Int)=>Xfq (ofG (g y0 y1) rx71)
theorem r71_c {g:XcA} {y0:Int} {y1:Int} {x:Int×Int} (hx:g y0 y1=some x):r71 g [.int .u64 y0,.int .u64 y1] []=some (rx71 x):=(XcF (XgS _)).trans ((XcF (XgS _)).trans (Xbx hx))
def s71 (g:XcA):Xc3:=⟨[.v,.v],r71 g⟩
theorem XEH {g:XcA} {y0:Int} {y1:Int} {x:Int×Int} (hx:g y0 y1=some x):(s71 g).run [.int .u64 y0,.int .u64 y1] []=some (rx71 x):=r71_c hx
abbrev XEQ:List (Nat×Xc3):=[]
theorem Xzr (hS:XaL Try.prog (XaY (XEQ))) (x:Int) (y:Int) (res:Int×Int) (h:XgJ x y=some res) :
 Xa0 Try.prog 71 0 ⟨⟨71,51,[(0,.int .u64 x),(1,.int .u64 y)],[.code XyB],[],false,none⟩,[],[],0⟩ (fun v H _=>Res 0 (rx71 res) v H):=by
 unfold XgJ at h
 refine Xa1 XaJ hS true 3000 ?_
 conv=>whnf
 exact W
def XbS:XcA:=XgJ
theorem XEk:Xgx Try.prog 71 (s71 XbS):=by
 have hL:=Xzr (XaL.Xbk trivial)
 exact okA ⟨Try.f71,rfl,by decide,rfl⟩
def XhT (XbS:XcA) (a:Int) (b:Int):Option Xf3:=
 (XbS a b).bind fun m=>
 some (Xf3.mk m.1 m.2)
def rx60 (x:Xf3):Xdj:=⟨.agg ⟨[.int .u64 x.e0,.int .u64 x.e1]⟩,[],[]⟩
abbrev XdV:=Int→Int→Option Xf3
def r60 (g:XdV):Dec:=dV (asI .u64) fun (y0:Int)=>dV (asI .u64) fun (y1:Int)=>Xfq (ofG (g y0 y1) rx60)
theorem r60_c {g:XdV} {y0:Int} {y1:Int} {x:Xf3} (hx:g y0 y1=some x):r60 g [.int .u64 y0,.int .u64 y1] []=some (rx60 x):=(XcF (XgS _)).trans ((XcF (XgS _)).trans (Xbx hx))
def s60 (g:XdV):Xc3:=⟨[.v,.v],r60 g⟩
theorem XDA {g:XdV} {y0:Int} {y1:Int} {x:Xf3} (hx:g y0 y1=some x):(s60 g).run [.int .u64 y0,.int .u64 y1] []=some (rx60 x):=r60_c hx
abbrev XEp (XbS:XcA):List (Nat×Xc3):=[(71,s71 XbS)]
theorem XBG (XbS:XcA) (hS:XaL Try.prog (XaY (XEp XbS))) (a:Int) (b:Int) (res:Xf3) (h:XhT XbS a b=some res) :
 Xa0 Try.prog 60 0 ⟨⟨60,16,[(0,.int .u64 a),(1,.int .u64 b)],[.code XD3],[],false,none⟩,[],[],0⟩ (fun v H _=>Res 0 (rx60 res) v H):=by
 unfold XhT at h
 have R1:=@XEH XbS
 refine Xa1 XaJ hS true 3000 ?_
 conv=>whnf
 exact W
def XdQ:XdV:=XhT XbS
theorem XDE:Xgx Try.prog 60 (s60 XdQ):=by
 have hL:=XBG XbS (XaL.Xbk ⟨XEk,trivial⟩)
 exact okA ⟨Try.f60,rfl,by decide,rfl⟩
def Xka (XdQ:XdV) (x:Int) (n:Int):Option Int:=
 cond (decide (n<1))
  (
  some (0))
  (
  cond (decide (n>2147483648))
   (
   some (0))
   (
   (XdQ x (wI .u64 n)).bind fun p=>
   some (wI .i64 p.e0)))
def rx46 (x:Int):Xdj:=⟨.int .i64 x,[],[]⟩
abbrev Xbb:=Int→Int→Option Int
def r46 (g:Xbb):Dec:=dV (asI .u64) fun (y0:Int)=>dV (asI .i64) fun (y1:Int)=>Xfq (ofG (g y0 y1) rx46)
theorem r46_c {g:Xbb} {y0:Int} {y1:Int} {x:Int} (hx:g y0 y1=some x):r46 g [.int .u64 y0,.int .i64 y1] []=some (rx46 x):=(XcF (XgS _)).trans ((XcF (XgS _)).trans (Xbx hx))
def s46 (g:Xbb):Xc3:=⟨[.v,.v],r46 g⟩
theorem Xl6 {g:Xbb} {y0:Int} {y1:Int} {x:Int} (hx:g y0 y1=some x):(s46 g).run [.int .u64 y0,.int .i64 y1] []=some (rx46 x):=r46_c hx
abbrev XEM (XdQ:XdV):List (Nat×Xc3):=[(60,s60 XdQ)]
theorem XAe (XdQ:XdV) (hS:XaL Try.prog (XaY (XEM XdQ))) (x:Int) (n:Int) (res:Int) (h:Xka XdQ x n=some res) :
 Xa0 Try.prog 46 0 ⟨⟨46,17,[(0,.int .u64 x),(1,.int .i64 n)],[.code XDO],[],false,none⟩,[],[],0⟩ (fun v H _=>Res 0 (rx46 res) v H):=by
 unfold Xka at h
 have R1:=@XDA XdQ
 refine Xa1 XaJ hS true 3000 ?_
 conv=>whnf
 exact W
def Xas:Xbb:=Xka XdQ
theorem XlQ:Xgx Try.prog 46 (s46 Xas):=by
 have hL:=XAe XdQ (XaL.Xbk ⟨XDE,trivial⟩)
 exact okA ⟨Try.f46,rfl,by decide,rfl⟩
end Go.Vm.Code
namespace Go.Vm.Code
open Go Go.Vm
theorem Xwy {x y:Int} (hx:0≤x∧x<2^64) (hy:0≤y∧y<2^32):XbS x y=some (x*y/2^64,wI .u64 (x*y)):=by
 unfold XbS XgJ
 rw [show (4294967295:Int)=2^32 - 1 from rfl,Xkx 32 rfl (by decide) hx.1 hx.2,Xkx 32 rfl (by decide) hy.1 (by omega),XCd,XCd y]
 have hy1:y/2^32=0:=Int.ediv_eq_zero_of_lt hy.1 hy.2
 have hy0:y%2^32=y:=Int.emod_eq_of_lt hy.1 hy.2
 rw [hy1,hy0]
 have e:x*y=x/2^32*y*2^32+x%2^32*y:=by
  have:x=x/2^32*2^32+x%2^32:=by omega
  conv=>lhs;rw [this]
  rw [Int.add_mul,Int.mul_right_comm]
 have b1:0≤x/2^32*y:=Int.mul_nonneg (by omega) hy.1
 have b2:0≤x%2^32*y:=Int.mul_nonneg (by omega) hy.1
 have b3:x/2^32*y≤(2^32 - 1)*(2^32 - 1):=Int.mul_le_mul (by omega) (by omega) hy.1 (by omega)
 have b4:x%2^32*y≤(2^32 - 1)*(2^32 - 1):=Int.mul_le_mul (by omega) (by omega) hy.1 (by omega)
 generalize x/2^32*y=p at *
 generalize x%2^32*y=q at *
 rw [Int.mul_zero,Int.mul_zero,XqQ b2 (by omega),XqQ b1 (by omega),e]
 simp only [XCd]
 rw [XqQ (n:=0) (by decide) (by decide),XqQ (n:=p+q/2^32) (by omega) (by omega),Xkx 32 rfl (by decide) (by omega) (by omega),Int.add_zero,Int.zero_add,
  XqQ (n:=(p+q/2^32)%2^32) (by omega) (by omega),XqQ (n:=(p+q/2^32)/2^32) (by omega) (by omega),XqQ (by omega) (by omega)]
 congr 2;omega
def scl (x n:Int):Int:=x*n/2^64
theorem XpW {x n:Int} (hx:0≤x∧x<2^64) (hn:1≤n):0≤scl x n∧scl x n<n:=by
 unfold scl
 refine ⟨Int.ediv_nonneg (Int.mul_nonneg hx.1 (by omega)) (by decide),Int.ediv_lt_of_lt_mul (by decide) ?_⟩
 rw [Int.mul_comm];exact Int.mul_lt_mul_of_pos_left hx.2 (by omega)
theorem XvW {x n:Int} (hx:0≤x∧x<2^64) (h1:1≤n) (h2:n≤2147483648):Xas x n=some (scl x n):=by
 unfold Xas Xka XdQ XhT
 rw [Xbd (by omega),Xbd (by omega),XqQ (by omega) (by omega),Xwy hx (by omega)]
 have:=XpW hx h1
 simp only [Option.bind_some]
 show some (wI .i64 (scl x n))=_
 rw [Xfn (by omega) (by omega)]
theorem XcK {S ρ:Type} {step:S→Option (Sum S ρ)} (f:Nat→S) (r:ρ):∀ (n:Nat) (_:∀ j,j<n→step (f j)=some (.inl (f (j+1)))) (_:step (f n)=some (.inr r)) {F:Nat} (_:n<F),iter step F (f 0)=some r:=by
 intro n h1 h2 F hF
 have key:∀ d j F,j+d=n→d<F→iter step F (f j)=some r:=by
  intro d
  induction d with
  | zero=>intro j F hj hF;obtain rfl:j=n:=by omega
          obtain ⟨F,rfl⟩:∃ G,F=G+1:=⟨F - 1,by omega⟩
          rw [iter,h2]
  | succ d ih=>
    intro j F hj hF
    obtain ⟨F,rfl⟩:∃ G,F=G+1:=⟨F - 1,by omega⟩
    rw [iter,h1 j (by omega)];exact ih (j+1) F (by omega) (by omega)
 exact key n 0 F (by omega) hF
def cap (n:Int):Int:=if n<1099511627776 then n else 1099511627776
def XkG (e:Xaz):Bool:=decide (0≤e.N∧e.N≤1048576)
def XEj (k:XaD) (i:Nat) (t:List UInt8):Int:=Xm9 tak XCu t.length (newV ⟨wI .u64 (k.A+wI .u64 (i:Int)),k.B⟩).s t
theorem XiU {k:XaD} {i:Nat} {t:List UInt8} (h:t.length≤20):XaW ⟨wI .u64 (k.A+wI .u64 (i:Int)),k.B⟩ t=some (XEj k i t):=XC8 (by omega)
theorem Xn7 (k:XaD) (i:Nat) (t:List UInt8):0≤XEj k i t∧XEj k i t<2^64:=Xpz tak XCu Xwh _ _ _ _ (Nat.le_refl _)
def plN (k:XaD) (p i:Nat) (t:List UInt8):Nat:=(scl (XEj k i t) p).toNat
theorem Xbm {p:Nat} (hp:1≤p) (k:XaD) (i:Nat) (t:List UInt8):plN k p i t<p:=by
 have:=XpW (Xn7 k i t) (n:=p) (by omega)
 unfold plN;omega
theorem Xc4 {p:Nat} (hp:1≤p) (hp2:p≤4096) (k:XaD) (i:Nat) (t:List UInt8):Xas (XEj k i t) (p:Int)=some (plN k p i t:Int):=by
 have:=XpW (Xn7 k i t) (n:=p) (by omega)
 rw [XvW (Xn7 k i t) (by omega) (by omega)]
 unfold plN;congr 1;omega
structure SkS where
 R:Nat→List Int
 tot:Int
def XqX (k:XaD) (p:Nat) (t:List UInt8) (N:Int) (i:Nat) (row:List Int):List Int:=row.set (plN k p i t) (cap (row.getD (plN k p i t) 0+N))
def stepS (k:XaD) (p:Nat) (x:SkS) (e:Xaz):SkS:=if XkG e=true then ⟨fun i=>XqX k p e.Text e.N i (x.R i),cap (x.tot+e.N)⟩ else x
def newS (p:Nat):SkS:=⟨fun _=>List.replicate p 0,0⟩
def SK (k:XaD) (p:Nat) (l:List Xaz):SkS:=l.foldl (stepS k p) (newS p)
theorem Xi4 (k:XaD) (p:Nat) {l:List Xaz} {j:Nat} (h:j<l.length):SK k p (l.take (j+1))=stepS k p (SK k p (l.take j)) l[j]:=by
 unfold SK;rw [List.take_succ_eq_append_getElem h,List.foldl_append];rfl
structure Xh1 (p:Nat) (x:SkS):Prop where
 len:∀ i,(x.R i).length=p
 rng:∀ i,∀ e∈x.R i,0≤e∧e≤1099511627776
 tot:0≤x.tot∧x.tot≤1099511627776
theorem Xuw {n:Int} (h:0≤n):0≤cap n∧cap n≤1099511627776:=by unfold cap;split<;>omega
theorem Xh1.new (p:Nat):Xh1 p (newS p):=⟨fun _=>List.length_replicate,fun _ e h=>by rw [(List.mem_replicate.1 h).2];decide,⟨Int.le_refl 0,by show (0:Int)≤_;decide⟩⟩
theorem Xh1.getD {p:Nat} {x:SkS} (h:Xh1 p x) (i q:Nat):0≤(x.R i).getD q 0∧(x.R i).getD q 0≤1099511627776:=by
 rw [List.getD_eq_getElem?_getD]
 cases hq:(x.R i)[q]? with
 | none=>exact ⟨Int.le_refl _,by decide⟩
 | some e=>exact h.rng i e (List.mem_of_getElem? hq)
theorem Xh1.step {p:Nat} {x:SkS} (h:Xh1 p x) (k:XaD) (e:Xaz):Xh1 p (stepS k p x e):=by
 unfold stepS
 split
 ·rename_i hm
  have hN:0≤e.N∧e.N≤1048576:=of_decide_eq_true hm
  refine ⟨fun i=>by simp [XqX,h.len i],fun i v hv=>?_,Xuw (by have:=h.tot;omega)⟩
  rcases List.mem_or_eq_of_mem_set hv with hv|rfl
  ·exact h.rng i v hv
  ·exact Xuw (by have:=(h.getD i (plN k p i e.Text)).1;omega)
 ·exact h
theorem Xh1.SK (k:XaD) (p:Nat) (l:List Xaz):Xh1 p (SK k p l):=by
 have:∀ (l:List Xaz) x,Xh1 p x→Xh1 p (l.foldl (stepS k p) x):=by
  intro l
  induction l with
  | nil=>exact fun x h=>h
  | cons e l ih=>exact fun x h=>ih _ (h.step k e)
 exact this l _ (.new p)
def eqS (t:List UInt8) (l:List Xaz):Int:=l.foldl (fun n e=>if (e.Text==t&&XkG e)=true then n+e.N else n) 0
theorem XhQ (t:List UInt8) {l:List Xaz} {j:Nat} (h:j<l.length):eqS t (l.take (j+1))=if ((l[j]).Text==t&&XkG l[j])=true then eqS t (l.take j)+(l[j]).N else eqS t (l.take j):=by
 unfold eqS;rw [List.take_succ_eq_append_getElem h,List.foldl_append];rfl
theorem XiA (t:List UInt8) (l:List Xaz):0≤eqS t l∧eqS t l≤1048576*l.length:=by
 have:∀ (l:List Xaz) (n:Int),0≤n→0≤l.foldl (fun n e=>if (e.Text==t&&XkG e)=true then n+e.N else n) n∧l.foldl (fun n e=>if (e.Text==t&&XkG e)=true then n+e.N else n) n≤n+1048576*l.length:=by
  intro l
  induction l with
  | nil=>intro n h;simp;omega
  | cons e l ih=>
    intro n h
    rw [List.foldl_cons,List.length_cons]
    split
    ·rename_i hc
     have hN:0≤e.N∧e.N≤1048576:=of_decide_eq_true (Bool.and_eq_true _ _▸hc).2
     have:=ih (n+e.N) (by omega);omega
    ·have:=ih n h;omega
 have:=this l 0 (by decide);unfold eqS;omega
theorem XuJ {p:Nat} (hp:1≤p) (k:XaD) (l:List Xaz) (t:List UInt8) (i:Nat):cap (eqS t l)≤((SK k p l).R i).getD (plN k p i t) 0∧((SK k p l).R i).getD (plN k p i t) 0≤(SK k p l).tot:=by
 have:∀ (l:List Xaz) (x:SkS) (n:Int),Xh1 p x→0≤n→cap n≤(x.R i).getD (plN k p i t) 0→(∀ q,(x.R i).getD q 0≤x.tot) →
  cap (l.foldl (fun n e=>if (e.Text==t&&XkG e)=true then n+e.N else n) n)≤((l.foldl (stepS k p) x).R i).getD (plN k p i t) 0∧∀ q,((l.foldl (stepS k p) x).R i).getD q 0≤(l.foldl (stepS k p) x).tot:=by
  intro l
  induction l with
  | nil=>exact fun x n _ _ h1 h2=>⟨h1,h2⟩
  | cons e l ih=>
    intro x n hx hn h1 h2
    rw [List.foldl_cons,List.foldl_cons]
    cases hm:XkG e with
    | false=>
      rw [Bool.and_false,if_neg (by decide),show stepS k p x e=x by unfold stepS;rw [hm];rfl]
      exact ih x n hx hn h1 h2
    | true=>
      have hN:0≤e.N∧e.N≤1048576:=of_decide_eq_true hm
      have es:stepS k p x e=⟨fun i=>XqX k p e.Text e.N i (x.R i),cap (x.tot+e.N)⟩:=by unfold stepS;rw [hm];rfl
      have hx':=hx.step k e
      have hg:∀ q,((stepS k p x e).R i).getD q 0=if plN k p i e.Text=q then cap ((x.R i).getD q 0+e.N) else (x.R i).getD q 0:=by
       intro q
       rw [es]
       show (XqX k p e.Text e.N i (x.R i)).getD q 0=_
       unfold XqX
       rw [List.getD_eq_getElem?_getD,List.getElem?_set,hx.len i]
       split
       ·rename_i hq;subst hq
        rw [if_pos (Xbm hp k i e.Text)];rfl
       ·rw [←List.getD_eq_getElem?_getD]
      have ht:(stepS k p x e).tot=cap (x.tot+e.N):=by rw [es]
      have h3:∀ q,((stepS k p x e).R i).getD q 0≤(stepS k p x e).tot:=fun q=>by
       rw [hg q,ht]
       have:=h2 q;have:=hx.getD i q;have:=hx.tot
       unfold cap
       repeat' split
       all_goals omega
      have gp:=hx.getD i (plN k p i t)
      rw [Bool.and_true]
      by_cases he:e.Text=t
      ·rw [if_pos (beq_iff_eq.2 he)]
       refine ih _ _ hx' (by omega) ?_ h3
       rw [hg,if_pos (by rw [he])]
       revert h1;unfold cap;intro h1
       repeat' split
       all_goals (try split at h1)
       all_goals omega
      ·rw [if_neg (fun h=>he (beq_iff_eq.1 h))]
       refine ih _ _ hx' hn ?_ h3
       rw [hg]
       revert h1;unfold cap;intro h1
       repeat' split
       all_goals (try split at h1)
       all_goals (try split)
       all_goals omega
 have hz:∀ q,((newS p).R i).getD q 0=0:=fun q=>by
  rw [show (newS p).R i=List.replicate p 0 from rfl,List.getD_eq_getElem?_getD,List.getElem?_replicate];split<;>rfl
 have:=this l (newS p) 0 (.new p) (by decide) (by rw [hz];decide) (fun q=>by rw [hz];exact Int.le_refl 0)
 exact ⟨this.1,this.2 _⟩
def Xmo (k:XaD) (p:Nat) (x:SkS) (t:List UInt8):Nat→Int
 | 0=>1099511627776
 | i+1=>if (x.R i).getD (plN k p i t) 0<Xmo k p x t i then (x.R i).getD (plN k p i t) 0 else Xmo k p x t i
theorem XmO {k:XaD} {p:Nat} {x:SkS} {t:List UInt8} {m M:Int} (hm:m≤1099511627776) (h:∀ i,m≤(x.R i).getD (plN k p i t) 0∧(x.R i).getD (plN k p i t) 0≤M):∀ n,m≤Xmo k p x t n∧(1≤n→Xmo k p x t n≤M)
 | 0=>⟨hm,by omega⟩
 | n+1=>by
   have g:=XmO hm h n
   have h1:=h n
   rw [Xmo]
   split
   ·omega
   ·rename_i hc
    refine ⟨g.1,fun _=>?_⟩
    rcases Nat.eq_zero_or_pos n with rfl|hn
    ·rw [Xmo] at hc ⊢;omega
    ·exact g.2 hn
end Go.Vm.Code
