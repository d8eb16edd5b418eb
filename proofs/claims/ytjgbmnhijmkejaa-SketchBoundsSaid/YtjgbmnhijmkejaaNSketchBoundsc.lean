import Derived.Test.YtjgbmnhijmkejaaNSketchBoundsb
namespace Go.Vm
open Go Go.RowKit
def req (b:Bool) (p:Prop):Prop:=match b with|true=>p|false=>False
theorem req.intro {b:Bool} {p:Prop} (h:b=true) (k:p):req b p:=by subst h;exact k
theorem req.elim {b:Bool} {p:Prop} (h:req b p):b=true∧p:=by cases b;exact h.elim;exact ⟨rfl,h⟩
def br (b:Bool) (p q:Prop):Prop:=match b with|true=>p|false=>q
theorem br.intro {b:Bool} {p q:Prop} (h:b=true→p) (k:b=false→q):br b p q:=by cases b;exact k rfl;exact h rfl
theorem br.pos {b:Bool} {p q:Prop} (e:b=true) (h:p):br b p q:=by subst e;exact h
theorem br.neg {b:Bool} {p q:Prop} (e:b=false) (h:q):br b p q:=by subst e;exact h
def Xgf (v:Value) (K:Value→Prop):Prop:=
 match v with
 | .bool b=>K (.bool b)
 | .int k n=>K (.int k n)
 | .float k n=>K (.float k n)
 | .string s=>K (.string s)
 | .pointer none=>K (.pointer none)
 | .pointer (some a)=>K (.pointer (some a))
 | .slice none n c=>K (.slice none n c)
 | .slice (some a) n c=>K (.slice (some a) n c)
 | .func f a b=>K (.func f a b)
 | .nilFunc=>K .nilFunc
 | .nilIface=>K .nilIface
 | .iface t v=>K (.iface t v)
 | .agg a=>K (.agg a)
 | .tuple a=>K (.tuple a)
 | .map none=>K (.map none)
 | .map (some b)=>K (.map (some b))
 | v=>K v
theorem Xgd (v:Value) (K:Value→Prop):Xgf v K=K v:=by
 unfold Xgf;split<;>rfl
def Xkx (l:List Value) (K:List Value→Prop):Prop:=
 match l with
 | []=>K []
 | v::l=>Xkx l (fun l'=>K (v::l'))
theorem Xh5:∀ (l:List Value) (K:List Value→Prop),Xkx l K=K l
 | [],_=>rfl
 | v::l,K=>by rw [Xkx,Xh5 l]
def XoE {α:Type} (l:List (Nat×α)) (j:Nat) (K:List (Nat×α)→Prop):Prop:=
 match l with
 | []=>K []
 | (i,x)::l=>cond (Nat.beq i j) (XoE l j K) (XoE l j (fun l'=>K ((i,x)::l')))
theorem XjU {α:Type}:∀ (l:List (Nat×α)) (j:Nat) (K:List (Nat×α)→Prop),XoE l j K=K (XkL l j)
 | [],_,_=>rfl
 | (i,x)::l,j,K=>by
   simp only [XoE,XlE]
   cases Nat.beq i j
   ·simp only [cond_false];rw [XjU l]
   ·simp only [cond_true];rw [XjU l]
def Xmu {α:Type} (l:List (Nat×α)) (i:Nat) (x:α) (K:List (Nat×α)→Prop):Prop:=XoE l i (fun l'=>K ((i,x)::l'))
theorem XgX {α:Type} (l:List (Nat×α)) (i:Nat) (x:α) (K:List (Nat×α)→Prop):Xmu l i x K=K (XfG l i x):=XjU _ _ _
def rd (cs:List Value) (o:Nat) (K:Value→Prop):Prop:=match cs[o]? with|some v=>Xgf v K|none=>False
theorem rd.intro {cs:List Value} {o:Nat} {K:Value→Prop} {v:Value} (h:cs[o]?=some v) (k:Xgf v K):rd cs o K:=by unfold rd;rw [h];exact k
theorem rd.elim {cs:List Value} {o:Nat} {K:Value→Prop} (h:rd cs o K):∃ v,cs[o]?=some v∧K v:=by
 unfold rd at h
 split at h
 ·rename_i v hv;rw [Xgd] at h;exact ⟨v,hv,h⟩
 ·exact h.elim
def rdN (cs:List Value) (o:Nat) (n:Nat) (K:List Value→Prop):Prop:=
 match n with
 | 0=>K []
 | n+1=>rd cs o fun v=>rdN cs (o+1) n fun l=>K (v::l)
theorem rdN.elim:∀ {n:Nat} {cs:List Value} {o:Nat} {K:List Value→Prop},rdN cs o n K→(o+n≤cs.length∨n=0)∧K ((cs.drop o).take n)
 | 0,cs,o,K,h=>⟨.inr rfl,by simpa [rdN] using h⟩
 | n+1,cs,o,K,h=>by
   obtain ⟨v,hv,h2⟩:=rd.elim h
   obtain ⟨h3,h4⟩:=rdN.elim h2
   have hlt:o<cs.length:=by
    rcases Nat.lt_or_ge o cs.length with h|h
    ·exact h
    ·rw [List.getElem?_eq_none h] at hv;cases hv
   refine ⟨.inl (by omega),?_⟩
   have:(cs.drop o).take (n+1)=v::(cs.drop (o+1)).take n:=by
    rw [List.drop_eq_getElem_cons hlt,List.take_succ_cons]
    rw [List.getElem?_eq_getElem hlt,Option.some.injEq] at hv
    rw [hv]
   rw [this];exact h4
abbrev CK:=Option Value→List (Option XaY)→Option XaY→Prop
def XxQ (r:Option Xb2) (K:CK):Prop:=
 match r with
 | some ⟨some v,os,fr⟩=>Xgf v fun v=>K (some v) os fr
 | some ⟨none,os,fr⟩=>K none os fr
 | none=>False
def Good (r:Option Xb2) (K:CK):Prop:=∃ v os fr,r=some ⟨v,os,fr⟩∧K v os fr
theorem XxQ.good {r:Option Xb2} {K:CK} (h:XxQ r K):Good r K:=by
 unfold XxQ at h
 split at h
 ·rw [Xgd] at h;exact ⟨_,_,_,rfl,h⟩
 ·exact ⟨_,_,_,rfl,h⟩
 ·exact h.elim
def valK (v:Value) (K:CK):Prop:=Xgf v fun v=>K (some v) [] none
def Xoo:List (Nat×Nat×Value)→List Value→(List Value→Prop)→Prop
 | [],cs,K=>K cs
 | (off,size,v)::rest,cs,K=>cond (Nat.beq (XaO v).length size&&Nat.ble (off+size) cs.length) (Xkx (setAt cs off (XaO v)) fun cs'=>Xoo rest cs' K) False
theorem Xoo.elim:∀ {l:List (Nat×Nat×Value)} {cs:List Value} {K:List Value→Prop},Xoo l cs K→∃ cs',XlF cs l=some cs'∧K cs'
 | [],cs,K,h=>⟨cs,rfl,h⟩
 | (off,size,v)::rest,cs,K,h=>by
   rw [Xoo] at h
   cases hb:(Nat.beq (XaO v).length size&&Nat.ble (off+size) cs.length)
   ·rw [hb] at h;exact h.elim
   ·rw [hb,cond_true,Xh5] at h
    obtain ⟨cs',h1,h2⟩:=Xoo.elim h
    rw [Bool.and_eq_true] at hb
    exact ⟨cs',by rw [XlF,if_pos ⟨Nat.eq_of_beq_eq_true hb.1,Nat.le_of_ble_eq_true hb.2⟩,h1],h2⟩
def Xot (z:List Value) (ps:List (Nat×Nat×Operand)) (vals:List Value) (objs:List XaY) (K:CK):Prop:=
 match objs with
 | []=>cond (Nat.beq vals.length ps.length) (Xoo (Xx4 ps vals) z fun cs=>K (some (.agg ⟨cs⟩)) [] none) False
 | _=>False
def Xlq (len sz:Nat) (z:List Value) (ps:List (Nat×Nat×Operand)) (vals:List Value) (objs:List XaY) (top:Nat) (K:CK):Prop:=
 match objs with
 | []=>cond (Nat.beq vals.length ps.length) (Xoo (Xx4 ps vals) z fun cs=>K (some (.slice (some ⟨top,0,none⟩) len sz)) [] (some (.row true cs))) False
 | _=>False
theorem XnX {z:List Value} {ps:List (Nat×Nat×Operand)} {vals:List Value} {objs:List XaY} {K:CK} (h:Xot z ps vals objs K):Good (Xii z ps vals objs) K:=by
 unfold Xot at h
 split at h
 ·cases hb:Nat.beq vals.length ps.length
  ·rw [hb] at h;exact h.elim
  ·rw [hb,cond_true] at h
   obtain ⟨cs,h1,h2⟩:=h.elim
   exact ⟨_,_,_,by simp only [Xii,if_pos (Nat.eq_of_beq_eq_true hb),h1];rfl,h2⟩
 ·exact h.elim
theorem XlN {len sz:Nat} {z:List Value} {ps:List (Nat×Nat×Operand)} {vals:List Value} {objs:List XaY} {top:Nat} {K:CK} (h:Xlq len sz z ps vals objs top K):Good (XiE len sz z ps vals objs top) K:=by
 unfold Xlq at h
 split at h
 ·cases hb:Nat.beq vals.length ps.length
  ·rw [hb] at h;exact h.elim
  ·rw [hb,cond_true] at h
   obtain ⟨cs,h1,h2⟩:=h.elim
   exact ⟨_,_,_,by simp only [XiE,if_pos (Nat.eq_of_beq_eq_true hb),h1],h2⟩
 ·exact h.elim
def Xsm (vals:List Value) (objs:List XaY) (K:CK):Prop:=
 match vals,objs with
 | [.bool c,a,b],[]=>br c (valK a K) (valK b K)
 | _,_=>False
def Xoz (vals:List Value) (objs:List XaY) (K:CK):Prop:=
 match vals,objs with
 | [.pointer (some ⟨_,o,none⟩)],[.cells cs]=>rd cs o fun v=>K (some v) [some (.cells cs)] none
 | [.pointer (some ⟨_,o,none⟩)],[.row w cs]=>rd cs o fun v=>K (some v) [some (.row w cs)] none
 | [.pointer (some ⟨_,o,none⟩)],[.ty t cs]=>rd cs o fun v=>K (some v) [some (.ty t cs)] none
 | _,_=>False
def XoX (n:Nat) (vals:List Value) (objs:List XaY) (K:CK):Prop:=
 match vals,objs with
 | [.pointer (some ⟨_,o,none⟩)],[.cells cs]=>req (decide (o+n≤cs.length)) (rdN cs o n fun l=>K (some (.agg ⟨l⟩)) [some (.cells cs)] none)
 | [.pointer (some ⟨_,o,none⟩)],[.row w cs]=>req (decide (o+n≤cs.length)) (rdN cs o n fun l=>K (some (.agg ⟨l⟩)) [some (.row w cs)] none)
 | [.pointer (some ⟨_,o,none⟩)],[.ty t cs]=>req (decide (o+n≤cs.length)) (rdN cs o n fun l=>K (some (.agg ⟨l⟩)) [some (.ty t cs)] none)
 | _,_=>False
def Xov (n:Nat) (vals:List Value) (objs:List XaY) (K:CK):Prop:=
 match vals,objs with
 | [.pointer (some ⟨_,o,none⟩),v],[.cells cs]=>req (decide ((XaO v).length=n∧o+n≤cs.length)&&(XaO v).all XiU) (Xkx (setAt cs o (XaO v)) fun cs'=>K none [some (.cells cs')] none)
 | [.pointer (some ⟨_,o,none⟩),v],[.ty t cs]=>req (decide ((XaO v).length=n∧o+n≤cs.length)&&(XaO v).all XiU) (Xkx (setAt cs o (XaO v)) fun cs'=>K none [some (.ty t cs')] none)
 | [.pointer (some ⟨_,o,none⟩),v],[.row true cs]=>req (decide ((XaO v).length=n∧o+n≤cs.length)&&(XaO v).all XiU) (∃ cs',setAt cs o (XaO v)=cs'∧K none [some (.row true cs')] none)
 | _,_=>False
def binK (op:BinOp) (x y:Value) (K:CK):Prop:=
 match x,y with
 | .int k a,.int k' b=>match op with
   | .shl=>req (decide (0≤b)) (K (some (.int k (k.wrap (a*2^(min b.toNat k.bits))))) [] none)
   | .shr=>req (decide (0≤b)) (K (some (.int k (a.fdiv (2^(min b.toNat k.bits))))) [] none)
   | .quo=>req (decide (k=k')&&!(decide (b=0))) (K (some (.int k (k.wrap (a.tdiv b)))) [] none)
   | .rem=>req (decide (k=k')&&!(decide (b=0))) (K (some (.int k (a.tmod b))) [] none)
   | op=>XxQ (match XqZ op (.int k a) (.int k' b) with|some v=>val v|none=>none) K
 | .string a,.string b=>match op with
   | .add=>req (decide (a.data.toList.length+b.data.toList.length<2^63)) (K (some (.string ⟨⟨a.data.toList++b.data.toList⟩⟩)) [] none)
   | op=>XxQ (match XqZ op (.string a) (.string b) with|some v=>val v|none=>none) K
 | _,_=>False
def XzY (op:BinOp) (vals:List Value) (objs:List XaY) (K:CK):Prop:=
 match vals,objs with
 | [x,y],[]=>binK op x y K
 | _,_=>False
def Xoq (k:Nat) (neg:Bool) (vals:List Value) (objs:List XaY) (K:CK):Prop:=
 match k,vals,objs with
 | 1,[.slice (some _) n _],[]=>req (Nat.blt 0 n) (K (some (.bool neg)) [] none)
 | k,vals,objs=>XxQ (Xjj k neg vals objs) K
def XzO (vals:List Value) (objs:List XaY) (K:CK):Prop:=
 match vals,objs with
 | [.slice none 0 _],[]=>K (some (.string ⟨⟨[]⟩⟩)) [] none
 | [.slice (some ⟨_,o,none⟩) n 1],[ob]=>match ob.cs with
    | some cs=>req (decide (o+n≤cs.length)) (∃ bs,XhB ((cs.drop o).take n)=some bs∧K (some (.string ⟨⟨bs⟩⟩)) [some ob] none)
    | none=>False
 | _,_=>False
def XzZ (vals:List Value) (objs:List XaY) (top:Nat) (K:CK):Prop:=
 match vals,objs with
 | [.string s],[]=>∃ cs',ofBytes s.data.toList=cs'∧K (some (.slice (some ⟨top,0,none⟩) s.data.toList.length 1)) [] (some (.row true cs'))
 | _,_=>False
def XrX (sz bytes:Nat) (z:List Value) (vals:List Value) (objs:List XaY) (top:Nat) (K:CK):Prop:=
 match vals,objs with
 | [.int _ l,.int _ c],[]=>req (decide (0≤l∧l≤c∧c<2^63∧(bytes:Int)*c≤2^48))
    (∃ cs',(List.replicate c.toNat z).flatten=cs'∧K (some (.slice (some ⟨top,0,none⟩) l.toNat sz)) [] (some (.row true cs')))
 | _,_=>False
def XlH (n:Nat) (hasLo hasHi:Bool) (bs:List Value) (K:Nat→Nat→Prop):Prop:=
 match hasLo,hasHi,bs with
 | false,false,[]=>K 0 n
 | true,false,[.int _ l]=>req (decide (0≤l∧l≤n)) (K l.toNat n)
 | false,true,[.int _ h]=>req (decide (0≤h∧h≤n)) (K 0 h.toNat)
 | true,true,[.int _ l,.int _ h]=>req (decide (0≤h∧h≤n∧0≤l∧l≤h.toNat)) (K l.toNat h.toNat)
 | _,_,_=>False
theorem XlH.elim {n:Nat} {hl hh:Bool} {bs:List Value} {K:Nat→Nat→Prop} (h:XlH n hl hh bs K):∃ l u,XuW n hl hh bs=some (l,u)∧K l u:=by
 unfold XlH at h
 split at h
 ·exact ⟨_,_,rfl,h⟩
 ·obtain ⟨h1,h2⟩:=h.elim;exact ⟨_,_,by simp only [XuW];rw [if_pos (of_decide_eq_true h1)],h2⟩
 ·obtain ⟨h1,h2⟩:=h.elim;exact ⟨_,_,by simp only [XuW];rw [if_pos (of_decide_eq_true h1)],h2⟩
 ·obtain ⟨h1,h2⟩:=h.elim;exact ⟨_,_,by simp only [XuW];rw [if_pos (of_decide_eq_true h1)],h2⟩
 ·exact h.elim
def Xm3 (bl bh:Bool) (vals:List Value) (objs:List XaY) (K:CK):Prop:=
 match vals,objs with
 | .string s::bs,[]=>XlH s.data.toList.length bl bh bs fun l h=>K (some (.string ⟨⟨(s.data.toList.drop l).take (h - l)⟩⟩)) [] none
 | _,_=>False
def Xmt (sz:Nat) (bl bh:Bool) (vals:List Value) (objs:List XaY) (K:CK):Prop:=
 match vals,objs with
 | .slice none 0 c::bs,[]=>XlH 0 bl bh bs fun _ _=>K (some (.slice none 0 c)) [] none
 | .slice (some ⟨b,o,none⟩) n sz'::bs,[]=>req (Nat.beq sz sz') (XlH n bl bh bs fun l h=>K (some (.slice (some ⟨b,o+l*sz,none⟩) (h - l) sz)) [] none)
 | _,_=>False
def Xna (n sz:Nat) (bl bh:Bool) (vals:List Value) (objs:List XaY) (K:CK):Prop:=
 match vals,objs with
 | .pointer (some ⟨b,o,none⟩)::bs,[ob]=>match ob.cs with
   | some cs=>req (decide (o+n*sz≤cs.length)) (XlH n bl bh bs fun l h=>K (some (.slice (some ⟨b,o+l*sz,none⟩) (h - l) sz)) [some ob] none)
   | none=>False
 | _,_=>False
def XoJ (n sz:Nat) (vals:List Value) (objs:List XaY) (K:CK):Prop:=
 match vals,objs with
 | [.pointer (some ⟨b,o,none⟩),.int _ i],[]=>req (decide (0≤i∧i<n)) (K (some (.pointer (some ⟨b,o+i.toNat*sz,none⟩))) [] none)
 | _,_=>False
def Xob (sz:Nat) (vals:List Value) (objs:List XaY) (K:CK):Prop:=
 match vals,objs with
 | [.slice (some ⟨b,o,none⟩) n _,.int _ i],[]=>req (decide (0≤i∧i<n)) (K (some (.pointer (some ⟨b,o+i.toNat*sz,none⟩))) [] none)
 | _,_=>False
def Xom (n:Nat) (vals:List Value) (objs:List XaY) (K:CK):Prop:=
 match vals,objs with
 | [.agg ⟨cs⟩,.int _ i],[]=>req (decide (0≤i∧i<n)) (rd cs i.toNat fun v=>K (some v) [] none)
 | _,_=>False
def XoT (n sz:Nat) (vals:List Value) (objs:List XaY) (K:CK):Prop:=
 match vals,objs with
 | [.agg ⟨cs⟩,.int _ i],[]=>req (decide (0≤i∧i<n∧i.toNat*sz+sz≤cs.length)) (rdN cs (i.toNat*sz) sz fun l=>K (some (.agg ⟨l⟩)) [] none)
 | _,_=>False
def rdS (s:List UInt8) (i:Nat) (K:UInt8→Prop):Prop:=match s[i]? with|some b=>K b|none=>False
theorem rdS.intro {s:List UInt8} {i:Nat} {K:UInt8→Prop} {b:UInt8} (h:s[i]?=some b) (k:K b):rdS s i K:=by unfold rdS;rw [h];exact k
theorem rdS.elim {s:List UInt8} {i:Nat} {K:UInt8→Prop} (h:rdS s i K):∃ b,s[i]?=some b∧K b:=by
 unfold rdS at h;split at h
 ·exact ⟨_,by assumption,h⟩
 ·exact h.elim
def Xt7 (vals:List Value) (objs:List XaY) (K:CK):Prop:=
 match vals,objs with
 | [.string s,.int _ i],[]=>req (decide (0≤i)) (rdS s.data.toList i.toNat fun b=>K (some (.int .u8 b.toNat)) [] none)
 | _,_=>False
def Xyt (vals:List Value) (objs:List XaY) (K:CK):Prop:=
 match vals,objs with
 | [.string s,.int .u8 c],[]=>K (some (.int .i64 (ixB s.data.toList c))) [] none
 | _,_=>False
def XrL (sz:Nat) (y:Value) (objs:List XaY) (K:List Value→Nat→Prop):Prop:=
 match y,objs with
 | .string s,_=>K (ofBytes s.data.toList) s.data.toList.length
 | .slice none 0 _,_=>K [] 0
 | .slice (some a) n _,[o]=>match o.cs with
   | some cs=>req (decide (a.off+n*sz≤cs.length)) (K ((cs.drop a.off).take (n*sz)) n)
   | none=>False
 | _,_=>False
theorem XrL.elim {sz:Nat} {y:Value} {objs:List XaY} {K:List Value→Nat→Prop} (h:XrL sz y objs K):∃ c n,XgV sz y objs=some c∧XjY y=some n∧K c n:=by
 unfold XrL at h
 split at h
 ·exact ⟨_,_,rfl,rfl,h⟩
 ·exact ⟨_,_,rfl,rfl,h⟩
 ·split at h
  ·rename_i cs hcs
   obtain ⟨h1,h2⟩:=h.elim
   exact ⟨_,_,by simp only [XgV,hcs];rw [if_pos (of_decide_eq_true h1)],rfl,h2⟩
  ·exact h.elim
 ·exact h.elim
def Xy5 (t sz bytes:Nat) (vals:List Value) (objs:List XaY) (top:Nat) (K:CK):Prop:=
 match vals,objs with
 | [.slice none 0 _,y],objs=>XrL sz y objs fun new m=>req (decide (m*bytes≤2^47∧new.length=m*sz)) (∃ cs' n',new=cs'∧m=n'∧K (some (.slice (some ⟨top,0,none⟩) n' sz)) (objs.map some) (some (.row true cs')))
 | [.slice (some ⟨b,o,none⟩) n sz',y],.row true cs::objs=>XrL sz y objs fun new m=>
    req (decide ((n+m)*bytes≤2^47∧o+n*sz≤cs.length∧sz=sz'∧new.length=m*sz)&&new.all XiU&&(Xep y).all (fun c=>!Nat.beq b c))
     (∃ cs' n',(cs.drop o).take (n*sz)++new=cs'∧n+m=n'∧K (some (.slice (some ⟨top,0,none⟩) n' sz)) (none::objs.map some) (some (.row true cs')))
 | [.func (.method _) ⟨[.slice none 0 e]⟩ ⟨[]⟩, y], objs => XrL sz y objs fun new m => req (decide (m * bytes ≤ 2 ^ 47 ∧ new.length = m * sz ∧ sz = 1 ∧ e = t)) (∃ cs' n', new = cs' ∧ m = n' ∧ K (some (.func (.method "") ⟨[.slice (some ⟨top, 0, none⟩) n' 1]⟩ ⟨[]⟩)) (objs.map some) (some (.ty t cs')))
 | [.func (.method _) ⟨[.slice (some ⟨b,0,none⟩) n 1]⟩ ⟨[]⟩,y],.ty e cs::objs=>XrL sz y objs fun new m=>
    req (decide ((n+m)*bytes≤2^47∧n≤cs.length∧sz=1∧e=t∧new.length=m)&&new.all XiU&&(Xep y).all (fun c=>!Nat.beq b c))
     (∃ cs' n', cs.take n ++ new = cs' ∧ n + m = n' ∧ K (some (.func (.method "") ⟨[.slice (some ⟨top, 0, none⟩) n' 1]⟩ ⟨[]⟩)) (none :: objs.map some) (some (.ty t cs')))
 | _,_=>False
def Xsn (t:Nat) (vals:List Value) (objs:List XaY) (K:CK):Prop:=
 match vals,objs with
 | [.pointer none,.int .i64 0],[]=>K (some (.string ⟨⟨[]⟩⟩)) [] none
 | [.func (.method _) ⟨[.slice (some ⟨_,0,none⟩) n 1]⟩ ⟨[.bool true]⟩,.int .i64 m],[.ty e cs]=>req (decide (e=t∧m=n∧n≤cs.length∧n<2^63))
    (∃ bs,XhB (cs.take n)=some bs∧K (some (.string ⟨⟨bs⟩⟩)) [some (.row false cs)] none)
 | _,_=>False
def XzM (sz:Nat) (vals:List Value) (objs:List XaY) (K:CK):Prop:=
 match vals,objs with
 | [.slice none 0 _],[]=>K (some (.tuple ⟨[]⟩)) [] none
 | [.slice (some ⟨_,o,none⟩) n sz'],[.row true cs]=>req (decide (sz=sz'∧o+n*sz=cs.length)) (∃ cs',cs.take o=cs'∧K (some (.tuple ⟨[]⟩)) [some (.row true cs')] none)
 | _,_=>False
def XoH (vals:List Value) (objs:List XaY) (K:CK):Prop:=
 match vals,objs with
 | [.pointer (some ⟨_,0,none⟩)],[.siter s pos]=>
    br (decide (pos<s.size)) (K (some (.tuple #[.bool true,.int .i64 pos,.int .i32 (Utf8.decode s pos).1])) [some (.siter s (pos+(Utf8.decode s pos).2))] none)
     (K (some (.tuple #[.bool false])) [some (.siter s pos)] none)
 | _,_=>False
def Xtp (os:List (Nat×SK)) (z:Value) (ok:Bool) (vals:List Value) (objs:List XaY) (K:CK):Prop:=
 match vals,objs with
 | [.map none,.agg ⟨k⟩],[]=>req (Xba k k os).isSome (K (some (cond ok (.tuple ⟨[z,.bool false]⟩) z)) [] none)
 | [.map (some _),.agg ⟨k⟩],[.mp cs]=>∃ v b,XqI os z k cs=some (v,b)∧K (some (cond ok (.tuple ⟨[v,.bool b]⟩) v)) [some (.mp cs)] none
 | _,_=>False
def XtO (os:List (Nat×SK)) (vals:List Value) (objs:List XaY) (K:CK):Prop:=
 match vals,objs with
 | [.map (some _),.agg ⟨k⟩,x],[.mp cs]=>∃ cs',XqR os k x cs=some cs'∧K none [some (.mp cs')] none
 | _,_=>False
def XtG (os:List (Nat×SK)) (vals:List Value) (objs:List XaY) (K:CK):Prop:=
 match vals,objs with
 | [.map none,.agg ⟨k⟩],[]=>req (Xba k k os).isSome (K (some (.tuple ⟨[]⟩)) [] none)
 | [.map (some _),.agg ⟨k⟩],[.mp cs]=>∃ cs',XqP os k cs=some cs'∧K (some (.tuple ⟨[]⟩)) [some (.mp cs')] none
 | _,_=>False
def XuC (vals:List Value) (objs:List XaY) (K:CK):Prop:=
 match vals,objs with
 | [.map none],[]=>K (some (.int .i64 0)) [] none
 | [.map (some _)],[.mp cs]=>∃ n:Nat,cs.length=2*n∧K (some (.int .i64 n)) [some (.mp cs)] none
 | _,_=>False
def XyM (op:VOp) (vals:List Value) (objs:List XaY) (top:Nat) (K:CK):Prop:=
 match op with
 | .pick _ _ _=>Xsm vals objs K
 | .load1 _ _=>Xoz vals objs K
 | .loadN ks _=>XoX ks.length vals objs K
 | .store n _ _=>Xov n vals objs K
 | .bin op _ _=>XzY op vals objs K
 | .isNil k neg _=>Xoq k neg vals objs K
 | .b2s _=>XzO vals objs K
 | .s2b _=>XzZ vals objs top K
 | .mkSl sz bytes z _ _=>XrX sz bytes z vals objs top K
 | .sliceS _ lo hi=>Xm3 lo.isSome hi.isSome vals objs K
 | .sliceL sz _ lo hi=>Xmt sz lo.isSome hi.isSome vals objs K
 | .sliceA n sz _ lo hi=>Xna n sz lo.isSome hi.isSome vals objs K
 | .idxAA n sz _ _=>XoJ n sz vals objs K
 | .idxAL sz _ _=>Xob sz vals objs K
 | .idxV1 n _ _=>Xom n vals objs K
 | .idxVN n sz _ _=>XoT n sz vals objs K
 | .idxS _ _=>Xt7 vals objs K
 | .ixb _ _=>Xyt vals objs K
 | .app t sz bytes _ _=>Xy5 t sz bytes vals objs top K
 | .ustr t _ _=>Xsn t vals objs K
 | .clr sz _=>XzM sz vals objs K
 | .build z ps=>Xot z ps vals objs K
 | .buildSl len sz z ps=>Xlq len sz z ps vals objs top K
 | .nextS _=>XoH vals objs K
 | .mget os z ok _ _=>Xtp os z ok vals objs K
 | .mput os _ _ _=>XtO os vals objs K
 | .mdel os _ _=>XtG os vals objs K
 | .lenM _=>XuC vals objs K
 | op=>XxQ (core op vals objs top) K
theorem XoM {vals:List Value} {objs:List XaY} {K:CK} (h:Xsm vals objs K):Good (XnW vals objs) K:=by
 unfold Xsm at h
 split at h
 ·rename_i c _ _
  cases c
  ·simp only [br,valK,Xgd] at h;exact ⟨_,_,_,rfl,h⟩
  ·simp only [br,valK,Xgd] at h;exact ⟨_,_,_,rfl,h⟩
 ·exact h.elim
theorem Xn4 {vals:List Value} {objs:List XaY} {K:CK} (h:Xoz vals objs K):Good (Xg8 vals objs) K:=by
 unfold Xoz at h
 split at h
 ·obtain ⟨v,h1,h2⟩:=rd.elim h;exact ⟨_,_,_,by simp only [Xg8,XaY.cs,h1],h2⟩
 ·obtain ⟨v,h1,h2⟩:=rd.elim h;exact ⟨_,_,_,by simp only [Xg8,XaY.cs,h1],h2⟩
 ·obtain ⟨v,h1,h2⟩:=rd.elim h;exact ⟨_,_,_,by simp only [Xg8,XaY.cs,h1],h2⟩
 ·exact h.elim
theorem XnD {n:Nat} {vals:List Value} {objs:List XaY} {K:CK} (h:XoX n vals objs K):Good (Xg5 n vals objs) K:=by
 unfold XoX at h
 split at h
 ·obtain ⟨h1,h2⟩:=req.elim h
  obtain ⟨_,h3⟩:=rdN.elim h2
  exact ⟨_,_,_,by simp only [Xg5,XaY.cs,if_pos (of_decide_eq_true h1)],h3⟩
 ·obtain ⟨h1,h2⟩:=req.elim h
  obtain ⟨_,h3⟩:=rdN.elim h2
  exact ⟨_,_,_,by simp only [Xg5,XaY.cs,if_pos (of_decide_eq_true h1)],h3⟩
 ·obtain ⟨h1,h2⟩:=req.elim h
  obtain ⟨_,h3⟩:=rdN.elim h2
  exact ⟨_,_,_,by simp only [Xg5,XaY.cs,if_pos (of_decide_eq_true h1)],h3⟩
 ·exact h.elim
theorem XnM {n:Nat} {vals:List Value} {objs:List XaY} {K:CK} (h:Xov n vals objs K):Good (Xiq n vals objs) K:=by
 unfold Xov at h
 split at h
 ·obtain ⟨h1,h2⟩:=req.elim h
  rw [Xh5] at h2
  simp only [Bool.and_eq_true,decide_eq_true_eq] at h1
  exact ⟨_,_,_,by simp only [Xiq,XaY.cs,XaY.wr];rw [if_pos ⟨h1.1.1,h1.1.2,h1.2⟩],h2⟩
 ·obtain ⟨h1,h2⟩:=req.elim h
  rw [Xh5] at h2
  simp only [Bool.and_eq_true,decide_eq_true_eq] at h1
  exact ⟨_,_,_,by simp only [Xiq,XaY.cs,XaY.wr];rw [if_pos ⟨h1.1.1,h1.1.2,h1.2⟩],h2⟩
 ·obtain ⟨h1,cs',rfl,h2⟩:=req.elim h
  simp only [Bool.and_eq_true,decide_eq_true_eq] at h1
  exact ⟨_,_,_,by simp only [Xiq,XaY.cs,XaY.wr];rw [if_pos ⟨h1.1.1,h1.1.2,h1.2⟩],h2⟩
 ·exact h.elim
theorem XqX {op:BinOp} {vals:List Value} {objs:List XaY} {K:CK} (h:XzY op vals objs K):Good (Xos op vals objs) K:=by
 unfold XzY at h
 split at h
 ·rename_i x y
  have key:∀ v,XqZ op x y=some v→K (some v) [] none→Good (Xos op [x,y] []) K:=fun v h1 h2=>⟨_,_,_,by simp only [Xos,h1,val],h2⟩
  unfold binK at h
  split at h
  ·split at h
   ·obtain ⟨h1,h2⟩:=req.elim h
    exact key _ (by simp only [XqZ];rw [if_pos (of_decide_eq_true h1)]) h2
   ·obtain ⟨h1,h2⟩:=req.elim h
    exact key _ (by simp only [XqZ];rw [if_pos (of_decide_eq_true h1)]) h2
   ·obtain ⟨h1,h2⟩:=req.elim h
    simp only [Bool.and_eq_true,decide_eq_true_eq,Bool.not_eq_true',decide_eq_false_iff_not] at h1
    exact key _ (by simp only [XqZ];rw [if_pos h1.1,if_neg h1.2]) h2
   ·obtain ⟨h1,h2⟩:=req.elim h
    simp only [Bool.and_eq_true,decide_eq_true_eq,Bool.not_eq_true',decide_eq_false_iff_not] at h1
    exact key _ (by simp only [XqZ];rw [if_pos h1.1,if_neg h1.2]) h2
   ·exact h.good
  ·split at h
   ·obtain ⟨h1,h2⟩:=req.elim h
    exact key _ (by simp only [XqZ];rw [if_pos (of_decide_eq_true h1)]) h2
   ·exact h.good
  ·exact h.elim
 ·exact h.elim
theorem Xni {k:Nat} {neg:Bool} {vals:List Value} {objs:List XaY} {K:CK} (h:Xoq k neg vals objs K):Good (Xjj k neg vals objs) K:=by
 unfold Xoq at h
 split at h
 ·rename_i n _
  obtain ⟨h1,h2⟩:=req.elim h
  cases n with
  | zero=>simp at h1
  | succ n=>exact ⟨_,_,_,by simp only [Xjj,XxT,val];cases neg<;>rfl,h2⟩
 ·exact h.good
theorem Xq0 {vals:List Value} {objs:List XaY} {K:CK} (h:XzO vals objs K):Good (XmM vals objs) K:=by
 unfold XzO at h
 split at h
 ·exact ⟨_,_,_,rfl,h⟩
 ·split at h
  ·rename_i cs hcs
   obtain ⟨h1,bs,h2,h3⟩:=req.elim h
   exact ⟨_,_,_,by simp only [XmM,hcs];rw [if_pos (of_decide_eq_true h1)];simp only [h2],h3⟩
  ·exact h.elim
 ·exact h.elim
theorem Xq1 {vals:List Value} {objs:List XaY} {top:Nat} {K:CK} (h:XzZ vals objs top K):Good (XvN vals objs top) K:=by
 unfold XzZ at h
 split at h
 ·obtain ⟨cs',rfl,h⟩:=h;exact ⟨_,_,_,rfl,h⟩
 ·exact h.elim
theorem Xoy {sz bytes:Nat} {z:List Value} {vals:List Value} {objs:List XaY} {top:Nat} {K:CK} (h:XrX sz bytes z vals objs top K):Good (XnV sz bytes z vals objs top) K:=by
 unfold XrX at h
 split at h
 ·obtain ⟨h1,cs',rfl,h2⟩:=req.elim h
  exact ⟨_,_,_,by simp only [XnV];rw [if_pos (of_decide_eq_true h1)],h2⟩
 ·exact h.elim
theorem XmJ {bl bh:Bool} {vals:List Value} {objs:List XaY} {K:CK} (h:Xm3 bl bh vals objs K):Good (XiR bl bh vals objs) K:=by
 unfold Xm3 at h
 split at h
 ·obtain ⟨l,u,h1,h2⟩:=XlH.elim h
  exact ⟨_,_,_,by simp only [XiR,h1,val],h2⟩
 ·exact h.elim
theorem XmQ {sz:Nat} {bl bh:Bool} {vals:List Value} {objs:List XaY} {K:CK} (h:Xmt sz bl bh vals objs K):Good (Xhi sz bl bh vals objs) K:=by
 unfold Xmt at h
 split at h
 ·obtain ⟨l,u,h1,h2⟩:=XlH.elim h
  exact ⟨_,_,_,by simp only [Xhi,h1,val],h2⟩
 ·obtain ⟨h0,h⟩:=req.elim h
  obtain ⟨l,u,h1,h2⟩:=XlH.elim h
  exact ⟨_,_,_,by simp only [Xhi];rw [if_pos (Nat.eq_of_beq_eq_true h0)];simp only [h1,val],h2⟩
 ·exact h.elim
theorem XmS {n sz:Nat} {bl bh:Bool} {vals:List Value} {objs:List XaY} {K:CK} (h:Xna n sz bl bh vals objs K):Good (XgZ n sz bl bh vals objs) K:=by
 unfold Xna at h
 split at h
 ·split at h
  ·rename_i cs hcs
   obtain ⟨h0,h⟩:=req.elim h
   obtain ⟨l,u,h1,h2⟩:=XlH.elim h
   exact ⟨_,_,_,by simp only [XgZ,hcs];rw [if_pos (of_decide_eq_true h0)];simp only [h1],h2⟩
  ·exact h.elim
 ·exact h.elim
theorem Xnq {n sz:Nat} {vals:List Value} {objs:List XaY} {K:CK} (h:XoJ n sz vals objs K):Good (Xkc n sz vals objs) K:=by
 unfold XoJ at h
 split at h
 ·obtain ⟨h1,h2⟩:=req.elim h
  exact ⟨_,_,_,by simp only [Xkc,val];rw [if_pos (of_decide_eq_true h1)],h2⟩
 ·exact h.elim
theorem Xn2 {sz:Nat} {vals:List Value} {objs:List XaY} {K:CK} (h:Xob sz vals objs K):Good (Xj6 sz vals objs) K:=by
 unfold Xob at h
 split at h
 ·obtain ⟨h1,h2⟩:=req.elim h
  exact ⟨_,_,_,by simp only [Xj6,val];rw [if_pos (of_decide_eq_true h1)],h2⟩
 ·exact h.elim
theorem Xnx {n:Nat} {vals:List Value} {objs:List XaY} {K:CK} (h:Xom n vals objs K):Good (Xkh n vals objs) K:=by
 unfold Xom at h
 split at h
 ·obtain ⟨h1,h2⟩:=req.elim h
  obtain ⟨v,h3,h4⟩:=rd.elim h2
  exact ⟨_,_,_,by simp only [Xkh];rw [if_pos (of_decide_eq_true h1)];simp only [h3,val],h4⟩
 ·exact h.elim
theorem XnN {n sz:Nat} {vals:List Value} {objs:List XaY} {K:CK} (h:XoT n sz vals objs K):Good (Xkk n sz vals objs) K:=by
 unfold XoT at h
 split at h
 ·obtain ⟨h1,h2⟩:=req.elim h
  obtain ⟨_,h3⟩:=rdN.elim h2
  exact ⟨_,_,_,by simp only [Xkk,val];rw [if_pos (of_decide_eq_true h1)],h3⟩
 ·exact h.elim
theorem Xow {vals:List Value} {objs:List XaY} {K:CK} (h:Xt7 vals objs K):Good (Xl7 vals objs) K:=by
 unfold Xt7 at h
 split at h
 ·obtain ⟨h1,h2⟩:=req.elim h
  obtain ⟨v,h3,h4⟩:=rdS.elim h2
  exact ⟨_,_,_,by simp only [Xl7];rw [if_pos (of_decide_eq_true h1)];simp only [h3,val],h4⟩
 ·exact h.elim
theorem Xrc {vals:List Value} {objs:List XaY} {K:CK} (h:Xyt vals objs K):Good (Xsj vals objs) K:=by
 unfold Xyt at h
 split at h
 ·exact ⟨_,_,_,rfl,h⟩
 ·exact h.elim
theorem XoO {t:Nat} {vals:List Value} {objs:List XaY} {K:CK} (h:Xsn t vals objs K):Good (Xmb t vals objs) K:=by
 unfold Xsn at h
 split at h
 ·exact ⟨_,_,_,rfl,h⟩
 ·obtain ⟨h1,bs,h2,h3⟩:=req.elim h
  exact ⟨_,_,_,by simp only [Xmb];rw [if_pos (of_decide_eq_true h1)];simp only [h2],h3⟩
 ·exact h.elim
theorem Xqy {sz:Nat} {vals:List Value} {objs:List XaY} {K:CK} (h:XzM sz vals objs K):Good (XqL sz vals objs) K:=by
 unfold XzM at h
 split at h
 ·exact ⟨_,_,_,rfl,h⟩
 ·obtain ⟨h1,cs',rfl,h3⟩:=req.elim h
  exact ⟨_,_,_,by simp only [XqL];rw [if_pos (of_decide_eq_true h1)],h3⟩
 ·exact h.elim
theorem Xra {t sz bytes:Nat} {vals:List Value} {objs:List XaY} {top:Nat} {K:CK} (h:Xy5 t sz bytes vals objs top K):Good (XoA t sz bytes vals objs top) K:=by
 unfold Xy5 at h
 split at h
 ·obtain ⟨c,m,h1,h2,h3⟩:=XrL.elim h
  obtain ⟨h4,cs',n',rfl,rfl,h5⟩:=req.elim h3
  exact ⟨_,_,_,by simp only [XoA,h1,h2];rw [if_pos (of_decide_eq_true h4)],h5⟩
 ·obtain ⟨c,m,h1,h2,h3⟩:=XrL.elim h
  obtain ⟨h4,cs',n',rfl,rfl,h5⟩:=req.elim h3
  simp only [Bool.and_eq_true,decide_eq_true_eq] at h4
  exact ⟨_,_,_,by simp only [XoA,h1,h2];rw [if_pos ⟨h4.1.1.1,h4.1.1.2.1,h4.1.1.2.2.1,h4.1.1.2.2.2,h4.1.2,h4.2⟩],h5⟩
 ·obtain ⟨c,m,h1,h2,h3⟩:=XrL.elim h
  obtain ⟨h4,cs',n',rfl,rfl,h5⟩:=req.elim h3
  exact ⟨_,_,_,by simp only [XoA,h1,h2,bSl];rw [if_pos (of_decide_eq_true h4)],h5⟩
 ·obtain ⟨c,m,h1,h2,h3⟩:=XrL.elim h
  obtain ⟨h4,cs',n',rfl,rfl,h5⟩:=req.elim h3
  simp only [Bool.and_eq_true,decide_eq_true_eq] at h4
  exact ⟨_,_,_,by simp only [XoA,h1,h2,bSl];rw [if_pos ⟨h4.1.1.1,h4.1.1.2.1,h4.1.1.2.2.1,h4.1.1.2.2.2.1,h4.1.1.2.2.2.2,h4.1.2,h4.2⟩],h5⟩
 ·exact h.elim
theorem Xn5 {vals:List Value} {objs:List XaY} {K:CK} (h:XoH vals objs K):Good (Xjd vals objs) K:=by
 unfold XoH at h
 split at h
 ·rename_i s pos
  cases hb:decide (pos<s.size) with
  | true=>rw [hb] at h;exact ⟨_,_,_,by simp only [Xjd];rw [if_pos (of_decide_eq_true hb)],h⟩
  | false=>rw [hb] at h;exact ⟨_,_,_,by simp only [Xjd];rw [if_neg (of_decide_eq_false hb)],h⟩
 ·exact h.elim
theorem Xog {os:List (Nat×SK)} {z:Value} {ok:Bool} {vals:List Value} {objs:List XaY} {K:CK} (h:Xtp os z ok vals objs K):Good (XjC os z ok vals objs) K:=by
 unfold Xtp at h
 split at h
 ·obtain ⟨h1,h2⟩:=h.elim
  exact ⟨_,_,_,by simp only [XjC];rw [if_pos h1];cases ok<;>rfl,h2⟩
 ·obtain ⟨v,b,h1,h2⟩:=h
  exact ⟨_,_,_,by simp only [XjC,h1];cases ok<;>rfl,h2⟩
 ·exact h.elim
theorem XoF {os:List (Nat×SK)} {vals:List Value} {objs:List XaY} {K:CK} (h:XtO os vals objs K):Good (Xmc os vals objs) K:=by
 unfold XtO at h
 split at h
 ·obtain ⟨cs',h1,h2⟩:=h
  exact ⟨_,_,_,by simp only [Xmc,h1],h2⟩
 ·exact h.elim
theorem XoU {os:List (Nat×SK)} {vals:List Value} {objs:List XaY} {K:CK} (h:XtG os vals objs K):Good (Xk5 os vals objs) K:=by
 unfold XtG at h
 split at h
 ·obtain ⟨h1,h2⟩:=h.elim
  exact ⟨_,_,_,by simp only [Xk5];rw [if_pos h1];rfl,h2⟩
 ·obtain ⟨cs',h1,h2⟩:=h
  exact ⟨_,_,_,by simp only [Xk5,h1],h2⟩
 ·exact h.elim
theorem Xoi {vals:List Value} {objs:List XaY} {K:CK} (h:XuC vals objs K):Good (Xkn vals objs) K:=by
 unfold XuC at h
 split at h
 ·exact ⟨_,_,_,rfl,h⟩
 ·obtain ⟨n,h1,h2⟩:=h
  exact ⟨_,_,_,by simp only [Xkn,h1];rw [show 2*n/2=n by omega],h2⟩
 ·exact h.elim
theorem XyM.good {op:VOp} {vals:List Value} {objs:List XaY} {top:Nat} {K:CK} (h:XyM op vals objs top K):Good (core op vals objs top) K:=by
 cases op with
 | pick=>exact XoM h
 | load1=>exact Xn4 h
 | loadN=>exact XnD h
 | store=>exact XnM h
 | bin=>exact XqX h
 | isNil=>exact Xni h
 | b2s=>exact Xq0 h
 | s2b=>exact Xq1 h
 | mkSl=>exact Xoy h
 | sliceS=>exact XmJ h
 | sliceL=>exact XmQ h
 | sliceA=>exact XmS h
 | idxAA=>exact Xnq h
 | idxAL=>exact Xn2 h
 | idxV1=>exact Xnx h
 | idxVN=>exact XnN h
 | idxS=>exact Xow h
 | ixb=>exact Xrc h
 | app=>exact Xra h
 | ustr=>exact XoO h
 | clr=>exact Xqy h
 | build=>exact XnX h
 | buildSl=>exact XlN h
 | nextS=>exact Xn5 h
 | mget=>exact Xog h
 | mput=>exact XoF h
 | mdel=>exact XoU h
 | lenM=>exact Xoi h
 | _=>exact XxQ.good h
def XkD (h:Hp) (is:List Nat) (os:List (Option XaY)) (K:Hp→Prop):Prop:=
 match is,os with
 | i::is,some o::os=>Xmu h i o fun h'=>XkD h' is os K
 | i::is,none::os=>XoE h i fun h'=>XkD h' is os K
 | _,_=>K h
theorem Xlh:∀ (is:List Nat) (os:List (Option XaY)) (h:Hp) (K:Hp→Prop),XkD h is os K=K (Xfk h is os)
 | [],_,h,K=>by simp [XkD,Xfk]
 | i::is,[],h,K=>by simp [XkD,Xfk]
 | i::is,some o::os,h,K=>by rw [XkD,XgX,Xlh is os];simp [Xfk]
 | i::is,none::os,h,K=>by rw [XkD,XjU,Xlh is os];simp [Xfk]
def opK (op:VOp) (vals:List Value) (h:Hp) (top:Nat) (K:Option Value→Hp→Nat→Prop):Prop:=
 match XgF h (needs op vals) with
 | none=>False
 | some objs=>XyM op vals objs top fun v os fr=>XkD h (needs op vals) os fun h'=>match fr with
   | none=>K v h' top
   | some o=>Xmu h' top o fun h''=>K v h'' (top+1)
theorem opK.elim {op:VOp} {vals:List Value} {h:Hp} {top:Nat} {K:Option Value→Hp→Nat→Prop} (hk:opK op vals h top K):∃ v h' top',Xbx op vals h top=some (v,h',top')∧K v h' top':=by
 unfold opK at hk
 split at hk
 ·exact hk.elim
 ·rename_i objs hobjs
  obtain ⟨v,os,fr,hc,hk⟩:=hk.good
  rw [Xlh] at hk
  cases fr with
  | none=>exact ⟨v,_,_,by simp only [Xbx,hobjs,hc],hk⟩
  | some o=>simp only [XgX] at hk;exact ⟨v,_,_,by simp only [Xbx,hobjs,hc],hk⟩
def Xne (n:Nat) (e:Env) (d:Option Nat) (v:Value) (K:Env→Prop):Prop:=
 match d with
 | some i=>cond (Nat.blt i n) (Xmu e i v K) (K e)
 | none=>K e
theorem Xgl (n:Nat) (e:Env) (d:Option Nat) (v:Value) (K:Env→Prop):Xne n e d v K=K (Xk7 n e d v):=by
 cases d with
 | none=>rfl
 | some i=>simp only [Xne,Xk7];cases Nat.blt i n<;>simp [XgX]
def Xxj (i:Nat) (vs:List Value) (K:Env→Prop):Prop:=
 match vs with
 | []=>K []
 | v::vs=>Xxj (i+1) vs fun e=>K ((i,v)::e)
theorem Xp1:∀ (vs:List Value) (i:Nat) (K:Env→Prop),Xxj i vs K=K (Xkg i vs)
 | [],_,_=>rfl
 | v::vs,i,K=>by rw [Xxj,Xp1 vs];rfl
def Xlp (F:Fns) (f:Nat) (args:List Value) (K:Xa5→Prop):Prop:=
 match F f with
 | some ⟨nt,body,_⟩=>cond (Nat.ble args.length nt) (Xxj 0 args fun e=>K ⟨f,nt,e,[.code body],[],false,none⟩) False
 | none=>False
theorem Xlp.elim {F:Fns} {f:Nat} {args:List Value} {K:Xa5→Prop} (h:Xlp F f args K):∃ c,Xg3 F f args=some c∧K c:=by
 unfold Xlp at h
 split at h
 ·rename_i nt body rs hf
  cases hb:Nat.ble args.length nt with
  | false=>rw [hb] at h;exact h.elim
  | true=>
    rw [hb,cond_true,Xp1] at h
    exact ⟨_,by simp only [Xg3,hf];rw [if_pos (Nat.le_of_ble_eq_true hb)],h⟩
 ·exact h.elim
def XmU (u:Xa5) (v:Value) (K:Xa5→Prop):Prop:=
 match u with
 | ⟨fn,nt,env,.inReg (⟨dst,_,_⟩::rest)::k,defers,ret,round⟩=>Xne nt env dst v fun e=>K ⟨fn,nt,e,.inReg rest::k,defers,ret,round⟩
 | ⟨fn,nt,env,.inRangeFunc l::k,defers,ret,round⟩=>K ⟨fn,nt,env,.endRangeFunc l::k,defers,ret,round⟩
 | _=>False
theorem XmU.elim {u:Xa5} {v:Value} {K:Xa5→Prop} (h:XmU u v K):∃ u',finish u v=some u'∧K u':=by
 unfold XmU at h
 split at h
 ·rw [Xgl] at h;exact ⟨_,rfl,h⟩
 ·exact ⟨_,rfl,h⟩
 ·exact h.elim
def Xto (e:Env) (h:Hp) (rs:List XuX) (K:List Value→Prop):Prop:=
 match rs with
 | []=>K []
 | .tmp t::rs=>match XaI e t with
   | some v=>Xto e h rs fun vs=>K (v::vs)
   | none=>False
 | .cell t ks agg::rs=>match XaI e t with
   | some (.pointer (some ⟨b,o,none⟩))=>match XaI h b with
     | some ob=>match ob.cs with
       | some cs=>cond agg (req (decide (o+ks.length≤cs.length)) (rdN cs o ks.length fun l=>Xto e h rs fun vs=>K (.agg ⟨l⟩::vs))) (rd cs o fun v=>Xto e h rs fun vs=>K (v::vs))
       | none=>False
     | none=>False
   | _=>False
theorem Xto.elim {e:Env} {h:Hp}:∀ {rs:List XuX} {K:List Value→Prop},Xto e h rs K→∃ vs,XlB e h rs=some vs∧K vs
 | [],K,hk=>⟨[],rfl,hk⟩
 | .tmp t::rs,K,hk=>by
   simp only [Xto] at hk
   split at hk
   ·rename_i v hv
    obtain ⟨vs,h1,h2⟩:=Xto.elim hk
    exact ⟨v::vs,by simp only [XlB,resV,hv,h1],h2⟩
   ·exact hk.elim
 | .cell t ks agg::rs,K,hk=>by
   simp only [Xto] at hk
   split at hk
   ·rename_i b o hp
    split at hk
    ·rename_i ob hob
     split at hk
     ·rename_i cs hcs
      cases agg with
      | true=>
        obtain ⟨h1,h2⟩:=req.elim hk
        obtain ⟨_,h3⟩:=rdN.elim h2
        obtain ⟨vs,h4,h5⟩:=Xto.elim h3
        exact ⟨_,by simp only [XlB,resV,hp,hob,hcs,↓reduceIte,if_pos (of_decide_eq_true h1),h4],h5⟩
      | false=>
        obtain ⟨v,h1,h2⟩:=rd.elim hk
        obtain ⟨vs,h4,h5⟩:=Xto.elim h2
        exact ⟨_,by simp only [XlB,resV,hp,hob,hcs,Bool.false_eq_true,↓reduceIte,h1,h4],h5⟩
     ·exact hk.elim
    ·exact hk.elim
   ·exact hk.elim
def XsJ (o:XaY) (K:XaY→Prop):Prop:=
 match o with
 | .cells cs=>K (.cells cs)
 | .row own cs=>K (.row own cs)
 | .ty t cs=>K (.ty t cs)
 | .siter s p=>K (.siter s p)
 | .mp cs=>K (.mp cs)
 | .loop l=>K (.loop l)
 | .marks=>K .marks
theorem Xnr (o:XaY) (K:XaY→Prop):XsJ o K=K o:=by cases o<;>rfl
def Xpi (h:Hp) (K:Hp→Prop):Prop:=
 match h with
 | []=>K []
 | (i,o)::l=>XsJ o fun o=>Xpi l fun l=>K ((i,o)::l)
theorem Xlk:∀ (h:Hp) (K:Hp→Prop),Xpi h K=K h
 | [],K=>rfl
 | (i,o)::l,K=>by rw [Xpi,Xnr,Xlk l]
structure Xfx (s:XcE) (vals:List Value) (h:Hp) (top:Nat) (K:Value→Hp→Nat→Prop):Prop where
 out:match XgC s vals h top with
 | some (v,h',top')=>Xgf v fun v=>Xpi h' fun h'=>K v h' top'
 | none=>False
theorem Xfx.elim {s:XcE} {vals:List Value} {h:Hp} {top:Nat} {K:Value→Hp→Nat→Prop} (hk:Xfx s vals h top K):∃ v h' top',XgC s vals h top=some (v,h',top')∧K v h' top':=by
 replace hk:=hk.out
 split at hk
 ·rw [Xgd,Xlk] at hk;exact ⟨_,_,_,by assumption,hk⟩
 ·exact hk.elim
def Xhl (F:Fns) (S:Xjk) (o:XbY) (rest:List XbY) (k:List XeT) (fn nt:Nat) (env:Env) (defers:List Nat) (round:Option Nat) (up:List Xa5) (h:Hp) (top:Nat) (K:VM→Prop):Prop:=
 match o with
 | ⟨dst,op,g⟩=>match Xjz env op.ops with
   | none=>False
   | some vals=>match op with
     | .callF f _=>match S f with
       | some s=>Xfx s vals h top fun v h' top'=>Xne nt env dst v fun e=>K ⟨⟨fn,nt,e,.inReg rest::k,defers,false,round⟩,up,h',top'⟩
       | none=>Xlp F f vals fun c=>K ⟨c,⟨fn,nt,env,.inReg (⟨dst,op,g⟩::rest)::k,defers,false,round⟩::up,h,top⟩
     | .callV _ _=>match vals with
       | .func (.func f) ⟨first⟩ ⟨caps⟩::args=>match S f with
         | some s=>Xfx s (first++args++caps) h top fun v h' top'=>Xne nt env dst v fun e=>K ⟨⟨fn,nt,e,.inReg rest::k,defers,false,round⟩,up,h',top'⟩
         | none=>Xlp F f (first++args++caps) fun c=>K ⟨c,⟨fn,nt,env,.inReg (⟨dst,op,g⟩::rest)::k,defers,false,round⟩::up,h,top⟩
       | .func (.yield l) ⟨[]⟩ ⟨[]⟩::args=>match XjP l args h with
         | some c=>K ⟨c,⟨fn,nt,env,.inReg (⟨dst,op,g⟩::rest)::k,defers,false,round⟩::up,h,top⟩
         | none=>False
       | _=>False
     | op=>opK op vals h top fun v h' top'=>match v with
       | some v=>Xne nt env dst v fun e=>K ⟨⟨fn,nt,e,.inReg rest::k,defers,false,round⟩,up,h',top'⟩
       | none=>Xne nt env dst Xf9 fun e=>K ⟨⟨fn,nt,e,.inReg rest::k,defers,false,round⟩,up,h',top'⟩
theorem Xhl.elim {F:Fns} {S:Xjk} {o:XbY} {rest:List XbY} {k:List XeT} {fn nt:Nat} {env:Env} {todo:List XeT} {defers:List Nat} {round:Option Nat} {up:List Xa5} {h:Hp} {top:Nat} {K:VM→Prop}
 (hk:Xhl F S o rest k fn nt env defers round up h top K):∃ vm',Xny F S o rest k ⟨fn,nt,env,todo,defers,false,round⟩ up h top=some vm'∧K vm':=by
 obtain ⟨dst,op,g⟩:=o
 unfold Xhl at hk
 unfold Xny
 simp only at hk ⊢
 split at hk
 ·exact hk.elim
 ·rename_i vals hv
  simp only [hv]
  split at hk
  ·rename_i f xs
   split at hk
   ·rename_i s hs
    obtain ⟨v,h',top',h1,h2⟩:=hk.elim
    rw [Xgl] at h2
    exact ⟨_,by simp only [hs,h1],h2⟩
   ·rename_i hs
    obtain ⟨c,h1,h2⟩:=hk.elim
    exact ⟨_,by simp only [hs,h1],h2⟩
  ·split at hk
   ·split at hk
    ·rename_i s hs
     obtain ⟨v,h',top',h1,h2⟩:=hk.elim
     rw [Xgl] at h2
     exact ⟨_,by simp only [hs,h1],h2⟩
    ·rename_i hs
     obtain ⟨c,h1,h2⟩:=hk.elim
     exact ⟨_,by simp only [hs,h1],h2⟩
   ·split at hk
    ·rename_i c hc
     exact ⟨_,by simp only [hc],hk⟩
    ·exact hk.elim
   ·exact hk.elim
  ·rename_i hne1 hne2
   obtain ⟨v,h',top',h1,h2⟩:=hk.elim
   refine ⟨⟨⟨fn,nt,Xk7 nt env dst (v.getD Xf9),.inReg rest::k,defers,false,round⟩,up,h',top'⟩,?_,?_⟩
   ·split
    ·exact absurd rfl (hne1 _ _)
    ·exact absurd rfl (hne2 _ _)
    ·simp only [h1]
   ·cases v with
    | none=>simp only [Xgl] at h2;exact h2
    | some v=>simp only [Xgl] at h2;exact h2
def Xk0 (e:Env) (d:Nat) (x:Bool) (K:Env→Prop):Prop:=
 match e with
 | []=>K []
 | (i,v)::l=>cond (Nat.beq i d) (K ((i,.bool x)::l)) (Xk0 l d x fun l'=>K ((i,v)::l'))
theorem Xjy:∀ {e:Env} {d:Nat} {x:Bool} {K:Env→Prop},XaI e d=some (.bool x)→Xk0 e d x K=K e
 | [],d,x,K,h=>rfl
 | (i,v)::l,d,x,K,h=>by
   simp only [XaI] at h
   simp only [Xk0]
   cases hb:Nat.beq i d with
   | true=>rw [hb,cond_true,Option.some.injEq] at h;subst h;rfl
   | false=>rw [hb,cond_false] at h;simp only [cond_false];rw [Xjy h]
def Xgi (l:Nat) (jump:Option VC) (up:List Xa5) (h:Hp) (top:Nat) (K:VM→Prop):Prop:=
 match Xgh l jump up h top with
 | some ⟨u,us,h',top'⟩=>K ⟨u,us,h',top'⟩
 | none=>False
theorem Xgi.elim {l:Nat} {jump:Option VC} {up:List Xa5} {h:Hp} {top:Nat} {K:VM→Prop} (hk:Xgi l jump up h top K):∃ vm',Xgh l jump up h top=some vm'∧K vm':=by
 unfold Xgi at hk
 split at hk
 ·exact ⟨_,by assumption,hk⟩
 ·exact hk.elim
def Xi9 (l:List Nat) (K:List Nat→Prop):Prop:=
 match l with
 | []=>K []
 | n::l=>Xi9 l (fun l'=>K (n::l'))
theorem Xhh:∀ (l:List Nat) (K:List Nat→Prop),Xi9 l K=K l
 | [],_=>rfl
 | v::l,K=>by rw [Xi9,Xhh l]
def XtL (x:PR) (K:PR→Prop):Prop:=
 match x with
 | .no=>K .no
 | .nil s=>K (.nil s)
 | .hit b=>K (.hit b)
theorem Xqz (x:PR) (K:PR→Prop):XtL x K=K x:=by cases x<;>rfl
def apK {α:Type} (l:List α) (x:α) (K:List α→Prop):Prop:=
 match l with
 | []=>K [x]
 | y::l=>apK l x fun l=>K (y::l)
theorem Xyb {α:Type} (x:α):∀ (l:List α) (K:List α→Prop),apK l x K=K (l++[x])
 | [],_=>rfl
 | y::l,K=>by rw [apK,Xyb x l];rfl
def XvV (h:Hp) (v:Value) (ps:List Path) (bs:List PR) (K:List PR→Prop):Prop:=
 match ps with
 | []=>K bs
 | p::ps=>XtL (Xkj h v bs p) fun x=>apK bs x fun bs=>XvV h v ps bs K
theorem XpS (h:Hp) (v:Value):∀ (ps:List Path) (bs:List PR) (K:List PR→Prop),XvV h v ps bs K=K (Xer h v ps bs)
 | [],_,_=>rfl
 | p::ps,bs,K=>by rw [XvV,Xqz,Xyb,XpS];rfl
def XC6 (h:Hp) (m:Md) (v:Value) (K:List Wd→Prop):Prop:=
 match m with
 | .tr ps=>XvV h v ps [] fun bs=>K (Xl6 ps bs)
 | m=>K (Xkv h m v)
theorem Xu3 (h:Hp) (m:Md) (v:Value) (K:List Wd→Prop):XC6 h m v K=K (Xkv h m v):=by
 cases m<;>first|rfl|exact XpS ..
def Xum (h:Hp) (ms:List Md) (vs:List Value) (K:List Wd→Prop):Prop:=
 match ms,vs with
 | m::ms,v::vs=>XC6 h m v fun l=>Xum h ms vs fun l2=>K (l++l2)
 | _,_=>K []
theorem Xms (h:Hp):∀ (ms:List Md) (vs:List Value) (K:List Wd→Prop),Xum h ms vs K=K (XhE h ms vs)
 | m::ms,v::vs,K=>by rw [Xum,Xu3,Xms];rfl
 | [],[],_=>rfl
 | [],_::_,_=>rfl
 | _::_,[],_=>rfl
def XhJ (S:Xjk) (nt:Nat) (o:XbY) (e:Env) (h:Hp) (m:Nat) (K:Env→Hp→Nat→List Nat→List Nat→Prop):Prop:=
 match o with
 | ⟨dst,op,_⟩=>match Xjz e op.ops with
   | none=>False
   | some vals=>match op with
     | .callF f _=>match S f with
       | some s=>Xfx s vals h m fun v h' m'=>Xne nt e dst v fun e=>Xum h s.modes vals fun ws=>Xi9 (Xct ws) fun r=>Xi9 (Xjc ws) fun w=>K e h' m' r w
       | none=>False
     | .callV _ _=>match vals with
       | .func (.func f) ⟨first⟩ ⟨caps⟩::args=>match S f with
         | some s=>Xfx s (first++args++caps) h m fun v h' m'=>Xne nt e dst v fun e=>Xum h s.modes (first++args++caps) fun ws=>Xi9 (Xct ws) fun r=>Xi9 (Xjc ws) fun w=>K e h' m' r w
         | none=>False
       | _=>False
     | op=>opK op vals h m fun v h' m'=>match v with
       | some v=>Xne nt e dst v fun e=>K e h' m' (needs op vals) (cond (Xt5 op) (needs op vals) [])
       | none=>Xne nt e dst Xf9 fun e=>K e h' m' (needs op vals) (cond (Xt5 op) (needs op vals) [])
theorem XhJ.elim {S:Xjk} {nt:Nat} {o:XbY} {e:Env} {h:Hp} {m:Nat} {K:Env→Hp→Nat→List Nat→List Nat→Prop} (hk:XhJ S nt o e h m K) (hw:XcN e o.g=some true) :
 ∃ e' h' m' r w,stepD S nt o e h m=some (e',h',m',r,w)∧K e' h' m' r w:=by
 obtain ⟨dst,op,g⟩:=o
 unfold XhJ at hk
 simp only at hk hw
 unfold stepD
 simp only [hw]
 split at hk
 ·exact hk.elim
 ·rename_i vals hv
  simp only [hv]
  split at hk
  ·split at hk
   ·rename_i s hs
    obtain ⟨v,h',m',h1,h2⟩:=hk.elim
    rw [Xgl,Xms,Xhh,Xhh] at h2
    exact ⟨_,_,_,_,_,by simp only [hs,h1],h2⟩
   ·exact hk.elim
  ·split at hk
   ·split at hk
    ·rename_i s hs
     obtain ⟨v,h',m',h1,h2⟩:=hk.elim
     rw [Xgl,Xms,Xhh,Xhh] at h2
     exact ⟨_,_,_,_,_,by simp only [hs,h1],h2⟩
    ·exact hk.elim
   ·exact hk.elim
  ·rename_i hne1 hne2
   obtain ⟨v,h',m',h1,h2⟩:=hk.elim
   refine ⟨Xk7 nt e dst (v.getD Xf9),h',m',needs op vals,cond (Xt5 op) (needs op vals) [],?_,?_⟩
   ·split
    ·exact absurd rfl (hne1 _ _)
    ·exact absurd rfl (hne2 _ _)
    ·simp only [h1]
   ·cases v with
    | none=>simp only [Xgl] at h2;exact h2
    | some v=>simp only [Xgl] at h2;exact h2
def Xpy (S:Xjk) (nt:Nat) (o:XbY) (e:Env) (h:Hp) (m:Nat) (K:Env→Hp→Nat→List Nat→List Nat→Prop):Prop:=
 match o with
 | ⟨dst,op,none⟩=>XhJ S nt ⟨dst,op,none⟩ e h m K
 | ⟨dst,op,some (d,x)⟩=>match XaI e d with
   | some (.bool b)=>cond x
      (br b (Xk0 e d true fun e=>XhJ S nt ⟨dst,op,some (d,x)⟩ e h m K) (Xk0 e d false fun e=>Xne nt e dst Xf9 fun e=>K e h m [] []))
      (br b (Xk0 e d true fun e=>Xne nt e dst Xf9 fun e=>K e h m [] []) (Xk0 e d false fun e=>XhJ S nt ⟨dst,op,some (d,x)⟩ e h m K))
   | some (.tuple ⟨[]⟩)=>Xne nt e dst Xf9 fun e=>K e h m [] []
   | _=>False
def XqJ (S:Xjk) (nt:Nat) (os:List XbY) (e:Env) (h:Hp) (m:Nat) (K:List Fp→Env→Hp→Nat→Prop):Prop:=
 match os with
 | []=>K [] e h m
 | o::os=>Xpy S nt o e h m fun e1 h1 m1 r w=>XqJ S nt os e1 h1 (m1+1) fun fps e h m'=>K ((r,w++List.range' m (m1 - m))::fps) e h m'
theorem br.cases {b:Bool} {p q:Prop} (h:br b p q):(b=true∧p)∨(b=false∧q):=by cases b;exact .inr ⟨rfl,h⟩;exact .inl ⟨rfl,h⟩
theorem Xpy.elim {S:Xjk} {nt:Nat} {o:XbY} {e:Env} {h:Hp} {m:Nat} {K:Env→Hp→Nat→List Nat→List Nat→Prop} (hk:Xpy S nt o e h m K) :
 ∃ e' h' m' r w,stepD S nt o e h m=some (e',h',m',r,w)∧K e' h' m' r w:=by
 obtain ⟨dst,op,g⟩:=o
 cases g with
 | none=>exact XhJ.elim (o:=⟨dst,op,none⟩) hk rfl
 | some p=>
   obtain ⟨d,x⟩:=p
   simp only [Xpy] at hk
   have skip:XcN e (some (d,x))=some false→(Xne nt e dst Xf9 fun e=>K e h m [] [])→∃ e' h' m' r w,stepD S nt ⟨dst,op,some (d,x)⟩ e h m=some (e',h',m',r,w)∧K e' h' m' r w:=fun hw hk=>by
    rw [Xgl] at hk
    exact ⟨_,_,_,_,_,by simp only [stepD,hw],hk⟩
   split at hk
   ·rename_i b hb
    cases x with
    | true=>
      rw [cond_true] at hk
      rcases hk.cases with ⟨rfl,hk⟩|⟨rfl,hk⟩<;>rw [Xjy hb] at hk
      ·exact XhJ.elim (show XhJ S nt ⟨dst,op,some (d,true)⟩ e h m K from hk) (by simp [XcN,hb])
      ·exact skip (by simp [XcN,hb]) hk
    | false=>
      rw [cond_false] at hk
      rcases hk.cases with ⟨rfl,hk⟩|⟨rfl,hk⟩<;>rw [Xjy hb] at hk
      ·exact skip (by simp [XcN,hb]) hk
      ·exact XhJ.elim (show XhJ S nt ⟨dst,op,some (d,false)⟩ e h m K from hk) (by simp [XcN,hb])
   ·rename_i hb
    exact skip (by simp [XcN,hb]) hk
   ·exact hk.elim
theorem XqJ.elim {S:Xjk} {nt:Nat}:∀ {os:List XbY} {e:Env} {h:Hp} {m:Nat} {K:List Fp→Env→Hp→Nat→Prop},XqJ S nt os e h m K→∃ fps e' h' m',XxW S nt os e h m=some (fps,e',h',m')∧K fps e' h' m'
 | [],e,h,m,K,hk=>⟨_,_,_,_,rfl,hk⟩
 | o::os,e,h,m,K,hk=>by
   simp only [XqJ] at hk
   obtain ⟨e1,h1,m1,r,w,g1,g2⟩:=hk.elim
   obtain ⟨fps,e',h',m',k1,k2⟩:=XqJ.elim g2
   exact ⟨_,_,_,_,by simp only [XxW,g1,k1],k2⟩
def Xry (F:Fns) (S:Xjk) (f:Nat) (lp:Bool) (L:VM→Prop) (E:Value→Hp→Nat→Prop) (K:VM→Prop):VM→Prop
 | ⟨⟨fn,nt,env,todo,defers,ret,round⟩,up,h,top⟩=>
   match ret with
   | true=>match defers with
     | r::ds=>match XaI h r with
       | some .marks=>XoE h r fun h'=>K ⟨⟨fn,nt,env,todo,ds,true,round⟩,up,h',top⟩
       | _=>False
     | []=>match F fn with
       | some ⟨_,_,rs⟩=>Xto env h rs fun vs=>match up with
         | u::us=>Xgf (Xx2 vs) fun v=>XmU u v fun u'=>K ⟨u',us,h,top⟩
         | []=>cond (Nat.beq fn f) (Xgf (Xx2 vs) fun v=>E v h top) False
       | none=>False
   | false=>match todo with
     | []=>match round with
       | none=>K ⟨⟨fn,nt,env,[],defers,true,none⟩,up,h,top⟩
       | some l=>Xgi l none up h top K
     | .code .ret::k=>match round with
       | none=>K ⟨⟨fn,nt,env,.code .ret::k,defers,true,none⟩,up,h,top⟩
       | some l=>Xgi l (some .ret) up h top K
     | .code .skip::k=>K ⟨⟨fn,nt,env,k,defers,false,round⟩,up,h,top⟩
     | .inScope::k=>K ⟨⟨fn,nt,env,k,defers,false,round⟩,up,h,top⟩
     | .code (.scope b)::k=>K ⟨⟨fn,nt,env,.code b::.inScope::k,defers,false,round⟩,up,h,top⟩
     | .inBlock _::k=>K ⟨⟨fn,nt,env,k,defers,false,round⟩,up,h,top⟩
     | .code (.seq a b)::k=>K ⟨⟨fn,nt,env,.code a::.code b::k,defers,false,round⟩,up,h,top⟩
     | .code (.cond c a b)::k=>match Xj8 env c with
       | some (.bool x)=>br x (K ⟨⟨fn,nt,env,.code a::k,defers,false,round⟩,up,h,top⟩) (K ⟨⟨fn,nt,env,.code b::k,defers,false,round⟩,up,h,top⟩)
       | _=>False
     | .code (.block id b)::k=>K ⟨⟨fn,nt,env,.code b::.inBlock id::k,defers,false,round⟩,up,h,top⟩
     | .code (.loop b)::k=>cond lp (L ⟨⟨fn,nt,env,.code b::.inLoop b::k,defers,false,round⟩,up,h,top⟩) (K ⟨⟨fn,nt,env,.code b::.inLoop b::k,defers,false,round⟩,up,h,top⟩)
     | .inLoop b::k=>cond lp (L ⟨⟨fn,nt,env,.code b::.inLoop b::k,defers,false,round⟩,up,h,top⟩) (K ⟨⟨fn,nt,env,.code b::.inLoop b::k,defers,false,round⟩,up,h,top⟩)
     | .code (.exit id)::k=>match exitTo id k with
       | some k'=>K ⟨⟨fn,nt,env,k',defers,false,round⟩,up,h,top⟩
       | none=>match round with
         | none=>False
         | some l=>Xgi l (some (.exit id)) up h top K
     | .code (.reg ops)::k=>K ⟨⟨fn,nt,env,.inReg ops::k,defers,false,round⟩,up,h,top⟩
     | .code .stuck::_=>False
     | .code (.regD ops ord post)::k=>XqJ S nt ops env h top fun fps e h m=>req (Xj9 fps ord) (K ⟨⟨fn,nt,e,.inReg post::k,defers,false,round⟩,up,h,m⟩)
     | .inReg []::k=>K ⟨⟨fn,nt,env,k,defers,false,round⟩,up,h,top⟩
     | .inReg (⟨dst,op,none⟩::rest)::k=>Xhl F S ⟨dst,op,none⟩ rest k fn nt env defers round up h top K
     | .inReg (⟨dst,op,some (d,w)⟩::rest)::k=>match XaI env d with
       | some (.bool b)=>cond w
          (br b (Xk0 env d true fun env=>Xhl F S ⟨dst,op,some (d,w)⟩ rest k fn nt env defers round up h top K) (Xk0 env d false fun env=>Xne nt env dst Xf9 fun e=>K ⟨⟨fn,nt,e,.inReg rest::k,defers,false,round⟩,up,h,top⟩))
          (br b (Xk0 env d true fun env=>Xne nt env dst Xf9 fun e=>K ⟨⟨fn,nt,e,.inReg rest::k,defers,false,round⟩,up,h,top⟩) (Xk0 env d false fun env=>Xhl F S ⟨dst,op,some (d,w)⟩ rest k fn nt env defers round up h top K))
       | some (.tuple ⟨[]⟩)=>Xne nt env dst Xf9 fun e=>K ⟨⟨fn,nt,e,.inReg rest::k,defers,false,round⟩,up,h,top⟩
       | _=>False
     | .code (.rangeF f ps asg body)::k=>match Xj8 env f,round with
       | some (.func (.func g) ⟨first⟩ ⟨caps⟩),none=>
         Xlp F g (first++[.func (.yield (top+1)) #[] #[]]++caps) fun c=>Xmu h top .marks fun h1=>Xmu h1 (top+1) (.loop ⟨.ready,none,fn,nt,env,ps,asg,body,top⟩) fun h2=>
          K ⟨c,⟨fn,nt,env,.inRangeFunc (top+1)::k,top::defers,false,none⟩::up,h2,top+2⟩
       | some (.func (.func g) ⟨first⟩ ⟨caps⟩),some l0=>match XaI h l0 with
         | some (.loop r0)=>Xlp F g (first++[.func (.yield top) #[] #[]]++caps) fun c=>Xmu h top (.loop ⟨.ready,none,fn,nt,env,ps,asg,body,r0.defers⟩) fun h2=>
            K ⟨c,⟨fn,nt,env,.inRangeFunc top::k,defers,false,some l0⟩::up,h2,top+1⟩
         | _=>False
       | _,_=>False
     | .inRangeFunc _::_=>False
     | .endRangeFunc l::k=>match XaI h l with
       | some (.loop ⟨st,pend,fn',nt',env',ps,asg,body,ds⟩)=>match st with
         | .busy=>False
         | _=>Xmu h l (.loop ⟨.exhausted,pend,fn',nt',env',ps,asg,body,ds⟩) fun h'=>match pend with
           | some c=>K ⟨⟨fn,nt,env,.code c::k,defers,false,round⟩,up,h',top⟩
           | none=>K ⟨⟨fn,nt,env,k,defers,false,round⟩,up,h',top⟩
       | _=>False
     | .beginRound::k=>match round with
       | some l=>match XaI h l with
         | some (.loop ⟨st,pend,fn',nt',env',ps,asg,body,ds⟩)=>match st with
           | .ready=>Xmu h l (.loop ⟨.busy,pend,fn',nt',env',ps,asg,body,ds⟩) fun h'=>K ⟨⟨fn,nt,env,k,defers,false,some l⟩,up,h',top⟩
           | _=>False
         | _=>False
       | none=>False
section
variable {P:Program} {F:Fns} {S:Xjk}
theorem XrQ (hF:Xie P F) (hS:XaB P S) {f base:Nat} {lp:Bool} {R:Value→Hp→Nat→Prop} {K:VM→Prop} (hK:∀ vm,K vm→XaQ P f base vm R) {vm:VM}
 (h:Xry F S f lp (fun vm=>XaQ P f base vm R) R K vm):XaQ P f base vm R:=by
 obtain ⟨⟨fn,nt,env,todo,defers,ret,round⟩,up,H,top⟩:=vm
 unfold Xry at h
 simp only at h
 have go:∀ vm',Xcf F S ⟨⟨fn,nt,env,todo,defers,ret,round⟩,up,H,top⟩=some vm'→K vm'→XaQ P f base ⟨⟨fn,nt,env,todo,defers,ret,round⟩,up,H,top⟩ R:=
  fun vm' h1 h2=>XaQ.next hF hS h1 (hK _ h2)
 split at h
 ·split at h
  ·split at h
   ·rename_i hm
    rw [XjU] at h
    exact go _ (by simp only [Xcf,hm]) h
   ·exact h.elim
  ·split at h
   ·rename_i nt' b' rs hf
    obtain ⟨vs,h1,h2⟩:=h.elim
    split at h2
    ·rw [Xgd] at h2
     obtain ⟨u',h3,h4⟩:=h2.elim
     exact go _ (by simp only [Xcf,hf,h1,h3]) h4
    ·cases hb:Nat.beq fn f with
     | false=>rw [hb] at h2;exact h2.elim
     | true=>
       rw [hb,cond_true,Xgd] at h2
       have:=Nat.eq_of_beq_eq_true hb
       subst this
       exact XaQ.stop hF hf h1 h2
   ·exact h.elim
 ·split at h
  ·split at h
   ·exact go _ (by simp only [Xcf]) h
   ·obtain ⟨vm',h1,h2⟩:=h.elim
    exact go _ (by simp only [Xcf,h1]) h2
  ·split at h
   ·exact go _ (by simp only [Xcf]) h
   ·obtain ⟨vm',h1,h2⟩:=h.elim
    exact go _ (by simp only [Xcf,h1]) h2
  ·exact go _ (by simp only [Xcf]) h
  ·exact go _ (by simp only [Xcf]) h
  ·exact go _ (by simp only [Xcf]) h
  ·exact go _ (by simp only [Xcf]) h
  ·exact go _ (by simp only [Xcf]) h
  ·split at h
   ·rename_i x hx
    rcases h.cases with ⟨rfl,h⟩|⟨rfl,h⟩
    ·exact go _ (by simp only [Xcf,hx];rfl) h
    ·exact go _ (by simp only [Xcf,hx];rfl) h
   ·exact h.elim
  ·exact go _ (by simp only [Xcf]) h
  ·cases lp
   ·exact go _ (by simp only [Xcf]) h
   ·exact XaQ.next hF hS (vm':=_) (by simp only [Xcf]) h
  ·cases lp
   ·exact go _ (by simp only [Xcf]) h
   ·exact XaQ.next hF hS (vm':=_) (by simp only [Xcf]) h
  ·split at h
   ·rename_i k' hk'
    exact go _ (by simp only [Xcf,hk']) h
   ·rename_i hk'
    split at h
    ·exact h.elim
    ·obtain ⟨vm',h1,h2⟩:=h.elim
     exact go _ (by simp only [Xcf,hk',h1]) h2
  ·exact go _ (by simp only [Xcf]) h
  ·exact h.elim
  ·obtain ⟨fps,e',h',m',g1,g2⟩:=h.elim
   obtain ⟨g3,g4⟩:=g2.elim
   exact go _ (by simp only [Xcf,g1,g3]) g4
  ·exact go _ (by simp only [Xcf]) h
  ·obtain ⟨vm',h1,h2⟩:=Xhl.elim (todo:=_) h
   exact go _ (by simp only [Xcf,XcN];exact h1) h2
  ·split at h
   ·rename_i b hb
    rename_i w _ _ _
    cases w
    ·rcases h.cases with ⟨rfl,h'⟩|⟨rfl,h'⟩<;>rw [Xjy hb] at h'
     ·rw [Xgl] at h'
      replace h:=h'
      exact go _ (by simp only [Xcf,XcN,hb];rfl) h
     ·obtain ⟨vm',h1,h2⟩:=Xhl.elim (todo:=_) h'
      exact go _ (by simp only [Xcf,XcN,hb];exact h1) h2
    ·rcases h.cases with ⟨rfl,h'⟩|⟨rfl,h'⟩<;>rw [Xjy hb] at h'
     ·obtain ⟨vm',h1,h2⟩:=Xhl.elim (todo:=_) h'
      exact go _ (by simp only [Xcf,XcN,hb];exact h1) h2
     ·rw [Xgl] at h'
      replace h:=h'
      exact go _ (by simp only [Xcf,XcN,hb];rfl) h
   ·rename_i hb
    rw [Xgl] at h
    exact go _ (by simp only [Xcf,XcN,hb]) h
   ·exact h.elim
  ·split at h
   ·rename_i hfv
    obtain ⟨c,h1,h2⟩:=h.elim
    rw [XgX,XgX] at h2
    exact go _ (by simp only [Xcf,hfv,h1]) h2
   ·rename_i hfv
    split at h
    ·rename_i r0 hr0
     obtain ⟨c,h1,h2⟩:=h.elim
     rw [XgX] at h2
     exact go _ (by simp only [Xcf,hfv,hr0,h1]) h2
    ·exact h.elim
   ·exact h.elim
  ·exact h.elim
  ·split at h
   ·rename_i hl
    split at h
    ·exact h.elim
    ·rename_i hb
     rw [XgX] at h
     split at h
     ·rename_i st _ _ _ _ _ _ _ _ _ _
      exact go _ (by simp only [Xcf,hl];cases st<;>first|exact absurd rfl hb|rfl) h
     ·rename_i st _ _ _ _ _ _ _ _ _
      exact go _ (by simp only [Xcf,hl];cases st<;>first|exact absurd rfl hb|rfl) h
   ·exact h.elim
  ·split at h
   ·split at h
    ·rename_i hl
     split at h
     ·rw [XgX] at h
      exact go _ (by simp only [Xcf,hl]) h
     ·exact h.elim
    ·exact h.elim
   ·exact h.elim
def ev (F:Fns) (S:Xjk) (f:Nat) (lp:Bool) (L:VM→Prop) (E:Value→Hp→Nat→Prop):Nat→VM→Prop
 | 0,vm=>L vm
 | n+1,vm=>Xry F S f lp L E (ev F S f lp L E n) vm
theorem Xa3 (hF:Xie P F) (hS:XaB P S) {f base:Nat} (lp:Bool) {R:Value→Hp→Nat→Prop}:∀ (n:Nat) {vm:VM},ev F S f lp (fun vm=>XaQ P f base vm R) R n vm→XaQ P f base vm R
 | 0,_,h=>h
 | n+1,_,h=>XrQ hF hS (fun _ h=>Xa3 hF hS lp n h) h
end
end Go.Vm
namespace Go.Vm
open Go
def XBs (P:Program):List (Nat×VFn)→Prop
 | []=>True
 | (i,vf)::l=>(P.funcs[i]?).bind (XbQ P)=some vf∧XBs P l
theorem Xie.Xa4 {P:Program}:∀ {l:List (Nat×VFn)},XBs P l→Xie P (XaI l)
 | [],_,f,vf,h=>by simp [XaI] at h
 | (i,v)::l,hl,f,vf,h=>by
   obtain ⟨h1,h2⟩:=hl
   simp only [XaI] at h
   cases hb:Nat.beq i f with
   | true=>
     rw [hb,cond_true,Option.some.injEq] at h
     subst h
     have:=Nat.eq_of_beq_eq_true hb
     subst this
     cases hf:P.funcs[i]? with
     | none=>simp [hf] at h1
     | some fn=>rw [hf,Option.bind_some] at h1;exact ⟨fn,rfl,h1⟩
   | false=>
     rw [hb,cond_false] at h
     exact Xie.Xa4 h2 f vf h
theorem XaB.none {P:Program}:XaB P (fun _=>none):=fun _ _ h=>by cases h
end Go.Vm
namespace Go.Vm
open Go
def subE (e:Env):Env→Prop
 | []=>True
 | (i,v)::l=>XaI e i=some v∧subE e l
theorem XpF {e:Env}:∀ {l:Env},subE e l→∀ i v,XaI l i=some v→XaI e i=some v
 | [],_,i,v,h=>by simp [XaI] at h
 | (j,u)::l,h,i,v,hv=>by
   obtain ⟨h1,h2⟩:=h
   simp only [XaI] at hv
   cases hb:Nat.beq j i with
   | true=>
     rw [hb,cond_true,Option.some.injEq] at hv
     subst hv
     have:=Nat.eq_of_beq_eq_true hb;subst this
     exact h1
   | false=>
     rw [hb,cond_false] at hv
     exact XpF h2 i v hv
theorem XaQ.env {P:Program} {f base fn nt:Nat} {e e':Env} {todo:List XeT} {defers:List Nat} {ret:Bool} {round:Option Nat} {up:List Xa5} {H:Hp} {top:Nat} {R:Value→Hp→Nat→Prop}
 (h:XaQ P f base ⟨⟨fn,nt,e',todo,defers,ret,round⟩,up,H,top⟩ R) (hs:subE e e'):XaQ P f base ⟨⟨fn,nt,e,todo,defers,ret,round⟩,up,H,top⟩ R:=by
 refine ⟨fun w0 U ρ rf rfs w cs hr=>?_⟩
 exact h.get w0 U ρ rf rfs w cs ⟨{ hr.cur with env:=fun i v hv=>hr.cur.env i v (XpF hs i v hv) },hr.up,hr.heap⟩
end Go.Vm
namespace Go.Vm
open Go Go.RowKit
inductive Xz3 where
 | v (x:Value)
 | sl (n:Nat) (cs:List Value)
def entry (k:Nat):List Md→List Xz3→List Value
 | .v::ms,.v x::aqs=>x::entry k ms aqs
 | .sl sz::ms,.sl n _::aqs=>.slice (some ⟨k,0,none⟩) n sz::entry (k+1) ms aqs
 | _,_=>[]
def rowsOf (k:Nat):List Xz3→Hp
 | .sl _ cs::aqs=>(k,.row false cs)::rowsOf (k+1) aqs
 | .v _::aqs=>rowsOf k aqs
 | []=>[]
def wins:List Xz3→Nat
 | .sl _ _::aqs=>wins aqs+1
 | .v _::aqs=>wins aqs
 | []=>0
def XBz (w:World):Md→Xz3→Value→Prop
 | .v,.v x,rv=>XaR x=true∧rv=x
 | .sl sz,.sl n cs,rv=>((∃ a,rv=.slice a 0 0)∧n=0∧cs=[])∨∃ b o c,rv=.slice (some ⟨b,o,none⟩) n c∧n≤c∧∀ ρ,XaX ρ w ⟨b,o,c*sz⟩ false cs
 | _,_,_=>False
inductive Xsc (w:World):List Md→List Xz3→List Value→Prop
 | nil:Xsc w [] [] []
 | cons {m ms a aqs v vs} (h:XBz w m a v) (t:Xsc w ms aqs vs):Xsc w (m::ms) (a::aqs) (v::vs)
theorem Xtc {k n:Nat} {ρc:Ren} {vs rvs:List Value} {Hr:Hp} {w:World} (c1:∀ i l,ρc i=some l→k+1≤i∧i<k+1+n) (c2:VRL ρc vs rvs)
 (c3:∀ i o,XaI Hr i=some o→∃ cs l,o=.row false cs∧ρc i=some l∧∀ ρ',XaX ρ' w l false cs) (l:Loc) (cs:List Value) (hc:∀ ρ',XaX ρ' w l false cs) :
 (∀ i l',upd ρc k l i=some l'→k≤i∧i<k+1+n)∧VRL (upd ρc k l) vs rvs ∧
   (∀ i o,XaI ((k,.row false cs)::Hr) i=some o→∃ cs l',o=.row false cs∧upd ρc k l i=some l'∧∀ ρ',XaX ρ' w l' false cs)∧upd ρc k l k=some l:=by
 have hoff:ρc k=none:=by
  cases e:ρc k with
  | none=>rfl
  | some l=>have:=(c1 k l e).1;omega
 refine ⟨fun i l' e=>?_,c2.mono (Ext.upd hoff),fun i o e=>?_,upd_same _ _ _⟩
 ·by_cases hi:k=i
  ·subst hi;omega
  ·rw [upd_ne _ _ hi] at e;have:=c1 i l' e;omega
 ·rw [XiB] at e
  split at e
  ·rename_i hk
   cases e;subst hk
   exact ⟨cs,l,rfl,upd_same _ _ _,hc⟩
  ·rename_i hk
   obtain ⟨cs',l',a,b,c⟩:=c3 i o e
   exact ⟨cs',l',a,by rw [upd_ne _ _ hk];exact b,c⟩
theorem Xk9 {w:World}:∀ {ms:List Md} {aqs:List Xz3} {rvals:List Value} (k:Nat),Xsc w ms aqs rvals →
 ∃ ρc:Ren,(∀ i l,ρc i=some l→k≤i∧i<k+wins aqs)∧VRL ρc (entry k ms aqs) rvals ∧
  (∀ i o,XaI (rowsOf k aqs) i=some o→∃ cs l,o=.row false cs∧ρc i=some l∧∀ ρ',XaX ρ' w l false cs)
 | _,_,_,k,.nil=>⟨fun _=>none,fun i l e=>by simp at e,.nil,fun i o e=>by simp [rowsOf,XaI] at e⟩
 | _,_,_,k,.cons (m:=m) (a:=a) (v:=v) h t=>by
   cases m with
   | v=>
     cases a with
     | v x=>
       obtain ⟨hf,rfl⟩:=h
       obtain ⟨ρc,c1,c2,c3⟩:=Xk9 k t
       exact ⟨ρc,c1,.cons (VR.flat _ _ hf) c2,c3⟩
     | _=>exact h.elim
   | sl sz=>
     cases a with
     | sl n cs=>
       obtain ⟨ρc,c1,c2,c3⟩:=Xk9 (k+1) t
       rcases h with ⟨⟨a,rfl⟩,rfl,rfl⟩|⟨b,o,c,rfl,hn,hc⟩
       ·obtain ⟨d1,d2,d3,d4⟩:=Xtc c1 c2 c3 ⟨0,0,0⟩ [] (fun ρ'=>⟨Nat.zero_le _,fun i v e=>by simp at e,fun i hi=>absurd hi (Nat.not_lt_zero _)⟩)
        exact ⟨_,by simpa [wins,Nat.add_assoc,Nat.add_comm 1] using d1,.cons (.slice0 _) d2,d3⟩
       ·obtain ⟨d1,d2,d3,d4⟩:=Xtc c1 c2 c3 ⟨b,o,c*sz⟩ cs hc
        exact ⟨_,by simpa [wins,Nat.add_assoc,Nat.add_comm 1] using d1,.cons (.slice d4 hn (by simp)) d2,d3⟩
     | _=>exact h.elim
   | pt n=>cases a<;>exact h.elim
   | tr ps=>cases a<;>exact h.elim
theorem XuT {P:Program} {F:Fns} (hF:Xie P F) {f:Nat} {ms:List Md} {aqs:List Xz3} {rvals:List Value} {w:World} {c:Xa5} {r:Bool}
 (ha:Xsc w ms aqs rvals) (hc:Xg3 F f (entry 0 ms aqs)=some c) (hl:XaQ P f (wins aqs) ⟨c,[],rowsOf 0 aqs,wins aqs⟩ (fun v _ _=>v=.bool r)) :
 Calls P f ⟨rvals⟩ w fun e w'=>e=.returned (.bool r)∧Below w.heap.size w w':=by
 intro cs
 obtain ⟨ρc,c1,c2,c3⟩:=Xk9 0 ha
 have hpc:HpR P w UG.no ρc (rowsOf 0 aqs) (wins aqs) w:=
  { obj:=fun i o e=>by obtain ⟨cs',l,rfl,a,b⟩:=c3 i o e;exact ⟨l,a,b ρc,fun e=>by cases e⟩
    dis:=fun i j oi oj li lj _ hi _ _ _ hw=>by obtain ⟨cs',l,rfl,a,b⟩:=c3 i oi hi;cases hw
    lt:=fun i l e=>by have:=c1 i l e;exact .inr ⟨Nat.zero_le _,by omega⟩
    keep:=Keep.refl _ _ }
 obtain ⟨ρ',rv,fr',w',v',Hc,tc,g1,g2,g3,g4,g5,g6,g7⟩:=hl.get w _ ρc _ [] w cs ⟨(Xhw hF hc c2).1,.nil,hpc⟩
 subst g7
 obtain rfl:=g4.Xuo
 exact ⟨.returned (.bool r),w',fr',⟨rfl,g5.keep.toBelow⟩,g1,g2,g3⟩
end Go.Vm
namespace Go.Vm
open Go
def Xxp (P:Program):List (Nat×XcE)→Prop
 | []=>True
 | (i,s)::l=>XfJ P i s∧Xxp P l
theorem XaB.Xa4 {P:Program}:∀ {l:List (Nat×XcE)},Xxp P l→XaB P (XaI l)
 | [],_,f,s,h=>by simp [XaI] at h
 | (i,v)::l,hl,f,s,h=>by
   obtain ⟨h1,h2⟩:=hl
   simp only [XaI] at h
   cases hb:Nat.beq i f with
   | true=>
     rw [hb,cond_true,Option.some.injEq] at h
     subst h
     have:=Nat.eq_of_beq_eq_true hb
     subst this
     exact h1
   | false=>
     rw [hb,cond_false] at h
     exact XaB.Xa4 h2 f s h
theorem Xfx.intro {s:XcE} {vals:List Value} {h:Hp} {top:Nat} {K:Value→Hp→Nat→Prop} {v:Value} {h':Hp} {top':Nat} (e:XgC s vals h top=some (v,h',top')) (k:Xgf v fun v=>K v h' top'):Xfx s vals h top K:=by
 refine ⟨?_⟩;rw [e];simp only [Xgd,Xlk] at *;exact k
def unL {α:Type} (f:Value→Option α):List Value→Option (List α)
 | []=>some []
 | v::l=>match f v with
   | some x=>match unL f l with
     | some xs=>some (x::xs)
     | none=>none
   | none=>none
theorem Xtw {α:Type} {f:Value→Option α} {g:α→Value} (h:∀ x,f (g x)=some x):∀ (xs:List α),unL f (xs.map g)=some xs
 | []=>rfl
 | x::xs=>by rw [List.map_cons,unL,h,Xtw h xs]
theorem XpJ {α:Type} {f:Value→Option α} {g:α→Value} (h:∀ v x,f v=some x→v=g x):∀ {cs:List Value} {xs:List α},unL f cs=some xs→cs=xs.map g
 | [],xs,e=>by simp only [unL,Option.some.injEq] at e;subst e;rfl
 | v::cs,xs,e=>by
   simp only [unL] at e
   split at e<;>try (cases e;done)
   rename_i x hx
   split at e<;>cases e
   rename_i ys hys
   rw [List.map_cons,←h v x hx,←XpJ h hys]
theorem XjH {α:Type} {g:α→Value} (h:∀ x,XaR (g x)=true):∀ (xs:List α),XaR.flatL (xs.map g)=true
 | []=>rfl
 | x::xs=>by rw [List.map_cons,XaR.flatL,h,XjH h xs];rfl
def asB:Value→Option Bool|.bool b=>some b|_=>none
theorem Xn3 (v:Value) (x:Bool) (h:asB v=some x):v=.bool x:=by cases v<;>simp [asB] at h;subst h;rfl
def asI (k:IntKind):Value→Option Int|.int k' n=>if k'=k then some n else none|_=>none
theorem XnA (k:IntKind) (v:Value) (x:Int) (h:asI k v=some x):v=.int k x:=by
 cases v<;>simp [asI] at h
 obtain ⟨rfl,rfl⟩:=h;rfl
def reE (m:Nat→Option Nat) (e:Env):Env→Prop
 | []=>True
 | (i,v)::l=>(∃ v',Xdd m v=some v'∧XaI e i=some v')∧reE m e l
theorem XoN {m:Nat→Option Nat} {e:Env}:∀ {l:Env},reE m e l→XAP m e l
 | [],_=>trivial
 | (i,v)::l,⟨⟨v',h1,h2⟩,h3⟩=>⟨by rw [h1];exact h2,XoN h3⟩
def reH (m:Nat→Option Nat) (H:Hp):Hp→Prop
 | []=>True
 | (i,o')::l=>(∃ j o,m i=some j∧XaI H j=some o∧Xl5 m o o')∧reH m H l
theorem XrM {m:Nat→Option Nat} {H:Hp}:∀ {l:Hp},reH m H l→HSub m H l
 | [],_,i,o,h=>by simp [XaI] at h
 | (k,x)::l,⟨h1,h2⟩,i,o,h=>by
   rw [XiB] at h
   split at h
   ·rename_i e;cases h;subst e;exact h1
   ·exact XrM h2 i o h
def reU (m:Nat→Option Nat):List Xa5→List Xa5→Prop
 | [],[]=>True
 | ⟨fn,nt,e,td,ds,ret,rd⟩::l,⟨fn',nt',e',td',ds',ret',rd'⟩::l'=>(fn'=fn∧nt'=nt∧ret'=ret∧rd=none∧rd'=none∧reE m e e'∧XuQ m td'=some td∧XuU m ds'=some ds)∧reU m l l'
 | _,_=>False
theorem Xrw {m:Nat→Option Nat}:∀ {l l':List Xa5},reU m l l'→XiA (FSub m) l l'
 | [],[],_=>.nil
 | ⟨_,_,_,_,_,_,_⟩::l,⟨_,_,_,_,_,_,_⟩::l',⟨⟨h1,h2,h3,h4,h5,h6,h7,h8⟩,h9⟩=>.cons ⟨h1,h2,XoN h6,h7,h8,h3,by simp only;rw [h4,h5];trivial⟩ (Xrw h9)
 | [],_::_,h=>h.elim
 | _::_,[],h=>h.elim
def Xmw (j:Nat):List (Nat×Nat)→Bool
 | []=>true
 | (_,k)::l=>cond (Nat.beq j k) false (Xmw j l)
def Xsq (base top':Nat):List (Nat×Nat)→Bool
 | m=>injM m&&ltM m&&fixM m base
where
 injM:List (Nat×Nat)→Bool
  | []=>true
  | (_,j)::l=>Xmw j l&&injM l
 ltM:List (Nat×Nat)→Bool
  | []=>true
  | (i,_)::l=>Nat.blt i top'&&ltM l
 fixM (m:List (Nat×Nat)):Nat→Bool
  | 0=>true
  | n+1=>(match XaI m n with|some j=>Nat.beq j n|none=>false)&&fixM m n
theorem XiK {j:Nat}:∀ {l:List (Nat×Nat)},Xmw j l=true→∀ i,XaI l i≠some j
 | [],_,i,h=>by simp [XaI] at h
 | (a,k)::l,hv,i,h=>by
   simp only [Xmw] at hv
   cases hb:Nat.beq j k with
   | true=>rw [hb] at hv;cases hv
   | false=>
     rw [hb,cond_false] at hv
     rw [XiB] at h
     split at h
     ·cases h;simp at hb
     ·exact XiK hv i h
theorem Xnm {top':Nat}:∀ {l:List (Nat×Nat)},Xsq.injM l=true→∀ i j k,XaI l i=some k→XaI l j=some k→i=j
 | [],_,i,j,k,h,_=>by simp [XaI] at h
 | (a,b)::l,hv,i,j,k,h1,h2=>by
   simp only [Xsq.injM,Bool.and_eq_true] at hv
   rw [XiB] at h1 h2
   split at h1<;>split at h2
   ·omega
   ·cases h1;exact absurd h2 (XiK hv.1 j)
   ·cases h2;exact absurd h1 (XiK hv.1 i)
   ·exact Xnm (top':=top') hv.2 i j k h1 h2
theorem Xp2 {top':Nat}:∀ {l:List (Nat×Nat)},Xsq.ltM top' l=true→∀ i j,XaI l i=some j→i<top'
 | [],_,i,j,h=>by simp [XaI] at h
 | (a,b)::l,hv,i,j,h=>by
   simp only [Xsq.ltM,Bool.and_eq_true] at hv
   rw [XiB] at h
   split at h
   ·rename_i e;subst e;exact Nat.blt_eq.mp hv.1
   ·exact Xp2 hv.2 i j h
theorem Xnj {m:List (Nat×Nat)}:∀ {n:Nat},Xsq.fixM m n=true→∀ i,i<n→XaI m i=some i
 | 0,_,i,h=>absurd h (Nat.not_lt_zero _)
 | n+1,hv,i,h=>by
   simp only [Xsq.fixM,Bool.and_eq_true] at hv
   by_cases hi:i=n
   ·subst hi
    have:=hv.1
    split at this
    ·rename_i j hj;rw [hj,Nat.eq_of_beq_eq_true this]
    ·cases this
   ·exact Xnj hv.2 i (by omega)
theorem XaQ.re {P:Program} {f base fn nt:Nat} {e e':Env} {todo todo':List XeT} {ds ds':List Nat} {ret:Bool} {up up':List Xa5} {H H':Hp} {top top':Nat} {R:Value→Hp→Nat→Prop}
 (h:XaQ P f base ⟨⟨fn,nt,e',todo',ds',ret,none⟩,up',H',top'⟩ R) (m:List (Nat×Nat)) (hc:Xsq base top' m=true) (he:reE (XaI m) e e') (hH:reH (XaI m) H H')
 (ht:XuQ (XaI m) todo'=some todo:=by rfl) (hd:XuU (XaI m) ds'=some ds:=by rfl) (hu:reU (XaI m) up up':=by trivial) :
 XaQ P f base ⟨⟨fn,nt,e,todo,ds,ret,none⟩,up,H,top⟩ R:=by
 simp only [Xsq,Bool.and_eq_true] at hc
 refine XaQ.sub (s:=XaI m) ?_ h
 exact ⟨⟨rfl,rfl,XoN he,ht,hd,rfl,trivial⟩,Xrw hu,XrM hH,Xnm (top':=top') hc.1.1,Xp2 hc.1.2,Xnj hc.2⟩
end Go.Vm
namespace Go.Vm
open Go Go.RowKit Go.WideShapes
def XlI (g:TypeId→Option (List SK)) (P:Program) (o:Nat):List Field→Option (List SK)
 | []=>some []
 | f::fs=>if f.offset=o then match g f.type with
   | some a=>if a.length=P.cellsOf f.type then match XlI g P (o+a.length) fs with
     | some b=>some (a++b)
     | none=>none
     else none
   | none=>none
   else none
def XqS (P:Program):Nat→TypeId→Option (List SK)
 | 0,_=>none
 | n+1,t=>match P.underlying t with
   | some .bool=>some [.bool]
   | some (.int k)=>some [.int k]
   | some .string=>some [.str]
   | some (.struct fs)=>match XlI (XqS P n) P 0 fs.toList with
     | some ks=>if ks.length=P.cellsOf t then some ks else none
     | none=>none
   | _=>none
def Xkw:SK→Value→Prop
 | .bool,v=>∃ b,v=.bool b
 | .int k,v=>∃ n,v=.int k n∧(Lit.int k n).wf=true
 | .str,v=>∃ s,v=.string s∧s.size≤maxLen
 | .oth,_=>False
def Xcy:List SK→List Value→Prop
 | [],[]=>True
 | k::ks,v::vs=>Xkw k v∧Xcy ks vs
 | _,_=>False
theorem Xcy.append:∀ {a b:List SK} {x y:List Value},Xcy a x→Xcy b y→Xcy (a++b) (x++y)
 | [],_,[],_,_,k=>k
 | [],_,_::_,_,h,_=>h.elim
 | _::_,_,[],_,h,_=>h.elim
 | _::_,_,_::_,_,h,k=>⟨h.1,Xcy.append h.2 k⟩
theorem Xcy.length:∀ {a:List SK} {x:List Value},Xcy a x→x.length=a.length
 | [],[],_=>rfl
 | [],_::_,h=>h.elim
 | _::_,[],h=>h.elim
 | _::_,_::_,h=>by simp [Xcy.length h.2]
theorem Xcy.inv {k:SK} {ks:List SK} {cs:List Value} (h:Xcy (k::ks) cs):∃ v vs,cs=v::vs∧Xkw k v∧Xcy ks vs:=by
 cases cs with
 | nil=>exact h.elim
 | cons v vs=>exact ⟨v,vs,rfl,h⟩
theorem Xcy.inv0 {cs:List Value} (h:Xcy [] cs):cs=[]:=by
 cases cs with
 | nil=>rfl
 | cons=>exact h.elim
section
variable {H:Type} {enc:TypeId×Value→H} {P:Program} {w:World} {base:Nat} {spare:Nat→Bool} {held:Bool}
theorem Xmd {g:TypeId→Option (List SK)} {F:TypeId→List Value→Prop} (hg:∀ t ks cs,g t=some ks→F t cs→Xcy ks cs) {cs:List Value} :
 ∀ {fs:List Field} {o:Nat} {ks:List SK},XlI g P o fs=some ks→(∀ f∈fs,F f.type ((cs.drop f.offset).take (P.cellsOf f.type)))→Xcy ks ((cs.drop o).take ks.length)
 | [],o,ks,h,_=>by simp only [XlI,Option.some.injEq] at h;subst h;simp [Xcy]
 | f::fs,o,ks,h,hm=>by
   simp only [XlI] at h
   split at h<;>try (cases h;done)
   rename_i ho
   split at h<;>try (cases h;done)
   rename_i a ha
   split at h<;>try (cases h;done)
   rename_i hl
   split at h<;>cases h
   rename_i b hb
   have h1:=hg f.type a _ ha (hm f (by simp))
   have h2:=Xmd hg hb (fun f' hf=>hm f' (by simp [hf]))
   have h3:=h1.append h2
   rw [ho,←hl] at h3
   rw [List.length_append,List.take_add,List.drop_drop]
   exact h3
theorem Xla:∀ {n:Nat} {t:TypeId} {ks:List SK} {fuel:Nat} {cs:List Value} {x:DataW H×List MemPlace},XqS P n t=some ks→DataW.trod enc P w base spare held fuel t cs=some x→Xcy ks cs
 | 0,t,ks,fuel,cs,x,h,_=>by simp [XqS] at h
 | n+1,t,ks,fuel,cs,x,h,hd=>by
   simp only [XqS] at h
   split at h
   ·rename_i ht
    cases h
    obtain ⟨b,rfl,_⟩:=DataW.trod_bool ht hd
    exact ⟨⟨_,rfl⟩,trivial⟩
   ·rename_i k ht
    cases h
    obtain ⟨b,rfl,_,hw⟩:=DataW.trod_int ht hd
    exact ⟨⟨_,rfl,hw⟩,trivial⟩
   ·rename_i ht
    cases h
    obtain ⟨b,rfl,_,hw⟩:=DataW.trod_string ht hd
    exact ⟨⟨_,rfl,hw⟩,trivial⟩
   ·rename_i fs ht
    split at h<;>try (cases h;done)
    rename_i ks' hks
    split at h<;>cases h
    rename_i hlen
    obtain ⟨xs,m,_,_,hcl,hxl,hf⟩:=DataW.trod_struct ht hd
    have:=Xmd (P:=P) (cs:=cs) (F:=fun t cs=>∃ x,DataW.trod enc P w base spare held m t cs=some x) (fun t ks cs h1 ⟨x,h2⟩=>Xla h1 h2) hks (fun f hfm=>by
     obtain ⟨i,hi⟩:=List.getElem?_of_mem hfm
     rw [Array.getElem?_toList] at hi
     have hlt:i<xs.length:=by rw [hxl];exact (Array.getElem?_eq_some_iff.1 hi).1
     exact ⟨xs[i],by rw [hf i f hi,List.getElem?_eq_getElem hlt]⟩)
    rw [List.drop_zero,List.take_of_length_le (by omega)] at this
    exact this
   ·cases h
theorem XCv {r:Reach} {b0 n:Nat} {t:TypeId} {ks:List SK} {v:Value} {d:DataW H} {ps:List MemPlace} (hk:XqS P n t=some ks) (hval:Value.okWide P w r b0 t v) (hd:DataW.Trod enc P w base spare held t v d ps) :
 Xcy ks (XaO v)∧((XcV P t=true∧v=.agg ⟨XaO v⟩)∨XcV P t=false):=by
 obtain ⟨fuel,hf⟩:=hd
 refine ⟨Xla hk hf,?_⟩
 unfold Value.okWide at hval
 unfold XcV
 split at hval
 ·rename_i hu;rw [hu]
  obtain ⟨cs,rfl,_⟩:=hval
  exact .inl ⟨rfl,rfl⟩
 ·rename_i hu;rw [hu]
  obtain ⟨cs,rfl,_⟩:=hval
  exact .inl ⟨rfl,rfl⟩
 ·rename_i h1 h2
  right
  split
  ·rename_i hu;exact absurd hu (h1 _)
  ·rename_i hu;exact absurd hu (h2 _ _)
  ·rfl
def RowR (w:World) (k:SK) (a:Option Addr) (len cap:Nat) (zs:List Value):Prop:=
 (a=none∧len=0∧cap=0∧zs=[])∨∃ x,a=some x∧len≤cap∧cap≤maxLen∧zs.length=cap∧∀ (i:Nat) v,zs[i]?=some v→w.cell? (x.add i)=some v∧Xkw k v
theorem Xkw.flat {k:SK} {v:Value} (h:Xkw k v):XaR v=true:=by
 cases k with
 | bool=>obtain ⟨b,rfl⟩:=h;rfl
 | int k=>obtain ⟨b,rfl,_⟩:=h;rfl
 | str=>obtain ⟨b,rfl,_⟩:=h;rfl
 | oth=>exact h.elim
theorem XBz.row {k:SK} {w:World} {a:Option Addr} {len cap:Nat} {zs:List Value} (h:RowR w k a len cap zs):XBz w (.sl 1) (.sl len (zs.take len)) (.slice a len cap)∧(zs.take len).length=len∧(∀ v∈zs.take len,Xkw k v)∧len≤maxLen:=by
 rcases h with ⟨rfl,rfl,rfl,rfl⟩|⟨x,rfl,hl,hm,hz,hc⟩
 ·exact ⟨.inl ⟨⟨_,rfl⟩,rfl,rfl⟩,rfl,fun v hv=>by simp at hv,by simp [maxLen]⟩
 ·have hleaf:∀ v∈zs.take len,Xkw k v:=fun v hv=>by
   obtain ⟨i,hi⟩:=List.getElem?_of_mem (List.mem_of_mem_take hv)
   exact (hc i v hi).2
  refine ⟨?_,by simp;omega,hleaf,by omega⟩
  rcases Nat.eq_zero_or_pos cap with h0|h0
  ·subst h0
   obtain rfl:len=0:=by omega
   exact .inl ⟨⟨_,rfl⟩,rfl,by simp⟩
  ·have hs:x.spot=none:=by
    have:=(hc 0 zs[0] (List.getElem?_eq_getElem (by omega))).1
    cases hx:x.spot with
    | none=>rfl
    | some q=>
      simp only [Addr.add,↓reduceIte,World.cell?] at this
      split at this
      ·simp [hx] at this
      ·cases this
   obtain ⟨b,o,q⟩:=x
   simp only at hs
   subst hs
   have hadd:∀ i,(⟨b,o,none⟩:Addr).add i=⟨b,o+i,none⟩:=fun i=>by
    unfold Addr.add;split
    ·rename_i e;subst e;rfl
    ·rfl
   refine .inr ⟨b,o,cap,rfl,hl,fun ρ=>⟨by simp;omega,fun i v e=>?_,fun i hi=>?_⟩⟩
   ·have hi:i<len:=by
     rcases Nat.lt_or_ge i len with h|h
     ·exact h
     ·rw [List.getElem?_eq_none (by simp;omega)] at e;cases e
    rw [List.getElem?_take_of_lt hi] at e
    obtain ⟨h1,h2⟩:=hc i v e
    rw [hadd] at h1
    exact ⟨v,h1,VR.flat ρ v h2.flat⟩
   ·have hi':i<zs.length:=by simp at hi;omega
    obtain ⟨h1,_⟩:=hc i zs[i] (List.getElem?_eq_getElem hi')
    rw [hadd] at h1
    exact ⟨by simp [h1],fun e=>by cases e⟩
end
theorem wf_u8 {n:Int} (h:(Lit.int .u8 n).wf=true):0≤n∧n<256:=by simp [Lit.wf,IntKind.min,IntKind.max,IntKind.signed,IntKind.bits] at h;omega
end Go.Vm
namespace Go.Vm
open Go Go.RowKit
abbrev wI (k:IntKind) (n:Int):Int:=IntKind.wrap k n
abbrev Xtf (k:IntKind) (a b:Int):Int:=IntKind.wrap k (BitVec.ofInt k.bits a &&& BitVec.ofInt k.bits b).toNat
abbrev XqM (k:IntKind) (a b:Int):Int:=IntKind.wrap k (BitVec.ofInt k.bits a ||| BitVec.ofInt k.bits b).toNat
abbrev XeZ (k:IntKind) (a b:Int):Int:=IntKind.wrap k (BitVec.ofInt k.bits a ^^^ BitVec.ofInt k.bits b).toNat
def XaL {α:Type} (b:Bool) (x:Option α):Option α:=match b with|true=>x|false=>none
theorem XaL.elim {α:Type} {b:Bool} {x:Option α} {r:α} (h:XaL b x=some r):b=true∧x=some r:=by cases b;cases h;exact ⟨rfl,h⟩
theorem XaL.mk {α:Type} {b:Bool} {x:Option α} (h:b=true):XaL b x=x:=by subst h;rfl
theorem XbV.elim {α β:Type} {x:Option α} {F:α→Option β} {r:β} (h:x.bind F=some r):∃ a,x=some a∧F a=some r:=by cases x with|none=>cases h|some a=>exact ⟨a,rfl,h⟩
def FUEL:Nat:=2^64
def iter {σ ρ:Type} (f:σ→Option (Sum σ ρ)):Nat→σ→Option ρ
 | 0,_=>none
 | n+1,s=>match f s with
   | none=>none
   | some (.inl s')=>iter f n s'
   | some (.inr r)=>some r
theorem Xa6 {σ ρ:Type} {P:Program} {f base:Nat} {R:Value→Hp→Nat→Prop} {step:σ→Option (Sum σ ρ)} {head:σ→VM} {C:ρ→Prop}
 (h:∀ s o,step s=some o→Sum.elim (fun s'=>XaQ P f base (head s') R) C o→XaQ P f base (head s) R) :
 ∀ {n:Nat} {s:σ} {r:ρ},iter step n s=some r→C r→XaQ P f base (head s) R:=by
 intro n
 induction n with
 | zero=>intro _ _ e;cases e
 | succ n ih=>
   intro s r e hc
   rw [iter] at e
   split at e
   ·cases e
   ·rename_i s' hs
    exact h s _ hs (ih e hc)
   ·rename_i r' hs
    cases e
    exact h s _ hs hc
def vI (k:IntKind) (xs:List Int):List Value:=xs.map (Value.int k)
def vB (xs:List Bool):List Value:=xs.map Value.bool
def vS (xs:List (List UInt8)):List Value:=xs.map fun s=>Value.string ⟨⟨s⟩⟩
def bI (l:List UInt8):List Int:=l.map fun b=>(b.toNat:Int)
@[simp] theorem vI_len (k:IntKind) (xs:List Int):(vI k xs).length=xs.length:=List.length_map _
@[simp] theorem vB_len (xs:List Bool):(vB xs).length=xs.length:=List.length_map _
@[simp] theorem vS_len (xs:List (List UInt8)):(vS xs).length=xs.length:=List.length_map _
@[simp] theorem bI_len (l:List UInt8):(bI l).length=l.length:=List.length_map _
theorem Xf8 (k:IntKind) (xs:List Int):XaR.flatL (vI k xs)=true:=XjH (fun _=>rfl) xs
theorem Xib (xs:List Bool):XaR.flatL (vB xs)=true:=XjH (fun _=>rfl) xs
theorem Xh3 (xs:List (List UInt8)):XaR.flatL (vS xs)=true:=XjH (fun _=>rfl) xs
theorem Xqu (l:List UInt8):ofBytes l=vI .u8 (bI l):=by simp [ofBytes,vI,bI,List.map_map]
theorem XCt (k:IntKind) (xs:List Int) (i:Nat) (x:Int):(vI k xs).set i (.int k x)=vI k (xs.set i x):=by simp [vI,List.map_set]
theorem XBI (xs:List Bool) (i:Nat) (x:Bool):(vB xs).set i (.bool x)=vB (xs.set i x):=by simp [vB,List.map_set]
theorem XC8 (xs:List (List UInt8)) (i:Nat) (x:List UInt8):(vS xs).set i (.string ⟨⟨x⟩⟩)=vS (xs.set i x):=by simp [vS,List.map_set]
theorem XyB (k:IntKind) (xs:List Int) (n:Nat):(vI k xs).drop n=vI k (xs.drop n):=by simp [vI,List.map_drop]
theorem XyD (k:IntKind) (xs:List Int) (n:Nat):(vI k xs).take n=vI k (xs.take n):=by simp [vI,List.map_take]
theorem XAG (xs:List Bool) (n:Nat):(vB xs).drop n=vB (xs.drop n):=by simp [vB,List.map_drop]
theorem XzJ (xs:List Bool) (n:Nat):(vB xs).take n=vB (xs.take n):=by simp [vB,List.map_take]
theorem XzI (xs:List (List UInt8)) (n:Nat):(vS xs).drop n=vS (xs.drop n):=by simp [vS,List.map_drop]
theorem Xyu (xs:List (List UInt8)) (n:Nat):(vS xs).take n=vS (xs.take n):=by simp [vS,List.map_take]
theorem br.h {α:Type} {b b':Bool} {X Y:Option α} {r:α} {p q:Prop} (h:cond b' X Y=some r) (e:b=b') (k1:b'=true→X=some r→p) (k2:b'=false→Y=some r→q):br b p q:=by
 subst e;cases b;exact k2 rfl h;exact k1 rfl h
theorem rd.I {k:IntKind} {xs:List Int} {o i:Nat} {x:Int} {K:Value→Prop} (hx:xs[i]?=some x) (e:o=i) (h:Xgf (.int k x) K):rd (vI k xs) o K:=by
 subst e;exact rd.intro (v:=.int k x) (by simp [vI,hx]) h
theorem rd.B {xs:List Bool} {o i:Nat} {x:Bool} {K:Value→Prop} (hx:xs[i]?=some x) (e:o=i) (h:Xgf (.bool x) K):rd (vB xs) o K:=by
 subst e;exact rd.intro (v:=.bool x) (by simp [vB,hx]) h
theorem rd.S {xs:List (List UInt8)} {o i:Nat} {x:List UInt8} {K:Value→Prop} (hx:xs[i]?=some x) (e:o=i) (h:Xgf (.string ⟨⟨x⟩⟩) K):rd (vS xs) o K:=by
 subst e;exact rd.intro (v:=.string ⟨⟨x⟩⟩) (by simp [vS,hx]) h
theorem Xy4 {k:IntKind} {xs:List Int} {o i:Nat} {x:Int} (hb:decide (i<xs.length)=true) (e:o=i):(decide ((XaO (.int k x)).length=1∧o+1≤(vI k xs).length)&&(XaO (.int k x)).all XiU)=true:=by
 subst e;have:=of_decide_eq_true hb;simp [XaO,Value.cells,XiU];omega
theorem XAb {xs:List Bool} {o i:Nat} {x:Bool} (hb:decide (i<xs.length)=true) (e:o=i):(decide ((XaO (.bool x)).length=1∧o+1≤(vB xs).length)&&(XaO (.bool x)).all XiU)=true:=by
 subst e;have:=of_decide_eq_true hb;simp [XaO,Value.cells,XiU];omega
theorem XzR {xs:List (List UInt8)} {o i:Nat} {x:List UInt8} (hb:decide (i<xs.length)=true) (e:o=i):(decide ((XaO (.string ⟨⟨x⟩⟩)).length=1∧o+1≤(vS xs).length)&&(XaO (.string ⟨⟨x⟩⟩)).all XiU)=true:=by
 subst e;have:=of_decide_eq_true hb;simp [XaO,Value.cells,XiU];omega
theorem XB5 {k:IntKind} {xs:List Int} {o i:Nat} {x:Int} {K:List Value→Prop} (e:o=i) (h:K (vI k (xs.set i x))):∃ cs',setAt (vI k xs) o (XaO (.int k x))=cs'∧K cs':=
 ⟨_,by subst e;exact XCt k xs o x,h⟩
theorem XB3 {xs:List Bool} {o i:Nat} {x:Bool} {K:List Value→Prop} (e:o=i) (h:K (vB (xs.set i x))):∃ cs',setAt (vB xs) o (XaO (.bool x))=cs'∧K cs':=
 ⟨_,by subst e;exact XBI xs o x,h⟩
theorem XCf {xs:List (List UInt8)} {o i:Nat} {x:List UInt8} {K:List Value→Prop} (e:o=i) (h:K (vS (xs.set i x))):∃ cs',setAt (vS xs) o (XaO (.string ⟨⟨x⟩⟩))=cs'∧K cs':=
 ⟨_,by subst e;exact XC8 xs o x,h⟩
theorem Xjt {k:IntKind} {n:Nat} {z:Int} {K:List Value→Prop} (h:K (vI k (List.replicate n z))):∃ cs',(List.replicate n [Value.int k z]).flatten=cs'∧K cs':=
 ⟨_,by simp [vI,List.flatten_replicate_singleton],h⟩
theorem XCj {l:List UInt8} {K:List Value→Prop} (h:K (vI .u8 (bI l))):∃ cs',ofBytes l=cs'∧K cs':=⟨_,Xqu l,h⟩
def vT {α:Type} (f:α→List Value) (xs:List α):List Value:=xs.flatMap f
section
variable {α:Type} {f:α→List Value} {c:Nat}
theorem XlX (hf:∀ x,(f x).length=c) (xs:List α):(vT f xs).length=xs.length*c:=by
 induction xs with
 | nil=>simp [vT]
 | cons x xs ih=>
   have:vT f (x::xs)=f x++vT f xs:=rfl
   rw [this,List.length_append,hf,ih,List.length_cons,Nat.succ_mul];omega
theorem XhP (hf:∀ x,XaR.flatL (f x)=true) (xs:List α):XaR.flatL (vT f xs)=true:=by
 have app:∀ a b:List Value,XaR.flatL a=true→XaR.flatL b=true→XaR.flatL (a++b)=true:=by
  intro a b ha hb
  induction a with
  | nil=>exact hb
  | cons v a ih=>simp only [XaR.flatL,Bool.and_eq_true,List.cons_append] at ha ⊢;exact ⟨ha.1,ih ha.2⟩
 induction xs with
 | nil=>rfl
 | cons x xs ih=>exact app _ _ (hf x) ih
theorem XCZ (xs ys:List α):vT f xs++vT f ys=vT f (xs++ys):=by simp [vT]
theorem XoV (hf:∀ x,(f x).length=c) (xs:List α) (n:Nat):(vT f xs).drop (n*c)=vT f (xs.drop n):=by
 induction xs generalizing n with
 | nil=>simp [vT]
 | cons x xs ih=>
   cases n with
   | zero=>simp
   | succ n=>
     have:vT f (x::xs)=f x++vT f xs:=rfl
     rw [this,List.drop_succ_cons,Nat.succ_mul,Nat.add_comm,List.drop_append,hf,List.drop_eq_nil_of_le (by rw [hf];omega),List.nil_append,show c+n*c - c=n*c by omega,ih]
theorem Xok (hf:∀ x,(f x).length=c) (xs:List α) (n:Nat):(vT f xs).take (n*c)=vT f (xs.take n):=by
 induction xs generalizing n with
 | nil=>simp [vT]
 | cons x xs ih=>
   cases n with
   | zero=>simp [vT]
   | succ n=>
     have:vT f (x::xs)=f x++vT f xs:=rfl
     have h2:vT f ((x::xs).take (n+1))=f x++vT f (xs.take n):=rfl
     rw [this,h2,Nat.succ_mul,Nat.add_comm,List.take_append,hf,List.take_of_length_le (by rw [hf];omega),show c+n*c - c=n*c by omega,ih]
theorem XxF (hf:∀ x,(f x).length=c) {xs:List α} {i j:Nat} {x:α} (hx:xs[i]?=some x) (hj:j<c):(vT f xs)[i*c+j]?=(f x)[j]?:=by
 induction xs generalizing i with
 | nil=>simp at hx
 | cons y xs ih=>
   have:vT f (y::xs)=f y++vT f xs:=rfl
   rw [this]
   cases i with
   | zero=>
     simp at hx;subst hx
     rw [Nat.zero_mul,Nat.zero_add,List.getElem?_append_left (by rw [hf];exact hj)]
   | succ i=>
     rw [List.getElem?_append_right (by rw [hf,Nat.succ_mul];omega),hf,show (i+1)*c+j - c=i*c+j by rw [Nat.succ_mul];omega]
     exact ih (by simpa using hx)
theorem rd.T (hf:∀ x,(f x).length=c) {xs:List α} {o i j:Nat} {x:α} {v:Value} {K:Value→Prop} (hx:xs[i]?=some x) (e:o=i*c+j) (hj:j<c) (hv:(f x)[j]?=some v) (h:Xgf v K):rd (vT f xs) o K:=by
 subst e;exact rd.intro (by rw [XxF hf hx hj];exact hv) h
theorem rd.U (hf:∀ x,(f x).length=c) {xs:List α} {o i j:Nat} {x:α} {v:Value} {K:Value→Prop} (hx:xs[i]?=some x) (h:Xgf v K) (e:o=i*c+j:=by first|omega|exact Nat.zero_add _|exact congrArg (·+_) (Nat.zero_add _)) (hj:j<c:=by decide) (hv:(f x)[j]?=some v:=by exact rfl):rd (vT f xs) o K:=rd.T hf hx e hj hv h
def unT (sz:Nat) (un:List Value→Option α):Nat→List Value→Option (List α)
 | 0,[]=>some []
 | 0,_::_=>none
 | _+1,[]=>some []
 | n+1,v::cs=>match un ((v::cs).take sz) with
   | some x=>match unT sz un n ((v::cs).drop sz) with
     | some xs=>some (x::xs)
     | none=>none
   | none=>none
theorem XxV {un:List Value→Option α} (hf:∀ x,(f x).length=c) (h0:0<c) (hu:∀ x,un (f x)=some x):∀ (xs:List α) (n:Nat),xs.length≤n→unT c un n (vT f xs)=some xs
 | [],0,_=>rfl
 | [],n+1,_=>rfl
 | x::xs,0,h=>by simp at h
 | x::xs,n+1,h=>by
   have e:vT f (x::xs)=f x++vT f xs:=rfl
   obtain ⟨v,l,hv⟩:∃ v l,vT f (x::xs)=v::l:=by
    cases hx:f x with
    | nil=>have:=hf x;rw [hx] at this;simp at this;omega
    | cons v l=>exact ⟨v,l++vT f xs,by rw [e,hx];rfl⟩
   rw [hv,unT,←hv,e,List.take_append_of_le_length (by rw [hf];exact Nat.le_refl _),List.take_of_length_le (by rw [hf];exact Nat.le_refl _),hu,List.drop_append,hf,List.drop_eq_nil_of_le (by rw [hf];exact Nat.le_refl _),Nat.sub_self,List.drop_zero,List.nil_append,XxV hf h0 hu xs n (by simpa using h)]
theorem Xrz {un:List Value→Option α} (hu:∀ cs x,un cs=some x→cs=f x):∀ {n:Nat} {cs:List Value} {xs:List α},unT c un n cs=some xs→cs=vT f xs
 | 0,[],xs,h=>by simp only [unT,Option.some.injEq] at h;subst h;rfl
 | 0,_::_,xs,h=>by simp [unT] at h
 | n+1,[],xs,h=>by simp only [unT,Option.some.injEq] at h;subst h;rfl
 | n+1,v::cs,xs,h=>by
   simp only [unT] at h
   split at h<;>try (cases h;done)
   rename_i x hx
   split at h<;>cases h
   rename_i ys hys
   have e1:=hu _ _ hx
   have e2:=Xrz hu hys
   have:vT f (x::ys)=f x++vT f ys:=rfl
   rw [this,←e1,←e2,List.take_append_drop]
def unR (sz:Nat) (un:List Value→Option α) (cs:List Value):Option (List α):=unT sz un cs.length cs
theorem XBT {un:List Value→Option α} (hf:∀ x,(f x).length=c) (h0:0<c) (hu:∀ x,un (f x)=some x) (xs:List α):unR c un (vT f xs)=some xs:=
 XxV hf h0 hu xs _ (by rw [XlX hf];exact Nat.le_mul_of_pos_right _ h0)
end
theorem XlD {s:XcE} {vals aqs:List Value} {os:List (Option XaY)} {h h1 h2:Hp} {top n m t':Nat} {ws:List Wd} {r:XcJ} {v':Value} (e1:Xcx h 0 s.modes vals=some (aqs,os)) (ew:XhE h s.modes vals=ws) {cw:List (Option (List Value))} (ec:XgD os=cw) (e2:s.run aqs cw=some r) (e3:apartB ws=true)
 (hn:r.new.length=n) (hm:XiL ws=m) (ht:top+n+m=t') (e4:Xcb h (Xoa top n ws) ws r.wr=some h1) (e5:XgM h1 (Xoa top n ws) top r.new=some h2) (e6:Xdd (Xoa top n ws) r.v=some v'):XgC s vals h top=some (v',Xg0 h2 (top+n) m,t'):=by
 subst hn hm ht ec
 simp only [XgC,e1,e2,ew,e3,e4,e5,e6]
theorem Xx7 {h:Hp} {k:Nat}:Xcx h k [] []=some ([],[]):=rfl
theorem Xoe {h:Hp} {k k':Nat} {m:Md} {ms:List Md} {v a:Value} {vs aqs:List Value} {os os':List (Option XaY)} (e:XbX h k m v=some (a,os)) (hk:k+os.length=k') (t:Xcx h k' ms vs=some (aqs,os')):Xcx h k (m::ms) (v::vs)=some (a::aqs,os++os'):=by
 subst hk
 simp only [Xcx,e,t]
theorem Xvk {h:Hp} {k b o n m sz sz':Nat} {ob:XaY} {cs cs':List Value} (ho:XaI h b=some ob) (hc:ob.cs=some cs) (hs:sz=sz') (en:n=m) (hle:o+n*sz≤cs.length) (e:(cs.drop o).take (n*sz)=cs') (hf:XaR.flatL cs'=true) :
 XbX h k (.sl sz) (.slice (some ⟨b,o,none⟩) n sz')=some (.slice (some ⟨k,0,none⟩) m sz,[some (.row false cs')]):=by
 subst hs en e
 simp only [XbX,ho,hc,hle,hf,↓reduceIte]
theorem XsU {h:Hp} {b o n i m sz kk:Nat} {k:IntKind} {own:Bool} {xs:List Int} (ho:XaI h b=some (.row own (vI k xs))) (hs:sz=1) (e0:o=i) (en:n=m) (hle:i+m≤xs.length):XbX h kk (.sl 1) (.slice (some ⟨b,o,none⟩) n sz)=some (.slice (some ⟨kk,0,none⟩) m 1,[some (.row false (vI k ((xs.drop i).take m)))]):=by
 subst hs e0 en
 exact Xvk ho rfl rfl rfl (by simp;omega) (by rw [XyB,XyD,Nat.mul_one]) (Xf8 _ _)
theorem Xxt {h:Hp} {b o n i m sz kk:Nat} {own:Bool} {xs:List (List UInt8)} (ho:XaI h b=some (.row own (vS xs))) (hs:sz=1) (e0:o=i) (en:n=m) (hle:i+m≤xs.length):XbX h kk (.sl 1) (.slice (some ⟨b,o,none⟩) n sz)=some (.slice (some ⟨kk,0,none⟩) m 1,[some (.row false (vS ((xs.drop i).take m)))]):=by
 subst hs e0 en
 exact Xvk ho rfl rfl rfl (by simp;omega) (by rw [XzI,Xyu,Nat.mul_one]) (Xh3 _)
theorem Xx1 {h:Hp} {b o n i m sz kk:Nat} {own:Bool} {xs:List Bool} (ho:XaI h b=some (.row own (vB xs))) (hs:sz=1) (e0:o=i) (en:n=m) (hle:i+m≤xs.length):XbX h kk (.sl 1) (.slice (some ⟨b,o,none⟩) n sz)=some (.slice (some ⟨kk,0,none⟩) m 1,[some (.row false (vB ((xs.drop i).take m)))]):=by
 subst hs e0 en
 exact Xvk ho rfl rfl rfl (by simp;omega) (by rw [XAG,XzJ,Nat.mul_one]) (Xib _)
theorem XzE {h:Hp} {b o n sz kk:Nat} {k:IntKind} {own:Bool} {xs:List Int} (ho:XaI h b=some (.row own (vI k xs))) (hs:sz=1) (e0:o=0) (en:n=xs.length):XbX h kk (.sl 1) (.slice (some ⟨b,o,none⟩) n sz)=some (.slice (some ⟨kk,0,none⟩) xs.length 1,[some (.row false (vI k xs))]):=by
 have:=XsU (kk:=kk) (i:=0) (m:=xs.length) ho hs e0 en (by omega)
 simpa using this
theorem Xzu {h:Hp} {b o n sz kk:Nat} {own:Bool} {xs:List (List UInt8)} (ho:XaI h b=some (.row own (vS xs))) (hs:sz=1) (e0:o=0) (en:n=xs.length):XbX h kk (.sl 1) (.slice (some ⟨b,o,none⟩) n sz)=some (.slice (some ⟨kk,0,none⟩) xs.length 1,[some (.row false (vS xs))]):=by
 have:=Xxt (kk:=kk) (i:=0) (m:=xs.length) ho hs e0 en (by omega)
 simpa using this
theorem XAM {h:Hp} {b o n sz kk:Nat} {own:Bool} {xs:List Bool} (ho:XaI h b=some (.row own (vB xs))) (hs:sz=1) (e0:o=0) (en:n=xs.length):XbX h kk (.sl 1) (.slice (some ⟨b,o,none⟩) n sz)=some (.slice (some ⟨kk,0,none⟩) xs.length 1,[some (.row false (vB xs))]):=by
 have:=Xx1 (kk:=kk) (i:=0) (m:=xs.length) ho hs e0 en (by omega)
 simpa using this
theorem XxI {α:Type} {f:α→List Value} {c:Nat} (hf:∀ x,(f x).length=c) (hfl:∀ x,XaR.flatL (f x)=true) {h:Hp} {b o n i m sz kk:Nat} {own:Bool} {xs:List α} (ho:XaI h b=some (.row own (vT f xs))) (hs:sz=c) (e0:o=i*c) (en:n=m) (hle:i+m≤xs.length):XbX h kk (.sl c) (.slice (some ⟨b,o,none⟩) n sz)=some (.slice (some ⟨kk,0,none⟩) m c,[some (.row false (vT f ((xs.drop i).take m)))]):=by
 subst hs e0 en
 refine Xvk ho rfl rfl rfl ?_ (by rw [XoV hf,Xok hf]) (XhP hfl _)
 rw [XlX hf,←Nat.add_mul];exact Nat.mul_le_mul_right _ hle
theorem XyA {α:Type} {f:α→List Value} {c:Nat} (hf:∀ x,(f x).length=c) (hfl:∀ x,XaR.flatL (f x)=true) {h:Hp} {b o n sz kk:Nat} {own:Bool} {xs:List α} (ho:XaI h b=some (.row own (vT f xs))) (hs:sz=c) (e0:o=0) (en:n=xs.length):XbX h kk (.sl c) (.slice (some ⟨b,o,none⟩) n sz)=some (.slice (some ⟨kk,0,none⟩) xs.length c,[some (.row false (vT f xs))]):=by
 have:=XxI hf hfl (kk:=kk) (i:=0) (m:=xs.length) ho hs (by simpa using e0) en (by omega)
 simpa using this
theorem ra_tr {h:Hp} {k:Nat} {ps:List Path} {bs:List PR} {v v' w:Value} {l:List (Option XaY)} (e0:Xer h v ps []=bs) (e1:Xdd (Xrg k bs) v=some v') (e2:Xeu h (Xrg k bs) (fun s=>Xjb k s ps bs) 0 ps bs=some l) (e3:Xqi v' (Xjb k none ps bs)=w):XbX h k (.tr ps) v=some (w,l):=by
 subst e0 e3
 simp only [XbX,e1,e2]
theorem XDb {h:Hp} {s:Nat→Option Nat} {pat:Option Nat→List (Nat×Value)} {i:Nat}:Xeu h s pat i [] []=some []:=rfl
theorem vp_no {h:Hp} {s:Nat→Option Nat} {pat:Option Nat→List (Nat×Value)} {i:Nat} {p:Path} {ps:List Path} {bs:List PR} {l:List (Option XaY)} (t:Xeu h s pat (i+1) ps bs=some l):Xeu h s pat i (p::ps) (.no::bs)=some (none::l):=by
 simp only [Xeu,t]
theorem XBf {h:Hp} {s:Nat→Option Nat} {pat:Option Nat→List (Nat×Value)} {i z:Nat} {p:Path} {ps:List Path} {bs:List PR} {l:List (Option XaY)} (t:Xeu h s pat (i+1) ps bs=some l) (hk:Nat.beq p.kind 3=false:=by rfl):Xeu h s pat i (p::ps) (.nil z::bs)=some (some (mkObj p.kind [])::l):=by
 simp only [Xeu,t,hk,cond_false]
theorem vp_at {h:Hp} {s:Nat→Option Nat} {pat:Option Nat→List (Nat×Value)} {i b:Nat} {p:Path} {ps:List Path} {bs:List PR} {l:List (Option XaY)} {ob:XaY} {cs cs' cs'':List Value} (e1:XaI h b=some ob) (e2:(cond (isW p.kind) ob.wcs ob.cs)=some cs) (e3:Xdd.renL s cs=some cs') (e4:XnC cs' (pat (some i))=cs'')
 (t:Xeu h s pat (i+1) ps bs=some l) (hk:Nat.beq p.kind 3=false:=by rfl):Xeu h s pat i (p::ps) (.hit b::bs)=some (some (mkObj p.kind cs'')::l):=by
 subst e4
 simp only [Xeu,XnR,e1,e2,e3,t,hk,cond_false]
theorem XCS {h:Hp} {s:Nat→Option Nat} {pat:Option Nat→List (Nat×Value)} {i b:Nat} {p:Path} {ps:List Path} {bs:List PR} {l:List (Option XaY)} {cs:List Value} (e1:XaI h b=some (.mp cs)) (hk:Nat.beq p.kind 3=true)
 (t:Xeu h s pat (i+1) ps bs=some l):Xeu h s pat i (p::ps) (.hit b::bs)=some (some (.mp cs)::l):=by
 simp only [Xeu,XnR,e1,t,hk,cond_true,mapB]
def skipW:Wd→Bool
 | .no|.emp _|.win _ _ _ false|.blk _ false=>true
 | _=>false
theorem Xqd {h:Hp} {s:Nat→Option Nat}:Xcb h s [] []=some h:=rfl
theorem XAN {h h':Hp} {s:Nat→Option Nat} {x:Wd} {ws:List Wd} {c:Option (List Value)} {cs:List (Option (List Value))} (hx:skipW x=true) (t:Xcb h s ws cs=some h'):Xcb h s (x::ws) (c::cs)=some h':=by
 cases x with
 | win b o n w=>cases w<;>first|(simp only [Xcb];exact t)|cases hx
 | blk b w=>cases w<;>first|(simp only [Xcb];exact t)|cases hx
 | _=>simp only [Xcb];exact t
theorem XuG {h h':Hp} {s:Nat→Option Nat} {b off n:Nat} {ws:List Wd} {c c' x y:List Value} {cs:List (Option (List Value))} {ob ob':XaY} (e1:XaI h b=some ob) (e2:ob.wcs=some x) (e3:Xdd.renL s c=some c') (e4:c'.length=n∧off+n≤x.length) (e5:setAt x off c'=y) (e6:ob.wr y=some ob') (t:Xcb (XfG h b ob') s ws cs=some h') (hm:mk3 c=none:=by rfl) :
 Xcb h s (.win b off n true::ws) (some c::cs)=some h':=by
 subst e5
 have e4':c'.length=n∧off+n≤x.length∧mk3 c=none:=⟨e4.1,e4.2,hm⟩
 simp only [Xcb,e1,e2,e3,e6,if_pos e4'];exact t
theorem XBP {h h':Hp} {s:Nat→Option Nat} {b:Nat} {ws:List Wd} {c c' x:List Value} {cs:List (Option (List Value))} {ob ob':XaY} (e1:XaI h b=some ob) (e2:ob.wcs=some x) (e3:Xdd.renL s c=some c') (e6:ob.wr c'=some ob') (t:Xcb (XfG h b ob') s ws cs=some h') (hm:mk3 c=none:=by rfl) :
 Xcb h s (.blk b true::ws) (some c::cs)=some h':=by
 have:Xye s ob c=some ob':=by
  unfold Xye
  rw [hm]
  cases ob<;>first|(simp only [e2,e3];exact e6)|cases e2
 simp only [Xcb,e1,this];exact t
theorem XCl {h h':Hp} {s:Nat→Option Nat} {b:Nat} {ws:List Wd} {c0 c:List Value} {cs:List (Option (List Value))} (e1:XaI h b=some (.mp c0)) (t:Xcb (XfG h b (.mp c)) s ws cs=some h') :
 Xcb h s (.blk b true::ws) (some (.float .f64 0::c)::cs)=some h':=by
 simp only [Xcb,e1,Xye,mk3];exact t
theorem XBH {h h':Hp} {s:Nat→Option Nat} {b:Nat} {ws:List Wd} {cs:List (Option (List Value))} (t:Xcb (XkL h b) s ws cs=some h'):Xcb h s (.blk b true::ws) (none::cs)=some h':=by
 simp only [Xcb];exact t
theorem Xph {h:Hp} {s:Nat→Option Nat} {top:Nat}:XgM h s top []=some h:=rfl
theorem Xyr {h h':Hp} {s:Nat→Option Nat} {top:Nat} {c c':List Value} {cs:List (List Value)} (e:Xdd.renL s c=some c') (t:XgM (XfG h top (.row true c')) s (top+1) cs=some h'):XgM h s top (c::cs)=some h':=by
 simp only [XgM,e];exact t
theorem XgS {s:Nat→Option Nat} {k:IntKind} {xs:List Int}:Xdd.renL s (vI k xs)=some (vI k xs):=Xb0 _ _ (Xf8 _ _)
theorem Xwi {s:Nat→Option Nat} {xs:List Bool}:Xdd.renL s (vB xs)=some (vB xs):=Xb0 _ _ (Xib _)
theorem Xwk {s:Nat→Option Nat} {xs:List (List UInt8)}:Xdd.renL s (vS xs)=some (vS xs):=Xb0 _ _ (Xh3 _)
theorem XwB {s:Nat→Option Nat} {α:Type} {f:α→List Value} (hfl:∀ x,XaR.flatL (f x)=true) {xs:List α}:Xdd.renL s (vT f xs)=some (vT f xs):=Xb0 _ _ (XhP hfl _)
def XuP (n:Nat) (wr:List (Option (List Value))):List Nat→Prop
 | []=>True
 | j::js=>(n≤j∨wr[j]?=some none)∧XuP n wr js
theorem Xqk {n:Nat} {wr:List (Option (List Value))}:∀ {js:List Nat},XuP n wr js→∀ j∈js,n≤j∨wr[j]?=some none
 | [],_,j,h=>by cases h
 | k::js,h,j,hj=>by
   rcases List.mem_cons.1 hj with rfl|hj
   ·exact h.1
   ·exact Xqk h.2 j hj
theorem Res.of {n:Nat} {r:XcJ} {v':Value} {H':Hp} (js:List Nat) (e1:Xdd (Xm5 js n) r.v=some v') (e2:XmB H' (Xm5 js n) js r.new) (e3:js.Nodup) (e4:XuP n r.wr js) (e5:XpG H' (Xm5 js n) 0 r.wr):Res n r v' H':=
 ⟨⟨js,e1,e2,e3,Xqk e4,e5⟩⟩
theorem XbP {H:Hp} {j:Nat} {c:List Value} (h:XaI H j=some (.row true c)):Has H j c:=.inl h
theorem Xfi {H:Hp} {j:Nat} {c:List Value} (h:XaI H j=some (.cells c)):Has H j c:=.inr (.inl h)
abbrev Dec:=List Value→List (Option (List Value))→Option XcJ
def dV {α:Type} (un:Value→Option α) (K:α→Dec):Dec:=fun vs cs=>match vs with
 | v::vs'=>match un v with
   | some x=>K x vs' cs
   | none=>none
 | []=>none
theorem Xcd {α:Type} {un:Value→Option α} {K:α→Dec} {v:Value} {vs:List Value} {cs:List (Option (List Value))} {x:α} (h:un v=some x):dV un K (v::vs) cs=K x vs cs:=by simp only [dV,h]
theorem dV.elim {α:Type} {un:Value→Option α} {K:α→Dec} {vs:List Value} {cs:List (Option (List Value))} {r:XcJ} (h:dV un K vs cs=some r):∃ v vs' x,vs=v::vs'∧un v=some x∧K x vs' cs=some r:=by
 unfold dV at h
 split at h<;>try (cases h;done)
 split at h<;>try (cases h;done)
 exact ⟨_,_,_,rfl,by assumption,h⟩
def dSl {α:Type} (k sz:Nat) (un:List Value→Option (List α)) (K:List α→Dec):Dec:=fun vs cs=>match vs,cs with
 | .slice (some ⟨k',0,none⟩) n sz'::vs',some c::cs'=>match un c with
   | some xs=>if k'=k∧sz'=sz∧n=xs.length then K xs vs' cs' else none
   | none=>none
 | _,_=>none
theorem Xtl {α:Type} {k sz:Nat} {un:List Value→Option (List α)} {K:List α→Dec} {vs:List Value} {c:List Value} {cs:List (Option (List Value))} {xs:List α} (h:un c=some xs):dSl k sz un K (.slice (some ⟨k,0,none⟩) xs.length sz::vs) (some c::cs)=K xs vs cs:=by simp [dSl,h]
theorem dSl.elim {α:Type} {k sz:Nat} {un:List Value→Option (List α)} {K:List α→Dec} {vs:List Value} {cs:List (Option (List Value))} {r:XcJ} (h:dSl k sz un K vs cs=some r):∃ c vs' cs' xs,vs=.slice (some ⟨k,0,none⟩) xs.length sz::vs'∧cs=some c::cs'∧un c=some xs∧K xs vs' cs'=some r:=by
 unfold dSl at h
 split at h<;>try (cases h;done)
 split at h<;>try (cases h;done)
 split at h<;>try (cases h;done)
 rename_i hc
 obtain ⟨rfl,rfl,rfl⟩:=hc
 exact ⟨_,_,_,_,rfl,rfl,by assumption,h⟩
def dTr {α:Type} (n:Nat) (un:Value→List (Option (List Value))→Option α) (K:α→Dec):Dec:=fun vs cs=>match vs with
 | v::vs'=>match un v (cs.take n) with
   | some x=>K x vs' (cs.drop n)
   | none=>none
 | []=>none
theorem XbZ {α:Type} {n:Nat} {un:Value→List (Option (List Value))→Option α} {K:α→Dec} {v:Value} {vs:List Value} {cs cs1 cs2:List (Option (List Value))} {x:α} (h1:cs.take n=cs1) (h2:cs.drop n=cs2) (h:un v cs1=some x):dTr n un K (v::vs) cs=K x vs cs2:=by
 subst h1 h2;simp only [dTr,h]
theorem dTr.elim {α:Type} {n:Nat} {un:Value→List (Option (List Value))→Option α} {K:α→Dec} {vs:List Value} {cs:List (Option (List Value))} {r:XcJ} (h:dTr n un K vs cs=some r):∃ v vs' cs1 cs2 x,vs=v::vs'∧cs=cs1++cs2∧un v cs1=some x∧K x vs' cs2=some r:=by
 unfold dTr at h
 split at h<;>try (cases h;done)
 split at h<;>try (cases h;done)
 exact ⟨_,_,_,_,_,rfl,(List.take_append_drop n cs).symm,by assumption,h⟩
def dPt {α:Type} (k:Nat) (un:List Value→Option α) (K:α→Dec):Dec:=fun vs cs=>match vs,cs with
 | .pointer (some ⟨k',0,none⟩)::vs',some c::cs'=>match un c with
   | some x=>if k'=k then K x vs' cs' else none
   | none=>none
 | _,_=>none
theorem XnJ {α:Type} {k:Nat} {un:List Value→Option α} {K:α→Dec} {vs:List Value} {c:List Value} {cs:List (Option (List Value))} {x:α} (h:un c=some x):dPt k un K (.pointer (some ⟨k,0,none⟩)::vs) (some c::cs)=K x vs cs:=by simp [dPt,h]
theorem dPt.elim {α:Type} {k:Nat} {un:List Value→Option α} {K:α→Dec} {vs:List Value} {cs:List (Option (List Value))} {r:XcJ} (h:dPt k un K vs cs=some r):∃ c vs' cs' x,vs=.pointer (some ⟨k,0,none⟩)::vs'∧cs=some c::cs'∧un c=some x∧K x vs' cs'=some r:=by
 unfold dPt at h
 split at h<;>try (cases h;done)
 split at h<;>try (cases h;done)
 split at h<;>try (cases h;done)
 rename_i hc
 subst hc
 exact ⟨_,_,_,_,rfl,rfl,by assumption,h⟩
def dNo:Nat→Dec→Dec
 | 0,K=>K
 | n+1,K=>fun vs cs=>match cs with
   | none::cs'=>dNo n K vs cs'
   | _=>none
theorem dNo.elim {K:Dec} {vs:List Value} {r:XcJ}:∀ {n:Nat} {cs:List (Option (List Value))},dNo n K vs cs=some r→∃ cs',cs=List.replicate n none++cs'∧K vs cs'=some r
 | 0,cs,h=>⟨cs,rfl,h⟩
 | n+1,cs,h=>by
   simp only [dNo] at h
   split at h<;>try (cases h;done)
   obtain ⟨cs',rfl,h2⟩:=dNo.elim h
   exact ⟨cs',rfl,h2⟩
def dNl (n:Nat) (K:Dec):Dec:=fun vs cs=>match vs with
 | .pointer none::vs'=>dNo n K vs' cs
 | _=>none
theorem dNl.elim {n:Nat} {K:Dec} {vs:List Value} {cs:List (Option (List Value))} {r:XcJ} (h:dNl n K vs cs=some r):∃ vs' cs',vs=.pointer none::vs'∧cs=List.replicate n none++cs'∧K vs' cs'=some r:=by
 unfold dNl at h
 split at h<;>try (cases h;done)
 obtain ⟨cs',rfl,h2⟩:=dNo.elim h
 exact ⟨_,cs',rfl,rfl,h2⟩
def Xev (r:Option XcJ):Dec:=fun vs cs=>match vs,cs with
 | [],[]=>r
 | _,_=>none
theorem Xev.elim {o:Option XcJ} {vs:List Value} {cs:List (Option (List Value))} {r:XcJ} (h:Xev o vs cs=some r):vs=[]∧cs=[]∧o=some r:=by
 unfold Xev at h
 split at h<;>try (cases h;done)
 exact ⟨rfl,rfl,h⟩
def orD (a b:Dec):Dec:=fun vs cs=>match a vs cs with
 | some r=>some r
 | none=>b vs cs
theorem orD.elim {a b:Dec} {vs:List Value} {cs:List (Option (List Value))} {r:XcJ} (h:orD a b vs cs=some r):a vs cs=some r∨b vs cs=some r:=by
 unfold orD at h
 split at h
 ·cases h;left;assumption
 ·exact .inr h
def ofG {α:Type} (o:Option α) (f:α→XcJ):Option XcJ:=match o with
 | some x=>some (f x)
 | none=>none
theorem Xbe {α:Type} {o:Option α} {f:α→XcJ} {x:α} (h:o=some x):ofG o f=some (f x):=by subst h;rfl
theorem ofG.elim {α:Type} {o:Option α} {f:α→XcJ} {r:XcJ} (h:ofG o f=some r):∃ x,o=some x∧f x=r:=by
 cases o with
 | none=>cases h
 | some x=>exact ⟨x,rfl,by cases h;rfl⟩
def asS:Value→Option (List UInt8)|.string s=>some s.data.toList|_=>none
theorem XnH (v:Value) (x:List UInt8) (h:asS v=some x):v=.string ⟨⟨x⟩⟩:=by cases v<;>simp [asS] at h;subst h;rfl
theorem XcC (k:IntKind) (xs:List Int):unL (asI k) (vI k xs)=some xs:=Xtw (fun x=>by simp [asI]) xs
theorem XcB {k:IntKind} {cs:List Value} {xs:List Int} (h:unL (asI k) cs=some xs):cs=vI k xs:=XpJ (XnA k) h
theorem Xx9 {cs:List Value} {xs:List Bool} (h:unL asB cs=some xs):cs=vB xs:=XpJ Xn3 h
theorem Xxq {cs:List Value} {xs:List (List UInt8)} (h:unL asS cs=some xs):cs=vS xs:=XpJ (g:=fun s=>Value.string ⟨⟨s⟩⟩) XnH h
end Go.Vm
namespace Go.Vm
open Go Go.RowKit
def opsD (c:VC) (n:Nat):List XbY:=match c with|.reg ops=>ops.drop n|.regD _ _ post=>post.drop n|_=>[]
end Go.Vm
namespace Go.Vm
open Go Go.RowKit
theorem st_I {k:IntKind} {xs:List Int} {o i:Nat} {x:Int} {K:List Value→Prop} (hb:decide (i<xs.length)=true) (e:o=i) (h:K (vI k (xs.set i x))) :
 req (decide ((XaO (.int k x)).length=1∧o+1≤(vI k xs).length)&&(XaO (.int k x)).all XiU) (∃ cs',setAt (vI k xs) o (XaO (.int k x))=cs'∧K cs'):=req.intro (Xy4 hb e) (XB5 e h)
theorem st_B {xs:List Bool} {o i:Nat} {x:Bool} {K:List Value→Prop} (hb:decide (i<xs.length)=true) (e:o=i) (h:K (vB (xs.set i x))) :
 req (decide ((XaO (.bool x)).length=1∧o+1≤(vB xs).length)&&(XaO (.bool x)).all XiU) (∃ cs',setAt (vB xs) o (XaO (.bool x))=cs'∧K cs'):=req.intro (XAb hb e) (XB3 e h)
theorem st_S {xs:List (List UInt8)} {o i:Nat} {x:List UInt8} {K:List Value→Prop} (hb:decide (i<xs.length)=true) (e:o=i) (h:K (vS (xs.set i x))) :
 req (decide ((XaO (.string ⟨⟨x⟩⟩)).length=1∧o+1≤(vS xs).length)&&(XaO (.string ⟨⟨x⟩⟩)).all XiU) (∃ cs',setAt (vS xs) o (XaO (.string ⟨⟨x⟩⟩))=cs'∧K cs'):=req.intro (XzR hb e) (XCf e h)
end Go.Vm
namespace Go.Vm
theorem br.h2 {α:Type} {b b':Bool} {X Y:Option α} {r:α} {p q:Prop} (h:cond b' X Y=some r) (e:b=b') (k2:b'=false→Y=some r→q) (k1:b'=true→X=some r→p):br b p q:=br.h h e k1 k2
end Go.Vm
namespace Go.Vm
open Go Go.RowKit
theorem VR.ofNil {ρ:Ren} {s:Nat} {rv:Value} (h:VR ρ (.slice none 0 s) rv) (j sz:Nat):VR ρ (.slice (some ⟨j,0,none⟩) 0 sz) rv:=by
 cases h;exact .slice0 none
mutual
inductive Nv (j:Nat):Value→Value→Prop
 | same (v):Nv j v v
 | nil (s sz):Nv j (.slice none 0 s) (.slice (some ⟨j,0,none⟩) 0 sz)
 | tup {a b:List Value} (h:NvL j a b):Nv j (.tuple ⟨a⟩) (.tuple ⟨b⟩)
 | agg {a b:List Value} (h:NvL j a b):Nv j (.agg ⟨a⟩) (.agg ⟨b⟩)
inductive NvL (j:Nat):List Value→List Value→Prop
 | nil:NvL j [] []
 | cons {v v':Value} {l l':List Value} (h:Nv j v v') (t:NvL j l l'):NvL j (v::l) (v'::l')
end
mutual
theorem Nv.vr {j:Nat} {ρ:Ren}:∀ {v v':Value},Nv j v v'→∀ {rv:Value},VR ρ v rv→VR ρ v' rv
 | _,_,.same v,_,h=>h
 | _,_,.nil s sz,_,h=>VR.ofNil h _ _
 | _,_,.tup hl,_,h=>by cases h with|tuple ht=>exact .tuple (NvL.vr hl ht)
 | _,_,.agg hl,_,h=>by cases h with|agg ht=>exact .agg (NvL.vr hl ht)
theorem NvL.vr {j:Nat} {ρ:Ren}:∀ {l l':List Value},NvL j l l'→∀ {rl:List Value},VRL ρ l rl→VRL ρ l' rl
 | _,_,.nil,_,h=>h
 | _,_,.cons hv ht,_,h=>by cases h with|cons a b=>exact .cons (Nv.vr hv a) (NvL.vr ht b)
end
end Go.Vm
namespace Go.Vm
end Go.Vm
namespace Go.Vm
open Go Go.RowKit
def XoS (o:XaY) (K:XaY→Prop):Prop:=
 match o with
 | .cells cs=>Xkx cs fun cs=>K (.cells cs)
 | .row own cs=>Xkx cs fun cs=>K (.row own cs)
 | .ty t cs=>K (.ty t cs)
 | .siter s p=>K (.siter s p)
 | .mp cs=>K (.mp cs)
 | .loop l=>K (.loop l)
 | .marks=>K .marks
theorem XqQ (o:XaY) (K:XaY→Prop):XoS o K=K o:=by
 cases o<;>simp only [XoS,Xh5]
def Xiy (bs:List Nat) (h:Hp) (K:Hp→Prop):Prop:=
 match h with
 | []=>K []
 | (i,o)::l=>cond (XxP i bs) (XoS o fun o=>Xiy bs l fun l=>K ((i,o)::l)) (XsJ o fun o=>Xiy bs l fun l=>K ((i,o)::l))
theorem Xkl (bs:List Nat):∀ (h:Hp) (K:Hp→Prop),Xiy bs h K=K h
 | [],K=>rfl
 | (i,o)::l,K=>by
   rw [Xiy]
   cases XxP i bs
   ·rw [cond_false,Xnr,Xkl bs l]
   ·rw [cond_true,XqQ,Xkl bs l]
theorem Xfx.XuK {s:XcE} {vals:List Value} {h:Hp} {top:Nat} {K:Value→Hp→Nat→Prop} {v:Value} {h':Hp} {top':Nat} (bs:List Nat) (e:XgC s vals h top=some (v,h',top')) (k:Xgf v fun v=>Xiy bs h' fun h'=>K v h' top'):Xfx s vals h top K:=
 Xfx.intro e (by simpa only [Xgd,Xkl] using k)
end Go.Vm
namespace Go.Vm
open Go Go.RowKit
inductive Xzf:Value→Hp→Nat→Value→Hp→Nat→Prop
 | refl (v:Value) (H:Hp) (t:Nat):Xzf v H t v H t
 | val {v v' v2:Value} {H H2:Hp} {t t2:Nat} (h:Nv t v v') (k:Xzf v' (XfG H t (.row true [])) (t+1) v2 H2 t2):Xzf v H t v2 H2 t2
 | cell {v v2:Value} {H H2:Hp} {t t2 s:Nat} (b i sz:Nat) {cs:List Value} (hb:XaI H b=some (.cells cs)) (hi:cs[i]?=some (.slice none 0 s)) (k:Xzf v (XfG (XfG H b (.cells (cs.set i (.slice (some ⟨t,0,none⟩) 0 sz)))) t (.row true [])) (t+1) v2 H2 t2):Xzf v H t v2 H2 t2
theorem XAI {P:Program} {w0:World} {U:UG} {ρ:Ren} {H:Hp} {top s:Nat} {w:World} (h:HpR P w0 U ρ H top w) {b i:Nat} (sz:Nat) {cs:List Value} (hb:XaI H b=some (.cells cs)) (hi:cs[i]?=some (.slice none 0 s)):HpR P w0 U ρ (XfG H b (.cells (cs.set i (.slice (some ⟨top,0,none⟩) 0 sz)))) top w:=
 { h with
   obj:=fun j o ho=>by
    rw [XaT] at ho
    split at ho
    ·rename_i hj;subst hj;cases ho
     obtain ⟨l,hl,hc,hw⟩:=h.obj b _ hb
     refine ⟨l,hl,?_,fun _=>hw rfl⟩
     obtain ⟨g1,g2,g3⟩:=(hc:XaX ρ w l true cs)
     refine ⟨by simpa using g1,fun k v hv=>?_,g3⟩
     rw [List.getElem?_set] at hv
     split at hv
     ·rename_i hk;subst hk
      split at hv
      ·cases hv
       obtain ⟨v',a,b'⟩:=g2 i _ hi
       exact ⟨v',a,VR.ofNil b' _ _⟩
      ·cases hv
     ·exact g2 k v hv
    ·exact h.obj j o ho
   dis:=fun j k oj ok lj lk hjk hj hk hlj hlk hw=>by
    have key:∀ j o,XaI (XfG H b (.cells (cs.set i (.slice (some ⟨top,0,none⟩) 0 sz)))) j=some o→∃ o',XaI H j=some o'∧(writable o=true→writable o'=true):=fun j o ho=>by
     rw [XaT] at ho
     split at ho
     ·rename_i hj;subst hj;exact ⟨_,hb,fun _=>rfl⟩
     ·exact ⟨o,ho,id⟩
    obtain ⟨oj',a1,a2⟩:=key j oj hj
    obtain ⟨ok',b1,_⟩:=key k ok hk
    exact h.dis j k oj' ok' lj lk hjk a1 b1 hlj hlk (a2 hw) }
theorem Xzf.ok {P:Program} {w0:World} {U:Nat→Nat→Prop} {v v2 rv:Value} {H H2:Hp} {t t2:Nat} (k:Xzf v H t v2 H2 t2):∀ {ρ:Ren} {w:World},VR ρ v rv→HpR P w0 (.of U) ρ H t w→∃ ρ',Ext ρ ρ'∧VR ρ' v2 rv∧HpR P w0 (.of U) ρ' H2 t2 w:=by
 induction k with
 | refl=>intro ρ w h1 h2;exact ⟨ρ,Ext.refl ρ,h1,h2⟩
 | val h k ih=>
   intro ρ w h1 h2
   have hx:=Ext.upd (l:=⟨0,0,0⟩) h2.XkM
   obtain ⟨ρ',e1,e2,e3⟩:=ih ((h.vr h1).mono hx) (XjO h2)
   exact ⟨ρ',hx.trans e1,e2,e3⟩
 | cell b i sz hb hi k ih=>
   intro ρ w h1 h2
   have hx:=Ext.upd (l:=⟨0,0,0⟩) h2.XkM
   obtain ⟨ρ',e1,e2,e3⟩:=ih (h1.mono hx) (XjO (XAI h2 sz hb hi))
   exact ⟨ρ',hx.trans e1,e2,e3⟩
end Go.Vm
namespace Go.Vm
end Go.Vm
namespace Go.Vm
open Go Go.RowKit
@[simp] theorem Xzq (l:List UInt8):(ofBytes l).length=l.length:=by simp [ofBytes]
def un1 {α:Type} (un:Value→Option α):List Value→Option α
 | [v]=>un v
 | _=>none
theorem Xmn {α:Type} {un:Value→Option α} {g:α→Value} (h:∀ v x,un v=some x→v=g x) {cs:List Value} {x:α} (e:un1 un cs=some x):cs=[g x]:=by
 unfold un1 at e
 split at e
 ·rw [h _ _ e]
 ·cases e
theorem XfX (k:IntKind) {n:Int}:asI k (.int k n)=some n:=by simp [asI]
theorem Xf7 {s:List UInt8}:asS (.string ⟨⟨s⟩⟩)=some s:=rfl
def fvV:Option Nat→Value
 | none=>.nilFunc
 | some n=>.func (.func n) ⟨[]⟩ ⟨[]⟩
theorem XfP (x:Option Nat):XaR (fvV x)=true:=by cases x<;>rfl
theorem XxE {h:Hp} {k b o n:Nat} {ob:XaY} {cs cs':List Value} (ho:XaI h b=some ob) (hc:ob.wcs=some cs) (hle:o+n≤cs.length) (e:(cs.drop o).take n=cs') (hf:XaR.flatL cs'=true) :
 XbX h k (.pt n) (.pointer (some ⟨b,o,none⟩))=some (.pointer (some ⟨k,0,none⟩),[some (.cells cs')]):=by
 subst e
 simp only [XbX,ho,hc,hle,hf,↓reduceIte]
theorem fsp {α:Type} {x:Option Nat} {A:Option α} {B:Nat→Option α} {res:α} {G:Prop} (h:x.elim A B=some res) (t:x=none→A=some res→G) (f:∀ n,x=some n→B n=some res→G):G:=by
 cases x with
 | none=>exact t rfl h
 | some n=>exact f n rfl h
theorem fcase {α:Type} {x c:Nat} {A B:Option α} {res:α} {G:Prop} (h:cond (x==c) A B=some res) (t:x=c→A=some res→G) (f:B=some res→G):G:=by
 cases hx:(x==c)
 ·rw [hx] at h;exact f h
 ·rw [hx] at h;exact t (eq_of_beq hx) h
def XvM (i:Nat) (a b:Dec):Dec:=fun vs cs=>match vs[i]? with
 | some (.pointer none)=>b vs cs
 | _=>a vs cs
theorem XvM.elim {i:Nat} {a b:Dec} {vs:List Value} {cs:List (Option (List Value))} {r:XcJ} (h:XvM i a b vs cs=some r):a vs cs=some r∨b vs cs=some r:=by
 unfold XvM at h
 split at h
 ·exact .inr h
 ·exact .inl h
theorem Xqo {H:Hp} {s:Nat→Option Nat}:XmB H s [] []:=trivial
theorem Xgp {H:Hp} {s:Nat→Option Nat} {j:Nat} {js:List Nat} {c c':List Value} {cs:List (List Value)} (e:Xdd.renL s c=some c') (h:Has H j c') (t:XmB H s js cs):XmB H s (j::js) (c::cs):=⟨⟨_,e,h⟩,t⟩
theorem XpT {n:Nat} {wr:List (Option (List Value))}:XuP n wr []:=trivial
theorem Xgs {n j:Nat} {wr:List (Option (List Value))} {js:List Nat} (h:n≤j) (t:XuP n wr js):XuP n wr (j::js):=⟨.inl h,t⟩
theorem js_r {n j:Nat} {wr:List (Option (List Value))} {js:List Nat} (h:wr[j]?=some none) (t:XuP n wr js):XuP n wr (j::js):=⟨.inr h,t⟩
theorem Xpj {H:Hp} {s:Nat→Option Nat} {k:Nat}:XpG H s k []:=trivial
theorem wr_n {H:Hp} {s:Nat→Option Nat} {k:Nat} {l:List (Option (List Value))} (t:XpG H s (k+1) l):XpG H s k (none::l):=t
theorem wr_s {H:Hp} {s:Nat→Option Nat} {k:Nat} {c c':List Value} {l:List (Option (List Value))} (e:Xdd.renL s c=some c') (h:Has H k c') (t:XpG H s (k+1) l) (hm:mk3 c=none:=by rfl):XpG H s k (some c::l):=⟨by unfold HasW;rw [hm];exact ⟨_,e,h⟩,t⟩
theorem wr_m {H:Hp} {s:Nat→Option Nat} {k:Nat} {c:List Value} {l:List (Option (List Value))} (h:XaI H k=some (.mp c)) (t:XpG H s (k+1) l):XpG H s k (some (.float .f64 0::c)::l):=⟨h,t⟩
theorem Res.flat {n:Nat} {r:XcJ} {v':Value} {H':Hp} {b:Bool} (e:r.v=.bool b) (_:r.new=[]) (h:Res n r v' H'):v'=.bool b:=by
 obtain ⟨js,h1,h2,-⟩:=h.ex
 rw [e] at h1
 cases h1;rfl
theorem Xfx.q {s:XcE} {vals:List Value} {h:Hp} {top:Nat} {K:Value→Hp→Nat→Prop} {r:XcJ} {v':Value} (e1:Xcx h 0 s.modes vals=some (vals,[])) (ew:XhE h s.modes vals=[]) (e2:s.run vals []=some r) (hn:r.new=[]) (hw:r.wr=[]) (e6:Xdd (Xoa top 0 []) r.v=some v')
 (k:Xgf v' fun v=>Xiy [] h fun h'=>K v h' top):Xfx s vals h top K:=by
 refine Xfx.XuK [] (XlD (n:=0) (m:=0) (t':=top) e1 ew rfl e2 rfl (by rw [hn];rfl) rfl rfl (by rw [hw];exact Xqd) (by rw [hn];exact Xph) e6) k
theorem dFin {α:Type} {o:Option α} {f:α→XcJ} {vs:List Value} {cs:List (Option (List Value))} {r:XcJ} (h:Xev (ofG o f) vs cs=some r):vs=[]∧cs=[]∧∃ x,o=some x∧f x=r:=by
 obtain ⟨a,b,c⟩:=Xev.elim h
 exact ⟨a,b,ofG.elim c⟩
theorem Res.z {n:Nat} {r:XcJ} {v':Value} {H':Hp} (e1:Xdd (Xm5 [] n) r.v=some v') (e2:r.new=[]) (e3:r.wr=[]):Res n r v' H':=
 Res.of [] e1 (by rw [e2];exact Xqo) (by decide) XpT (by rw [e3];exact Xpj)
theorem Xfx.p {s:XcE} {vals:List Value} {h:Hp} {top:Nat} {K:Value→Hp→Nat→Prop} {r:XcJ} {v':Value} (e2:s.run vals []=some r)
 (k:Xgf v' fun v=>Xiy [] h fun h'=>K v h' top) (e1:Xcx h 0 s.modes vals=some (vals,[]):=by exact rfl) (ew:XhE h s.modes vals=[]:=by exact rfl) (hn:r.new=[]:=by exact rfl) (hw:r.wr=[]:=by exact rfl) (e6:Xdd (Xoa top 0 []) r.v=some v':=by exact rfl):Xfx s vals h top K:=Xfx.q e1 ew e2 hn hw e6 k
theorem Res.y {n:Nat} {r:XcJ} {v':Value} {H':Hp} (e1:Xdd (Xm5 [] n) r.v=some v':=by exact rfl) (e2:r.new=[]:=by exact rfl) (e3:r.wr=[]:=by exact rfl):Res n r v' H':=Res.z e1 e2 e3
end Go.Vm
namespace Go.Vm
open Go Go.RowKit
section
variable {α:Type} {f:α→List Value} {c:Nat}
end
end Go.Vm
namespace Go.Vm
end Go.Vm
namespace Go.Vm
open Go Go.RowKit Go.WideShapes
section
variable {H:Type} {enc:TypeId×Value→H} {P:Program} {w:World} {base:Nat} {held:Bool}
theorem Xcy.XDg:∀ {ks:List SK} {cs:List Value},Xcy ks cs→∀ v∈cs,XaR v=true
 | [],[],_,v,hv=>by cases hv
 | [],_::_,h,_,_=>h.elim
 | _::_,[],h,_,_=>h.elim
 | k::ks,c::cs,h,v,hv=>by
   rcases List.mem_cons.1 hv with rfl|hv
   ·exact Xkw.flat h.1
   ·exact Xcy.XDg h.2 v hv
def RowN (w:World) (ks:List SK) (a:Option Addr) (len cap:Nat) (zs:List Value):Prop:=
 (a=none∧len=0∧cap=0∧zs=[])∨∃ x,a=some x∧len≤cap∧cap≤maxLen∧zs.length=cap*ks.length∧(∀ (i:Nat) v,zs[i]?=some v→w.cell? (x.add i)=some v)∧∀ i,i<cap→Xcy ks ((zs.drop (i*ks.length)).take ks.length)
theorem XBB {r:Reach} {b0 n:Nat} {t e:TypeId} {ks:List SK} {v:Value} {d:DataW H} {ps:List MemPlace} (ht:P.underlying t=some (.slice e)) (hc:P.cellsOf e=ks.length) (hk:XqS P n e=some ks) (hval:Value.okWide P w r b0 t v)
 (hd:DataW.Trod enc P w base (fun _=>true) held t v d ps):∃ a len cap zs,v=.slice a len cap∧RowN w ks a len cap zs:=by
 obtain ⟨a,len,cap,rfl⟩:=okWide_slice ht hval
 obtain ⟨fuel,hf⟩:=hd
 rcases Go.Deep.open_slice ht hf with ⟨h0,_⟩|⟨x,l,c,m,n',D,Pl,hcs,hb,hl,hm,hmm,_,hx⟩
 ·simp [Value.cells] at h0
  obtain ⟨rfl,rfl,rfl⟩:=h0
  exact ⟨_,_,_,[],rfl,.inl ⟨rfl,rfl,rfl,rfl⟩⟩
 ·simp [Value.cells] at hcs
  obtain ⟨rfl,rfl,rfl⟩:=hcs
  simp only [if_true] at hmm
  subst hmm
  obtain ⟨CS,hCS⟩:=Go.Deep.choose_lt (α:=List Value) (p:=fun i cs=>w.cells? base (x.add (i*P.cellsOf e)) (P.cellsOf e)=some cs∧DataW.trod enc P w base (fun _=>true) held n' e cs=some (D i,Pl i)) hx
  rw [hc] at hCS
  have hlen:∀ i,i<m→(CS i).length=ks.length:=fun i hi=>(World.cells?_some (hCS i hi).1).2.1
  refine ⟨_,_,_,vT (fun i=>if i<m then CS i else List.replicate ks.length (.bool false)) (List.range m),rfl,.inr ⟨x,rfl,hl,hm,?_,?_,?_⟩⟩
  all_goals
   have hF:∀ i,(if i<m then CS i else List.replicate ks.length (.bool false)).length=ks.length:=fun i=>by
    split
    ·rename_i hi;exact hlen i hi
    ·simp
  ·rw [XlX hF,List.length_range]
  ·intro k v ev
   have hk0:k<m*ks.length:=by
    rcases Nat.lt_or_ge k (m*ks.length) with h|h
    ·exact h
    ·rw [List.getElem?_eq_none (by rw [XlX hF,List.length_range];exact h)] at ev;cases ev
   have hpos:0<ks.length:=by
    rcases Nat.eq_zero_or_pos ks.length with h|h
    ·rw [h] at hk0;omega
    ·exact h
   have hi:k/ks.length<m:=(Nat.div_lt_iff_lt_mul hpos).2 hk0
   have hj:k%ks.length<ks.length:=Nat.mod_lt _ hpos
   have e1:k/ks.length*ks.length+k%ks.length=k:=by rw [Nat.mul_comm];exact Nat.div_add_mod k ks.length
   have e2:=XxF hF (xs:=List.range m) (i:=k/ks.length) (j:=k%ks.length) (x:=k/ks.length) (List.getElem?_range hi) hj
   rw [e1,if_pos hi] at e2
   rw [e2] at ev
   have h3:=(World.cells?_some (hCS _ hi).1).2.2 (k%ks.length) hj
   rw [Go.Deep.add_add,e1] at h3
   rw [h3];exact ev
  ·intro i hi
   rw [XoV hF]
   have e1:=Xok hF ((List.range m).drop i) 1
   rw [Nat.one_mul] at e1
   rw [e1]
   have e2:((List.range m).drop i).take 1=[i]:=by
    rw [List.drop_eq_getElem_cons (by simpa using hi)]
    simp
   rw [e2]
   show Xcy ks ((if i<m then CS i else List.replicate ks.length (.bool false))++[])
   rw [List.append_nil,if_pos hi]
   exact Xla hk (hCS i hi).2
theorem XBz.rowN {ks:List SK} {w:World} {a:Option Addr} {len cap:Nat} {zs:List Value} (h:RowN w ks a len cap zs) (hpos:0<ks.length):XBz w (.sl ks.length) (.sl len (zs.take (len*ks.length))) (.slice a len cap)∧(zs.take (len*ks.length)).length=len*ks.length∧(∀ i,i<len→Xcy ks (((zs.take (len*ks.length)).drop (i*ks.length)).take ks.length))∧len≤maxLen:=by
 rcases h with ⟨rfl,rfl,rfl,rfl⟩|⟨x,rfl,hl,hm,hz,hc,ho⟩
 ·exact ⟨.inl ⟨⟨_,rfl⟩,rfl,by simp⟩,by simp,fun i hi=>absurd hi (Nat.not_lt_zero _),by simp [maxLen]⟩
 ·have hmul:len*ks.length≤cap*ks.length:=Nat.mul_le_mul_right _ hl
  have hcell:∀ i,i<len→Xcy ks (((zs.take (len*ks.length)).drop (i*ks.length)).take ks.length):=fun i hi=>by
   have h1:=ho i (by omega)
   have h2:(i+1)*ks.length≤len*ks.length:=Nat.mul_le_mul_right _ (by omega)
   rw [Nat.succ_mul] at h2
   rw [List.drop_take,List.take_take,Nat.min_eq_left (by omega)]
   exact h1
  refine ⟨?_,by rw [List.length_take];omega,hcell,by omega⟩
  rcases Nat.eq_zero_or_pos cap with h0|h0
  ·subst h0
   obtain rfl:len=0:=by omega
   exact .inl ⟨⟨_,rfl⟩,rfl,by simp⟩
  ·have hcap:0<cap*ks.length:=Nat.mul_pos h0 hpos
   have hs:x.spot=none:=by
    have:=hc 0 zs[0] (List.getElem?_eq_getElem (by omega))
    cases hx:x.spot with
    | none=>rfl
    | some q=>
      simp only [Addr.add,↓reduceIte,World.cell?] at this
      split at this
      ·simp [hx] at this
      ·cases this
   obtain ⟨b,o,q⟩:=x
   simp only at hs
   subst hs
   have hadd:∀ i,(⟨b,o,none⟩:Addr).add i=⟨b,o+i,none⟩:=fun i=>by
    unfold Addr.add;split
    ·rename_i e;subst e;rfl
    ·rfl
   have hflat:∀ (i:Nat) v,zs[i]?=some v→XaR v=true:=fun i v e=>by
    have hi:i<cap*ks.length:=by
     rcases Nat.lt_or_ge i (cap*ks.length) with h|h
     ·exact h
     ·rw [List.getElem?_eq_none (by omega)] at e;cases e
    have hq:i/ks.length<cap:=(Nat.div_lt_iff_lt_mul hpos).2 hi
    have hj:i%ks.length<ks.length:=Nat.mod_lt _ hpos
    have e1:i/ks.length*ks.length+i%ks.length=i:=by rw [Nat.mul_comm];exact Nat.div_add_mod i ks.length
    refine Xcy.XDg (ho _ hq) v (List.mem_of_getElem? (i:=i%ks.length) ?_)
    rw [List.getElem?_take_of_lt hj,List.getElem?_drop,e1];exact e
   refine .inr ⟨b,o,cap,rfl,hl,fun ρ=>⟨by rw [List.length_take];simp only;omega,fun i v e=>?_,fun i hi=>?_⟩⟩
   ·have hi:i<len*ks.length:=by
     rcases Nat.lt_or_ge i (len*ks.length) with h|h
     ·exact h
     ·rw [List.getElem?_eq_none (by rw [List.length_take];omega)] at e;cases e
    rw [List.getElem?_take_of_lt hi] at e
    have h1:=hc i v e
    rw [hadd] at h1
    exact ⟨v,h1,VR.flat ρ v (hflat i v e)⟩
   ·have hi':i<zs.length:=by simp only at hi;omega
    have h1:=hc i zs[i] (List.getElem?_eq_getElem hi')
    rw [hadd] at h1
    exact ⟨by simp [h1],fun e=>by cases e⟩
end
theorem Xzn {α:Type} {ks:List SK} {c:α→List Value} {ok:α→Prop} (hc:∀ cs,Xcy ks cs→∃ x,cs=c x∧ok x):∀ (len:Nat) (zs:List Value),zs.length=len*ks.length→(∀ i,i<len→Xcy ks ((zs.drop (i*ks.length)).take ks.length))→∃ xs:List α,zs=vT c xs∧xs.length=len∧∀ x∈xs,ok x
 | 0,zs,hl,_=>⟨[],by rw [Nat.zero_mul] at hl;rw [List.eq_nil_of_length_eq_zero hl];rfl,rfl,fun _ h=>by cases h⟩
 | len+1,zs,hl,h=>by
   have h0:=h 0 (by omega)
   rw [Nat.zero_mul,List.drop_zero] at h0
   obtain ⟨x,hx,ox⟩:=hc _ h0
   obtain ⟨xs,h1,h2,h3⟩:=Xzn hc len (zs.drop ks.length) (by rw [List.length_drop,hl,Nat.succ_mul];omega) (fun i hi=>by
    have:=h (i+1) (by omega)
    rw [List.drop_drop,show ks.length+i*ks.length=(i+1)*ks.length by rw [Nat.succ_mul,Nat.add_comm]];exact this)
   refine ⟨x::xs,?_,by simp [h2],fun y hy=>?_⟩
   ·have:vT c (x::xs)=c x++vT c xs:=rfl
    rw [this,←hx,←h1,List.take_append_drop]
   ·rcases List.mem_cons.1 hy with rfl|hy
    ·exact ox
    ·exact h3 y hy
end Go.Vm
namespace Go.Vm
open Go
theorem Xey {n:Int} (h1:-9223372036854775808≤n) (h2:n<9223372036854775808):wI .i64 n=n:=by
 show IntKind.wrap .i64 n=n;rw [IntKind.wrap_i64];omega
theorem Xp3 {n:Int} (h1:0≤n) (h2:n<18446744073709551616):wI .u64 n=n:=by
 show IntKind.wrap .u64 n=n
 simp only [IntKind.wrap,IntKind.bits,IntKind.signed];simp;omega
theorem XuM (n:Int):wI .u64 n=n%18446744073709551616:=by
 show IntKind.wrap .u64 n=_
 simp only [IntKind.wrap,IntKind.bits,IntKind.signed];simp
theorem bv64 {n:Nat} (h:n<18446744073709551616):(BitVec.ofInt 64 (n:Int)).toNat=n:=by
 rw [BitVec.toNat_ofInt];omega
theorem XA0 {a b:Nat} (ha:a<18446744073709551616) (hb:b<18446744073709551616):Xtf .u64 (a:Int) (b:Int)=((a &&& b:Nat):Int):=by
 have h:a &&& b≤a:=Nat.and_le_left
 show IntKind.wrap .u64 _=_
 rw [show IntKind.bits .u64=64 from rfl,BitVec.toNat_and,bv64 (by omega),bv64 (by omega)]
 exact Xp3 (by omega) (by omega)
theorem XBF {a b:Nat} (ha:a<18446744073709551616) (hb:b<18446744073709551616):XqM .u64 (a:Int) (b:Int)=((a ||| b:Nat):Int):=by
 have h:a ||| b<2^64:=Nat.or_lt_two_pow (by omega) (by omega)
 show IntKind.wrap .u64 _=_
 rw [show IntKind.bits .u64=64 from rfl,BitVec.toNat_or,bv64 (by omega),bv64 (by omega)]
 exact Xp3 (by omega) (by omega)
theorem XwN (a k:Nat):a &&& (2^k - 1)=a%2^k:=Nat.and_two_pow_sub_one_eq_mod a k
theorem XCK {a b k:Nat} (hb:b<2^k):(a*2^k) ||| b=a*2^k+b:=by
 rw [Nat.mul_comm];exact (Nat.two_pow_add_eq_or_of_lt hb a).symm
theorem Xji (k:Nat) {a m:Int} (hm:m=2^k - 1) (hk:k≤64) (h0:0≤a) (h1:a<18446744073709551616):Xtf .u64 a m=a%2^k:=by
 obtain ⟨n,rfl⟩:=Int.eq_ofNat_of_zero_le h0
 have hp:2^k≤2^64:=Nat.pow_le_pow_right (by decide) hk
 have hp1:1≤2^k:=Nat.one_le_two_pow
 have:m=((2^k - 1:Nat):Int):=by rw [hm];push_cast [hp1];rfl
 rw [this,XA0 (by omega) (by omega),XwN];push_cast;rfl
theorem Xzw (a:Int) (k:Nat):a.fdiv (2^k)=a/2^k:=Int.fdiv_eq_ediv_of_nonneg a (Int.le_of_lt (Int.pow_pos (by decide)))
theorem XaH {α:Type} {p:Prop} [Decidable p] {x:Option α} (h:p):XaL (decide p) x=x:=XaL.mk (decide_eq_true h)
theorem XbS {α:Type} {p:Prop} [Decidable p] {x y:α} (h:p):cond (decide p) x y=x:=by rw [decide_eq_true h,cond_true]
theorem XaW {α:Type} {p:Prop} [Decidable p] {x y:α} (h:¬ p):cond (decide p) x y=y:=by rw [decide_eq_false h,cond_false]
theorem Xvj {α:Type} {p:Prop} [Decidable p] {x y:α}:cond (decide p) x y=if p then x else y:=by
 by_cases h:p<;>simp [h]
theorem iter_eq {σ ρ:Type} {step:σ→Option (Sum σ ρ)} (F:σ→ρ) (P:σ→Prop) (μ:σ→Nat)
 (h:∀ s,P s→step s=some (.inr (F s))∨∃ s',step s=some (.inl s')∧P s'∧μ s'<μ s∧F s'=F s):∀ n s,P s→μ s<n→iter step n s=some (F s)
 | 0,s,hp,hn=>by omega
 | n+1,s,hp,hn=>by
   rw [iter]
   rcases h s hp with e|⟨s',e,hp',hm,hf⟩
   ·rw [e]
   ·rw [e];exact hf▸iter_eq F P μ h n s' hp' (by omega)
theorem XcD:FUEL=18446744073709551616:=rfl
end Go.Vm
namespace Go.Vm.Code
open Go Go.Vm Go.Proofs
def τ0:Operand:=.tmp 0
def τ1:Operand:=.tmp 1
def τ2:Operand:=.tmp 2
def τ3:Operand:=.tmp 3
def τ4:Operand:=.tmp 4
def τ5:Operand:=.tmp 5
def τ6:Operand:=.tmp 6
def τ7:Operand:=.tmp 7
def τ8:Operand:=.tmp 8
def τ9:Operand:=.tmp 9
def Xg9:Operand:=.tmp 10
def XgW:Operand:=.tmp 11
def Xhc:Operand:=.tmp 12
def Xhg:Operand:=.tmp 13
def XhN:Operand:=.tmp 14
def Xhv:Operand:=.tmp 15
def XiV:Operand:=.tmp 16
def Xim:Operand:=.tmp 17
def XhU:Operand:=.tmp 18
def Xks:Operand:=.tmp 19
def Xjx:Operand:=.tmp 20
def Xkm:Operand:=.tmp 21
def XlJ:Operand:=.tmp 22
def Xle:Operand:=.tmp 23
def XlO:Operand:=.tmp 24
def Xly:Operand:=.tmp 25
def Xmh:Operand:=.tmp 26
def XmC:Operand:=.tmp 27
def Xn8:Operand:=.tmp 28
def Xnw:Operand:=.tmp 29
def Xn7:Operand:=.tmp 30
def Xn9:Operand:=.tmp 31
def Xou:Operand:=.tmp 32
def Xpm:Operand:=.tmp 33
def XoP:Operand:=.tmp 34
def Xpb:Operand:=.tmp 35
def XqO:Operand:=.tmp 36
def XqG:Operand:=.tmp 37
def Xqn:Operand:=.tmp 38
def XqT:Operand:=.tmp 39
def Xrh:Operand:=.tmp 40
def Xre:Operand:=.tmp 41
def Xrd:Operand:=.tmp 42
def Xri:Operand:=.tmp 43
def Xrf:Operand:=.tmp 44
def Xuu:Operand:=.tmp 45
def Xtx:Operand:=.tmp 46
def XuV:Operand:=.tmp 47
def XuS:Operand:=.tmp 48
def XuR:Operand:=.tmp 49
def XxJ:Operand:=.tmp 50
def Xyh:Operand:=.tmp 51
def Xyp:Operand:=.tmp 52
def Xz2:Operand:=.tmp 53
def Xys:Operand:=.tmp 54
def XzV:Operand:=.tmp 55
def Xzi:Operand:=.tmp 56
def XyV:Operand:=.tmp 57
def Xzy:Operand:=.tmp 58
def XzT:Operand:=.tmp 59
def XAV:Operand:=.tmp 60
def XAX:Operand:=.tmp 61
def XAS:Operand:=.tmp 62
def XCN:Operand:=.tmp 63
def Xxr:Operand:=.tmp 64
def XBt:Operand:=.tmp 65
def XBA:Operand:=.tmp 66
def XCu:Operand:=.tmp 67
def XCO:Operand:=.tmp 68
def XDj:Operand:=.tmp 69
def XBX:Operand:=.tmp 70
def τ71:Operand:=.tmp 71
def τ72:Operand:=.tmp 72
def τ73:Operand:=.tmp 73
def τ74:Operand:=.tmp 74
def τ75:Operand:=.tmp 75
def τ76:Operand:=.tmp 76
def τ77:Operand:=.tmp 77
def τ78:Operand:=.tmp 78
def τ79:Operand:=.tmp 79
def τ80:Operand:=.tmp 80
def τ81:Operand:=.tmp 81
def XB0:Operand:=.tmp 82
def τ83:Operand:=.tmp 83
def τ84:Operand:=.tmp 84
def τ85:Operand:=.tmp 85
def τ86:Operand:=.tmp 86
def τ87:Operand:=.tmp 87
def τ88:Operand:=.tmp 88
def τ89:Operand:=.tmp 89
def τ90:Operand:=.tmp 90
def τ91:Operand:=.tmp 91
def τ92:Operand:=.tmp 92
def τ93:Operand:=.tmp 93
def τ94:Operand:=.tmp 94
def τ95:Operand:=.tmp 95
def τ96:Operand:=.tmp 96
def τ97:Operand:=.tmp 97
def τ98:Operand:=.tmp 98
def τ99:Operand:=.tmp 99
def Xzv:Operand:=.tmp 100
def Xy6:Operand:=.tmp 101
def Xzd:Operand:=.tmp 102
def XAi:Operand:=.tmp 103
def XAk:Operand:=.tmp 104
def Xyj:Operand:=.tmp 105
def XzC:Operand:=.tmp 106
def Xyy:Operand:=.tmp 107
def XAq:Operand:=.tmp 108
def XAm:Operand:=.tmp 109
def Xy7:Operand:=.tmp 110
def XyX:Operand:=.tmp 111
def XzS:Operand:=.tmp 112
def XyK:Operand:=.tmp 113
def XCs:Operand:=.tmp 114
def XA6:Operand:=.tmp 115
def τ116:Operand:=.tmp 116
def τ117:Operand:=.tmp 117
def τ118:Operand:=.tmp 118
def τ119:Operand:=.tmp 119
def τ120:Operand:=.tmp 120
def τ121:Operand:=.tmp 121
def τ122:Operand:=.tmp 122
def τ123:Operand:=.tmp 123
def τ124:Operand:=.tmp 124
def τ125:Operand:=.tmp 125
def τ126:Operand:=.tmp 126
def τ127:Operand:=.tmp 127
def τ128:Operand:=.tmp 128
def τ129:Operand:=.tmp 129
def τ130:Operand:=.tmp 130
def τ131:Operand:=.tmp 131
def τ132:Operand:=.tmp 132
def τ133:Operand:=.tmp 133
def τ134:Operand:=.tmp 134
def τ135:Operand:=.tmp 135
def τ136:Operand:=.tmp 136
def τ137:Operand:=.tmp 137
def τ138:Operand:=.tmp 138
def τ139:Operand:=.tmp 139
def τ140:Operand:=.tmp 140
def τ141:Operand:=.tmp 141
def τ142:Operand:=.tmp 142
def τ143:Operand:=.tmp 143
def τ144:Operand:=.tmp 144
def τ145:Operand:=.tmp 145
def τ146:Operand:=.tmp 146
def τ147:Operand:=.tmp 147
def τ148:Operand:=.tmp 148
def τ149:Operand:=.tmp 149
def τ150:Operand:=.tmp 150
def τ151:Operand:=.tmp 151
def τ152:Operand:=.tmp 152
def τ153:Operand:=.tmp 153
def τ154:Operand:=.tmp 154
def τ155:Operand:=.tmp 155
def τ156:Operand:=.tmp 156
def τ157:Operand:=.tmp 157
def τ158:Operand:=.tmp 158
def oD (n:Nat) (o:VOp):XbY:=⟨some n,o,none⟩
def oN (o:VOp):XbY:=⟨none,o,none⟩
def oM (n:Nat) (x:Operand):XbY:=⟨some n,.mv x,none⟩
def oG (n:Nat) (o:VOp) (j:Nat) (b:Bool):XbY:=⟨some n,o,some (j,b)⟩
def oE (n i:Nat) (x:Operand):XbY:=⟨some n,.extract i x,none⟩
def k3_6:VC:=.regD [oM 36 τ0,oM 37 τ1,oD 38 (.loadN [(.int .u64),(.int .u64)] τ9),oD 39 (.callF 10 [XqO,XqG,Xqn]),oM 40 τ0,oM 41 τ1,oD 42 (.loadN [(.int .u64),(.int .u64)] τ9)] [(3,6)] [oD 43 (.callF 10 [Xrh,Xre,Xrd]),oM 15 XqT,oM 16 Xri]
def k3_21:VC:=.regD [oM 59 Xhv,oM 60 τ3,oM 61 Xim,oD 62 (.idxAL 2 XAV XAX),oD 63 (.fieldA 0 XAS),oD 64 (.load1 .str XCN),oM 65 τ3,oM 66 Xim,oD 67 (.idxAL 2 XBt XBA),oD 68 (.fieldA 1 XCu),oD 69 (.load1 (.int .i64) XCO),oD 70 (.callF 12 [XzT,Xxr,XDj]),oM 71 τ3,oM 72 Xim,oD 73 (.idxAL 2 τ71 τ72),oD 74 (.loadN [.str,(.int .i64)] τ73)] [(11,15)] [oD 75 (.callF 13 [τ74]),oD 76 (.eqB true XBX τ75)]
def k3_37:VC:=.regD [oM 83 XiV,oM 84 τ4,oM 85 XhU,oD 86 (.idxAL 2 τ84 τ85),oD 87 (.fieldA 0 τ86),oD 88 (.load1 .str τ87),oM 89 τ4,oM 90 XhU,oD 91 (.idxAL 2 τ89 τ90),oD 92 (.fieldA 1 τ91),oD 93 (.load1 (.int .i64) τ92)] [] [oD 94 (.callF 12 [τ83,τ88,τ93])]
def k3_59:VC:=.regD [oM 131 Xhv,oM 132 τ5,oD 133 (.callF 16 [τ131,τ132]),oD 134 (.loadN [(.int .u64),(.int .u64)] τ9),oM 135 τ0,oM 136 τ1,oM 137 Xjx,oM 138 τ5,oD 139 (.callF 17 [τ134,τ135,τ136,τ137,τ138]),oD 140 (.bin .eql τ133 τ139),oM 141 τ140,oG 142 (.mv Xhv) 141 true,oG 143 (.callF 18 [τ142]) 141 true,oG 144 (.mv Xjx) 141 true,oG 145 (.callF 19 [τ144]) 141 true,oG 146 (.bin .eql τ143 τ145) 141 true,oD 147 (.pick τ141 τ146 (.const (.bool false))),oM 148 τ147,oG 149 (.mv Xhv) 148 true,oG 150 (.mv τ6) 148 true,oG 151 (.mv τ5) 148 true,oG 152 (.callF 20 [τ149,τ150,τ151]) 148 true,oG 153 (.mv Xkm) 148 true] [(2,3)] [oG 154 (.bin .eql τ152 τ153) 148 true,oD 155 (.pick τ148 τ154 (.const (.bool false))),oM 156 τ155,oG 157 (.callF 9 []) 156 true,oD 158 (.pick τ156 τ157 (.const (.bool false))),oM 14 τ158]
def k3_74:VC:=.seq (.reg [oD 9 (.box τ2),oD 14 (.mv (.const (.bool false)))]) (.seq (.seq (.reg [oM 22 τ3,oD 23 (.callF 8 [XlJ]),oD 24 (.not Xle),oM 25 XlO,oG 26 (.mv τ4) 25 false,oG 27 (.callF 8 [Xmh]) 25 false,oG 28 (.not XmC) 25 false,oD 29 (.pick Xly (.const (.bool true)) Xn8),oM 30 Xnw,oG 31 (.mv τ5) 30 false,oG 32 (.lenS Xn9) 30 false,oG 33 (.bin .gtr Xou (.const (.int .i64 20))) 30 false,oD 34 (.pick Xn7 (.const (.bool true)) Xpm)]) (.cond XoP (.seq (.reg [oD 35 (.callF 9 []),oM 14 Xpb]) .ret) .skip)) (.seq k3_6 (.seq (.seq (.reg [oM 44 Xhv,oD 45 (.isNil 0 false Xrf),oM 46 τ0,oM 47 τ1,oD 48 (.callF 11 [Xtx,XuV]),oD 49 (.eqB false Xuu XuS)]) (.cond XuR (.seq (.reg [oD 14 (.mv (.const (.bool false)))]) .ret) .skip)) (.seq (.seq (.reg [oM 50 Xhv,oD 51 (.isNil 0 false XxJ)]) (.cond Xyh (.seq (.reg [oD 52 (.callF 9 []),oM 14 Xyp]) .ret) .skip)) (.seq (.seq (.reg [oD 17 (.mv (.const (.int .i64 0)))]) (.block 0 (.loop (.seq (.seq (.reg [oM 53 Xim,oM 54 τ3,oD 55 (.lenL Xys),oD 56 (.bin .lss Xz2 XzV)]) (.cond Xzi .skip (.exit 0))) (.seq (.block 1 (.seq k3_21 (.cond τ76 (.seq (.reg [oD 14 (.mv (.const (.bool false)))]) .ret) .skip))) (.reg [oM 57 Xim,oD 58 (.bin .add XyV (.const (.int .i64 1))),oM 17 Xzy])))))) (.seq (.seq (.reg [oD 18 (.mv (.const (.int .i64 0)))]) (.block 2 (.loop (.seq (.seq (.reg [oM 77 XhU,oM 78 τ4,oD 79 (.lenL τ78),oD 80 (.bin .lss τ77 τ79)]) (.cond τ80 .skip (.exit 2))) (.seq (.block 3 k3_37) (.reg [oM 81 XhU,oD 82 (.bin .add τ81 (.const (.int .i64 1))),oM 18 XB0])))))) (.seq (.reg [oM 95 τ0,oM 96 τ1,oD 97 (.fieldA 0 τ9),oD 98 (.load1 (.int .u64) τ97),oD 99 (.fieldA 1 τ9),oD 100 (.load1 (.int .u64) τ99),oD 101 (.bin .add Xzv (.const (.int .u64 1))),oD 102 (.build [(.int .u64 0),(.int .u64 0)] [(0,1,τ98),(1,1,Xy6)]),oD 103 (.callF 10 [τ95,τ96,Xzd]),oM 19 XAi]) (.seq (.seq (.reg [oM 104 Xhv,oM 105 XiV,oD 106 (.callF 14 [XAk,Xyj]),oD 107 (.not XzC),oM 108 Xyy,oG 109 (.mv Xhv) 108 false,oG 110 (.mv Xks) 108 false,oG 111 (.callF 14 [XAm,Xy7]) 108 false,oD 112 (.pick XAq (.const (.bool true)) XyX)]) (.cond XzS (.seq (.reg [oD 14 (.mv (.const (.bool false)))]) .ret) .skip)) (.seq (.reg [oD 20 (.mv (.const (.slice none 0 0)))]) (.seq (.reg [oM 113 Xjx,oM 114 τ3,oD 115 (.app 33 2 24 XyK XCs),oM 20 XA6]) (.seq (.reg [oM 116 Xjx,oM 117 τ4,oD 118 (.app 33 2 24 τ116 τ117),oM 20 τ118]) (.seq (.reg [oD 21 (.mv (.const (.int .i64 (-1))))]) (.seq (.seq (.reg [oM 119 τ6,oD 120 (.bin .geq τ119 (.const (.int .i64 0))),oM 121 τ120,oG 122 (.mv τ6) 121 true,oG 123 (.mv τ0) 121 true,oG 124 (.bin .lss τ122 τ123) 121 true,oD 125 (.pick τ121 τ124 (.const (.bool false)))]) (.cond τ125 (.reg [oD 126 (.loadN [(.int .u64),(.int .u64)] τ9),oM 127 τ6,oM 128 τ1,oM 129 τ5,oD 130 (.callF 15 [τ126,τ127,τ128,τ129]),oM 21 τ130]) .skip)) (.seq k3_59 .ret))))))))))))))
def fn3:VFn:=⟨159,k3_74,[.tmp 14]⟩
def Xzk:VC:=.seq (.seq (.reg [oM 4 τ3,oM 5 τ0,oD 6 (.lenL τ5),oD 7 (.bin .lss τ4 τ6),oM 8 τ7,oG 9 (.mv τ3) 8 true,oG 10 (.bin .lss τ9 (.const (.int .i64 30))) 8 true,oD 11 (.pick τ8 Xg9 (.const (.bool false)))]) (.cond XgW .skip (.exit 0))) (.seq (.block 1 (.seq (.reg [oM 14 τ0,oM 15 τ3,oD 16 (.idxAL 2 XhN Xhv),oD 17 (.fieldA 0 XiV),oD 18 (.load1 .str Xim),oD 19 (.lenS XhU),oD 20 (.bin .gtr Xks (.const (.int .i64 20)))]) (.cond Xjx (.seq (.reg [oD 2 (.mv (.const (.bool false)))]) .ret) .skip))) (.reg [oM 12 τ3,oD 13 (.bin .add Xhc (.const (.int .i64 1))),oM 3 Xhg]))
def XCr:VC:=.seq (.reg [oM 21 τ0,oD 22 (.lenL Xkm),oD 23 (.bin .leq XlJ (.const (.int .i64 30))),oM 2 Xle]) .ret
def XBw:VC:=.seq (.reg [oD 2 (.mv (.const (.bool false)))]) (.seq (.seq (.reg [oD 3 (.mv (.const (.int .i64 0)))]) (.block 0 (.loop Xzk))) XCr)
def fn8:VFn:=⟨24,XBw,[.tmp 2]⟩
def k9_6:VC:=.reg [oM 23 τ2,oM 24 Xle,oG 25 (.mv τ3) 24 true,oG 26 (.bin .eql Xly (.const (.int .i64 3))) 24 true,oG 27 (.mv Xmh) 24 true,oG 28 (.mv τ3) 27 false,oG 29 (.bin .eql Xn8 (.const (.int .i64 7))) 27 false,oG 30 (.pick XmC (.const (.bool true)) Xnw) 24 true,oD 31 (.pick XlO Xn7 (.const (.bool false))),oM 32 Xn9,oG 33 (.mv τ1) 32 true,oG 34 (.callF 18 [Xpm]) 32 true,oG 35 (.bin .eql XoP (.const (.int .i64 7))) 32 true,oD 36 (.pick Xou Xpb (.const (.bool false))),oM 37 XqO,oG 38 (.mv τ4) 37 true,oG 39 (.callF 12 [Xqn,(.const (.string ⟨⟨[97]⟩⟩)),(.const (.int .i64 1))]) 37 true,oG 40 (.not XqT) 37 true,oD 41 (.pick XqG Xrh (.const (.bool false))),oM 42 Xre,oG 43 (.mv τ5) 42 true,oG 44 (.callF 12 [Xri,(.const (.string ⟨⟨[97]⟩⟩)),(.const (.int .i64 1))]) 42 true,oG 45 (.not Xrf) 42 true,oD 46 (.pick Xrd Xuu (.const (.bool false))),oM 47 Xtx,oG 48 (.mv τ4) 47 true,oG 49 (.callF 16 [XuS,(.const (.string ⟨⟨[97]⟩⟩))]) 47 true,oG 50 (.mv τ5) 47 true,oG 51 (.callF 18 [XxJ]) 47 true,oG 52 (.bin .add XuR Xyh) 47 true,oG 53 (.bin .eql Xyp (.const (.int .i64 0))) 47 true,oD 54 (.pick XuV Xz2 (.const (.bool false))),oM 55 Xys,oG 56 (.mv τ4) 55 true,oG 57 (.callF 20 [Xzi,(.const (.int .i64 0)),(.const (.string ⟨⟨[97]⟩⟩))]) 55 true,oG 58 (.bin .eql XyV (.const (.int .i64 (-1)))) 55 true,oD 59 (.pick XzV Xzy (.const (.bool false))),oM 60 XzT,oG 61 (.mv τ5) 60 true,oG 62 (.mv τ5) 60 true,oG 63 (.callF 14 [XAX,XAS]) 60 true,oG 64 (.not XCN) 60 true,oD 65 (.pick XAV Xxr (.const (.bool false))),oM 66 XBt,oG 67 (.build [(.int .u64 0),(.int .u64 0)] []) 66 true,oG 68 (.callF 10 [(.const (.int .i64 0)),(.const (.int .i64 1)),XCu]) 66 true,oG 69 (.isNil 0 false XCO) 66 true,oD 70 (.pick XBA XDj (.const (.bool false))),oM 0 XBX]
def XDd:VC:=.seq (.reg [oD 0 (.mv (.const (.bool false)))]) (.seq (.reg [oD 6 (.build [(.int .u64 0),(.int .u64 0)] [(0,1,(.const (.int .u64 1)))]),oD 7 (.callF 10 [(.const (.int .i64 2)),(.const (.int .i64 10)),τ6]),oM 1 τ7]) (.seq (.reg [oM 8 τ1,oD 9 (.callF 12 [τ8,(.const (.string ⟨⟨[97]⟩⟩)),(.const (.int .i64 3))]),oM 10 τ9,oG 11 (.mv τ1) 10 true,oG 12 (.callF 12 [XgW,(.const (.string ⟨⟨[98]⟩⟩)),(.const (.int .i64 4))]) 10 true,oD 13 (.pick Xg9 Xhc (.const (.bool false))),oM 14 Xhg,oG 15 (.mv τ1) 14 true,oG 16 (.callF 12 [Xhv,(.const (.string ⟨⟨[97]⟩⟩)),(.const (.int .i64 (-1)))]) 14 true,oG 17 (.not XiV) 14 true,oD 18 (.pick XhN Xim (.const (.bool false))),oM 2 XhU]) (.seq (.reg [oM 19 τ1,oD 20 (.callF 16 [Xks,(.const (.string ⟨⟨[97]⟩⟩))]),oM 3 Xjx]) (.seq (.reg [oD 4 (.mv (.const (.pointer none)))]) (.seq (.reg [oD 21 (.build [(.int .u64 0),(.int .u64 0),(.slice none 0 0),(.int .i64 0)] []),oD 22 (.box Xkm),oM 5 XlJ]) (.seq k9_6 .ret))))))
def fn9:VFn:=⟨71,XDd,[.tmp 0]⟩
def XCX:VC:=.regD [oM 28 τ7,oM 29 τ7,oD 30 (.nilCheck Xnw),oD 31 (.fieldA 2 Xn7),oD 32 (.load1 .oth Xn9),oM 33 τ1,oD 34 (.mkSl 1 8 [(.int .i64 0)] Xpm Xpm),oD 35 (.buildSl 1 1 [(.slice none 0 0)] [(0,1,XoP)]),oD 36 (.app 69 1 24 Xou Xpb)] [(4,6),(4,7)] [oD 37 (.nilCheck Xn8),oD 38 (.fieldA 2 XqG),oN (.store 1 Xqn XqO)]
def XxR:VC:=.seq (.reg [oD 5 (.box τ2),oD 6 (.mv (.const (.pointer none)))]) (.seq (.seq (.reg [oM 8 τ0,oD 9 (.bin .lss τ8 (.const (.int .i64 1))),oM 10 τ9,oG 11 (.mv τ0) 10 false,oG 12 (.bin .gtr XgW (.const (.int .i64 8))) 10 false,oD 13 (.pick Xg9 (.const (.bool true)) Xhc),oM 14 Xhg,oG 15 (.mv τ1) 14 false,oG 16 (.bin .lss Xhv (.const (.int .i64 1))) 14 false,oD 17 (.pick XhN (.const (.bool true)) XiV),oM 18 Xim,oG 19 (.mv τ1) 18 false,oG 20 (.bin .gtr Xks (.const (.int .i64 4096))) 18 false,oD 21 (.pick XhU (.const (.bool true)) Xjx)]) (.cond Xkm (.seq (.reg [oD 6 (.mv (.const (.pointer none)))]) .ret) .skip)) (.seq (.reg [oD 22 (.loadN [(.int .u64),(.int .u64)] τ5),oD 23 (.build [(.int .u64 0),(.int .u64 0),(.slice none 0 0),(.int .i64 0)] [(0,2,XlJ)]),oD 24 (.box Xle),oM 7 XlO]) (.seq (.seq (.reg [oM 25 τ0,oD 26 (.mv (.const (.int .i64 0)))]) (.block 0 (.loop (.seq (.reg [oD 27 (.bin .lss Xmh Xly)]) (.seq (.cond XmC .skip (.exit 0)) (.seq (.block 1 XCX) (.reg [oD 39 (.bin .add Xmh (.const (.int .i64 1))),oM 26 XqT]))))))) (.seq (.reg [oM 40 τ7,oM 6 Xrh]) .ret))))
def fn10:VFn:=⟨41,XxR,[.tmp 6]⟩
def XAZ:VC:=.reg [oM 18 τ0,oM 19 τ1,oD 20 (.mkFunc 40 [] [τ5]),oD 21 (.callF 39 [XhU,Xks,Xjx])]
def k12_7:VC:=.regD [oM 22 τ0,oD 23 (.nilCheck XlJ),oD 24 (.fieldA 3 Xle),oD 25 (.load1 (.int .i64) τ5)] [] [oD 26 (.callF 41 [XlO,Xly])]
def Xx5:VC:=.seq k12_7 (.seq (.reg [oD 6 (.mv (.const (.bool true)))]) .ret)
def XhQ:VC:=.seq (.reg [oD 5 (.box τ2),oD 6 (.mv (.const (.bool false)))]) (.seq (.seq (.reg [oM 7 τ0,oD 8 (.callF 38 [τ7]),oD 9 (.not τ8),oM 10 τ9,oG 11 (.load1 (.int .i64) τ5) 10 false,oG 12 (.bin .lss XgW (.const (.int .i64 0))) 10 false,oD 13 (.pick Xg9 (.const (.bool true)) Xhc),oM 14 Xhg,oG 15 (.load1 (.int .i64) τ5) 14 false,oG 16 (.bin .gtr Xhv (.const (.int .i64 1048576))) 14 false,oD 17 (.pick XhN (.const (.bool true)) XiV)]) (.cond Xim (.seq (.reg [oD 6 (.mv (.const (.bool false)))]) .ret) .skip)) (.seq XAZ Xx5))
def fn12:VFn:=⟨27,XhQ,[.tmp 6]⟩
def XlC:VC:=.seq (.reg [oD 2 (.mv (.const (.bool false)))]) (.seq (.reg [oM 3 τ0,oD 4 (.isNil 0 true τ3),oM 5 τ4,oG 6 (.mv τ0) 5 true,oG 7 (.nilCheck τ6) 5 true,oG 8 (.fieldA 2 τ7) 5 true,oG 9 (.load1 .oth τ8) 5 true,oG 10 (.lenL τ9) 5 true,oG 11 (.bin .gtr Xg9 (.const (.int .i64 0))) 5 true,oD 12 (.pick τ5 XgW (.const (.bool false))),oM 2 Xhc]) .ret)
def fn38:VFn:=⟨13,XlC,[.tmp 2]⟩
def k40_0:VC:=.reg [oM 3 τ0,oD 4 (.load1 (.int .i64) τ1),oD 5 (.callF 41 [τ3,τ4])]
def fn40:VFn:=⟨6,k40_0,[]⟩
def k41_0:VC:=.reg [oM 4 τ0,oM 5 τ0,oD 6 (.nilCheck τ5),oD 7 (.load1 (.int .i64) τ6),oM 8 τ1,oD 9 (.bin .add τ7 τ8),oD 10 (.minmax false [(.const (.int .i64 1099511627776)),τ9]),oD 11 (.nilCheck τ4),oN (.store 1 XgW Xg9)]
def fn41:VFn:=⟨12,k41_0,[]⟩
def k39_4:VC:=.regD [oM 15 τ2,oM 16 τ0,oD 17 (.nilCheck XiV),oD 18 (.fieldA 2 Xim),oD 19 (.load1 .oth XhU),oM 20 τ6,oD 21 (.idxAL 1 Xks Xjx),oD 22 (.load1 .oth Xkm),oM 23 τ0,oM 24 τ6,oM 25 τ1,oD 26 (.callF 20 [Xle,XlO,Xly]),oD 27 (.idxAL 1 XlJ Xmh)] [(4,11),(7,11)] [oD 28 (.callV Xhv [XmC])]
def Xul:VC:=.seq (.reg [oD 13 (.bin .lss Xhc XgW)]) (.seq (.cond Xhg .skip (.exit 0)) (.seq (.block 1 (.seq (.reg [oM 14 Xhc,oM 6 XhN]) k39_4)) (.reg [oD 29 (.bin .add Xhc (.const (.int .i64 1))),oM 12 Xnw])))
def XBD:VC:=.seq (.reg [oM 7 τ0,oD 8 (.nilCheck τ7),oD 9 (.fieldA 2 τ8),oD 10 (.load1 .oth τ9),oD 11 (.lenL Xg9),oD 12 (.mv (.const (.int .i64 0)))]) (.block 0 (.loop Xul))
def fn39:VFn:=⟨30,XBD,[]⟩
def k20_6:VC:=.regD [oM 24 τ0,oD 25 (.nilCheck XlO),oD 26 (.fieldA 0 Xly),oD 27 (.fieldA 0 Xmh),oD 28 (.load1 (.int .u64) XmC),oM 29 τ1,oD 30 (.conv .u64 Xnw),oD 31 (.bin .add Xn8 Xn7),oM 32 τ0,oD 33 (.nilCheck Xou),oD 34 (.fieldA 0 Xpm),oD 35 (.fieldA 1 XoP),oD 36 (.load1 (.int .u64) Xpb),oD 37 (.build [(.int .u64 0),(.int .u64 0)] [(0,1,Xn9),(1,1,XqO)]),oD 7 (.alloc [(.int .u64 0),(.int .u64 0)])] [(4,14),(12,14)] [oN (.store 2 τ7 XqG)]
def k20_7:VC:=.regD [oD 38 (.loadN [(.int .u64),(.int .u64)] τ7),oM 39 τ2,oD 40 (.callF 47 [Xqn,XqT]),oM 41 τ0,oD 42 (.nilCheck Xre),oD 43 (.fieldA 2 Xrd),oD 44 (.load1 .oth Xri),oM 45 τ1,oD 46 (.idxAL 1 Xrf Xuu),oD 47 (.load1 .oth Xtx),oD 48 (.lenL XuV)] [(2,6),(2,9)] [oD 49 (.callF 46 [Xrh,XuS]),oM 6 XuR]
def Xi0:VC:=.seq (.reg [oD 6 (.mv (.const (.int .i64 0)))]) (.seq (.seq (.reg [oM 8 τ0,oD 9 (.callF 38 [τ8]),oD 10 (.not τ9),oM 11 Xg9,oG 12 (.mv τ1) 11 false,oG 13 (.bin .lss Xhc (.const (.int .i64 0))) 11 false,oD 14 (.pick XgW (.const (.bool true)) Xhg),oM 15 XhN,oG 16 (.mv τ1) 15 false,oG 17 (.mv τ0) 15 false,oG 18 (.nilCheck Xim) 15 false,oG 19 (.fieldA 2 XhU) 15 false,oG 20 (.load1 .oth Xks) 15 false,oG 21 (.lenL Xjx) 15 false,oG 22 (.bin .geq XiV Xkm) 15 false,oD 23 (.pick Xhv (.const (.bool true)) XlJ)]) (.cond Xle (.seq (.reg [oD 6 (.mv (.const (.int .i64 (-1))))]) .ret) .skip)) (.seq k20_6 (.seq k20_7 .ret)))
def fn20:VFn:=⟨50,Xi0,[.tmp 6]⟩
def XB1:VC:=.seq (.reg [oD 2 (.box τ0),oD 4 (.mv (.const (.int .u64 0)))]) (.seq (.reg [oD 6 (.loadN [(.int .u64),(.int .u64)] τ2),oD 7 (.callF 61 [τ6]),oM 5 τ7]) (.seq (.reg [oM 8 τ5,oM 9 τ1,oD 10 (.callF 62 [τ8,τ9])]) (.seq (.reg [oM 11 τ5,oD 12 (.callF 63 [XgW]),oM 4 Xhc]) .ret)))
def fn47:VFn:=⟨13,XB1,[.tmp 4]⟩
def XDu:VC:=.seq (.reg [oD 1 (.box τ0),oD 2 (.mv (.const (.pointer none)))]) (.seq (.reg [oD 3 (.fieldA 0 τ1),oD 4 (.load1 (.int .u64) τ3),oD 5 (.bin .xor (.const (.int .u64 8317987319222330741)) τ4),oD 6 (.fieldA 1 τ1),oD 7 (.load1 (.int .u64) τ6),oD 8 (.bin .xor (.const (.int .u64 7237128888997146477)) τ7),oD 9 (.fieldA 0 τ1),oD 10 (.load1 (.int .u64) τ9),oD 11 (.bin .xor (.const (.int .u64 7816392313619706465)) Xg9),oD 12 (.fieldA 1 τ1),oD 13 (.load1 (.int .u64) Xhc),oD 14 (.bin .xor (.const (.int .u64 8387220255154660723)) Xhg),oD 15 (.build [(.int .u64 0),(.int .u64 0),(.int .u64 0),(.int .u64 0)] [(0,1,τ5),(1,1,τ8),(2,1,XgW),(3,1,XhN)]),oD 16 (.build [(.bool false),(.int .u64 0),(.int .u64 0),(.int .u64 0),(.int .u64 0),(.int .u64 0),(.int .i64 0)] [(0,1,(.const (.bool true))),(1,4,Xhv)]),oD 17 (.box XiV),oM 2 Xim]) .ret)
def fn61:VFn:=⟨18,XDu,[.tmp 2]⟩
def k62_7:VC:=.regD [oM 22 τ0,oD 23 (.nilCheck XlJ),oD 24 (.fieldA 5 Xle),oD 25 (.load1 (.int .u64) XlO),oM 26 τ5,oD 27 (.conv .u64 Xmh),oM 28 τ0,oD 29 (.nilCheck Xn8),oD 30 (.fieldA 6 Xnw),oD 31 (.load1 (.int .i64) Xn7),oD 32 (.bin .rem Xn9 (.const (.int .i64 8))),oD 33 (.bin .mul (.const (.int .i64 8)) Xou),oD 34 (.bin .shl XmC Xpm)] [] [oD 35 (.bin .or Xly XoP),oD 36 (.nilCheck XlJ),oD 37 (.fieldA 5 XqO),oN (.store 1 XqG Xpb)]
def XBO:VC:=.regD [oM 51 τ0,oD 52 (.nilCheck Xyh),oD 53 (.fieldA 1 Xyp),oM 54 τ0,oD 55 (.nilCheck Xys),oD 56 (.fieldA 5 XzV),oD 57 (.load1 (.int .u64) Xzi)] [] [oD 58 (.callF 72 [Xz2,XyV])]
def XsP:VC:=.seq (.reg [oD 19 (.bin .lss XhU Xim)]) (.seq (.cond Xks .skip (.exit 0)) (.seq (.block 1 (.seq (.reg [oD 20 (.idxAL 1 XiV XhU),oD 21 (.load1 (.int .u8) Xjx),oM 5 Xkm]) (.seq k62_7 (.seq (.reg [oM 38 τ0,oD 39 (.nilCheck Xqn),oD 40 (.fieldA 6 XqT),oD 41 (.load1 (.int .i64) Xrh),oD 42 (.bin .add Xre (.const (.int .i64 1))),oD 43 (.nilCheck Xqn),oD 44 (.fieldA 6 Xri),oN (.store 1 Xrf Xrd)]) (.seq (.reg [oM 45 τ0,oD 46 (.nilCheck Xuu),oD 47 (.fieldA 6 Xtx),oD 48 (.load1 (.int .i64) XuV),oD 49 (.bin .rem XuS (.const (.int .i64 8))),oD 50 (.bin .eql XuR (.const (.int .i64 0)))]) (.cond XxJ (.seq XBO (.reg [oM 59 τ0,oD 60 (.nilCheck XzT),oD 61 (.fieldA 5 XAV),oN (.store 1 XAX (.const (.int .u64 0)))])) .skip)))))) (.reg [oD 62 (.bin .add XhU (.const (.int .i64 1))),oM 18 XAS])))
def Xya:VC:=.seq (.seq (.reg [oM 6 τ0,oD 7 (.isNil 0 false τ6),oM 8 τ7,oG 9 (.mv τ0) 8 false,oG 10 (.nilCheck τ9) 8 false,oG 11 (.fieldA 0 Xg9) 8 false,oG 12 (.load1 .bool XgW) 8 false,oG 13 (.not Xhc) 8 false,oD 14 (.pick τ8 (.const (.bool true)) Xhg)]) (.cond XhN .ret .skip)) (.seq (.reg [oM 15 τ1,oD 16 (.s2b Xhv),oD 17 (.lenL XiV),oD 18 (.mv (.const (.int .i64 0)))]) (.block 0 (.loop XsP)))
def fn62:VFn:=⟨63,Xya,[]⟩
def k72_0:VC:=.regD [oM 4 τ0,oD 5 (.nilCheck τ4),oD 6 (.idxAA 4 1 τ5 (.const (.int .i64 3))),oD 7 (.load1 (.int .u64) τ6),oM 8 τ1,oD 9 (.bin .xor τ7 τ8),oD 10 (.nilCheck τ4)] [] [oD 11 (.idxAA 4 1 Xg9 (.const (.int .i64 3))),oN (.store 1 XgW τ9)]
def k72_2:VC:=.regD [oM 14 τ0,oD 15 (.nilCheck XhN),oD 16 (.idxAA 4 1 Xhv (.const (.int .i64 0))),oD 17 (.load1 (.int .u64) XiV),oM 18 τ1,oD 19 (.bin .xor Xim XhU),oD 20 (.nilCheck XhN)] [] [oD 21 (.idxAA 4 1 Xjx (.const (.int .i64 0))),oN (.store 1 Xkm Xks)]
def XBx:VC:=.seq k72_0 (.seq (.reg [oM 12 τ0,oD 13 (.callF 73 [Xhc,(.const (.int .i64 2))])]) k72_2)
def fn72:VFn:=⟨22,XBx,[]⟩
def XAE:VC:=.seq (.reg [oD 8 (.bin .lss τ7 τ6)]) (.seq (.cond τ8 .skip (.exit 0)) (.seq (.block 1 (.reg [oM 9 τ0,oD 10 (.callF 76 [τ9])])) (.reg [oD 11 (.bin .add τ7 (.const (.int .i64 1))),oM 7 XgW])))
def Xxx:VC:=.seq (.reg [oM 4 τ1,oD 5 (.minmax false [τ4,(.const (.int .i64 64))]),oD 6 (.minmax true [(.const (.int .i64 0)),τ5]),oD 7 (.mv (.const (.int .i64 0)))]) (.block 0 (.loop XAE))
def fn73:VFn:=⟨12,Xxx,[]⟩
def k76_0:VC:=.regD [oM 2 τ0,oD 3 (.nilCheck τ2),oD 4 (.idxAA 4 1 τ3 (.const (.int .i64 0))),oD 5 (.load1 (.int .u64) τ4),oM 6 τ0,oD 7 (.nilCheck τ6),oD 8 (.idxAA 4 1 τ7 (.const (.int .i64 1))),oD 9 (.load1 (.int .u64) τ8),oD 10 (.bin .add τ5 τ9),oD 11 (.nilCheck τ2)] [] [oD 12 (.idxAA 4 1 XgW (.const (.int .i64 0))),oN (.store 1 Xhc Xg9)]
def k76_1:VC:=.regD [oM 13 τ0,oM 14 τ0,oD 15 (.nilCheck XhN),oD 16 (.idxAA 4 1 Xhv (.const (.int .i64 1))),oD 17 (.load1 (.int .u64) XiV),oD 18 (.callF 78 [Xim,(.const (.int .i64 13))]),oM 19 τ0,oD 20 (.nilCheck Xks),oD 21 (.idxAA 4 1 Xjx (.const (.int .i64 0))),oD 22 (.load1 (.int .u64) Xkm),oD 23 (.bin .xor XhU XlJ),oD 24 (.nilCheck Xhg)] [(5,9)] [oD 25 (.idxAA 4 1 XlO (.const (.int .i64 1))),oN (.store 1 Xly Xle)]
def k76_2:VC:=.regD [oM 26 τ0,oM 27 τ0,oD 28 (.nilCheck XmC),oD 29 (.idxAA 4 1 Xn8 (.const (.int .i64 0))),oD 30 (.load1 (.int .u64) Xnw),oD 31 (.callF 78 [Xn7,(.const (.int .i64 32))]),oD 32 (.nilCheck Xmh)] [] [oD 33 (.idxAA 4 1 Xou (.const (.int .i64 0))),oN (.store 1 Xpm Xn9)]
def k76_3:VC:=.regD [oM 34 τ0,oD 35 (.nilCheck XoP),oD 36 (.idxAA 4 1 Xpb (.const (.int .i64 2))),oD 37 (.load1 (.int .u64) XqO),oM 38 τ0,oD 39 (.nilCheck Xqn),oD 40 (.idxAA 4 1 XqT (.const (.int .i64 3))),oD 41 (.load1 (.int .u64) Xrh),oD 42 (.bin .add XqG Xre),oD 43 (.nilCheck XoP)] [] [oD 44 (.idxAA 4 1 Xri (.const (.int .i64 2))),oN (.store 1 Xrf Xrd)]
def k76_4:VC:=.regD [oM 45 τ0,oM 46 τ0,oD 47 (.nilCheck Xtx),oD 48 (.idxAA 4 1 XuV (.const (.int .i64 3))),oD 49 (.load1 (.int .u64) XuS),oD 50 (.callF 78 [XuR,(.const (.int .i64 16))]),oM 51 τ0,oD 52 (.nilCheck Xyh),oD 53 (.idxAA 4 1 Xyp (.const (.int .i64 2))),oD 54 (.load1 (.int .u64) Xz2),oD 55 (.bin .xor XxJ Xys),oD 56 (.nilCheck Xuu)] [(5,9)] [oD 57 (.idxAA 4 1 Xzi (.const (.int .i64 3))),oN (.store 1 XyV XzV)]
def k76_5:VC:=.regD [oM 58 τ0,oD 59 (.nilCheck Xzy),oD 60 (.idxAA 4 1 XzT (.const (.int .i64 0))),oD 61 (.load1 (.int .u64) XAV),oM 62 τ0,oD 63 (.nilCheck XAS),oD 64 (.idxAA 4 1 XCN (.const (.int .i64 3))),oD 65 (.load1 (.int .u64) Xxr),oD 66 (.bin .add XAX XBt),oD 67 (.nilCheck Xzy)] [] [oD 68 (.idxAA 4 1 XCu (.const (.int .i64 0))),oN (.store 1 XCO XBA)]
def k76_6:VC:=.regD [oM 69 τ0,oM 70 τ0,oD 71 (.nilCheck XBX),oD 72 (.idxAA 4 1 τ71 (.const (.int .i64 3))),oD 73 (.load1 (.int .u64) τ72),oD 74 (.callF 78 [τ73,(.const (.int .i64 21))]),oM 75 τ0,oD 76 (.nilCheck τ75),oD 77 (.idxAA 4 1 τ76 (.const (.int .i64 0))),oD 78 (.load1 (.int .u64) τ77),oD 79 (.bin .xor τ74 τ78),oD 80 (.nilCheck XDj)] [(5,9)] [oD 81 (.idxAA 4 1 τ80 (.const (.int .i64 3))),oN (.store 1 τ81 τ79)]
def k76_7:VC:=.regD [oM 82 τ0,oD 83 (.nilCheck XB0),oD 84 (.idxAA 4 1 τ83 (.const (.int .i64 2))),oD 85 (.load1 (.int .u64) τ84),oM 86 τ0,oD 87 (.nilCheck τ86),oD 88 (.idxAA 4 1 τ87 (.const (.int .i64 1))),oD 89 (.load1 (.int .u64) τ88),oD 90 (.bin .add τ85 τ89),oD 91 (.nilCheck XB0)] [] [oD 92 (.idxAA 4 1 τ91 (.const (.int .i64 2))),oN (.store 1 τ92 τ90)]
def k76_8:VC:=.regD [oM 93 τ0,oM 94 τ0,oD 95 (.nilCheck τ94),oD 96 (.idxAA 4 1 τ95 (.const (.int .i64 1))),oD 97 (.load1 (.int .u64) τ96),oD 98 (.callF 78 [τ97,(.const (.int .i64 17))]),oM 99 τ0,oD 100 (.nilCheck τ99),oD 101 (.idxAA 4 1 Xzv (.const (.int .i64 2))),oD 102 (.load1 (.int .u64) Xy6),oD 103 (.bin .xor τ98 Xzd),oD 104 (.nilCheck τ93)] [(5,9)] [oD 105 (.idxAA 4 1 XAk (.const (.int .i64 1))),oN (.store 1 Xyj XAi)]
def k76_9:VC:=.regD [oM 106 τ0,oM 107 τ0,oD 108 (.nilCheck Xyy),oD 109 (.idxAA 4 1 XAq (.const (.int .i64 2))),oD 110 (.load1 (.int .u64) XAm),oD 111 (.callF 78 [Xy7,(.const (.int .i64 32))]),oD 112 (.nilCheck XzC)] [] [oD 113 (.idxAA 4 1 XzS (.const (.int .i64 2))),oN (.store 1 XyK XyX)]
def Xx0:VC:=.seq k76_0 (.seq k76_1 (.seq k76_2 (.seq k76_3 (.seq k76_4 (.seq k76_5 (.seq k76_6 (.seq k76_7 (.seq k76_8 k76_9))))))))
def fn76:VFn:=⟨114,Xx0,[]⟩
def XCd:VC:=.seq (.reg [oD 4 (.mv (.const (.int .u64 0)))]) (.seq (.reg [oM 6 τ1,oD 7 (.conv .u64 τ6),oD 8 (.bin .and τ7 (.const (.int .u64 63))),oM 5 τ8]) (.seq (.reg [oM 9 τ0,oM 10 τ5,oD 11 (.bin .shl τ9 Xg9),oM 12 τ0,oM 13 τ5,oD 14 (.bin .sub (.const (.int .u64 64)) Xhg),oD 15 (.bin .shr Xhc XhN),oD 16 (.bin .or XgW Xhv),oM 4 XiV]) .ret))
def fn78:VFn:=⟨17,XCd,[.tmp 4]⟩
def k63_7:VC:=.regD [oM 17 τ0,oD 18 (.nilCheck Xim),oD 19 (.fieldA 5 XhU),oD 20 (.load1 (.int .u64) Xks),oM 21 τ0,oD 22 (.nilCheck Xkm),oD 23 (.fieldA 6 XlJ),oD 24 (.load1 (.int .i64) Xle),oD 25 (.conv .u64 XlO),oD 26 (.bin .shl Xly (.const (.int .u64 56)))] [] [oD 27 (.bin .or Xjx Xmh),oD 28 (.callF 72 [τ3,XmC])]
def Xx8:VC:=.seq (.reg [oD 2 (.mv (.const (.int .u64 0)))]) (.seq (.seq (.reg [oM 4 τ0,oD 5 (.isNil 0 false τ4),oM 6 τ5,oG 7 (.mv τ0) 6 false,oG 8 (.nilCheck τ7) 6 false,oG 9 (.fieldA 0 τ8) 6 false,oG 10 (.load1 .bool τ9) 6 false,oG 11 (.not Xg9) 6 false,oD 12 (.pick τ6 (.const (.bool true)) XgW)]) (.cond Xhc (.seq (.reg [oD 2 (.mv (.const (.int .u64 0)))]) .ret) .skip)) (.seq (.reg [oM 13 τ0,oD 14 (.nilCheck Xhg),oD 15 (.fieldA 1 XhN),oD 16 (.loadN [(.int .u64),(.int .u64),(.int .u64),(.int .u64)] Xhv),oD 3 (.alloc [(.int .u64 0),(.int .u64 0),(.int .u64 0),(.int .u64 0)]),oN (.store 4 τ3 XiV)]) (.seq k63_7 (.seq (.reg [oD 29 (.idxAA 4 1 τ3 (.const (.int .i64 2))),oD 30 (.load1 (.int .u64) Xnw),oD 31 (.bin .xor Xn7 (.const (.int .u64 255))),oD 32 (.idxAA 4 1 τ3 (.const (.int .i64 2))),oN (.store 1 Xou Xn9)]) (.seq (.reg [oD 33 (.callF 73 [τ3,(.const (.int .i64 4))])]) (.seq (.reg [oD 34 (.idxAA 4 1 τ3 (.const (.int .i64 0))),oD 35 (.load1 (.int .u64) XoP),oD 36 (.idxAA 4 1 τ3 (.const (.int .i64 1))),oD 37 (.load1 (.int .u64) XqO),oD 38 (.bin .xor Xpb XqG),oD 39 (.idxAA 4 1 τ3 (.const (.int .i64 2))),oD 40 (.load1 (.int .u64) XqT),oD 41 (.bin .xor Xqn Xrh),oD 42 (.idxAA 4 1 τ3 (.const (.int .i64 3))),oD 43 (.load1 (.int .u64) Xrd),oD 44 (.bin .xor Xre Xri),oM 2 Xrf]) .ret))))))
def fn63:VFn:=⟨45,Xx8,[.tmp 2]⟩
def XCo:VC:=.seq (.reg [oD 4 (.mv (.const (.int .i64 0)))]) (.seq (.seq (.reg [oM 5 τ1,oD 6 (.bin .lss τ5 (.const (.int .i64 1))),oM 7 τ6,oG 8 (.mv τ1) 7 false,oG 9 (.bin .gtr τ8 (.const (.int .i64 2147483648))) 7 false,oD 10 (.pick τ7 (.const (.bool true)) τ9)]) (.cond Xg9 (.seq (.reg [oD 4 (.mv (.const (.int .i64 0)))]) .ret) .skip)) (.seq (.reg [oM 11 τ0,oM 12 τ1,oD 13 (.conv .u64 Xhc),oD 14 (.callF 60 [XgW,Xhg]),oD 15 (.idxV1 2 XhN (.const (.int .i64 0))),oD 16 (.conv .i64 Xhv),oM 4 XiV]) .ret))
def fn46:VFn:=⟨17,XCo,[.tmp 4]⟩
def XBJ:VC:=.seq (.reg [oD 4 (.alloc [(.int .u64 0),(.int .u64 0)])]) (.seq (.reg [oM 8 τ0,oM 9 τ1,oD 10 (.callF 71 [τ8,τ9]),oM 7 Xg9,oE 11 0 τ7,oE 12 1 τ7,oM 5 XgW,oM 6 Xhc]) (.seq (.reg [oM 13 τ5,oM 14 τ6,oD 15 (.build [(.int .u64 0),(.int .u64 0)] [(0,1,Xhg),(1,1,XhN)]),oN (.store 2 τ4 Xhv)]) .ret))
def fn60:VFn:=⟨16,XBJ,[.cell 4 [(.int .u64),(.int .u64)] true]⟩
def XxX:VC:=.seq (.reg [oD 4 (.mv (.const (.int .u64 0))),oD 5 (.mv (.const (.int .u64 0)))]) (.seq (.reg [oM 14 τ0,oD 15 (.bin .and XhN (.const (.int .u64 4294967295))),oM 6 Xhv]) (.seq (.reg [oM 16 τ0,oD 17 (.bin .shr XiV (.const (.int .u64 32))),oM 7 Xim]) (.seq (.reg [oM 18 τ1,oD 19 (.bin .and XhU (.const (.int .u64 4294967295))),oM 8 Xks]) (.seq (.reg [oM 20 τ1,oD 21 (.bin .shr Xjx (.const (.int .u64 32))),oM 9 Xkm]) (.seq (.reg [oM 22 τ6,oM 23 τ8,oD 24 (.bin .mul XlJ Xle),oM 10 XlO]) (.seq (.reg [oM 25 τ7,oM 26 τ8,oD 27 (.bin .mul Xly Xmh),oM 28 Xg9,oD 29 (.bin .shr Xn8 (.const (.int .u64 32))),oD 30 (.bin .add XmC Xnw),oM 11 Xn7]) (.seq (.reg [oM 31 XgW,oD 32 (.bin .and Xn9 (.const (.int .u64 4294967295))),oM 12 Xou]) (.seq (.reg [oM 33 XgW,oD 34 (.bin .shr Xpm (.const (.int .u64 32))),oM 13 XoP]) (.seq (.reg [oM 35 Xhc,oM 36 τ6,oM 37 τ9,oD 38 (.bin .mul XqO XqG),oD 39 (.bin .add Xpb Xqn),oM 12 XqT]) (.seq (.reg [oM 40 τ7,oM 41 τ9,oD 42 (.bin .mul Xrh Xre),oM 43 Xhg,oD 44 (.bin .add Xrd Xri),oM 45 Xhc,oD 46 (.bin .shr Xuu (.const (.int .u64 32))),oD 47 (.bin .add Xrf Xtx),oM 4 XuV]) (.seq (.reg [oM 48 τ0,oM 49 τ1,oD 50 (.bin .mul XuS XuR),oM 5 XxJ]) .ret)))))))))))
def fn71:VFn:=⟨51,XxX,[.tmp 4,.tmp 5]⟩
def Xi7:VC:=.seq (.reg [oD 4 (.mv (.const (.int .i64 0)))]) (.seq (.seq (.reg [oM 6 τ0,oD 7 (.callF 38 [τ6]),oD 8 (.not τ7)]) (.cond τ8 (.seq (.reg [oD 4 (.mv (.const (.int .i64 0)))]) .ret) .skip)) (.seq (.reg [oD 5 (.alloc [(.int .i64 0)]),oN (.store 1 τ5 (.const (.int .i64 1099511627776)))]) (.seq (.reg [oM 9 τ0,oM 10 τ1,oD 11 (.mkFunc 45 [] [τ5]),oD 12 (.callF 39 [τ9,Xg9,XgW])]) (.seq (.reg [oD 13 (.load1 (.int .i64) τ5),oM 4 Xhg]) .ret))))
def fn16:VFn:=⟨14,Xi7,[.tmp 4]⟩
def k45_0:VC:=.regD [oD 3 (.load1 (.int .i64) τ1),oM 4 τ0,oD 5 (.nilCheck τ4),oD 6 (.load1 (.int .i64) τ5)] [] [oD 7 (.minmax false [τ3,τ6]),oN (.store 1 τ1 τ7)]
def fn45:VFn:=⟨8,k45_0,[]⟩
def XlL:VC:=.seq (.reg [oD 2 (.mv (.const (.int .i64 0)))]) (.seq (.seq (.reg [oM 3 τ0,oD 4 (.callF 38 [τ3]),oD 5 (.not τ4)]) (.cond τ5 (.seq (.reg [oD 2 (.mv (.const (.int .i64 0)))]) .ret) .skip)) (.seq (.reg [oM 6 τ0,oD 7 (.nilCheck τ6),oD 8 (.fieldA 3 τ7),oD 9 (.load1 (.int .i64) τ8),oM 2 τ9]) .ret))
def fn18:VFn:=⟨10,XlL,[.tmp 2]⟩
def XuB:VC:=.seq (.reg [oD 19 (.bin .lss XhU Xim)]) (.seq (.cond Xks .skip (.exit 0)) (.seq (.block 1 (.seq (.reg [oM 20 XhU,oD 21 (.idxAL 1 XiV XhU),oD 22 (.load1 .oth Xkm),oM 5 Xjx,oM 6 XlJ]) (.seq (.reg [oM 23 τ6,oD 24 (.lenL Xle),oD 25 (.mv (.const (.int .i64 0)))]) (.block 2 (.loop (.seq (.reg [oD 26 (.bin .lss Xly XlO)]) (.seq (.cond Xmh .skip (.exit 2)) (.seq (.block 3 (.seq (.reg [oM 27 Xly,oD 28 (.idxAL 1 Xle Xly),oD 29 (.load1 (.int .i64) Xn8),oM 7 XmC,oM 8 Xnw]) (.reg [oM 30 τ0,oD 31 (.nilCheck Xn7),oD 32 (.fieldA 2 Xn9),oD 33 (.load1 .oth Xou),oM 34 τ5,oD 35 (.idxAL 1 Xpm XoP),oD 36 (.load1 .oth Xpb),oM 37 τ7,oD 38 (.idxAL 1 XqO XqG),oM 39 τ8,oD 40 (.callF 41 [Xqn,XqT])]))) (.reg [oD 41 (.bin .add Xly (.const (.int .i64 1))),oM 25 Xre]))))))))) (.reg [oD 42 (.bin .add XhU (.const (.int .i64 1))),oM 18 Xrd])))
def XC3:VC:=.regD [oM 43 τ0,oD 44 (.nilCheck Xri),oD 45 (.fieldA 3 Xrf),oM 46 τ1,oD 47 (.nilCheck Xtx),oD 48 (.fieldA 3 XuV),oD 49 (.load1 (.int .i64) XuS)] [] [oD 50 (.callF 41 [Xuu,XuR])]
def XxG:VC:=.seq XC3 (.seq (.reg [oD 4 (.mv (.const (.bool true)))]) .ret)
def XBj:VC:=.seq (.reg [oD 4 (.mv (.const (.bool false)))]) (.seq (.seq (.reg [oM 9 τ0,oM 10 τ1,oD 11 (.callF 42 [τ9,Xg9]),oD 12 (.not XgW)]) (.cond Xhc (.seq (.reg [oD 4 (.mv (.const (.bool false)))]) .ret) .skip)) (.seq (.seq (.reg [oM 13 τ1,oD 14 (.nilCheck Xhg),oD 15 (.fieldA 2 XhN),oD 16 (.load1 .oth Xhv),oD 17 (.lenL XiV),oD 18 (.mv (.const (.int .i64 0)))]) (.block 0 (.loop XuB))) XxG))
def fn14:VFn:=⟨51,XBj,[.tmp 4]⟩
def k42_1:VC:=.regD [oM 5 τ0,oD 6 (.callF 38 [τ5]),oD 7 (.not τ6),oM 8 τ7,oG 9 (.mv τ1) 8 false,oG 10 (.callF 38 [τ9]) 8 false,oG 11 (.not Xg9) 8 false,oD 12 (.pick τ8 (.const (.bool true)) XgW),oM 13 Xhc,oG 14 (.mv τ0) 13 false,oG 15 (.nilCheck XhN) 13 false,oG 16 (.fieldA 0 Xhv) 13 false,oG 17 (.loadN [(.int .u64),(.int .u64)] XiV) 13 false,oG 18 (.mv τ1) 13 false,oG 19 (.nilCheck XhU) 13 false,oG 20 (.fieldA 0 Xks) 13 false,oG 21 (.loadN [(.int .u64),(.int .u64)] Xjx) 13 false] [] [oG 22 (.eqAgg true [(0,(.int .u64)),(1,(.int .u64))] Xim Xkm) 13 false,oD 23 (.pick Xhg (.const (.bool true)) XlJ)]
def XCi:VC:=.regD [oM 24 τ0,oD 25 (.nilCheck XlO),oD 26 (.fieldA 2 Xly),oD 27 (.load1 .oth Xmh),oM 28 τ1,oD 29 (.nilCheck Xn8),oD 30 (.fieldA 2 Xnw),oD 31 (.load1 .oth Xn7)] [] [oD 32 (.callF 54 [XmC,Xn9,(.func 55)]),oM 4 Xou]
def XlK:VC:=.seq (.reg [oD 4 (.mv (.const (.bool false)))]) (.seq (.seq k42_1 (.cond Xle (.seq (.reg [oD 4 (.mv (.const (.bool false)))]) .ret) .skip)) (.seq XCi .ret))
def fn42:VFn:=⟨33,XlK,[.tmp 4]⟩
def Xrr:VC:=.seq (.reg [oD 18 (.bin .lss Xim XiV)]) (.seq (.cond XhU .skip (.exit 0)) (.seq (.block 1 (.seq (.reg [oM 19 Xim,oD 20 (.idxAL 1 Xhv Xim),oD 21 (.load1 .oth Xjx),oM 7 Xks,oM 8 Xkm]) (.seq (.reg [oM 22 τ1,oM 23 τ7,oD 24 (.idxAL 1 XlJ Xle),oD 25 (.load1 .oth XlO),oM 9 Xly]) (.seq (.reg [oM 26 τ2,oM 27 τ8,oM 28 τ9,oD 29 (.callV Xmh [XmC,Xn8]),oD 30 (.not Xnw)]) (.cond Xn7 (.seq (.reg [oD 6 (.mv (.const (.bool false)))]) .ret) .skip))))) (.reg [oD 31 (.bin .add Xim (.const (.int .i64 1))),oM 17 Xn9])))
def Xx6:VC:=.seq (.reg [oD 6 (.mv (.const (.bool true)))]) .ret
def XA3:VC:=.seq (.reg [oD 6 (.mv (.const (.bool false)))]) (.seq (.seq (.reg [oM 10 τ0,oD 11 (.lenL Xg9),oM 12 τ1,oD 13 (.lenL Xhc),oD 14 (.bin .neq XgW Xhg)]) (.cond XhN (.seq (.reg [oD 6 (.mv (.const (.bool false)))]) .ret) .skip)) (.seq (.seq (.reg [oM 15 τ0,oD 16 (.lenL Xhv),oD 17 (.mv (.const (.int .i64 0)))]) (.block 0 (.loop Xrr))) Xx6))
def fn54:VFn:=⟨32,XA3,[.tmp 6]⟩
def XBa:VC:=.seq (.reg [oD 4 (.mv (.const (.bool false)))]) (.seq (.reg [oM 5 τ0,oD 6 (.lenL τ5),oM 7 τ1,oD 8 (.lenL τ7),oD 9 (.bin .eql τ6 τ8),oM 4 τ9]) .ret)
def fn55:VFn:=⟨10,XBa,[.tmp 4]⟩
def k11_3:VC:=.seq (.reg [oD 4 (.mv (.const (.bool false)))]) (.seq (.reg [oM 5 τ0,oD 6 (.bin .geq τ5 (.const (.int .i64 1))),oM 7 τ6,oG 8 (.mv τ0) 7 true,oG 9 (.bin .leq τ8 (.const (.int .i64 8))) 7 true,oD 10 (.pick τ7 τ9 (.const (.bool false))),oM 11 Xg9,oG 12 (.mv τ1) 11 true,oG 13 (.bin .geq Xhc (.const (.int .i64 1))) 11 true,oD 14 (.pick XgW Xhg (.const (.bool false))),oM 15 XhN,oG 16 (.mv τ1) 15 true,oG 17 (.bin .leq XiV (.const (.int .i64 4096))) 15 true,oD 18 (.pick Xhv Xim (.const (.bool false))),oM 4 XhU]) .ret)
def fn11:VFn:=⟨19,k11_3,[.tmp 4]⟩
def k13_3:VC:=.seq (.reg [oD 1 (.box τ0),oD 2 (.mv (.const (.bool false)))]) (.seq (.reg [oD 3 (.fieldA 1 τ1),oD 4 (.load1 (.int .i64) τ3),oD 5 (.bin .geq τ4 (.const (.int .i64 0))),oM 6 τ5,oG 7 (.fieldA 1 τ1) 6 true,oG 8 (.load1 (.int .i64) τ7) 6 true,oG 9 (.bin .leq τ8 (.const (.int .i64 1048576))) 6 true,oD 10 (.pick τ6 τ9 (.const (.bool false))),oM 2 Xg9]) .ret)
def fn13:VFn:=⟨11,k13_3,[.tmp 2]⟩
def k15_3:VC:=.seq (.reg [oD 4 (.box τ0),oD 8 (.mv (.const (.int .i64 0)))]) (.seq (.reg [oD 9 (.fieldA 0 τ4),oD 10 (.load1 (.int .u64) τ9),oM 11 τ1,oD 12 (.conv .u64 XgW),oD 13 (.bin .add Xg9 Xhc),oD 14 (.fieldA 1 τ4),oD 15 (.load1 (.int .u64) XhN),oD 16 (.build [(.int .u64 0),(.int .u64 0)] [(0,1,Xhg),(1,1,Xhv)]),oM 17 τ3,oD 18 (.callF 44 [XiV,Xim]),oM 19 τ2,oD 20 (.callF 43 [XhU,Xks]),oM 8 Xjx]) .ret)
def fn15:VFn:=⟨21,k15_3,[.tmp 8]⟩
def k44_1:VC:=.regD [oD 14 (.fieldA 0 τ2),oD 15 (.load1 (.int .u64) XhN),oD 16 (.bin .xor (.const (.int .u64 8317987319222330741)) Xhv),oD 17 (.fieldA 1 τ2),oD 18 (.load1 (.int .u64) Xim),oD 19 (.bin .xor (.const (.int .u64 7237128888997146477)) XhU),oM 5 XiV] [] [oM 6 Xks]
def k44_2:VC:=.regD [oD 20 (.fieldA 0 τ2),oD 21 (.load1 (.int .u64) Xjx),oD 22 (.bin .xor (.const (.int .u64 7816392313619706465)) Xkm),oD 23 (.fieldA 1 τ2),oD 24 (.load1 (.int .u64) Xle),oD 25 (.bin .xor (.const (.int .u64 8387220255154660723)) XlO),oM 7 XlJ] [] [oM 8 Xly]
def XB4:VC:=.seq (.reg [oD 2 (.box τ0),oD 4 (.mv (.const (.int .u64 0)))]) (.seq k44_1 (.seq k44_2 (.seq (.reg [oM 26 τ1,oD 27 (.lenS Xmh),oD 28 (.bin .quo XmC (.const (.int .i64 8))),oD 29 (.bin .mul Xn8 (.const (.int .i64 8))),oM 9 Xnw]) (.seq (.seq (.reg [oD 10 (.mv (.const (.int .i64 0)))]) (.block 0 (.loop (.seq (.seq (.reg [oM 30 Xg9,oM 31 τ9,oD 32 (.bin .leq Xn7 Xn9)]) (.cond Xou .skip (.exit 0))) (.seq (.block 1 (.seq (.reg [oM 35 τ1,oM 36 Xg9,oM 37 Xg9,oD 38 (.bin .add XqG (.const (.int .i64 8))),oM 39 τ1,oD 40 (.lenS XqT),oD 41 (.minmax false [Xqn,Xrh]),oD 42 (.sliceS Xpb (some XqO) (some Xre)),oD 43 (.callF 57 [Xrd]),oM 11 Xri]) (.seq (.seq (.reg [oM 44 Xg9,oM 45 τ9,oD 46 (.bin .eql Xrf Xuu)]) (.cond Xtx (.reg [oM 47 τ1,oM 48 Xg9,oD 49 (.sliceS XuV (some XuS) none),oD 50 (.callF 57 [XuR]),oM 51 τ1,oD 52 (.lenS Xyh),oD 53 (.bin .rem Xyp (.const (.int .i64 256))),oD 54 (.conv .u64 Xz2),oD 55 (.bin .shl Xys (.const (.int .u64 56))),oD 56 (.bin .add XxJ XzV),oM 11 Xzi]) .skip)) (.seq (.reg [oM 57 τ8,oM 58 XgW,oD 59 (.bin .xor XyV Xzy),oM 8 XzT]) (.seq (.seq (.reg [oD 12 (.mv (.const (.int .i64 0)))]) (.block 2 (.loop (.seq (.seq (.reg [oM 60 Xhc,oD 61 (.bin .lss XAV (.const (.int .i64 2)))]) (.cond XAX .skip (.exit 2))) (.seq (.block 3 (.reg [oM 65 τ5,oM 66 τ6,oM 67 τ7,oM 68 τ8,oD 69 (.callF 58 [XBt,XBA,XCu,XCO]),oM 64 XDj,oE 70 0 Xxr,oE 71 1 Xxr,oE 72 2 Xxr,oE 73 3 Xxr,oM 5 XBX,oM 6 τ71,oM 7 τ72,oM 8 τ73])) (.reg [oM 62 Xhc,oD 63 (.bin .add XAS (.const (.int .i64 1))),oM 12 XCN])))))) (.reg [oM 74 τ5,oM 75 XgW,oD 76 (.bin .xor τ74 τ75),oM 5 τ76])))))) (.reg [oM 33 Xg9,oD 34 (.bin .add Xpm (.const (.int .i64 8))),oM 10 XoP])))))) (.seq (.reg [oM 77 τ7,oD 78 (.bin .xor τ77 (.const (.int .u64 255))),oM 7 τ78]) (.seq (.reg [oM 79 τ5,oM 80 τ6,oM 81 τ7,oM 82 τ8,oD 83 (.callF 59 [τ79,τ80,τ81,XB0,(.const (.int .i64 4))]),oD 13 (.alloc [(.int .u64 0),(.int .u64 0),(.int .u64 0),(.int .u64 0)]),oN (.store 4 Xhg τ83)]) (.seq (.reg [oD 84 (.idxAA 4 1 Xhg (.const (.int .i64 0))),oD 85 (.load1 (.int .u64) τ84),oD 86 (.idxAA 4 1 Xhg (.const (.int .i64 1))),oD 87 (.load1 (.int .u64) τ86),oD 88 (.bin .xor τ85 τ87),oD 89 (.idxAA 4 1 Xhg (.const (.int .i64 2))),oD 90 (.load1 (.int .u64) τ89),oD 91 (.bin .xor τ88 τ90),oD 92 (.idxAA 4 1 Xhg (.const (.int .i64 3))),oD 93 (.load1 (.int .u64) τ92),oD 94 (.bin .xor τ91 τ93),oM 4 τ94]) .ret)))))))
def fn44:VFn:=⟨95,XB4,[.tmp 4]⟩
def XCD:VC:=.seq (.reg [oD 2 (.mv (.const (.int .u64 0)))]) (.seq (.reg [oD 3 (.mv (.const (.int .u64 0)))]) (.seq (.seq (.reg [oM 5 τ0,oD 6 (.lenS τ5),oD 7 (.bin .sub τ6 (.const (.int .i64 1))),oM 4 τ7]) (.block 0 (.loop (.seq (.seq (.reg [oM 8 τ4,oD 9 (.bin .geq τ8 (.const (.int .i64 0)))]) (.cond τ9 .skip (.exit 0))) (.seq (.block 1 (.reg [oM 12 τ3,oD 13 (.bin .shl Xhc (.const (.int .u64 8))),oM 14 τ0,oM 15 τ4,oD 16 (.idxS XhN Xhv),oD 17 (.conv .u64 XiV),oD 18 (.bin .add Xhg Xim),oM 3 XhU])) (.reg [oM 10 τ4,oD 11 (.bin .sub Xg9 (.const (.int .i64 1))),oM 4 XgW])))))) (.seq (.reg [oM 19 τ3,oM 2 Xks]) .ret)))
def fn57:VFn:=⟨20,XCD,[.tmp 2]⟩
def XCV:VC:=.seq (.reg [oD 8 (.mv (.const (.int .u64 0))),oD 9 (.mv (.const (.int .u64 0))),oD 10 (.mv (.const (.int .u64 0))),oD 11 (.mv (.const (.int .u64 0)))]) (.seq (.reg [oM 12 τ0,oM 13 τ1,oD 14 (.bin .add Xhc Xhg),oM 0 XhN]) (.seq (.reg [oM 15 τ1,oD 16 (.callF 70 [Xhv,(.const (.int .i64 13))]),oM 17 τ0,oD 18 (.bin .xor XiV Xim),oM 1 XhU]) (.seq (.reg [oM 19 τ0,oD 20 (.callF 70 [Xks,(.const (.int .i64 32))]),oM 0 Xjx]) (.seq (.reg [oM 21 τ2,oM 22 τ3,oD 23 (.bin .add Xkm XlJ),oM 2 Xle]) (.seq (.reg [oM 24 τ3,oD 25 (.callF 70 [XlO,(.const (.int .i64 16))]),oM 26 τ2,oD 27 (.bin .xor Xly Xmh),oM 3 XmC]) (.seq (.reg [oM 28 τ0,oM 29 τ3,oD 30 (.bin .add Xn8 Xnw),oM 0 Xn7]) (.seq (.reg [oM 31 τ3,oD 32 (.callF 70 [Xn9,(.const (.int .i64 21))]),oM 33 τ0,oD 34 (.bin .xor Xou Xpm),oM 3 XoP]) (.seq (.reg [oM 35 τ2,oM 36 τ1,oD 37 (.bin .add Xpb XqO),oM 2 XqG]) (.seq (.reg [oM 38 τ1,oD 39 (.callF 70 [Xqn,(.const (.int .i64 17))]),oM 40 τ2,oD 41 (.bin .xor XqT Xrh),oM 1 Xre]) (.seq (.reg [oM 42 τ2,oD 43 (.callF 70 [Xrd,(.const (.int .i64 32))]),oM 2 Xri]) (.seq (.reg [oM 44 τ0,oM 45 τ1,oM 46 τ2,oM 47 τ3,oM 8 Xrf,oM 9 Xuu,oM 10 Xtx,oM 11 XuV]) .ret)))))))))))
def fn58:VFn:=⟨48,XCV,[.tmp 8,.tmp 9,.tmp 10,.tmp 11]⟩
def k70_1:VC:=.regD [oM 5 τ0,oM 6 τ1,oD 7 (.bin .shl τ5 τ6),oM 8 τ0,oM 9 τ1,oD 10 (.bin .sub (.const (.int .i64 64)) τ9),oD 11 (.bin .shr τ8 Xg9)] [] [oD 12 (.bin .or τ7 XgW),oM 4 Xhc]
def k70_3:VC:=.seq (.reg [oD 4 (.mv (.const (.int .u64 0)))]) (.seq k70_1 .ret)
def fn70:VFn:=⟨13,k70_3,[.tmp 4]⟩
def XBY:VC:=.seq (.reg [oD 10 (.alloc [(.int .u64 0),(.int .u64 0),(.int .u64 0),(.int .u64 0)])]) (.seq (.seq (.reg [oD 11 (.mv (.const (.int .i64 0)))]) (.block 0 (.loop (.seq (.seq (.reg [oM 12 XgW,oM 13 τ4,oD 14 (.bin .lss Xhc Xhg),oM 15 XhN,oG 16 (.mv XgW) 15 true,oG 17 (.bin .lss XiV (.const (.int .i64 64))) 15 true,oD 18 (.pick Xhv Xim (.const (.bool false)))]) (.cond XhU .skip (.exit 0))) (.seq (.block 1 (.reg [oM 22 τ0,oM 23 τ1,oM 24 τ2,oM 25 τ3,oD 26 (.callF 58 [XlJ,Xle,XlO,Xly]),oM 21 Xmh,oE 27 0 Xkm,oE 28 1 Xkm,oE 29 2 Xkm,oE 30 3 Xkm,oM 0 XmC,oM 1 Xn8,oM 2 Xnw,oM 3 Xn7])) (.reg [oM 19 XgW,oD 20 (.bin .add Xks (.const (.int .i64 1))),oM 11 Xjx])))))) (.seq (.reg [oM 31 τ0,oM 32 τ1,oM 33 τ2,oM 34 τ3,oD 35 (.build [(.int .u64 0),(.int .u64 0),(.int .u64 0),(.int .u64 0)] [(0,1,Xn9),(1,1,Xou),(2,1,Xpm),(3,1,XoP)]),oN (.store 4 Xg9 Xpb)]) .ret))
def fn59:VFn:=⟨36,XBY,[.cell 10 [(.int .u64),(.int .u64),(.int .u64),(.int .u64)] true]⟩
def XA5:VC:=.seq (.reg [oD 4 (.mv (.const (.int .i64 0)))]) (.seq (.seq (.reg [oM 7 τ1,oD 8 (.bin .lss τ7 (.const (.int .i64 1))),oM 9 τ8,oG 10 (.mv τ1) 9 false,oG 11 (.bin .gtr Xg9 (.const (.int .i64 2147483648))) 9 false,oD 12 (.pick τ9 (.const (.bool true)) XgW)]) (.cond Xhc (.seq (.reg [oD 4 (.mv (.const (.int .i64 0)))]) .ret) .skip)) (.seq (.reg [oM 14 τ0,oM 15 τ1,oD 16 (.conv .u64 Xhv),oD 17 (.callF 56 [XhN,XiV]),oM 13 Xim,oE 18 0 Xhg,oE 19 1 Xhg,oM 5 XhU,oM 6 Xks]) (.seq (.reg [oM 20 τ5,oD 21 (.conv .i64 Xjx),oM 4 Xkm]) .ret)))
def fn43:VFn:=⟨22,XA5,[.tmp 4]⟩
def XDm:VC:=.seq (.reg [oD 4 (.mv (.const (.int .u64 0))),oD 5 (.mv (.const (.int .u64 0)))]) (.seq (.reg [oD 6 (.mv (.const (.int .u64 0))),oD 7 (.mv (.const (.int .u64 0)))]) (.seq (.seq (.reg [oD 8 (.mv (.const (.int .i64 63)))]) (.block 0 (.loop (.seq (.seq (.reg [oM 10 τ8,oD 11 (.bin .geq Xg9 (.const (.int .i64 0)))]) (.cond XgW .skip (.exit 0))) (.seq (.block 1 (.seq (.reg [oD 9 (.mv (.const (.int .u64 0)))]) (.seq (.seq (.reg [oM 14 τ0,oM 15 τ8,oD 16 (.bin .shr XhN Xhv),oD 17 (.bin .and XiV (.const (.int .u64 1))),oD 18 (.bin .eql Xim (.const (.int .u64 1)))]) (.cond XhU (.reg [oM 19 τ1,oM 9 Xks]) .skip)) (.reg [oM 21 τ6,oM 22 τ7,oM 23 τ9,oD 24 (.callF 69 [Xkm,XlJ,Xle]),oM 20 XlO,oE 25 0 Xjx,oE 26 1 Xjx,oM 6 Xly,oM 7 Xmh])))) (.reg [oM 12 τ8,oD 13 (.bin .sub Xhc (.const (.int .i64 1))),oM 8 Xhg])))))) (.seq (.reg [oM 27 τ6,oM 28 τ7,oM 4 XmC,oM 5 Xn8]) .ret)))
def fn56:VFn:=⟨29,XDm,[.tmp 4,.tmp 5]⟩
def XDp:VC:=.seq (.reg [oD 6 (.mv (.const (.int .u64 0))),oD 7 (.mv (.const (.int .u64 0)))]) (.seq (.reg [oM 11 τ0,oD 12 (.bin .shl XgW (.const (.int .u64 1))),oM 13 τ1,oD 14 (.bin .shr Xhg (.const (.int .u64 63))),oD 15 (.bin .or Xhc XhN),oM 8 Xhv]) (.seq (.reg [oM 16 τ1,oD 17 (.bin .shl XiV (.const (.int .u64 1))),oM 9 Xim]) (.seq (.reg [oM 18 τ9,oM 19 τ2,oD 20 (.bin .add XhU Xks),oM 10 Xjx]) (.seq (.seq (.reg [oM 21 Xg9,oM 22 τ9,oD 23 (.bin .lss Xkm XlJ)]) (.cond Xle (.reg [oM 24 τ8,oD 25 (.bin .add XlO (.const (.int .u64 1))),oM 8 Xly]) .skip)) (.seq (.reg [oM 26 τ8,oM 27 Xg9,oM 6 Xmh,oM 7 XmC]) .ret)))))
def fn69:VFn:=⟨28,XDp,[.tmp 6,.tmp 7]⟩
def XBW:VC:=.regD [oM 26 τ3,oM 27 XhN,oD 28 (.idxAL 2 Xmh XmC),oD 29 (.loadN [.str,(.int .i64)] Xn8),oD 30 (.callF 13 [Xnw]),oM 31 Xn7,oG 32 (.loadN [(.int .u64),(.int .u64)] τ5) 31 true,oG 33 (.mv Xhc) 31 true,oG 34 (.mv τ2) 31 true,oG 35 (.mv τ3) 31 true,oG 36 (.mv XhN) 31 true,oG 37 (.idxAL 2 Xpb XqO) 31 true,oG 38 (.fieldA 0 XqG) 31 true,oG 39 (.load1 .str Xqn) 31 true,oG 40 (.callF 15 [Xou,Xpm,XoP,XqT]) 31 true,oG 41 (.loadN [(.int .u64),(.int .u64)] τ5) 31 true,oG 42 (.mv Xhc) 31 true,oG 43 (.mv τ2) 31 true,oG 44 (.mv τ4) 31 true] [(14,15)] [oG 45 (.callF 15 [Xre,Xrd,Xri,Xrf]) 31 true,oG 46 (.bin .eql Xrh Xuu) 31 true,oD 47 (.pick Xn9 Xtx (.const (.bool false)))]
def XDi:VC:=.seq (.reg [oD 5 (.box τ0),oD 10 (.mv (.const (.int .i64 0)))]) (.seq (.reg [oD 11 (.mv (.const (.int .i64 1099511627776)))]) (.seq (.seq (.reg [oD 12 (.mv (.const (.int .i64 0)))]) (.block 0 (.loop (.seq (.seq (.reg [oM 15 Xhc,oM 16 τ1,oD 17 (.bin .lss Xhv XiV)]) (.cond Xim .skip (.exit 0))) (.seq (.block 1 (.seq (.reg [oD 13 (.mv (.const (.int .i64 0)))]) (.seq (.seq (.reg [oD 14 (.mv (.const (.int .i64 0)))]) (.block 2 (.loop (.seq (.seq (.reg [oM 20 XhN,oM 21 τ3,oD 22 (.lenL Xkm),oD 23 (.bin .lss Xjx XlJ)]) (.cond Xle .skip (.exit 2))) (.seq (.block 3 (.seq XBW (.cond XuV (.reg [oM 48 Xhg,oM 49 τ3,oM 50 XhN,oD 51 (.idxAL 2 XuR XxJ),oD 52 (.fieldA 1 Xyh),oD 53 (.load1 (.int .i64) Xyp),oD 54 (.bin .add XuS Xz2),oD 55 (.minmax false [(.const (.int .i64 1099511627776)),Xys]),oM 13 XzV]) .skip))) (.reg [oM 24 XhN,oD 25 (.bin .add XlO (.const (.int .i64 1))),oM 14 Xly])))))) (.reg [oM 56 XgW,oM 57 Xhg,oD 58 (.minmax false [Xzi,XyV]),oM 11 Xzy])))) (.reg [oM 18 Xhc,oD 19 (.bin .add XhU (.const (.int .i64 1))),oM 12 Xks])))))) (.seq (.reg [oM 59 XgW,oM 10 XzT]) .ret)))
def fn17:VFn:=⟨60,XDi,[.tmp 10]⟩
def XCn:VC:=.seq (.reg [oD 2 (.mv (.const (.int .i64 0)))]) (.seq (.reg [oD 3 (.mv (.const (.int .i64 0)))]) (.seq (.seq (.reg [oD 4 (.mv (.const (.int .i64 0)))]) (.block 0 (.loop (.seq (.seq (.reg [oM 5 τ4,oM 6 τ0,oD 7 (.lenL τ6),oD 8 (.bin .lss τ5 τ7)]) (.cond τ8 .skip (.exit 0))) (.seq (.block 1 (.seq (.reg [oM 11 τ0,oM 12 τ4,oD 13 (.idxAL 2 XgW Xhc),oD 14 (.loadN [.str,(.int .i64)] Xhg),oD 15 (.callF 13 [XhN])]) (.cond Xhv (.reg [oM 16 τ3,oM 17 τ0,oM 18 τ4,oD 19 (.idxAL 2 Xim XhU),oD 20 (.fieldA 1 Xks),oD 21 (.load1 (.int .i64) Xjx),oD 22 (.bin .add XiV Xkm),oD 23 (.minmax false [(.const (.int .i64 1099511627776)),XlJ]),oM 3 Xle]) .skip))) (.reg [oM 9 τ4,oD 10 (.bin .add τ9 (.const (.int .i64 1))),oM 4 Xg9])))))) (.seq (.reg [oM 24 τ3,oM 2 XlO]) .ret)))
def fn19:VFn:=⟨25,XCn,[.tmp 2]⟩
def k4_16:VC:=.regD [oM 36 τ9,oM 37 τ3,oM 38 Xg9,oD 39 (.idxAL 2 XqG Xqn),oD 40 (.fieldA 0 XqT),oD 41 (.load1 .str Xrh),oM 42 τ3,oM 43 Xg9,oD 44 (.idxAL 2 Xrd Xri),oD 45 (.fieldA 1 Xrf),oD 46 (.load1 (.int .i64) Xuu)] [] [oD 47 (.callF 12 [XqO,Xre,Xtx])]
def XhH:VC:=.seq (.seq (.reg [oM 30 Xg9,oM 31 τ3,oD 32 (.lenL Xn9),oD 33 (.bin .lss Xn7 Xou)]) (.cond Xpm .skip (.exit 0))) (.seq (.block 1 k4_16) (.reg [oM 34 Xg9,oD 35 (.bin .add XoP (.const (.int .i64 1))),oM 10 Xpb]))
def k4_33:VC:=.regD [oM 60 τ3,oM 61 Xhg,oD 62 (.idxAL 2 XAV XAX),oD 63 (.fieldA 0 XAS),oD 64 (.load1 .str XCN),oM 65 τ3,oM 66 XgW,oD 67 (.idxAL 2 XBt XBA),oD 68 (.fieldA 0 XCu),oD 69 (.load1 .str XCO),oD 70 (.bin .eql Xxr XDj),oM 71 XBX,oG 72 (.mv τ3) 71 true,oG 73 (.mv Xhg) 71 true,oG 74 (.idxAL 2 τ72 τ73) 71 true,oG 75 (.fieldA 1 τ74) 71 true,oG 76 (.load1 (.int .i64) τ75) 71 true,oG 77 (.bin .geq τ76 (.const (.int .i64 0))) 71 true,oD 78 (.pick τ71 τ77 (.const (.bool false))),oM 79 τ78,oG 80 (.mv τ3) 79 true,oG 81 (.mv Xhg) 79 true] [] [oG 82 (.idxAL 2 τ80 τ81) 79 true,oG 83 (.fieldA 1 XB0) 79 true,oG 84 (.load1 (.int .i64) τ83) 79 true,oG 85 (.bin .leq τ84 (.const (.int .i64 1048576))) 79 true,oD 86 (.pick τ79 τ85 (.const (.bool false)))]
def XhX:VC:=.seq (.seq (.reg [oM 54 Xhg,oM 55 τ3,oD 56 (.lenL XzV),oD 57 (.bin .lss Xys Xzi)]) (.cond XyV .skip (.exit 4))) (.seq (.block 5 (.seq k4_33 (.cond τ86 (.reg [oM 87 Xhc,oM 88 τ3,oM 89 Xhg,oD 90 (.idxAL 2 τ88 τ89),oD 91 (.fieldA 1 τ90),oD 92 (.load1 (.int .i64) τ91),oD 93 (.bin .add τ87 τ92),oM 12 τ93]) .skip))) (.reg [oM 58 Xhg,oD 59 (.bin .add Xzy (.const (.int .i64 1))),oM 13 XzT]))
def XmV:VC:=.seq (.reg [oM 94 τ9,oM 95 τ3,oM 96 XgW,oD 97 (.idxAL 2 τ95 τ96),oD 98 (.fieldA 0 τ97),oD 99 (.load1 .str τ98),oD 100 (.callF 16 [τ94,τ99]),oM 101 Xhc,oD 102 (.bin .lss Xzv Xy6),oM 103 Xzd,oG 104 (.mv τ9) 103 false,oG 105 (.mv τ3) 103 false,oG 106 (.mv XgW) 103 false,oG 107 (.idxAL 2 Xyj XzC) 103 false,oG 108 (.fieldA 0 Xyy) 103 false,oG 109 (.load1 .str XAq) 103 false,oG 110 (.callF 16 [XAk,XAm]) 103 false,oG 111 (.mv τ9) 103 false,oG 112 (.callF 18 [XyX]) 103 false,oG 113 (.bin .gtr Xy7 XzS) 103 false,oD 114 (.pick XAi (.const (.bool true)) XyK)]) (.cond XCs (.seq (.reg [oD 8 (.mv (.const (.bool false)))]) .ret) .skip)
def Xmr:VC:=.reg [oM 52 XgW,oD 53 (.bin .add Xyp (.const (.int .i64 1))),oM 11 Xz2]
def XgB:VC:=.seq (.seq (.reg [oM 48 XgW,oM 49 τ3,oD 50 (.lenL XuR),oD 51 (.bin .lss XuS XxJ)]) (.cond Xyh .skip (.exit 2))) (.seq (.block 3 (.seq (.reg [oD 12 (.mv (.const (.int .i64 0)))]) (.seq (.seq (.reg [oD 13 (.mv (.const (.int .i64 0)))]) (.block 4 (.loop XhX))) XmV))) Xmr)
def Xig:VC:=.seq (.reg [oD 115 (.callF 9 []),oM 8 XA6]) .ret
def XmL:VC:=.seq (.seq (.reg [oD 11 (.mv (.const (.int .i64 0)))]) (.block 2 (.loop XgB))) Xig
def XDs:VC:=.seq (.reg [oD 6 (.box τ2),oD 8 (.mv (.const (.bool false)))]) (.seq (.seq (.reg [oM 14 τ3,oD 15 (.callF 8 [XhN]),oD 16 (.not Xhv)]) (.cond XiV (.seq (.reg [oD 17 (.callF 9 []),oM 8 Xim]) .ret) .skip)) (.seq (.reg [oM 18 τ0,oD 19 (.conv .i64 XhU),oD 20 (.bin .rem Xks (.const (.int .i64 8))),oD 21 (.bin .add (.const (.int .i64 1)) Xjx),oM 22 τ1,oD 23 (.conv .i64 XlJ),oD 24 (.bin .rem Xle (.const (.int .i64 64))),oD 25 (.bin .add (.const (.int .i64 1)) XlO),oD 26 (.loadN [(.int .u64),(.int .u64)] τ6),oD 27 (.callF 10 [Xkm,Xly,Xmh]),oM 9 XmC]) (.seq (.seq (.reg [oM 28 τ9,oD 29 (.isNil 0 false Xn8)]) (.cond Xnw (.seq (.reg [oD 8 (.mv (.const (.bool false)))]) .ret) .skip)) (.seq (.seq (.reg [oD 10 (.mv (.const (.int .i64 0)))]) (.block 0 (.loop XhH))) XmL))))
def fn4:VFn:=⟨116,XDs,[.tmp 8]⟩
theorem XCm:(Try.prog.funcs[3]?).bind (XbQ Try.prog)=some fn3:=by kernel_rfl
theorem XCJ:(Try.prog.funcs[8]?).bind (XbQ Try.prog)=some fn8:=by kernel_rfl
theorem XBN:(Try.prog.funcs[9]?).bind (XbQ Try.prog)=some fn9:=by kernel_rfl
theorem Xzg:(Try.prog.funcs[10]?).bind (XbQ Try.prog)=some fn10:=by kernel_rfl
theorem XAB:(Try.prog.funcs[12]?).bind (XbQ Try.prog)=some fn12:=by kernel_rfl
theorem XAD:(Try.prog.funcs[38]?).bind (XbQ Try.prog)=some fn38:=by kernel_rfl
theorem XAp:(Try.prog.funcs[40]?).bind (XbQ Try.prog)=some fn40:=by kernel_rfl
theorem XAK:(Try.prog.funcs[41]?).bind (XbQ Try.prog)=some fn41:=by kernel_rfl
theorem Xy8:(Try.prog.funcs[39]?).bind (XbQ Try.prog)=some fn39:=by kernel_rfl
theorem Xzl:(Try.prog.funcs[20]?).bind (XbQ Try.prog)=some fn20:=by kernel_rfl
theorem XAJ:(Try.prog.funcs[47]?).bind (XbQ Try.prog)=some fn47:=by kernel_rfl
theorem Xz9:(Try.prog.funcs[61]?).bind (XbQ Try.prog)=some fn61:=by kernel_rfl
theorem XyJ:(Try.prog.funcs[62]?).bind (XbQ Try.prog)=some fn62:=by kernel_rfl
theorem XAt:(Try.prog.funcs[72]?).bind (XbQ Try.prog)=some fn72:=by kernel_rfl
theorem XyI:(Try.prog.funcs[73]?).bind (XbQ Try.prog)=some fn73:=by kernel_rfl
theorem XyL:(Try.prog.funcs[76]?).bind (XbQ Try.prog)=some fn76:=by kernel_rfl
theorem Xz6:(Try.prog.funcs[78]?).bind (XbQ Try.prog)=some fn78:=by kernel_rfl
theorem XAy:(Try.prog.funcs[63]?).bind (XbQ Try.prog)=some fn63:=by kernel_rfl
theorem Xz0:(Try.prog.funcs[46]?).bind (XbQ Try.prog)=some fn46:=by kernel_rfl
theorem XzF:(Try.prog.funcs[60]?).bind (XbQ Try.prog)=some fn60:=by kernel_rfl
theorem XyF:(Try.prog.funcs[71]?).bind (XbQ Try.prog)=some fn71:=by kernel_rfl
theorem Xz7:(Try.prog.funcs[16]?).bind (XbQ Try.prog)=some fn16:=by kernel_rfl
theorem Xyi:(Try.prog.funcs[45]?).bind (XbQ Try.prog)=some fn45:=by kernel_rfl
theorem XAF:(Try.prog.funcs[18]?).bind (XbQ Try.prog)=some fn18:=by kernel_rfl
theorem XAu:(Try.prog.funcs[14]?).bind (XbQ Try.prog)=some fn14:=by kernel_rfl
theorem Xzj:(Try.prog.funcs[42]?).bind (XbQ Try.prog)=some fn42:=by kernel_rfl
theorem XzB:(Try.prog.funcs[54]?).bind (XbQ Try.prog)=some fn54:=by kernel_rfl
theorem XAc:(Try.prog.funcs[55]?).bind (XbQ Try.prog)=some fn55:=by kernel_rfl
theorem Xzz:(Try.prog.funcs[11]?).bind (XbQ Try.prog)=some fn11:=by kernel_rfl
theorem Xyg:(Try.prog.funcs[13]?).bind (XbQ Try.prog)=some fn13:=by kernel_rfl
theorem XzK:(Try.prog.funcs[15]?).bind (XbQ Try.prog)=some fn15:=by kernel_rfl
theorem Xzm:(Try.prog.funcs[44]?).bind (XbQ Try.prog)=some fn44:=by kernel_rfl
theorem XAs:(Try.prog.funcs[57]?).bind (XbQ Try.prog)=some fn57:=by kernel_rfl
theorem XAj:(Try.prog.funcs[58]?).bind (XbQ Try.prog)=some fn58:=by kernel_rfl
theorem XAo:(Try.prog.funcs[70]?).bind (XbQ Try.prog)=some fn70:=by kernel_rfl
theorem Xzb:(Try.prog.funcs[59]?).bind (XbQ Try.prog)=some fn59:=by kernel_rfl
theorem Xyk:(Try.prog.funcs[43]?).bind (XbQ Try.prog)=some fn43:=by kernel_rfl
theorem XAd:(Try.prog.funcs[56]?).bind (XbQ Try.prog)=some fn56:=by kernel_rfl
theorem XzA:(Try.prog.funcs[69]?).bind (XbQ Try.prog)=some fn69:=by kernel_rfl
theorem Xyq:(Try.prog.funcs[17]?).bind (XbQ Try.prog)=some fn17:=by kernel_rfl
theorem XAw:(Try.prog.funcs[19]?).bind (XbQ Try.prog)=some fn19:=by kernel_rfl
theorem XA7:(Try.prog.funcs[4]?).bind (XbQ Try.prog)=some fn4:=by kernel_rfl
def tab:List (Nat×VFn):=[(3,fn3),(8,fn8),(9,fn9),(10,fn10),(12,fn12),(38,fn38),(40,fn40),(41,fn41),(39,fn39),(20,fn20),(47,fn47),(61,fn61),(62,fn62),(72,fn72),(73,fn73),(76,fn76),(78,fn78),(63,fn63),(46,fn46),(60,fn60),(71,fn71),(16,fn16),(45,fn45),(18,fn18),(14,fn14),(42,fn42),(54,fn54),(55,fn55),(11,fn11),(13,fn13),(15,fn15),(44,fn44),(57,fn57),(58,fn58),(70,fn70),(59,fn59),(43,fn43),(56,fn56),(69,fn69),(17,fn17),(19,fn19),(4,fn4)]
theorem XaN:Xie Try.prog (XaI tab):=Xie.Xa4 ⟨XCm,XCJ,XBN,Xzg,XAB,XAD,XAp,XAK,Xy8,Xzl,XAJ,Xz9,XyJ,XAt,XyI,XyL,Xz6,XAy,Xz0,XzF,XyF,Xz7,Xyi,XAF,XAu,Xzj,XzB,XAc,Xzz,Xyg,XzK,Xzm,XAs,XAj,XAo,Xzb,Xyk,XAd,XzA,Xyq,XAw,XA7,trivial⟩
end Go.Vm.Code
namespace Go.Vm
open Go Go.RowKit
theorem XCw {h h':Hp} {s:Nat→Option Nat} {b n:Nat} {ws:List Wd} {c c' x:List Value} {cs:List (Option (List Value))} {ob ob':XaY} (e1:XaI h b=some ob) (e2:ob.wcs=some x) (e3:Xdd.renL s c=some c') (e4:Nat.beq c'.length n=true) (e5:Nat.beq x.length n=true) (e6:ob.wr c'=some ob') (t:Xcb (XfG h b ob') s ws cs=some h') (hm:mk3 c=none:=by rfl) :
 Xcb h s (.win b 0 n true::ws) (some c::cs)=some h':=by
 have h4:=Nat.eq_of_beq_eq_true e4
 have h5:=Nat.eq_of_beq_eq_true e5
 refine XuG e1 e2 e3 ⟨h4,by omega⟩ ?_ e6 t hm
 apply List.ext_getElem?
 intro k
 rw [Xhe _ _ _ _ (by omega)]
 by_cases hk:k<n
 ·rw [if_pos (by omega)];simp
 ·rw [if_neg (by omega),List.getElem?_eq_none (by omega),List.getElem?_eq_none (by omega)]
theorem XC0 {h:Hp} {k b n:Nat} {ob:XaY} {cs:List Value} (ho:XaI h b=some ob) (hc:ob.wcs=some cs) (hn:Nat.beq cs.length n=true) (hf:XaR.flatL cs=true) :
 XbX h k (.pt n) (.pointer (some ⟨b,0,none⟩))=some (.pointer (some ⟨k,0,none⟩),[some (.cells cs)]):=
 XxE ho hc (by have:=Nat.eq_of_beq_eq_true hn;omega) (by have:=Nat.eq_of_beq_eq_true hn;rw [List.drop_zero];exact List.take_of_length_le (by omega)) hf
theorem Xdt {a b:Dec} {vs:List Value} {cs:List (Option (List Value))} {r:XcJ} (h:a vs cs=some r):orD a b vs cs=some r:=by unfold orD;rw [h]
theorem XaJ {a b:Dec} {vs:List Value} {cs:List (Option (List Value))} {r:XcJ} (h:a vs cs=none) (k:b vs cs=some r):orD a b vs cs=some r:=by unfold orD;rw [h];exact k
theorem XpM {K:Dec} {vs:List Value} {cs:List (Option (List Value))}:dNl 10 K (.pointer none::vs) (none::none::none::none::none::none::none::none::none::none::cs)=K vs cs:=rfl
end Go.Vm
namespace Go.Vm
open Go Go.RowKit
section
variable {α κ ν:Type}
def XAR (key:α→κ) (eqk:κ→κ→Bool) (t:κ) (xs:List α):Bool:=xs.any fun e=>eqk t (key e)
def XAC (key:α→κ) (eqk:κ→κ→Bool) (val:α→ν) (z:ν) (t:κ):List α→ν
 | []=>z
 | e::l=>cond (eqk t (key e)) (val e) (XAC key eqk val z t l)
def XyW (key:α→κ) (eqk:κ→κ→Bool) (mk:κ→ν→α) (t:κ) (v:ν):List α→List α
 | []=>[mk t v]
 | e::l=>cond (eqk t (key e)) (mk (key e) v::l) (e::XyW key eqk mk t v l)
def XAa (key:α→κ) (eqk:κ→κ→Bool) (t:κ):List α→List α
 | []=>[]
 | e::l=>cond (eqk t (key e)) l (e::XAa key eqk t l)
structure Xol (f:α→List Value) (kc:κ→List Value) (vc:ν→Value) (key:α→κ) (val:α→ν) (mk:κ→ν→α) (eqk:κ→κ→Bool) (os:List (Nat×SK)):Prop where
 cells:∀ e,f e=[.agg ⟨kc (key e)⟩,vc (val e)]
 eq:∀ a b,Xba (kc a) (kc b) os=some (eqk a b)
 len:∀ a b,(kc a).length=(kc b).length
 offs:∀ a,os.map (·.1)=List.range (kc a).length
 fk:∀ a,XaR.flatL (kc a)=true
 fv:∀ v,XaR (vc v)=true
 mkk:∀ k v,key (mk k v)=k
 mkv:∀ k v,val (mk k v)=v
variable {f:α→List Value} {kc:κ→List Value} {vc:ν→Value} {key:α→κ} {val:α→ν} {mk:κ→ν→α} {eqk:κ→κ→Bool} {os:List (Nat×SK)}
theorem Xol.cons (h:Xol f kc vc key val mk eqk os) (e:α) (l:List α):vT f (e::l)=.agg ⟨kc (key e)⟩::vc (val e)::vT f l:=by
 show f e++vT f l=_
 rw [h.cells];rfl
theorem Xol.find (h:Xol f kc vc key val mk eqk os) (t:κ):∀ xs:List α,∃ r,XgG os (kc t) (vT f xs)=some r ∧
 ((r=none∧XAR key eqk t xs=false∧(∀ z,XAC key eqk val z t xs=z)∧(∀ v,XyW key eqk mk t v xs=xs++[mk t v])∧XAa key eqk t xs=xs) ∨
  ∃ i v,r=some (2*i,vc v)∧XAR key eqk t xs=true∧(∀ z,XAC key eqk val z t xs=v)∧(∀ v,(vT f xs).set (2*i+1) (vc v)=vT f (XyW key eqk mk t v xs))∧(vT f xs).take (2*i)++(vT f xs).drop (2*i+2)=vT f (XAa key eqk t xs))
 | []=>⟨none,rfl,.inl ⟨rfl,rfl,fun _=>rfl,fun _=>rfl,rfl⟩⟩
 | e::l=>by
   obtain ⟨r,h1,h2⟩:=Xol.find h t l
   rw [h.cons]
   cases he:eqk t (key e) with
   | true=>
     refine ⟨some (0,vc (val e)),?_,.inr ⟨0,val e,rfl,?_,fun z=>?_,fun v=>?_,?_⟩⟩
     ·simp only [XgG,h.eq,he,cond_true,if_pos (h.len (key e) t)]
     ·simp [XAR,he]
     ·simp [XAC,he]
     ·simp only [XyW,he,cond_true];rw [h.cons,h.mkk,h.mkv];rfl
     ·simp [XAa,he]
   | false=>
     have hm:XgG os (kc t) (.agg ⟨kc (key e)⟩::vc (val e)::vT f l)=some (r.map fun q=>(q.1+2,q.2)):=by
      simp only [XgG,h.eq,he,cond_false,h1];rfl
     rcases h2 with ⟨rfl,g1,g2,g3,g4⟩|⟨i,v,rfl,g1,g2,g3,g4⟩
     ·refine ⟨none,hm,.inl ⟨rfl,?_,fun z=>?_,fun v=>?_,?_⟩⟩
      ·simp only [XAR,List.any_cons,he,Bool.false_or];exact g1
      ·simp only [XAC,he,cond_false];exact g2 z
      ·simp only [XyW,he,cond_false,g3];rfl
      ·simp only [XAa,he,cond_false,g4]
     ·refine ⟨some (2*i+2,vc v),hm,.inr ⟨i+1,v,by congr 2,?_,fun z=>?_,fun v=>?_,?_⟩⟩
      ·simp only [XAR,List.any_cons,he,Bool.false_or];exact g1
      ·simp only [XAC,he,cond_false];exact g2 z
      ·simp only [XyW,he,cond_false];rw [h.cons,←g3,show 2*(i+1)+1=(2*i+1)+1+1 by omega];rfl
      ·simp only [XAa,he,cond_false];rw [h.cons,←g4,show 2*(i+1)=2*i+1+1 by omega];rfl
theorem Xol.self (h:Xol f kc vc key val mk eqk os) (t:κ):(Xba (kc t) (kc t) os).isSome=true:=by rw [h.eq];rfl
theorem Xol.get (h:Xol f kc vc key val mk eqk os) (z:ν) (t:κ) (xs:List α):XqI os (vc z) (kc t) (vT f xs)=some (vc (XAC key eqk val z t xs),XAR key eqk t xs):=by
 obtain ⟨r,h1,⟨rfl,g1,g2,_⟩|⟨i,v,rfl,g1,g2,_⟩⟩:=h.find t xs
 ·simp only [XqI,if_pos (h.self t),h1,g1,g2]
 ·simp only [XqI,if_pos (h.self t),h1,g1,g2]
theorem Xol.put (h:Xol f kc vc key val mk eqk os) (t:κ) (v:ν) (xs:List α):XqR os (kc t) (vc v) (vT f xs)=some (vT f (XyW key eqk mk t v xs)):=by
 have hc:=And.intro (h.self t) (And.intro (h.offs t) (And.intro (h.fk t) (h.fv v)))
 obtain ⟨r,h1,⟨rfl,_,_,g3,_⟩|⟨i,u,rfl,_,_,g3,_⟩⟩:=h.find t xs
 ·simp only [XqR,if_pos hc,h1,g3]
  rw [←XCZ,show vT f [mk t v]=[.agg ⟨kc t⟩,vc v] by rw [h.cons,h.mkk,h.mkv];rfl]
 ·simp only [XqR,if_pos hc,h1,g3]
theorem Xol.del (h:Xol f kc vc key val mk eqk os) (t:κ) (xs:List α):XqP os (kc t) (vT f xs)=some (vT f (XAa key eqk t xs)):=by
 obtain ⟨r,h1,⟨rfl,_,_,_,g4⟩|⟨i,u,rfl,_,_,_,g4⟩⟩:=h.find t xs
 ·simp only [XqP,if_pos (h.self t),h1,g4]
 ·simp only [XqP,if_pos (h.self t),h1,g4]
theorem Xol.length (h:Xol f kc vc key val mk eqk os) (xs:List α):(vT f xs).length=2*xs.length:=by
 rw [XlX (c:=2) (fun e=>by rw [h.cells];rfl),Nat.mul_comm]
end
end Go.Vm
namespace Go.Vm.Code
open Go Go.Vm Go.Proofs
set_option maxRecDepth 100000
set_option maxHeartbeats 4000000
set_option linter.unusedVariables false
@[ext] structure Xap where
 A:Int
 B:Int
 deriving DecidableEq
@[ext] structure Xan where
 Text:List UInt8
 N:Int
 deriving DecidableEq
@[ext] structure XcR where
 e0:List Int
 m0:Nat
 deriving DecidableEq
@[ext] structure XaA where
 key:Xap
 rows:XcR
 total:Int
 deriving DecidableEq
@[ext] structure XcI where
 e0:List Int
 e1:List Int
 m0:Nat
 m1:Nat
 deriving DecidableEq
@[ext] structure Xaz where
 key:Xap
 rows:XcI
 total:Int
 deriving DecidableEq
@[ext] structure Xcu where
 e0:List Int
 e1:List Int
 e2:List Int
 m0:Nat
 m1:Nat
 m2:Nat
 deriving DecidableEq
@[ext] structure Xay where
 key:Xap
 rows:Xcu
 total:Int
 deriving DecidableEq
@[ext] structure Xca where
 e0:List Int
 e1:List Int
 e2:List Int
 e3:List Int
 m0:Nat
 m1:Nat
 m2:Nat
 m3:Nat
 deriving DecidableEq
@[ext] structure Xaw where
 key:Xap
 rows:Xca
 total:Int
 deriving DecidableEq
@[ext] structure XbU where
 e0:List Int
 e1:List Int
 e2:List Int
 e3:List Int
 e4:List Int
 m0:Nat
 m1:Nat
 m2:Nat
 m3:Nat
 m4:Nat
 deriving DecidableEq
@[ext] structure Xav where
 key:Xap
 rows:XbU
 total:Int
 deriving DecidableEq
@[ext] structure XbN where
 e0:List Int
 e1:List Int
 e2:List Int
 e3:List Int
 e4:List Int
 e5:List Int
 m0:Nat
 m1:Nat
 m2:Nat
 m3:Nat
 m4:Nat
 m5:Nat
 deriving DecidableEq
@[ext] structure Xau where
 key:Xap
 rows:XbN
 total:Int
 deriving DecidableEq
@[ext] structure Xbv where
 e0:List Int
 e1:List Int
 e2:List Int
 e3:List Int
 e4:List Int
 e5:List Int
 e6:List Int
 m0:Nat
 m1:Nat
 m2:Nat
 m3:Nat
 m4:Nat
 m5:Nat
 m6:Nat
 deriving DecidableEq
@[ext] structure Xat where
 key:Xap
 rows:Xbv
 total:Int
 deriving DecidableEq
@[ext] structure Xbj where
 e0:List Int
 e1:List Int
 e2:List Int
 e3:List Int
 e4:List Int
 e5:List Int
 e6:List Int
 e7:List Int
 m0:Nat
 m1:Nat
 m2:Nat
 m3:Nat
 m4:Nat
 m5:Nat
 m6:Nat
 m7:Nat
 deriving DecidableEq
@[ext] structure Xas where
 key:Xap
 rows:Xbj
 total:Int
 deriving DecidableEq
@[ext] structure XaE where
 e0:Int
 e1:Int
 e2:Int
 e3:Int
 deriving DecidableEq
@[ext] structure XaF where
 made:Bool
 s:XaE
 last:Int
 count:Int
 deriving DecidableEq
@[ext] structure Xfh where
 e0:Int
 e1:Int
 deriving DecidableEq
structure Xa9 where
 mk ::
 deriving DecidableEq
@[ext] structure Xar where
 key:Xap
 rows:Xa9
 total:Int
 deriving DecidableEq
@[ext] structure Xwo where
 key:Xap
 rows:List (List Int)
 total:Int
 deriving DecidableEq
inductive Xa8 where
 | nil
 | v1 (x:XaA)
 | v2 (x:Xaz)
 | v3 (x:Xay)
 | v4 (x:Xaw)
 | v5 (x:Xav)
 | v6 (x:Xau)
 | v7 (x:Xat)
 | v8 (x:Xas)
 deriving DecidableEq
def XkP (x:Xap):List Value:=[.int .u64 x.A,.int .u64 x.B]
theorem Xn0 (x:Xap):(XkP x).length=2:=rfl
def Xlc:List Value→Option Xap
 | [.int .u64 a1,.int .u64 a2]=>some (Xap.mk a1 a2)
 | _=>none
theorem Xiv (cs:List Value) (x:Xap) (h:Xlc cs=some x):cs=XkP x:=by
 unfold Xlc at h;split at h
 ·cases h;rfl
 ·cases h
def XgP:Value→Option Xap
 | .agg ⟨cs⟩=>Xlc cs
 | _=>none
theorem XkC (v:Value) (x:Xap) (h:XgP v=some x):v=.agg ⟨XkP x⟩:=by
 unfold XgP at h;split at h
 ·rw [Xiv _ _ h]
 ·cases h
theorem Xjf (x:Xap):XgP (.agg ⟨XkP x⟩)=some x:=rfl
def Xbb (x:Xan):List Value:=[.string ⟨⟨x.Text⟩⟩,.int .i64 x.N]
theorem Xao (x:Xan):(Xbb x).length=2:=rfl
theorem Xbi (x:Xan):XaR.flatL (Xbb x)=true:=rfl
@[simp] theorem XvK (xs:List Xan):(vT Xbb xs).length=xs.length*2:=XlX Xao xs
@[simp] theorem XvW (xs:List Xan) (n:Nat):(vT Xbb xs).take (n*2)=vT Xbb (xs.take n):=Xok Xao xs n
@[simp] theorem XwQ (xs:List Xan) (n:Nat):(vT Xbb xs).drop (n*2)=vT Xbb (xs.drop n):=XoV Xao xs n
def Xhd:List Value→Option Xan
 | [.string ⟨⟨a1⟩⟩,.int .i64 a2]=>some (Xan.mk a1 a2)
 | _=>none
theorem Xgt (cs:List Value) (x:Xan) (h:Xhd cs=some x):cs=Xbb x:=by
 unfold Xhd at h;split at h
 ·cases h;rfl
 ·cases h
theorem Xoj (x:Xan):Xhd (Xbb x)=some x:=rfl
def XnS:Value→Option Xan
 | .agg ⟨cs⟩=>Xhd cs
 | _=>none
theorem XkF (v:Value) (x:Xan) (h:XnS v=some x):v=.agg ⟨Xbb x⟩:=by
 unfold XnS at h;split at h
 ·rw [Xgt _ _ h]
 ·cases h
def Xj1 (x:XaE):List Value:=[.int .u64 x.e0,.int .u64 x.e1,.int .u64 x.e2,.int .u64 x.e3]
theorem XmO (x:XaE):(Xj1 x).length=4:=rfl
def Xgn:List Value→Option XaE
 | [.int .u64 a1,.int .u64 a2,.int .u64 a3,.int .u64 a4]=>some (XaE.mk a1 a2 a3 a4)
 | _=>none
theorem XhC (cs:List Value) (x:XaE) (h:Xgn cs=some x):cs=Xj1 x:=by
 unfold Xgn at h;split at h
 ·cases h;rfl
 ·cases h
theorem Xip (x:XaE):Xgn (Xj1 x)=some x:=rfl
def XlQ:Value→Option XaE
 | .agg ⟨cs⟩=>Xgn cs
 | _=>none
theorem Xjw (v:Value) (x:XaE) (h:XlQ v=some x):v=.agg ⟨Xj1 x⟩:=by
 unfold XlQ at h;split at h
 ·rw [XhC _ _ h]
 ·cases h
def Xhx (x:XaF):List Value:=[.bool x.made,.int .u64 x.s.e0,.int .u64 x.s.e1,.int .u64 x.s.e2,.int .u64 x.s.e3,.int .u64 x.last,.int .i64 x.count]
theorem XkZ (x:XaF):(Xhx x).length=7:=rfl
def Xf6:List Value→Option XaF
 | [.bool a1,.int .u64 a2,.int .u64 a3,.int .u64 a4,.int .u64 a5,.int .u64 a6,.int .i64 a7]=>some (XaF.mk a1 (XaE.mk a2 a3 a4 a5) a6 a7)
 | _=>none
theorem XgO (cs:List Value) (x:XaF) (h:Xf6 cs=some x):cs=Xhx x:=by
 unfold Xf6 at h;split at h
 ·cases h;rfl
 ·cases h
theorem XiY (x:XaF):Xf6 (Xhx x)=some x:=rfl
def XkH:Value→Option XaF
 | .agg ⟨cs⟩=>Xf6 cs
 | _=>none
theorem XhR (v:Value) (x:XaF) (h:XkH v=some x):v=.agg ⟨Xhx x⟩:=by
 unfold XkH at h;split at h
 ·rw [XgO _ _ h]
 ·cases h
def Xlx (x:Xfh):List Value:=[.int .u64 x.e0,.int .u64 x.e1]
theorem Xm4 (x:Xfh):(Xlx x).length=2:=rfl
def Xkb:List Value→Option Xfh
 | [.int .u64 a1,.int .u64 a2]=>some (Xfh.mk a1 a2)
 | _=>none
theorem Xhp (cs:List Value) (x:Xfh) (h:Xkb cs=some x):cs=Xlx x:=by
 unfold Xkb at h;split at h
 ·cases h;rfl
 ·cases h
def Xmi:Value→Option Xfh
 | .agg ⟨cs⟩=>Xkb cs
 | _=>none
theorem XjX (v:Value) (x:Xfh) (h:Xmi v=some x):v=.agg ⟨Xlx x⟩:=by
 unfold Xmi at h;split at h
 ·rw [Xhp _ _ h]
 ·cases h
def Xcc (k:Nat):Value→List (Option (List Value))→Option Xar
 | .pointer (some ⟨k0,0,none⟩),[some [.int .u64 a1,.int .u64 a2,.slice none 0 0,.int .i64 a3],none,none,none,none,none,none,none,none,none]=>if k0=k+0 then some (Xar.mk (Xap.mk a1 a2) Xa9.mk a3) else none
 | _,_=>none
theorem XcW {k:Nat} {v:Value} {cs:List (Option (List Value))} {x:Xar} (h:Xcc k v cs=some x):v=.pointer (some ⟨k+0,0,none⟩)∧cs=[some [.int .u64 x.key.A,.int .u64 x.key.B,.slice none 0 0,.int .i64 x.total],none,none,none,none,none,none,none,none,none]:=by
 unfold Xcc at h;split at h<;>try (cases h;done)
 split at h<;>cases h
 rename_i hk
 subst hk
 exact ⟨rfl,rfl⟩
theorem Xdj (k:Nat) (x:Xar):Xcc k (.pointer (some ⟨k+0,0,none⟩)) [some [.int .u64 x.key.A,.int .u64 x.key.B,.slice none 0 0,.int .i64 x.total],none,none,none,none,none,none,none,none,none]=some x:=by
 simp only [Xcc];simp
def XbF (k:Nat):Value→List (Option (List Value))→Option XaA
 | .pointer (some ⟨k0,0,none⟩),[some [.int .u64 a1,.int .u64 a2,.slice (some ⟨k1,0,none⟩) 1 1,.int .i64 a3],some [.slice (some ⟨k2,0,none⟩) n2 s2],some c2,none,none,none,none,none,none,none]=>match (unL (asI .i64)) c2 with|some x2=>(if k0=k+0∧k1=k+1∧k2=k+2∧s2=1 then some (XaA.mk (Xap.mk a1 a2) (XcR.mk x2 n2) a3) else none)|none=>none
 | _,_=>none
theorem Xcj {k:Nat} {v:Value} {cs:List (Option (List Value))} {x:XaA} (h:XbF k v cs=some x):v=.pointer (some ⟨k+0,0,none⟩)∧cs=[some [.int .u64 x.key.A,.int .u64 x.key.B,.slice (some ⟨k+1,0,none⟩) 1 1,.int .i64 x.total],some [.slice (some ⟨k+2,0,none⟩) x.rows.m0 1],some (vI .i64 x.rows.e0),none,none,none,none,none,none,none]:=by
 unfold XbF at h;split at h<;>try (cases h;done)
 split at h<;>try (cases h;done)
 rename_i x2 e2
 split at h<;>cases h
 rename_i hk
 obtain ⟨rfl,rfl,rfl,rfl⟩:=hk
 obtain rfl:=XcB e2
 exact ⟨rfl,rfl⟩
theorem Xdi (k:Nat) (x:XaA):XbF k (.pointer (some ⟨k+0,0,none⟩)) [some [.int .u64 x.key.A,.int .u64 x.key.B,.slice (some ⟨k+1,0,none⟩) 1 1,.int .i64 x.total],some [.slice (some ⟨k+2,0,none⟩) x.rows.m0 1],some (vI .i64 x.rows.e0),none,none,none,none,none,none,none]=some x:=by
 simp only [XbF,XcC];simp
def XbK (k:Nat):Value→List (Option (List Value))→Option Xaz
 | .pointer (some ⟨k0,0,none⟩),[some [.int .u64 a1,.int .u64 a2,.slice (some ⟨k1,0,none⟩) 2 1,.int .i64 a3],some [.slice (some ⟨k2,0,none⟩) n2 s2,.slice (some ⟨k3,0,none⟩) n3 s3],some c2,some c3,none,none,none,none,none,none]=>match (unL (asI .i64)) c2 with|some x2=>(match (unL (asI .i64)) c3 with|some x3=>(if k0=k+0∧k1=k+1∧k2=k+2∧s2=1∧k3=k+3∧s3=1 then some (Xaz.mk (Xap.mk a1 a2) (XcI.mk x2 x3 n2 n3) a3) else none)|none=>none)|none=>none
 | _,_=>none
theorem Xcl {k:Nat} {v:Value} {cs:List (Option (List Value))} {x:Xaz} (h:XbK k v cs=some x):v=.pointer (some ⟨k+0,0,none⟩)∧cs=[some [.int .u64 x.key.A,.int .u64 x.key.B,.slice (some ⟨k+1,0,none⟩) 2 1,.int .i64 x.total],some [.slice (some ⟨k+2,0,none⟩) x.rows.m0 1,.slice (some ⟨k+3,0,none⟩) x.rows.m1 1],some (vI .i64 x.rows.e0),some (vI .i64 x.rows.e1),none,none,none,none,none,none]:=by
 unfold XbK at h;split at h<;>try (cases h;done)
 split at h<;>try (cases h;done)
 rename_i x2 e2
 split at h<;>try (cases h;done)
 rename_i x3 e3
 split at h<;>cases h
 rename_i hk
 obtain ⟨rfl,rfl,rfl,rfl,rfl,rfl⟩:=hk
 obtain rfl:=XcB e2
 obtain rfl:=XcB e3
 exact ⟨rfl,rfl⟩
theorem Xdn (k:Nat) (x:Xaz):XbK k (.pointer (some ⟨k+0,0,none⟩)) [some [.int .u64 x.key.A,.int .u64 x.key.B,.slice (some ⟨k+1,0,none⟩) 2 1,.int .i64 x.total],some [.slice (some ⟨k+2,0,none⟩) x.rows.m0 1,.slice (some ⟨k+3,0,none⟩) x.rows.m1 1],some (vI .i64 x.rows.e0),some (vI .i64 x.rows.e1),none,none,none,none,none,none]=some x:=by
 simp only [XbK,XcC,XcC];simp
def XbJ (k:Nat):Value→List (Option (List Value))→Option Xay
 | .pointer (some ⟨k0,0,none⟩),[some [.int .u64 a1,.int .u64 a2,.slice (some ⟨k1,0,none⟩) 3 1,.int .i64 a3],some [.slice (some ⟨k2,0,none⟩) n2 s2,.slice (some ⟨k3,0,none⟩) n3 s3,.slice (some ⟨k4,0,none⟩) n4 s4],some c2,some c3,some c4,none,none,none,none,none]=>match (unL (asI .i64)) c2 with|some x2=>(match (unL (asI .i64)) c3 with|some x3=>(match (unL (asI .i64)) c4 with|some x4=>(if k0=k+0∧k1=k+1∧k2=k+2∧s2=1∧k3=k+3∧s3=1∧k4=k+4∧s4=1 then some (Xay.mk (Xap.mk a1 a2) (Xcu.mk x2 x3 x4 n2 n3 n4) a3) else none)|none=>none)|none=>none)|none=>none
 | _,_=>none
theorem Xci {k:Nat} {v:Value} {cs:List (Option (List Value))} {x:Xay} (h:XbJ k v cs=some x):v=.pointer (some ⟨k+0,0,none⟩)∧cs=[some [.int .u64 x.key.A,.int .u64 x.key.B,.slice (some ⟨k+1,0,none⟩) 3 1,.int .i64 x.total],some [.slice (some ⟨k+2,0,none⟩) x.rows.m0 1,.slice (some ⟨k+3,0,none⟩) x.rows.m1 1,.slice (some ⟨k+4,0,none⟩) x.rows.m2 1],some (vI .i64 x.rows.e0),some (vI .i64 x.rows.e1),some (vI .i64 x.rows.e2),none,none,none,none,none]:=by
 unfold XbJ at h;split at h<;>try (cases h;done)
 split at h<;>try (cases h;done)
 rename_i x2 e2
 split at h<;>try (cases h;done)
 rename_i x3 e3
 split at h<;>try (cases h;done)
 rename_i x4 e4
 split at h<;>cases h
 rename_i hk
 obtain ⟨rfl,rfl,rfl,rfl,rfl,rfl,rfl,rfl⟩:=hk
 obtain rfl:=XcB e2
 obtain rfl:=XcB e3
 obtain rfl:=XcB e4
 exact ⟨rfl,rfl⟩
theorem Xdh (k:Nat) (x:Xay):XbJ k (.pointer (some ⟨k+0,0,none⟩)) [some [.int .u64 x.key.A,.int .u64 x.key.B,.slice (some ⟨k+1,0,none⟩) 3 1,.int .i64 x.total],some [.slice (some ⟨k+2,0,none⟩) x.rows.m0 1,.slice (some ⟨k+3,0,none⟩) x.rows.m1 1,.slice (some ⟨k+4,0,none⟩) x.rows.m2 1],some (vI .i64 x.rows.e0),some (vI .i64 x.rows.e1),some (vI .i64 x.rows.e2),none,none,none,none,none]=some x:=by
 simp only [XbJ,XcC,XcC,XcC];simp
def XbG (k:Nat):Value→List (Option (List Value))→Option Xaw
 | .pointer (some ⟨k0,0,none⟩),[some [.int .u64 a1,.int .u64 a2,.slice (some ⟨k1,0,none⟩) 4 1,.int .i64 a3],some [.slice (some ⟨k2,0,none⟩) n2 s2,.slice (some ⟨k3,0,none⟩) n3 s3,.slice (some ⟨k4,0,none⟩) n4 s4,.slice (some ⟨k5,0,none⟩) n5 s5],some c2,some c3,some c4,some c5,none,none,none,none]=>match (unL (asI .i64)) c2 with|some x2=>(match (unL (asI .i64)) c3 with|some x3=>(match (unL (asI .i64)) c4 with|some x4=>(match (unL (asI .i64)) c5 with|some x5=>(if k0=k+0∧k1=k+1∧k2=k+2∧s2=1∧k3=k+3∧s3=1∧k4=k+4∧s4=1∧k5=k+5∧s5=1 then some (Xaw.mk (Xap.mk a1 a2) (Xca.mk x2 x3 x4 x5 n2 n3 n4 n5) a3) else none)|none=>none)|none=>none)|none=>none)|none=>none
 | _,_=>none
theorem Xck {k:Nat} {v:Value} {cs:List (Option (List Value))} {x:Xaw} (h:XbG k v cs=some x):v=.pointer (some ⟨k+0,0,none⟩)∧cs=[some [.int .u64 x.key.A,.int .u64 x.key.B,.slice (some ⟨k+1,0,none⟩) 4 1,.int .i64 x.total],some [.slice (some ⟨k+2,0,none⟩) x.rows.m0 1,.slice (some ⟨k+3,0,none⟩) x.rows.m1 1,.slice (some ⟨k+4,0,none⟩) x.rows.m2 1,.slice (some ⟨k+5,0,none⟩) x.rows.m3 1],some (vI .i64 x.rows.e0),some (vI .i64 x.rows.e1),some (vI .i64 x.rows.e2),some (vI .i64 x.rows.e3),none,none,none,none]:=by
 unfold XbG at h;split at h<;>try (cases h;done)
 split at h<;>try (cases h;done)
 rename_i x2 e2
 split at h<;>try (cases h;done)
 rename_i x3 e3
 split at h<;>try (cases h;done)
 rename_i x4 e4
 split at h<;>try (cases h;done)
 rename_i x5 e5
 split at h<;>cases h
 rename_i hk
 obtain ⟨rfl,rfl,rfl,rfl,rfl,rfl,rfl,rfl,rfl,rfl⟩:=hk
 obtain rfl:=XcB e2
 obtain rfl:=XcB e3
 obtain rfl:=XcB e4
 obtain rfl:=XcB e5
 exact ⟨rfl,rfl⟩
theorem Xdg (k:Nat) (x:Xaw):XbG k (.pointer (some ⟨k+0,0,none⟩)) [some [.int .u64 x.key.A,.int .u64 x.key.B,.slice (some ⟨k+1,0,none⟩) 4 1,.int .i64 x.total],some [.slice (some ⟨k+2,0,none⟩) x.rows.m0 1,.slice (some ⟨k+3,0,none⟩) x.rows.m1 1,.slice (some ⟨k+4,0,none⟩) x.rows.m2 1,.slice (some ⟨k+5,0,none⟩) x.rows.m3 1],some (vI .i64 x.rows.e0),some (vI .i64 x.rows.e1),some (vI .i64 x.rows.e2),some (vI .i64 x.rows.e3),none,none,none,none]=some x:=by
 simp only [XbG,XcC,XcC,XcC,XcC];simp
def XbE (k:Nat):Value→List (Option (List Value))→Option Xav
 | .pointer (some ⟨k0,0,none⟩),[some [.int .u64 a1,.int .u64 a2,.slice (some ⟨k1,0,none⟩) 5 1,.int .i64 a3],some [.slice (some ⟨k2,0,none⟩) n2 s2,.slice (some ⟨k3,0,none⟩) n3 s3,.slice (some ⟨k4,0,none⟩) n4 s4,.slice (some ⟨k5,0,none⟩) n5 s5,.slice (some ⟨k6,0,none⟩) n6 s6],some c2,some c3,some c4,some c5,some c6,none,none,none]=>match (unL (asI .i64)) c2 with|some x2=>(match (unL (asI .i64)) c3 with|some x3=>(match (unL (asI .i64)) c4 with|some x4=>(match (unL (asI .i64)) c5 with|some x5=>(match (unL (asI .i64)) c6 with|some x6=>(if k0=k+0∧k1=k+1∧k2=k+2∧s2=1∧k3=k+3∧s3=1∧k4=k+4∧s4=1∧k5=k+5∧s5=1∧k6=k+6∧s6=1 then some (Xav.mk (Xap.mk a1 a2) (XbU.mk x2 x3 x4 x5 x6 n2 n3 n4 n5 n6) a3) else none)|none=>none)|none=>none)|none=>none)|none=>none)|none=>none
 | _,_=>none
theorem Xce {k:Nat} {v:Value} {cs:List (Option (List Value))} {x:Xav} (h:XbE k v cs=some x):v=.pointer (some ⟨k+0,0,none⟩)∧cs=[some [.int .u64 x.key.A,.int .u64 x.key.B,.slice (some ⟨k+1,0,none⟩) 5 1,.int .i64 x.total],some [.slice (some ⟨k+2,0,none⟩) x.rows.m0 1,.slice (some ⟨k+3,0,none⟩) x.rows.m1 1,.slice (some ⟨k+4,0,none⟩) x.rows.m2 1,.slice (some ⟨k+5,0,none⟩) x.rows.m3 1,.slice (some ⟨k+6,0,none⟩) x.rows.m4 1],some (vI .i64 x.rows.e0),some (vI .i64 x.rows.e1),some (vI .i64 x.rows.e2),some (vI .i64 x.rows.e3),some (vI .i64 x.rows.e4),none,none,none]:=by
 unfold XbE at h;split at h<;>try (cases h;done)
 split at h<;>try (cases h;done)
 rename_i x2 e2
 split at h<;>try (cases h;done)
 rename_i x3 e3
 split at h<;>try (cases h;done)
 rename_i x4 e4
 split at h<;>try (cases h;done)
 rename_i x5 e5
 split at h<;>try (cases h;done)
 rename_i x6 e6
 split at h<;>cases h
 rename_i hk
 obtain ⟨rfl,rfl,rfl,rfl,rfl,rfl,rfl,rfl,rfl,rfl,rfl,rfl⟩:=hk
 obtain rfl:=XcB e2
 obtain rfl:=XcB e3
 obtain rfl:=XcB e4
 obtain rfl:=XcB e5
 obtain rfl:=XcB e6
 exact ⟨rfl,rfl⟩
theorem Xdl (k:Nat) (x:Xav):XbE k (.pointer (some ⟨k+0,0,none⟩)) [some [.int .u64 x.key.A,.int .u64 x.key.B,.slice (some ⟨k+1,0,none⟩) 5 1,.int .i64 x.total],some [.slice (some ⟨k+2,0,none⟩) x.rows.m0 1,.slice (some ⟨k+3,0,none⟩) x.rows.m1 1,.slice (some ⟨k+4,0,none⟩) x.rows.m2 1,.slice (some ⟨k+5,0,none⟩) x.rows.m3 1,.slice (some ⟨k+6,0,none⟩) x.rows.m4 1],some (vI .i64 x.rows.e0),some (vI .i64 x.rows.e1),some (vI .i64 x.rows.e2),some (vI .i64 x.rows.e3),some (vI .i64 x.rows.e4),none,none,none]=some x:=by
 simp only [XbE,XcC,XcC,XcC,XcC,XcC];simp
def XbI (k:Nat):Value→List (Option (List Value))→Option Xau
 | .pointer (some ⟨k0,0,none⟩),[some [.int .u64 a1,.int .u64 a2,.slice (some ⟨k1,0,none⟩) 6 1,.int .i64 a3],some [.slice (some ⟨k2,0,none⟩) n2 s2,.slice (some ⟨k3,0,none⟩) n3 s3,.slice (some ⟨k4,0,none⟩) n4 s4,.slice (some ⟨k5,0,none⟩) n5 s5,.slice (some ⟨k6,0,none⟩) n6 s6,.slice (some ⟨k7,0,none⟩) n7 s7],some c2,some c3,some c4,some c5,some c6,some c7,none,none]=>match (unL (asI .i64)) c2 with|some x2=>(match (unL (asI .i64)) c3 with|some x3=>(match (unL (asI .i64)) c4 with|some x4=>(match (unL (asI .i64)) c5 with|some x5=>(match (unL (asI .i64)) c6 with|some x6=>(match (unL (asI .i64)) c7 with|some x7=>(if k0=k+0∧k1=k+1∧k2=k+2∧s2=1∧k3=k+3∧s3=1∧k4=k+4∧s4=1∧k5=k+5∧s5=1∧k6=k+6∧s6=1∧k7=k+7∧s7=1 then some (Xau.mk (Xap.mk a1 a2) (XbN.mk x2 x3 x4 x5 x6 x7 n2 n3 n4 n5 n6 n7) a3) else none)|none=>none)|none=>none)|none=>none)|none=>none)|none=>none)|none=>none
 | _,_=>none
theorem Xcm {k:Nat} {v:Value} {cs:List (Option (List Value))} {x:Xau} (h:XbI k v cs=some x):v=.pointer (some ⟨k+0,0,none⟩)∧cs=[some [.int .u64 x.key.A,.int .u64 x.key.B,.slice (some ⟨k+1,0,none⟩) 6 1,.int .i64 x.total],some [.slice (some ⟨k+2,0,none⟩) x.rows.m0 1,.slice (some ⟨k+3,0,none⟩) x.rows.m1 1,.slice (some ⟨k+4,0,none⟩) x.rows.m2 1,.slice (some ⟨k+5,0,none⟩) x.rows.m3 1,.slice (some ⟨k+6,0,none⟩) x.rows.m4 1,.slice (some ⟨k+7,0,none⟩) x.rows.m5 1],some (vI .i64 x.rows.e0),some (vI .i64 x.rows.e1),some (vI .i64 x.rows.e2),some (vI .i64 x.rows.e3),some (vI .i64 x.rows.e4),some (vI .i64 x.rows.e5),none,none]:=by
 unfold XbI at h;split at h<;>try (cases h;done)
 split at h<;>try (cases h;done)
 rename_i x2 e2
 split at h<;>try (cases h;done)
 rename_i x3 e3
 split at h<;>try (cases h;done)
 rename_i x4 e4
 split at h<;>try (cases h;done)
 rename_i x5 e5
 split at h<;>try (cases h;done)
 rename_i x6 e6
 split at h<;>try (cases h;done)
 rename_i x7 e7
 split at h<;>cases h
 rename_i hk
 obtain ⟨rfl,rfl,rfl,rfl,rfl,rfl,rfl,rfl,rfl,rfl,rfl,rfl,rfl,rfl⟩:=hk
 obtain rfl:=XcB e2
 obtain rfl:=XcB e3
 obtain rfl:=XcB e4
 obtain rfl:=XcB e5
 obtain rfl:=XcB e6
 obtain rfl:=XcB e7
 exact ⟨rfl,rfl⟩
theorem Xdk (k:Nat) (x:Xau):XbI k (.pointer (some ⟨k+0,0,none⟩)) [some [.int .u64 x.key.A,.int .u64 x.key.B,.slice (some ⟨k+1,0,none⟩) 6 1,.int .i64 x.total],some [.slice (some ⟨k+2,0,none⟩) x.rows.m0 1,.slice (some ⟨k+3,0,none⟩) x.rows.m1 1,.slice (some ⟨k+4,0,none⟩) x.rows.m2 1,.slice (some ⟨k+5,0,none⟩) x.rows.m3 1,.slice (some ⟨k+6,0,none⟩) x.rows.m4 1,.slice (some ⟨k+7,0,none⟩) x.rows.m5 1],some (vI .i64 x.rows.e0),some (vI .i64 x.rows.e1),some (vI .i64 x.rows.e2),some (vI .i64 x.rows.e3),some (vI .i64 x.rows.e4),some (vI .i64 x.rows.e5),none,none]=some x:=by
 simp only [XbI,XcC,XcC,XcC,XcC,XcC,XcC];simp
def XbM (k:Nat):Value→List (Option (List Value))→Option Xat
 | .pointer (some ⟨k0,0,none⟩),[some [.int .u64 a1,.int .u64 a2,.slice (some ⟨k1,0,none⟩) 7 1,.int .i64 a3],some [.slice (some ⟨k2,0,none⟩) n2 s2,.slice (some ⟨k3,0,none⟩) n3 s3,.slice (some ⟨k4,0,none⟩) n4 s4,.slice (some ⟨k5,0,none⟩) n5 s5,.slice (some ⟨k6,0,none⟩) n6 s6,.slice (some ⟨k7,0,none⟩) n7 s7,.slice (some ⟨k8,0,none⟩) n8 s8],some c2,some c3,some c4,some c5,some c6,some c7,some c8,none]=>match (unL (asI .i64)) c2 with|some x2=>(match (unL (asI .i64)) c3 with|some x3=>(match (unL (asI .i64)) c4 with|some x4=>(match (unL (asI .i64)) c5 with|some x5=>(match (unL (asI .i64)) c6 with|some x6=>(match (unL (asI .i64)) c7 with|some x7=>(match (unL (asI .i64)) c8 with|some x8=>(if k0=k+0∧k1=k+1∧k2=k+2∧s2=1∧k3=k+3∧s3=1∧k4=k+4∧s4=1∧k5=k+5∧s5=1∧k6=k+6∧s6=1∧k7=k+7∧s7=1∧k8=k+8∧s8=1 then some (Xat.mk (Xap.mk a1 a2) (Xbv.mk x2 x3 x4 x5 x6 x7 x8 n2 n3 n4 n5 n6 n7 n8) a3) else none)|none=>none)|none=>none)|none=>none)|none=>none)|none=>none)|none=>none)|none=>none
 | _,_=>none
theorem Xcg {k:Nat} {v:Value} {cs:List (Option (List Value))} {x:Xat} (h:XbM k v cs=some x):v=.pointer (some ⟨k+0,0,none⟩)∧cs=[some [.int .u64 x.key.A,.int .u64 x.key.B,.slice (some ⟨k+1,0,none⟩) 7 1,.int .i64 x.total],some [.slice (some ⟨k+2,0,none⟩) x.rows.m0 1,.slice (some ⟨k+3,0,none⟩) x.rows.m1 1,.slice (some ⟨k+4,0,none⟩) x.rows.m2 1,.slice (some ⟨k+5,0,none⟩) x.rows.m3 1,.slice (some ⟨k+6,0,none⟩) x.rows.m4 1,.slice (some ⟨k+7,0,none⟩) x.rows.m5 1,.slice (some ⟨k+8,0,none⟩) x.rows.m6 1],some (vI .i64 x.rows.e0),some (vI .i64 x.rows.e1),some (vI .i64 x.rows.e2),some (vI .i64 x.rows.e3),some (vI .i64 x.rows.e4),some (vI .i64 x.rows.e5),some (vI .i64 x.rows.e6),none]:=by
 unfold XbM at h;split at h<;>try (cases h;done)
 split at h<;>try (cases h;done)
 rename_i x2 e2
 split at h<;>try (cases h;done)
 rename_i x3 e3
 split at h<;>try (cases h;done)
 rename_i x4 e4
 split at h<;>try (cases h;done)
 rename_i x5 e5
 split at h<;>try (cases h;done)
 rename_i x6 e6
 split at h<;>try (cases h;done)
 rename_i x7 e7
 split at h<;>try (cases h;done)
 rename_i x8 e8
 split at h<;>cases h
 rename_i hk
 obtain ⟨rfl,rfl,rfl,rfl,rfl,rfl,rfl,rfl,rfl,rfl,rfl,rfl,rfl,rfl,rfl,rfl⟩:=hk
 obtain rfl:=XcB e2
 obtain rfl:=XcB e3
 obtain rfl:=XcB e4
 obtain rfl:=XcB e5
 obtain rfl:=XcB e6
 obtain rfl:=XcB e7
 obtain rfl:=XcB e8
 exact ⟨rfl,rfl⟩
theorem Xds (k:Nat) (x:Xat):XbM k (.pointer (some ⟨k+0,0,none⟩)) [some [.int .u64 x.key.A,.int .u64 x.key.B,.slice (some ⟨k+1,0,none⟩) 7 1,.int .i64 x.total],some [.slice (some ⟨k+2,0,none⟩) x.rows.m0 1,.slice (some ⟨k+3,0,none⟩) x.rows.m1 1,.slice (some ⟨k+4,0,none⟩) x.rows.m2 1,.slice (some ⟨k+5,0,none⟩) x.rows.m3 1,.slice (some ⟨k+6,0,none⟩) x.rows.m4 1,.slice (some ⟨k+7,0,none⟩) x.rows.m5 1,.slice (some ⟨k+8,0,none⟩) x.rows.m6 1],some (vI .i64 x.rows.e0),some (vI .i64 x.rows.e1),some (vI .i64 x.rows.e2),some (vI .i64 x.rows.e3),some (vI .i64 x.rows.e4),some (vI .i64 x.rows.e5),some (vI .i64 x.rows.e6),none]=some x:=by
 simp only [XbM,XcC,XcC,XcC,XcC,XcC,XcC,XcC];simp
def XbH (k:Nat):Value→List (Option (List Value))→Option Xas
 | .pointer (some ⟨k0,0,none⟩),[some [.int .u64 a1,.int .u64 a2,.slice (some ⟨k1,0,none⟩) 8 1,.int .i64 a3],some [.slice (some ⟨k2,0,none⟩) n2 s2,.slice (some ⟨k3,0,none⟩) n3 s3,.slice (some ⟨k4,0,none⟩) n4 s4,.slice (some ⟨k5,0,none⟩) n5 s5,.slice (some ⟨k6,0,none⟩) n6 s6,.slice (some ⟨k7,0,none⟩) n7 s7,.slice (some ⟨k8,0,none⟩) n8 s8,.slice (some ⟨k9,0,none⟩) n9 s9],some c2,some c3,some c4,some c5,some c6,some c7,some c8,some c9]=>match (unL (asI .i64)) c2 with|some x2=>(match (unL (asI .i64)) c3 with|some x3=>(match (unL (asI .i64)) c4 with|some x4=>(match (unL (asI .i64)) c5 with|some x5=>(match (unL (asI .i64)) c6 with|some x6=>(match (unL (asI .i64)) c7 with|some x7=>(match (unL (asI .i64)) c8 with|some x8=>(match (unL (asI .i64)) c9 with|some x9=>(if k0=k+0∧k1=k+1∧k2=k+2∧s2=1∧k3=k+3∧s3=1∧k4=k+4∧s4=1∧k5=k+5∧s5=1∧k6=k+6∧s6=1∧k7=k+7∧s7=1∧k8=k+8∧s8=1∧k9=k+9∧s9=1 then some (Xas.mk (Xap.mk a1 a2) (Xbj.mk x2 x3 x4 x5 x6 x7 x8 x9 n2 n3 n4 n5 n6 n7 n8 n9) a3) else none)|none=>none)|none=>none)|none=>none)|none=>none)|none=>none)|none=>none)|none=>none)|none=>none
 | _,_=>none
theorem Xch {k:Nat} {v:Value} {cs:List (Option (List Value))} {x:Xas} (h:XbH k v cs=some x):v=.pointer (some ⟨k+0,0,none⟩)∧cs=[some [.int .u64 x.key.A,.int .u64 x.key.B,.slice (some ⟨k+1,0,none⟩) 8 1,.int .i64 x.total],some [.slice (some ⟨k+2,0,none⟩) x.rows.m0 1,.slice (some ⟨k+3,0,none⟩) x.rows.m1 1,.slice (some ⟨k+4,0,none⟩) x.rows.m2 1,.slice (some ⟨k+5,0,none⟩) x.rows.m3 1,.slice (some ⟨k+6,0,none⟩) x.rows.m4 1,.slice (some ⟨k+7,0,none⟩) x.rows.m5 1,.slice (some ⟨k+8,0,none⟩) x.rows.m6 1,.slice (some ⟨k+9,0,none⟩) x.rows.m7 1],some (vI .i64 x.rows.e0),some (vI .i64 x.rows.e1),some (vI .i64 x.rows.e2),some (vI .i64 x.rows.e3),some (vI .i64 x.rows.e4),some (vI .i64 x.rows.e5),some (vI .i64 x.rows.e6),some (vI .i64 x.rows.e7)]:=by
 unfold XbH at h;split at h<;>try (cases h;done)
 split at h<;>try (cases h;done)
 rename_i x2 e2
 split at h<;>try (cases h;done)
 rename_i x3 e3
 split at h<;>try (cases h;done)
 rename_i x4 e4
 split at h<;>try (cases h;done)
 rename_i x5 e5
 split at h<;>try (cases h;done)
 rename_i x6 e6
 split at h<;>try (cases h;done)
 rename_i x7 e7
 split at h<;>try (cases h;done)
 rename_i x8 e8
 split at h<;>try (cases h;done)
 rename_i x9 e9
 split at h<;>cases h
 rename_i hk
 obtain ⟨rfl,rfl,rfl,rfl,rfl,rfl,rfl,rfl,rfl,rfl,rfl,rfl,rfl,rfl,rfl,rfl,rfl,rfl⟩:=hk
 obtain rfl:=XcB e2
 obtain rfl:=XcB e3
 obtain rfl:=XcB e4
 obtain rfl:=XcB e5
 obtain rfl:=XcB e6
 obtain rfl:=XcB e7
 obtain rfl:=XcB e8
 obtain rfl:=XcB e9
 exact ⟨rfl,rfl⟩
theorem Xdr (k:Nat) (x:Xas):XbH k (.pointer (some ⟨k+0,0,none⟩)) [some [.int .u64 x.key.A,.int .u64 x.key.B,.slice (some ⟨k+1,0,none⟩) 8 1,.int .i64 x.total],some [.slice (some ⟨k+2,0,none⟩) x.rows.m0 1,.slice (some ⟨k+3,0,none⟩) x.rows.m1 1,.slice (some ⟨k+4,0,none⟩) x.rows.m2 1,.slice (some ⟨k+5,0,none⟩) x.rows.m3 1,.slice (some ⟨k+6,0,none⟩) x.rows.m4 1,.slice (some ⟨k+7,0,none⟩) x.rows.m5 1,.slice (some ⟨k+8,0,none⟩) x.rows.m6 1,.slice (some ⟨k+9,0,none⟩) x.rows.m7 1],some (vI .i64 x.rows.e0),some (vI .i64 x.rows.e1),some (vI .i64 x.rows.e2),some (vI .i64 x.rows.e3),some (vI .i64 x.rows.e4),some (vI .i64 x.rows.e5),some (vI .i64 x.rows.e6),some (vI .i64 x.rows.e7)]=some x:=by
 simp only [XbH,XcC,XcC,XcC,XcC,XcC,XcC,XcC,XcC];simp
theorem XCF {h:Hp} {b o n i sz kk:Nat} {k:IntKind} {own:Bool} {xs ys:List Int} (ho:XaI h b=some (.row own (vI k xs))) (hs:sz=1) (e0:o=i) (hle:i+n≤xs.length) (hy:(xs.drop i).take n=ys):XbX h kk (.sl 1) (.slice (some ⟨b,o,none⟩) n sz)=some (.slice (some ⟨kk,0,none⟩) ys.length 1,[some (.row false (vI k ys))]):=by
 have hl:n=ys.length:=by rw [←hy];simp;omega
 subst hy
 have:=XsU (kk:=kk) ho hs e0 hl (by omega)
 rw [this,←hl]
theorem Xk2 {α:Type} {r:List α}:[]++r=r:=rfl
theorem Xi8 {α:Type} {a:α} {l r l2:List α} (t:l++r=l2):(a::l)++r=a::l2:=by subst t;rfl
theorem XxU {h:Hp} {v:Value} {bs:List PR}:Xer h v [] bs=bs:=rfl
theorem XDt {h:Hp} {v:Value} {p:Path} {ps:List Path} {bs bs' r:List PR} (e:Xkj h v bs p=.no) (hb:bs++[.no]=bs') (t:Xer h v ps bs'=r):Xer h v (p::ps) bs=r:=by subst hb;rw [←e] at t;exact t
theorem XBk {h:Hp} {v:Value} {p:Path} {ps:List Path} {bs bs' r:List PR} {b:Nat} (e:Xkj h v bs p=.hit b) (hb:bs++[.hit b]=bs') (t:Xer h v ps bs'=r):Xer h v (p::ps) bs=r:=by subst hb;rw [←e] at t;exact t
theorem XBg {h:Hp} {v:Value} {p:Path} {ps:List Path} {bs bs' r:List PR} {b:Nat} (e:Xkj h v bs p=.nil b) (hb:bs++[.nil b]=bs') (t:Xer h v ps bs'=r):Xer h v (p::ps) bs=r:=by subst hb;rw [←e] at t;exact t
theorem XxH {h:Hp}:XhE h [] []=[]:=rfl
theorem XzU {h:Hp} {m:Md} {ms:List Md} {v:Value} {vs:List Value} {l l2 ws:List Wd} (e:Xkv h m v=l) (t:XhE h ms vs=l2) (hb:l++l2=ws):XhE h (m::ms) (v::vs)=ws:=by subst e t hb;rfl
theorem wn_tr {h:Hp} {v:Value} {ps:List Path} {bs:List PR} {l:List Wd} (e0:Xer h v ps []=bs) (e:Xl6 ps bs=l):Xkv h (.tr ps) v=l:=by subst e0 e;rfl
theorem Xfx.a {s:XcE} {vals aqs:List Value} {os:List (Option XaY)} {h h1 h2:Hp} {top n m t':Nat} {ws:List Wd} {r:XcJ} {v':Value} {cw:List (Option (List Value))} {K:Value→Hp→Nat→Prop} (e2:s.run aqs cw=some r)
 (k:Xgf v' fun v=>Xiy [] (Xg0 h2 (top+n) m) fun h'=>K v h' t')
 (e1:Xcx h 0 s.modes vals=some (aqs,os):=by repeat' first|with_reducible exact Xx7|((with_reducible apply ra_tr);(· repeat' first|with_reducible exact XxU|((with_reducible apply XBk);(· rfl);(· repeat' first|with_reducible exact Xk2|with_reducible apply Xi8))|((with_reducible apply XDt);(· rfl);(· repeat' first|with_reducible exact Xk2|with_reducible apply Xi8))|((with_reducible apply XBg);(· rfl);(· repeat' first|with_reducible exact Xk2|with_reducible apply Xi8)));(· rfl);(· repeat' first|with_reducible exact XDb|with_reducible apply vp_no|apply vp_at rfl rfl (by first|rfl|exact XgS|exact Xwk|exact Xwi|exact XwB Xbi|exact Xb0 _ _ (by simp only [XaR.flatL,XfP];rfl)) rfl|apply XBf|apply XCS rfl rfl);(· rfl))|apply Xoe|rfl|exact XC0 rfl rfl rfl (by first|rfl|(simp only [XaR.flatL,XfP];rfl))|exact XxE rfl rfl (Nat.le_of_ble_eq_true rfl) rfl (by first|rfl|(simp only [XaR.flatL,XfP];rfl))|exact XzE rfl rfl (by first|rfl|omega) (by first|rfl|(simp;done))|exact Xzu rfl rfl (by first|rfl|omega) (by first|rfl|(simp;done))|exact XAM rfl rfl (by first|rfl|omega) (by first|rfl|(simp;done))|exact XyA Xao Xbi rfl rfl (by first|rfl|omega) (by first|rfl|(simp;done))|exact XCF rfl rfl (by first|rfl|omega) (by simp at *;omega) rfl|exact XsU rfl rfl (by first|rfl|omega) (by first|rfl|omega) (by first|omega|(simp at *;omega))|exact Xxt rfl rfl (by first|rfl|omega) (by first|rfl|omega) (by first|omega|(simp at *;omega))|exact Xx1 rfl rfl (by first|rfl|omega) (by first|rfl|omega) (by first|omega|(simp at *;omega))|exact XxI Xao Xbi rfl rfl (by first|rfl|omega) (by first|rfl|omega) (by first|omega|(simp at *;omega)))
 (ec:XgD os=cw:=by rfl)
 (ew:XhE h s.modes vals=ws:=by repeat' first|with_reducible exact XxH|(apply XzU;(· first|((with_reducible apply wn_tr);(· repeat' first|with_reducible exact XxU|((with_reducible apply XBk);(· rfl);(· repeat' first|with_reducible exact Xk2|with_reducible apply Xi8))|((with_reducible apply XDt);(· rfl);(· repeat' first|with_reducible exact Xk2|with_reducible apply Xi8))|((with_reducible apply XBg);(· rfl);(· repeat' first|with_reducible exact Xk2|with_reducible apply Xi8)));(· first|exact (rfl:_=[_,_,_,_,_,_,_,_,_,_])|exact (rfl:_=[_])|exact (rfl:_=[_,_])|exact (rfl:_=[_,_,_])|exact (rfl:_=[_,_,_,_])|exact (rfl:_=[_,_,_,_,_])|exact (rfl:_=[_,_,_,_,_,_])|exact (rfl:_=[_,_,_,_,_,_,_])|exact (rfl:_=[_,_,_,_,_,_,_,_])))|first|exact (rfl:_=[])|exact (rfl:_=[_])|exact (rfl:_=[_,_])))|with_reducible exact Xk2|with_reducible apply Xi8|exact XxH)
 (e3:apartB ws=true:=by first|decide +kernel|exact rfl)
 (hn:r.new.length=n:=by first|exact (rfl:_=0)|exact (rfl:_=1)|exact (rfl:_=2)|exact (rfl:_=3)|exact (rfl:_=4)|exact (rfl:_=5)|exact (rfl:_=6)|exact (rfl:_=7)|exact (rfl:_=8)|exact (rfl:_=9)|exact (rfl:_=10)|exact (rfl:_=11)|exact (rfl:_=12)|exact (rfl:_=13)|exact (rfl:_=14)|exact (rfl:_=15)|exact (rfl:_=16)|exact (rfl:_=17)|exact (rfl:_=18)|exact (rfl:_=19))
 (hm:XiL ws=m:=by first|exact (rfl:_=0)|exact (rfl:_=1)|exact (rfl:_=2)|exact (rfl:_=3)|exact (rfl:_=4))
 (ht:top+n+m=t':=by simp only [Nat.reduceAdd];rfl)
 (e4:Xcb h (Xoa top n ws) ws r.wr=some h1:=by repeat' first|with_reducible exact Xqd|apply XAN rfl|apply XCw rfl rfl (by first|rfl|exact XgS|exact Xwk|exact Xwi|exact XwB Xbi|exact Xb0 _ _ (by simp only [XaR.flatL,XfP];rfl)) rfl rfl rfl|apply XuG rfl rfl (by first|rfl|exact XgS|exact Xwk|exact Xwi|exact XwB Xbi|exact Xb0 _ _ (by simp only [XaR.flatL,XfP];rfl)) ⟨rfl,Nat.le_of_ble_eq_true rfl⟩ rfl rfl|apply XBP rfl rfl (by first|rfl|exact XgS|exact Xwk|exact Xwi|exact XwB Xbi|exact Xb0 _ _ (by simp only [XaR.flatL,XfP];rfl)) rfl|apply XBH|apply XCl rfl|exact Xqd)
 (e5:XgM h1 (Xoa top n ws) top r.new=some h2:=by repeat' first|with_reducible exact Xph|apply Xyr (by first|rfl|exact XgS|exact Xwk|exact Xwi|exact XwB Xbi|exact Xb0 _ _ (by simp only [XaR.flatL,XfP];rfl))|exact Xph)
 (e6:Xdd (Xoa top n ws) r.v=some v':=by first|exact rfl|exact XjS _ _ (by first|rfl|(simp only [XaR,XaR.flatL,XfP];rfl))):Xfx s vals h top K:=Xfx.XuK [] (XlD e1 ew ec e2 e3 hn hm ht e4 e5 e6) k
def LMH (_:List (Nat×Nat)):Prop:=True
theorem lm (l:List (Nat×Nat)):LMH l:=trivial
theorem XaQ.rA {P:Program} {f base fn nt:Nat} {e e':Env} {todo todo':List XeT} {ds ds':List Nat} {ret:Bool} {up up':List Xa5} {H H':Hp} {top top':Nat} {R:Value→Hp→Nat→Prop} {m:List (Nat×Nat)}
 (h:XaQ P f base ⟨⟨fn,nt,e',todo',ds',ret,none⟩,up',H',top'⟩ R) (_:LMH m) (hc:Xsq base top' m=true:=by rfl) (he:reE (XaI m) e e':=by (repeat' first|exact trivial|refine ⟨⟨_,rfl,rfl⟩,?_⟩|refine ⟨⟨_,_,rfl,rfl,.rowF (Xf8 _ _) id⟩,?_⟩|refine ⟨⟨_,_,rfl,rfl,.rowF (Xh3 _) id⟩,?_⟩|refine ⟨⟨_,_,rfl,rfl,.rowF (Xib _) id⟩,?_⟩|refine ⟨⟨_,_,rfl,rfl,.rowF (XhP (by first|exact Xbi) _) id⟩,?_⟩|refine ⟨⟨_,_,rfl,rfl,.tyF (Xf8 _ _)⟩,?_⟩|refine ⟨⟨_,_,rfl,rfl,.ty rfl⟩,?_⟩|refine ⟨⟨_,_,rfl,rfl,.cells rfl⟩,?_⟩|refine ⟨⟨_,_,rfl,rfl,.row rfl id⟩,?_⟩|refine ⟨⟨_,_,rfl,rfl,.cr rfl⟩,?_⟩|refine ⟨⟨_,_,rfl,rfl,.rc rfl⟩,?_⟩|refine ⟨⟨_,_,rfl,rfl,.marks⟩,?_⟩|refine ⟨⟨_,_,rfl,rfl,.mp _⟩,?_⟩|refine ⟨⟨_,_,rfl,rfl,.siter _ _⟩,?_⟩|refine ⟨⟨_,_,rfl,rfl,.loop rfl rfl rfl rfl (by repeat' first|exact trivial|refine ⟨rfl,?_⟩) rfl rfl rfl rfl⟩,?_⟩)) (hH:reH (XaI m) H H':=by (repeat' first|exact trivial|refine ⟨⟨_,rfl,rfl⟩,?_⟩|refine ⟨⟨_,_,rfl,rfl,.rowF (Xf8 _ _) id⟩,?_⟩|refine ⟨⟨_,_,rfl,rfl,.rowF (Xh3 _) id⟩,?_⟩|refine ⟨⟨_,_,rfl,rfl,.rowF (Xib _) id⟩,?_⟩|refine ⟨⟨_,_,rfl,rfl,.rowF (XhP (by first|exact Xbi) _) id⟩,?_⟩|refine ⟨⟨_,_,rfl,rfl,.tyF (Xf8 _ _)⟩,?_⟩|refine ⟨⟨_,_,rfl,rfl,.ty rfl⟩,?_⟩|refine ⟨⟨_,_,rfl,rfl,.cells rfl⟩,?_⟩|refine ⟨⟨_,_,rfl,rfl,.row rfl id⟩,?_⟩|refine ⟨⟨_,_,rfl,rfl,.cr rfl⟩,?_⟩|refine ⟨⟨_,_,rfl,rfl,.rc rfl⟩,?_⟩|refine ⟨⟨_,_,rfl,rfl,.marks⟩,?_⟩|refine ⟨⟨_,_,rfl,rfl,.mp _⟩,?_⟩|refine ⟨⟨_,_,rfl,rfl,.siter _ _⟩,?_⟩|refine ⟨⟨_,_,rfl,rfl,.loop rfl rfl rfl rfl (by repeat' first|exact trivial|refine ⟨rfl,?_⟩) rfl rfl rfl rfl⟩,?_⟩))
 (ht:XuQ (XaI m) todo'=some todo:=by rfl) (hd:XuU (XaI m) ds'=some ds:=by rfl) (hu:reU (XaI m) up up':=by trivial):XaQ P f base ⟨⟨fn,nt,e,todo,ds,ret,none⟩,up,H,top⟩ R:=XaQ.re h m hc he hH ht hd hu
def JS (_:List Nat):Prop:=True
theorem js (l:List Nat):JS l:=trivial
theorem Res.J {n:Nat} {r:XcJ} {v':Value} {H':Hp} {js:List Nat} (_:JS js) (e1:Xdd (Xm5 js n) r.v=some v':=by rfl) (e2:XmB H' (Xm5 js n) js r.new:=by (repeat' first|with_reducible exact Xqo|apply Xgp (by first|rfl|exact XgS|exact Xwk|exact Xwi|exact XwB Xbi|exact Xb0 _ _ (by simp only [XaR.flatL,XfP];rfl)) (by first|exact XbP rfl|exact Xfi rfl)|exact Xqo);first|done|fail) (e3:js.Nodup:=by decide) (e4:XuP n r.wr js:=by (repeat' first|with_reducible exact XpT|apply Xgs (by decide)|apply js_r rfl|exact XpT);first|done|fail) (e5:XpG H' (Xm5 js n) 0 r.wr:=by (repeat' first|with_reducible exact Xpj|apply wr_n|apply wr_m rfl|apply wr_s (by first|rfl|exact XgS|exact Xwk|exact Xwi|exact XwB Xbi|exact Xb0 _ _ (by simp only [XaR.flatL,XfP];rfl)) (by first|exact Xfi rfl|exact XbP rfl)|exact Xpj);first|done|fail):Res n r v' H':=Res.of js e1 e2 e3 e4 e5
theorem Res.w {n:Nat} {r:XcJ} {v':Value} {H':Hp} (js:List Nat) (e1:Xdd (Xm5 js n) r.v=some v') (e2:XmB H' (Xm5 js n) js r.new:=by (repeat' first|exact Xqo|apply Xgp (by first|rfl|exact XgS|exact Xwk|exact Xwi|exact XwB Xbi|exact Xb0 _ _ (by simp only [XaR.flatL,XfP];rfl)) (by first|exact XbP rfl|exact Xfi rfl));first|done|fail) (e3:js.Nodup:=by decide) (e4:XuP n r.wr js:=by (repeat' first|exact XpT|apply Xgs (by decide)|apply js_r rfl);first|done|fail) (e5:XpG H' (Xm5 js n) 0 r.wr:=by (repeat' first|exact Xpj|apply wr_n|apply wr_m rfl|apply wr_s (by first|rfl|exact XgS|exact Xwk|exact Xwi|exact XwB Xbi|exact Xb0 _ _ (by simp only [XaR.flatL,XfP];rfl)) (by first|exact Xfi rfl|exact XbP rfl));first|done|fail):Res n r v' H':=Res.of js e1 e2 e3 e4 e5
theorem W {G:Prop} (g:G:=by
 repeat' first
  | (obtain ⟨y,hy,h2⟩:=XbV.elim h;cases h2;exact XaQ.rA (LP hy hc) LQ)
  | exact XaQ.rA (LP h (by first|exact hc|rfl)) LQ
  | (cases h;exact XaQ.rA hc LM)
  | ((with_reducible refine Xa3 XaN hS true 3000 ?_);conv=>whnf)
  | (refine fsp h ?_ ?_<;>(clear h;intros;rename_i hx h;rw [hx];conv=>whnf))
  | (refine fcase h ?_ ?_<;>first|(clear h;intro hx h;(first|subst hx|rw [hx]);conv=>whnf)|(clear h;intro h))
  | (refine br.h h (by rfl) ?_ ?_<;>(clear h;intro hb h;conv=>whnf))
  | (replace h:=XaL.elim h;obtain ⟨hb,h⟩:=h;first|(refine req.intro hb ?_;conv=>whnf)|(refine st_I hb (by first|rfl|(rw [Nat.zero_add,Nat.mul_one];try rfl;done)|omega) ?_;conv=>whnf)|(refine st_S hb (by first|rfl|(rw [Nat.zero_add,Nat.mul_one];try rfl;done)|omega) ?_;conv=>whnf)|(refine st_B hb (by first|rfl|(rw [Nat.zero_add,Nat.mul_one];try rfl;done)|omega) ?_;conv=>whnf)|skip)
  | (replace h:=XbV.elim h;obtain ⟨x,hy,h⟩:=h;(first|refine rdS.intro hy ?_|refine rd.I hy (by first|rfl|(rw [Nat.zero_add,Nat.mul_one];try rfl;done)|omega) ?_|refine rd.S hy (by first|rfl|(rw [Nat.zero_add,Nat.mul_one];try rfl;done)|omega) ?_|refine rd.B hy (by first|rfl|(rw [Nat.zero_add,Nat.mul_one];try rfl;done)|omega) ?_|refine Xfx.a (R1 hy) ?_|refine Xfx.a (R2 hy) ?_|refine Xfx.a (R3 hy) ?_|refine Xfx.a (R4 hy) ?_|refine Xfx.a (R5 hy) ?_|refine Xfx.a (R6 hy) ?_|refine Xfx.a (R7 hy) ?_|refine Xfx.a (R8 hy) ?_|refine rd.U (j:=0) Xao hy ?_|refine rd.U (j:=1) Xao hy ?_);conv=>whnf)
  | (cases h;done)
  | (cases h;(try cases hc);first|exact Res.J J|exact Res.y|exact Res.w [] rfl|exact Res.w [_] rfl|exact Res.w [_,_] rfl|exact Res.w [_,_,_] rfl|exact Res.w [_,_,_,_] rfl)):G:=g
theorem okA {f : Nat} {s : XcE} (hfn : ∃ fn, Try.prog.funcs[f]? = some fn ∧ fn.name ≠ "runtime.NumGoroutine" ∧ fn.body.isSome = true)
 (H:∀ ar os r,XfZ (XpC s.modes) os→s.run ar (XgD os)=some r→∃ c,Xg3 (XaI tab) f ar=some c∧XaQ Try.prog f os.length ⟨c,[],XlP 0 os,os.length⟩ (fun v' H' _=>Res os.length r v' H'):=by
 intro ar os r ha hr
 generalize hc:XgD os=C at hr
 repeat' first
  | (replace hr:=XvM.elim hr;rcases hr with hr|hr)
  | (replace hr:=orD.elim hr;rcases hr with hr|hr)
  | (replace hr:=dV.elim hr;obtain ⟨v,l,y,rfl,e,hr⟩:=hr;first|obtain rfl:=XnA _ _ _ e|obtain rfl:=XnH _ _ e|obtain rfl:=Xn3 _ _ e|obtain rfl:=XkC _ _ e|obtain rfl:=XkF _ _ e|obtain rfl:=Xjw _ _ e|obtain rfl:=XhR _ _ e|obtain rfl:=XjX _ _ e)
  | (have hq:=dSl.elim hr;clear hr;obtain ⟨c,l,C,y,rfl,rfl,e,hr⟩:=hq;first|obtain rfl:=XcB e|obtain rfl:=Xxq e|obtain rfl:=Xx9 e|obtain rfl:=Xrz Xgt e)
  | (have hq:=dPt.elim hr;clear hr;obtain ⟨c,l,C,y,rfl,rfl,e,hr⟩:=hq;first|obtain rfl:=Xiv _ _ e|obtain rfl:=Xgt _ _ e|obtain rfl:=XhC _ _ e|obtain rfl:=XgO _ _ e|obtain rfl:=Xhp _ _ e|obtain rfl:=Xmn (XnA _) e|obtain rfl:=Xmn XnH e|obtain rfl:=Xmn Xn3 e)
  | (have hq:=dTr.elim hr;clear hr;obtain ⟨v,l,c,C,y,rfl,rfl,e,hr⟩:=hq;(first|obtain ⟨rfl,rfl⟩:=XcW e|obtain ⟨rfl,rfl⟩:=Xcj e|obtain ⟨rfl,rfl⟩:=Xcl e|obtain ⟨rfl,rfl⟩:=Xci e|obtain ⟨rfl,rfl⟩:=Xck e|obtain ⟨rfl,rfl⟩:=Xce e|obtain ⟨rfl,rfl⟩:=Xcm e|obtain ⟨rfl,rfl⟩:=Xcg e|obtain ⟨rfl,rfl⟩:=Xch e);simp only [List.nil_append,List.cons_append] at hc)
  | (have hq:=dNl.elim hr;clear hr;obtain ⟨l,C,rfl,rfl,hr⟩:=hq;simp only [List.replicate,List.nil_append,List.cons_append] at hc)
  | (replace hr:=dFin hr;obtain ⟨rfl,rfl,x,h,rfl⟩:=hr;(repeat (first|(replace ha:=XlS ha hc;obtain ⟨os,rfl,ha,hc⟩:=ha)|(replace ha:=Xmf ha hc;obtain ⟨os,rfl,ha,hc⟩:=ha)));obtain rfl:=Xno hc;first|exact ⟨_,rfl,hL (h:=h) ..⟩|exact ⟨_,rfl,hN (h:=h) ..⟩|exact ⟨_,rfl,L0 (h:=h) ..⟩|exact ⟨_,rfl,L1 (h:=h) ..⟩|exact ⟨_,rfl,L2 (h:=h) ..⟩|exact ⟨_,rfl,L3 (h:=h) ..⟩|exact ⟨_,rfl,L4 (h:=h) ..⟩|exact ⟨_,rfl,L5 (h:=h) ..⟩|exact ⟨_,rfl,L6 (h:=h) ..⟩|exact ⟨_,rfl,L7 (h:=h) ..⟩|exact ⟨_,rfl,L8 (h:=h) ..⟩|exact ⟨_,rfl,L9 (h:=h) ..⟩)):XfJ Try.prog f s:=XfJ.Xhq XaN H hfn
theorem okB {G:Prop} (g:G:=by
 repeat' first
  | (replace hr:=dV.elim hr;obtain ⟨v,l,y,rfl,e,hr⟩:=hr;first|obtain rfl:=XnA _ _ _ e|obtain rfl:=XnH _ _ e|obtain rfl:=Xn3 _ _ e|obtain rfl:=XkC _ _ e|obtain rfl:=XkF _ _ e|obtain rfl:=Xjw _ _ e|obtain rfl:=XhR _ _ e|obtain rfl:=XjX _ _ e)
  | (have hq:=dSl.elim hr;clear hr;obtain ⟨c,l,C,y,rfl,rfl,e,hr⟩:=hq;first|obtain rfl:=XcB e|obtain rfl:=Xxq e|obtain rfl:=Xx9 e|obtain rfl:=Xrz Xgt e)
  | (have hq:=dPt.elim hr;clear hr;obtain ⟨c,l,C,y,rfl,rfl,e,hr⟩:=hq;first|obtain rfl:=Xiv _ _ e|obtain rfl:=Xgt _ _ e|obtain rfl:=XhC _ _ e|obtain rfl:=XgO _ _ e|obtain rfl:=Xhp _ _ e|obtain rfl:=Xmn (XnA _) e|obtain rfl:=Xmn XnH e|obtain rfl:=Xmn Xn3 e)
  | (have hq:=dTr.elim hr;clear hr;obtain ⟨v,l,c,C,y,rfl,rfl,e,hr⟩:=hq;(first|obtain ⟨rfl,rfl⟩:=U1 e|obtain ⟨rfl,rfl⟩:=U2 e|obtain ⟨rfl,rfl⟩:=U3 e);simp only [List.nil_append,List.cons_append] at hc)
  | (have hq:=dNl.elim hr;clear hr;obtain ⟨l,C,rfl,rfl,hr⟩:=hq;simp only [List.replicate,List.nil_append,List.cons_append] at hc)
  | (replace hr:=dFin hr;obtain ⟨rfl,rfl,x,h,rfl⟩:=hr;(repeat (first|(replace ha:=XlS ha hc;obtain ⟨os,rfl,ha,hc⟩:=ha)|(replace ha:=Xmf ha hc;obtain ⟨os,rfl,ha,hc⟩:=ha)));obtain rfl:=Xno hc;exact ⟨_,rfl,LL (h:=h) ..⟩)):G:=g
def Xmx (k:Xap):Option XaF:=
 some (XaF.mk true (XaE.mk (XeZ .u64 8317987319222330741 k.A) (XeZ .u64 7237128888997146477 k.B) (XeZ .u64 7816392313619706465 k.A) (XeZ .u64 8387220255154660723 k.B)) 0 0)
def rx61 (x:XaF):XcJ:=⟨.pointer (some ⟨0,0,none⟩),[[.bool x.made,.int .u64 x.s.e0,.int .u64 x.s.e1,.int .u64 x.s.e2,.int .u64 x.s.e3,.int .u64 x.last,.int .i64 x.count]],[]⟩
abbrev Xf3:=Xap→Option XaF
def r61 (g:Xf3):Dec:=dV XgP fun (y0:Xap)=>Xev (ofG (g y0) rx61)
theorem r61_c {g:Xf3} {y0:Xap} {x:XaF} (hx:g y0=some x):r61 g [.agg ⟨[.int .u64 y0.A,.int .u64 y0.B]⟩] []=some (rx61 x):=(Xcd (Xjf _)).trans (Xbe hx)
def s61 (g:Xf3):XcE:=⟨[.v],r61 g⟩
theorem XC4 {g:Xf3} {y0:Xap} {x:XaF} (hx:g y0=some x):(s61 g).run [.agg ⟨[.int .u64 y0.A,.int .u64 y0.B]⟩] []=some (rx61 x):=r61_c hx
abbrev XCL:List (Nat×XcE):=[]
theorem XAx (hS:XaB Try.prog (XaI (XCL))) (k:Xap) (res:XaF) (h:Xmx k=some res) :
 XaQ Try.prog 61 0 ⟨⟨61,18,[(0,.agg ⟨[.int .u64 k.A,.int .u64 k.B]⟩)],[.code XDu],[],false,none⟩,[],[],0⟩ (fun v H _=>Res 0 (rx61 res) v H):=by
 unfold Xmx at h
 refine Xa3 XaN hS true 3000 ?_
 conv=>whnf
 exact W
def Xgz:Xf3:=Xmx
theorem XDk:XfJ Try.prog 61 (s61 Xgz):=by
 have hL:=XAx (XaB.Xa4 trivial)
 exact okA ⟨Try.f61,rfl,by decide,rfl⟩
def XcP (x:Int) (k:Int):Option Int:=
 XaL (decide (0≤(Xtf .u64 (wI .u64 k) 63))) <|
 let t:=wI .u64 (x*2^(min (Xtf .u64 (wI .u64 k) 63).toNat 64))
 let t1:=wI .u64 (64 - (Xtf .u64 (wI .u64 k) 63))
 XaL (decide (0≤t1)) <|
 let t2:=XqM .u64 t (x.fdiv (2^(min t1.toNat 64)))
 some (t2)
def rx78 (x:Int):XcJ:=⟨.int .u64 x,[],[]⟩
abbrev Xbc:=Int→Int→Option Int
def r78 (g:Xbc):Dec:=dV (asI .u64) fun (y0:Int)=>dV (asI .i64) fun (y1:Int)=>Xev (ofG (g y0 y1) rx78)
theorem r78_c {g:Xbc} {y0:Int} {y1:Int} {x:Int} (hx:g y0 y1=some x):r78 g [.int .u64 y0,.int .i64 y1] []=some (rx78 x):=(Xcd (XfX _)).trans ((Xcd (XfX _)).trans (Xbe hx))
def s78 (g:Xbc):XcE:=⟨[.v,.v],r78 g⟩
theorem XBM {g:Xbc} {y0:Int} {y1:Int} {x:Int} (hx:g y0 y1=some x):(s78 g).run [.int .u64 y0,.int .i64 y1] []=some (rx78 x):=r78_c hx
abbrev XBd:List (Nat×XcE):=[]
theorem Xzx (hS:XaB Try.prog (XaI (XBd))) (x:Int) (k:Int) (res:Int) (h:XcP x k=some res) :
 XaQ Try.prog 78 0 ⟨⟨78,17,[(0,.int .u64 x),(1,.int .i64 k)],[.code XCd],[],false,none⟩,[],[],0⟩ (fun v H _=>Res 0 (rx78 res) v H):=by
 unfold XcP at h
 refine Xa3 XaN hS true 3000 ?_
 conv=>whnf
 exact W
def XaM:Xbc:=XcP
theorem XBr:XfJ Try.prog 78 (s78 XaM):=by
 have hL:=Xzx (XaB.Xa4 trivial)
 exact okA ⟨Try.f78,rfl,by decide,rfl⟩
def XfQ (XaM:Xbc) (s:XaE):Option XaE:=
 (XaM s.e1 13).bind fun xr=>
 (XaM (wI .u64 (s.e0+s.e1)) 32).bind fun xr1=>
 (XaM s.e3 16).bind fun xr2=>
 let t:=wI .u64 (xr1+(XeZ .u64 xr2 (wI .u64 (s.e2+s.e3))))
 (XaM (XeZ .u64 xr2 (wI .u64 (s.e2+s.e3))) 21).bind fun xr3=>
 let t1:=wI .u64 ((wI .u64 (s.e2+s.e3))+(XeZ .u64 xr (wI .u64 (s.e0+s.e1))))
 (XaM (XeZ .u64 xr (wI .u64 (s.e0+s.e1))) 17).bind fun xr4=>
 (XaM t1 32).bind fun xr5=>
 some (XaE.mk t (XeZ .u64 xr4 t1) xr5 (XeZ .u64 xr3 t))
def rx76 (x:XaE):XcJ:=⟨.tuple ⟨[]⟩,[],[some [.int .u64 x.e0,.int .u64 x.e1,.int .u64 x.e2,.int .u64 x.e3]]⟩
abbrev Xbw:=XaE→Option XaE
def r76 (g:Xbw):Dec:=dPt 0 Xgn fun (y0:XaE)=>Xev (ofG (g y0) rx76)
theorem r76_c {g:Xbw} {y0:XaE} {x:XaE} (hx:g y0=some x):r76 g [.pointer (some ⟨0,0,none⟩)] [some [.int .u64 y0.e0,.int .u64 y0.e1,.int .u64 y0.e2,.int .u64 y0.e3]]=some (rx76 x):=(XnJ (Xip _)).trans (Xbe hx)
def s76 (g:Xbw):XcE:=⟨[.pt 4],r76 g⟩
theorem XB9 {g:Xbw} {y0:XaE} {x:XaE} (hx:g y0=some x):(s76 g).run [.pointer (some ⟨0,0,none⟩)] [some [.int .u64 y0.e0,.int .u64 y0.e1,.int .u64 y0.e2,.int .u64 y0.e3]]=some (rx76 x):=r76_c hx
abbrev XCM (XaM:Xbc):List (Nat×XcE):=[(78,s78 XaM)]
theorem XAH (XaM:Xbc) (hS:XaB Try.prog (XaI (XCM XaM))) (s:XaE) (res:XaE) (h:XfQ XaM s=some res) :
 XaQ Try.prog 76 1 ⟨⟨76,114,[(0,.pointer (some ⟨0,0,none⟩))],[.code Xx0],[],false,none⟩,[],[(0,.cells [.int .u64 s.e0,.int .u64 s.e1,.int .u64 s.e2,.int .u64 s.e3])],1⟩ (fun v H _=>Res 1 (rx76 res) v H):=by
 unfold XfQ at h
 have R1:=@XBM XaM
 refine Xa3 XaN hS true 3000 ?_
 conv=>whnf
 exact W
def XaV:Xbw:=XfQ XaM
theorem XCc:XfJ Try.prog 76 (s76 XaV):=by
 have hL:=XAH XaM (XaB.Xa4 ⟨XBr,trivial⟩)
 exact okA ⟨Try.f76,rfl,by decide,rfl⟩
def Xde (XaV:Xbw) (t:Int) (t7:Int) (s1:Int) (s2:Int) (s3:Int) (s4:Int):Option (Sum (Int×Int×Int×Int×Int) XaE):=
 cond (decide (t7<t))
  (
  (XaV (XaE.mk s1 s2 s3 s4)).bind fun xr=>
  some (.inl (wI .i64 (t7+1),xr.e0,xr.e1,xr.e2,xr.e3)))
  (
  some (.inr (XaE.mk s1 s2 s3 s4)))
def Xgq (XaV:Xbw) (s:XaE) (rounds:Int):Option XaE:=
 let t:=if (if 64<rounds then 64 else rounds)>0 then if 64<rounds then 64 else rounds else 0
 iter (fun st=>Xde XaV t st.1 st.2.1 st.2.2.1 st.2.2.2.1 st.2.2.2.2) FUEL (0,s.e0,s.e1,s.e2,s.e3)
def XAW (x:XaE):XcJ:=⟨.tuple ⟨[]⟩,[],[some [.int .u64 x.e0,.int .u64 x.e1,.int .u64 x.e2,.int .u64 x.e3]]⟩
abbrev XbL:=XaE→Int→Option XaE
def r73 (g:XbL):Dec:=dPt 0 Xgn fun (y0:XaE)=>dV (asI .i64) fun (y1:Int)=>Xev (ofG (g y0 y1) XAW)
theorem r73_c {g:XbL} {y0:XaE} {y1:Int} {x:XaE} (hx:g y0 y1=some x):r73 g [.pointer (some ⟨0,0,none⟩),.int .i64 y1] [some [.int .u64 y0.e0,.int .u64 y0.e1,.int .u64 y0.e2,.int .u64 y0.e3]]=some (XAW x):=(XnJ (Xip _)).trans ((Xcd (XfX _)).trans (Xbe hx))
def s73 (g:XbL):XcE:=⟨[.pt 4,.v],r73 g⟩
theorem Xxy {g:XbL} {y0:XaE} {y1:Int} {x:XaE} (hx:g y0 y1=some x):(s73 g).run [.pointer (some ⟨0,0,none⟩),.int .i64 y1] [some [.int .u64 y0.e0,.int .u64 y0.e1,.int .u64 y0.e2,.int .u64 y0.e3]]=some (XAW x):=r73_c hx
abbrev Xxs (XaV:Xbw):List (Nat×XcE):=[(76,s76 XaV)]
def Xqp (t:Int) (t7:Int) (s1:Int) (s2:Int) (s3:Int) (s4:Int):VM:=
 ⟨⟨73,12,[(0,.pointer (some ⟨0,0,none⟩)),(6,.int .i64 t),(7,.int .i64 t7)],[.code XAE,.inLoop XAE,.inBlock 0],[],false,none⟩,[],[(0,.cells [.int .u64 s1,.int .u64 s2,.int .u64 s3,.int .u64 s4])],1⟩
theorem Xu9 (XaV:Xbw) (hS:XaB Try.prog (XaI (Xxs XaV))) {t:Int} {res:XaE}:∀ {fuel} {st:Int×Int×Int×Int×Int} {o:XaE},iter (fun st=>Xde XaV t st.1 st.2.1 st.2.2.1 st.2.2.2.1 st.2.2.2.2) fuel st=some o→(o=res) →
 XaQ Try.prog 73 1 (Xqp t st.1 st.2.1 st.2.2.1 st.2.2.2.1 st.2.2.2.2) (fun v H _=>Res 1 (XAW res) v H):=by
 apply Xa6
 intro st o h hc
 obtain ⟨t7,s1,s2,s3,s4⟩:=st
 replace h:Xde XaV t t7 s1 s2 s3 s4=some o:=h
 show XaQ Try.prog 73 1 (Xqp t t7 s1 s2 s3 s4) (fun v H _=>Res 1 (XAW res) v H)
 unfold Xde at h
 have R1:=@XB9 XaV
 have LM:=lm [(0,0)]
 refine Xa3 XaN hS true 3000 ?_
 conv=>whnf
 exact W
theorem XzW (XaV:Xbw) (hS:XaB Try.prog (XaI (Xxs XaV))) (s:XaE) (rounds:Int) (res:XaE) (h:Xgq XaV s rounds=some res) :
 XaQ Try.prog 73 1 ⟨⟨73,12,[(0,.pointer (some ⟨0,0,none⟩)),(1,.int .i64 rounds)],[.code Xxx],[],false,none⟩,[],[(0,.cells [.int .u64 s.e0,.int .u64 s.e1,.int .u64 s.e2,.int .u64 s.e3])],1⟩ (fun v H _=>Res 1 (XAW res) v H):=by
 unfold Xgq at h
 have LP:=@Xu9 XaV hS;have LQ:=lm [(0,0)]
 refine Xa3 XaN hS true 3000 ?_
 conv=>whnf
 exact W
def Xa1:XbL:=Xgq XaV
theorem XxO:XfJ Try.prog 73 (s73 Xa1):=by
 have hL:=XzW XaV (XaB.Xa4 ⟨XCc,trivial⟩)
 exact okA ⟨Try.f73,rfl,by decide,rfl⟩
def Xgb (Xa1:XbL) (s:XaE) (m:Int):Option XaE:=
 (Xa1 (XaE.mk s.e0 s.e1 s.e2 (XeZ .u64 s.e3 m)) 2).bind fun m1=>
 some (XaE.mk (XeZ .u64 m1.e0 m) m1.e1 m1.e2 m1.e3)
def rx72 (x:XaE):XcJ:=⟨.tuple ⟨[]⟩,[],[some [.int .u64 x.e0,.int .u64 x.e1,.int .u64 x.e2,.int .u64 x.e3]]⟩
abbrev Xbd:=XaE→Int→Option XaE
def r72 (g:Xbd):Dec:=dPt 0 Xgn fun (y0:XaE)=>dV (asI .u64) fun (y1:Int)=>Xev (ofG (g y0 y1) rx72)
theorem r72_c {g:Xbd} {y0:XaE} {y1:Int} {x:XaE} (hx:g y0 y1=some x):r72 g [.pointer (some ⟨0,0,none⟩),.int .u64 y1] [some [.int .u64 y0.e0,.int .u64 y0.e1,.int .u64 y0.e2,.int .u64 y0.e3]]=some (rx72 x):=(XnJ (Xip _)).trans ((Xcd (XfX _)).trans (Xbe hx))
def s72 (g:Xbd):XcE:=⟨[.pt 4,.v],r72 g⟩
theorem Xx3 {g:Xbd} {y0:XaE} {y1:Int} {x:XaE} (hx:g y0 y1=some x):(s72 g).run [.pointer (some ⟨0,0,none⟩),.int .u64 y1] [some [.int .u64 y0.e0,.int .u64 y0.e1,.int .u64 y0.e2,.int .u64 y0.e3]]=some (rx72 x):=r72_c hx
abbrev XB7 (Xa1:XbL):List (Nat×XcE):=[(73,s73 Xa1)]
theorem Xzt (Xa1:XbL) (hS:XaB Try.prog (XaI (XB7 Xa1))) (s:XaE) (m:Int) (res:XaE) (h:Xgb Xa1 s m=some res) :
 XaQ Try.prog 72 1 ⟨⟨72,22,[(0,.pointer (some ⟨0,0,none⟩)),(1,.int .u64 m)],[.code XBx],[],false,none⟩,[],[(0,.cells [.int .u64 s.e0,.int .u64 s.e1,.int .u64 s.e2,.int .u64 s.e3])],1⟩ (fun v H _=>Res 1 (rx72 res) v H):=by
 unfold Xgb at h
 have R1:=@Xxy Xa1
 refine Xa3 XaN hS true 3000 ?_
 conv=>whnf
 exact W
def XaP:Xbd:=Xgb Xa1
theorem XxL:XfJ Try.prog 72 (s72 XaP):=by
 have hL:=Xzt Xa1 (XaB.Xa4 ⟨XxO,trivial⟩)
 exact okA ⟨Try.f72,rfl,by decide,rfl⟩
theorem Xuq {P:Program} {f base fn nt:Nat} {e e':Env} {todo todo':List XeT} {ds ds':List Nat} {ret:Bool} {up up':List Xa5} {H H':Hp} {top top':Nat} {R:Value→Hp→Nat→Prop}
 (h:XaQ P f base ⟨⟨fn,nt,e',todo',ds',ret,none⟩,up',H',top'⟩ R) (m:List (Nat×Nat)) (hc:Xsq base top' m=true) (he:reE (XaI m) e e':=by repeat' first|exact trivial|refine ⟨⟨_,rfl,rfl⟩,?_⟩|refine ⟨⟨_,_,rfl,rfl,.rowF (Xf8 _ _) id⟩,?_⟩|refine ⟨⟨_,_,rfl,rfl,.rowF (Xh3 _) id⟩,?_⟩|refine ⟨⟨_,_,rfl,rfl,.rowF (Xib _) id⟩,?_⟩|refine ⟨⟨_,_,rfl,rfl,.rowF (XhP (by first|exact Xbi) _) id⟩,?_⟩|refine ⟨⟨_,_,rfl,rfl,.tyF (Xf8 _ _)⟩,?_⟩|refine ⟨⟨_,_,rfl,rfl,.ty rfl⟩,?_⟩|refine ⟨⟨_,_,rfl,rfl,.cells rfl⟩,?_⟩|refine ⟨⟨_,_,rfl,rfl,.row rfl id⟩,?_⟩|refine ⟨⟨_,_,rfl,rfl,.cr rfl⟩,?_⟩|refine ⟨⟨_,_,rfl,rfl,.rc rfl⟩,?_⟩|refine ⟨⟨_,_,rfl,rfl,.marks⟩,?_⟩|refine ⟨⟨_,_,rfl,rfl,.mp _⟩,?_⟩|refine ⟨⟨_,_,rfl,rfl,.siter _ _⟩,?_⟩|refine ⟨⟨_,_,rfl,rfl,.loop rfl rfl rfl rfl (by repeat' first|exact trivial|refine ⟨rfl,?_⟩) rfl rfl rfl rfl⟩,?_⟩) (hH:reH (XaI m) H H':=by repeat' first|exact trivial|refine ⟨⟨_,rfl,rfl⟩,?_⟩|refine ⟨⟨_,_,rfl,rfl,.rowF (Xf8 _ _) id⟩,?_⟩|refine ⟨⟨_,_,rfl,rfl,.rowF (Xh3 _) id⟩,?_⟩|refine ⟨⟨_,_,rfl,rfl,.rowF (Xib _) id⟩,?_⟩|refine ⟨⟨_,_,rfl,rfl,.rowF (XhP (by first|exact Xbi) _) id⟩,?_⟩|refine ⟨⟨_,_,rfl,rfl,.tyF (Xf8 _ _)⟩,?_⟩|refine ⟨⟨_,_,rfl,rfl,.ty rfl⟩,?_⟩|refine ⟨⟨_,_,rfl,rfl,.cells rfl⟩,?_⟩|refine ⟨⟨_,_,rfl,rfl,.row rfl id⟩,?_⟩|refine ⟨⟨_,_,rfl,rfl,.cr rfl⟩,?_⟩|refine ⟨⟨_,_,rfl,rfl,.rc rfl⟩,?_⟩|refine ⟨⟨_,_,rfl,rfl,.marks⟩,?_⟩|refine ⟨⟨_,_,rfl,rfl,.mp _⟩,?_⟩|refine ⟨⟨_,_,rfl,rfl,.siter _ _⟩,?_⟩|refine ⟨⟨_,_,rfl,rfl,.loop rfl rfl rfl rfl (by repeat' first|exact trivial|refine ⟨rfl,?_⟩) rfl rfl rfl rfl⟩,?_⟩)
 (ht:XuQ (XaI m) todo'=some todo:=by rfl) (hd:XuU (XaI m) ds'=some ds:=by rfl) (hu:reU (XaI m) up up':=by trivial) :
 XaQ P f base ⟨⟨fn,nt,e,todo,ds,ret,none⟩,up,H,top⟩ R:=XaQ.re h m hc he hH ht hd hu
theorem lrA1 {P:Program} {f base fn nt:Nat} {e e':Env} {todo todo':List XeT} {ds ds':List Nat} {ret:Bool} {up up':List Xa5} {H H':Hp} {top top':Nat} {R:Value→Hp→Nat→Prop}
 (h:XaQ P f base ⟨⟨fn,nt,e',todo',ds',ret,none⟩,up',H',top'⟩ R) (m:List (Nat×Nat)) (hc:Xsq base top' m=true) (he:reE (XaI m) e e':=by repeat' first|exact trivial|refine ⟨⟨_,rfl,rfl⟩,?_⟩|refine ⟨⟨_,_,rfl,rfl,.rowF (Xf8 _ _) id⟩,?_⟩|refine ⟨⟨_,_,rfl,rfl,.rowF (Xh3 _) id⟩,?_⟩|refine ⟨⟨_,_,rfl,rfl,.rowF (Xib _) id⟩,?_⟩|refine ⟨⟨_,_,rfl,rfl,.rowF (XhP (by first|exact Xbi) _) id⟩,?_⟩|refine ⟨⟨_,_,rfl,rfl,.tyF (Xf8 _ _)⟩,?_⟩|refine ⟨⟨_,_,rfl,rfl,.ty rfl⟩,?_⟩|refine ⟨⟨_,_,rfl,rfl,.cells rfl⟩,?_⟩|refine ⟨⟨_,_,rfl,rfl,.row rfl id⟩,?_⟩|refine ⟨⟨_,_,rfl,rfl,.cr rfl⟩,?_⟩|refine ⟨⟨_,_,rfl,rfl,.rc rfl⟩,?_⟩|refine ⟨⟨_,_,rfl,rfl,.marks⟩,?_⟩|refine ⟨⟨_,_,rfl,rfl,.mp _⟩,?_⟩|refine ⟨⟨_,_,rfl,rfl,.siter _ _⟩,?_⟩|refine ⟨⟨_,_,rfl,rfl,.loop rfl rfl rfl rfl (by repeat' first|exact trivial|refine ⟨rfl,?_⟩) rfl rfl rfl rfl⟩,?_⟩) (hH:reH (XaI m) H H':=by repeat' first|exact trivial|refine ⟨⟨_,rfl,rfl⟩,?_⟩|refine ⟨⟨_,_,rfl,rfl,.rowF (Xf8 _ _) id⟩,?_⟩|refine ⟨⟨_,_,rfl,rfl,.rowF (Xh3 _) id⟩,?_⟩|refine ⟨⟨_,_,rfl,rfl,.rowF (Xib _) id⟩,?_⟩|refine ⟨⟨_,_,rfl,rfl,.rowF (XhP (by first|exact Xbi) _) id⟩,?_⟩|refine ⟨⟨_,_,rfl,rfl,.tyF (Xf8 _ _)⟩,?_⟩|refine ⟨⟨_,_,rfl,rfl,.ty rfl⟩,?_⟩|refine ⟨⟨_,_,rfl,rfl,.cells rfl⟩,?_⟩|refine ⟨⟨_,_,rfl,rfl,.row rfl id⟩,?_⟩|refine ⟨⟨_,_,rfl,rfl,.cr rfl⟩,?_⟩|refine ⟨⟨_,_,rfl,rfl,.rc rfl⟩,?_⟩|refine ⟨⟨_,_,rfl,rfl,.marks⟩,?_⟩|refine ⟨⟨_,_,rfl,rfl,.mp _⟩,?_⟩|refine ⟨⟨_,_,rfl,rfl,.siter _ _⟩,?_⟩|refine ⟨⟨_,_,rfl,rfl,.loop rfl rfl rfl rfl (by repeat' first|exact trivial|refine ⟨rfl,?_⟩) rfl rfl rfl rfl⟩,?_⟩)
 (ht:XuQ (XaI m) todo'=some todo:=by rfl) (hd:XuU (XaI m) ds'=some ds:=by rfl) (hu:reU (XaI m) up up':=by repeat' first|exact trivial|refine ⟨⟨rfl,rfl,rfl,rfl,rfl,?_,rfl,rfl⟩,?_⟩|refine ⟨⟨_,rfl,rfl⟩,?_⟩) :
 XaQ P f base ⟨⟨fn,nt,e,todo,ds,ret,none⟩,up,H,top⟩ R:=XaQ.re h m hc he hH ht hd hu
def XcG (XaP:Xbd) (ha0:XaF) (s:List UInt8) (t18:Int) (xh:Int) (xh1:Int) (xh2:Int) (xh3:Int) (xh4:Int) (xh5:Int):Option (Sum (Int×Int×Int×Int×Int×Int×Int) XaF):=
 cond (decide (t18<(s.length:Int)))
  (
  XaL (decide ((0:Int)≤t18∧t18<(s.length:Int))) <|
  ((bI s)[t18.toNat]?).bind fun (e:Int)=>
  XaL (decide (0≤(wI .i64 (8*(xh5.tmod 8))))) <|
  let t:=wI .u64 ((wI .u64 e)*2^(min (wI .i64 (8*(xh5.tmod 8))).toNat 64))
  cond (((wI .i64 (xh5+1)).tmod 8)==0)
   (
   (XaP (XaE.mk xh xh1 xh2 xh3) (XqM .u64 xh4 t)).bind fun t1=>
   some (.inl (wI .i64 (t18+1),t1.e0,t1.e1,t1.e2,t1.e3,0,wI .i64 (xh5+1))))
   (
   some (.inl (wI .i64 (t18+1),xh,xh1,xh2,xh3,XqM .u64 xh4 t,wI .i64 (xh5+1)))))
  (
  some (.inr (XaF.mk ha0.made (XaE.mk xh xh1 xh2 xh3) xh4 xh5)))
def XdZ (XaP:Xbd) (ha0:XaF) (s:List UInt8):Option XaF:=
 cond (!ha0.made)
  (
  some (ha0))
  (
  iter (fun st=>XcG XaP ha0 s st.1 st.2.1 st.2.2.1 st.2.2.2.1 st.2.2.2.2.1 st.2.2.2.2.2.1 st.2.2.2.2.2.2) FUEL (0,ha0.s.e0,ha0.s.e1,ha0.s.e2,ha0.s.e3,ha0.last,ha0.count))
def XAQ (x:XaF):XcJ:=⟨.tuple ⟨[]⟩,[],[some [.bool x.made,.int .u64 x.s.e0,.int .u64 x.s.e1,.int .u64 x.s.e2,.int .u64 x.s.e3,.int .u64 x.last,.int .i64 x.count]]⟩
abbrev XbR:=XaF→(List UInt8)→Option XaF
def r62 (g:XbR):Dec:=dPt 0 Xf6 fun (y0:XaF)=>dV asS fun (y1:List UInt8)=>Xev (ofG (g y0 y1) XAQ)
theorem r62_c {g:XbR} {y0:XaF} {y1:List UInt8} {x:XaF} (hx:g y0 y1=some x):r62 g [.pointer (some ⟨0,0,none⟩),.string ⟨⟨y1⟩⟩] [some [.bool y0.made,.int .u64 y0.s.e0,.int .u64 y0.s.e1,.int .u64 y0.s.e2,.int .u64 y0.s.e3,.int .u64 y0.last,.int .i64 y0.count]]=some (XAQ x):=(XnJ (XiY _)).trans ((Xcd (Xf7)).trans (Xbe hx))
def s62 (g:XbR):XcE:=⟨[.pt 7,.v],r62 g⟩
theorem XC7 {g:XbR} {y0:XaF} {y1:List UInt8} {x:XaF} (hx:g y0 y1=some x):(s62 g).run [.pointer (some ⟨0,0,none⟩),.string ⟨⟨y1⟩⟩] [some [.bool y0.made,.int .u64 y0.s.e0,.int .u64 y0.s.e1,.int .u64 y0.s.e2,.int .u64 y0.s.e3,.int .u64 y0.last,.int .i64 y0.count]]=some (XAQ x):=r62_c hx
abbrev Xxv (XaP:Xbd):List (Nat×XcE):=[(72,s72 XaP)]
def Xjp (ha0:XaF) (s:List UInt8) (t18:Int) (xh:Int) (xh1:Int) (xh2:Int) (xh3:Int) (xh4:Int) (xh5:Int):VM:=
 ⟨⟨62,63,[(0,.pointer (some ⟨0,0,none⟩)),(16,.slice (some ⟨1,0,none⟩) s.length 1),(17,.int .i64 (s.length:Int)),(18,.int .i64 t18)],[.code XsP,.inLoop XsP,.inBlock 0],[],false,none⟩,[],[(0,.cells [.bool ha0.made,.int .u64 xh,.int .u64 xh1,.int .u64 xh2,.int .u64 xh3,.int .u64 xh4,.int .i64 xh5]),(1,.row true (vI .u8 (bI s)))],2⟩
theorem Xp6 (XaP:Xbd) (hS:XaB Try.prog (XaI (Xxv XaP))) {ha0:XaF} {s:List UInt8} {res:XaF}:∀ {fuel} {st:Int×Int×Int×Int×Int×Int×Int} {o:XaF},iter (fun st=>XcG XaP ha0 s st.1 st.2.1 st.2.2.1 st.2.2.2.1 st.2.2.2.2.1 st.2.2.2.2.2.1 st.2.2.2.2.2.2) fuel st=some o→(o=res) →
 XaQ Try.prog 62 1 (Xjp ha0 s st.1 st.2.1 st.2.2.1 st.2.2.2.1 st.2.2.2.2.1 st.2.2.2.2.2.1 st.2.2.2.2.2.2) (fun v H _=>Res 1 (XAQ res) v H):=by
 apply Xa6
 intro st o h hc
 obtain ⟨t18,xh,xh1,xh2,xh3,xh4,xh5⟩:=st
 replace h:XcG XaP ha0 s t18 xh xh1 xh2 xh3 xh4 xh5=some o:=h
 show XaQ Try.prog 62 1 (Xjp ha0 s t18 xh xh1 xh2 xh3 xh4 xh5) (fun v H _=>Res 1 (XAQ res) v H)
 unfold XcG at h
 have LM:=lm [(0,0),(1,1)]
 refine Xa3 XaN hS true 3000 ?_
 conv=>whnf
 refine br.h2 h (by rfl) ?_ ?_
 ·clear h;intro hb h;conv=>whnf
  all_goals (cases h;cases hc)
  all_goals exact Res.of [] rfl Xqo (by decide) XpT (wr_s (rfl) (Xfi rfl) Xpj)
 clear h;intro hb h;conv=>whnf
 replace h:=XaL.elim h;obtain ⟨hb,h⟩:=h
 try (refine req.intro hb ?_;conv=>whnf)
 replace h:=XbV.elim h;obtain ⟨e,hy,h⟩:=h
 refine rd.I hy (by first|rfl|(rw [Nat.zero_add,Nat.mul_one];try rfl;done)|omega) ?_
 conv=>whnf
 replace h:=XaL.elim h;obtain ⟨hb,h⟩:=h
 try (refine req.intro hb ?_;conv=>whnf)
 let t:Int:=wI .u64 ((wI .u64 e)*2^(min (wI .i64 (8*(xh5.tmod 8))).toNat 64))
 refine br.h2 h (by rfl) ?_ ?_
 ·clear h;intro hb h;conv=>whnf
  cases h;simp only [Sum.elim_inl,Xjp] at hc
  exact Xuq hc [(0,0),(1,1)] rfl
 clear h;intro hb h;conv=>whnf
 replace h:=XbV.elim h;obtain ⟨t1,hy,h⟩:=h
 refine Xfx.XuK [0] (XlD (aqs:=[.pointer (some ⟨0,0,none⟩),.int .u64 (XqM .u64 xh4 t)]) (ws:=[.win 0 1 4 true]) (n:=0) (m:=0) (t':=22) (Xoe rfl rfl (Xoe rfl rfl Xx7)) rfl (by rfl) (Xx3 hy) rfl rfl rfl rfl (XuG rfl rfl rfl ⟨rfl,Nat.le_of_ble_eq_true rfl⟩ rfl rfl Xqd) Xph rfl) ?_
 conv=>whnf
 cases h;simp only [Sum.elim_inl,Xjp] at hc
 exact Xuq hc [(0,0),(1,1)] rfl
theorem Xym (XaP:Xbd) (hS:XaB Try.prog (XaI (Xxv XaP))) (ha0:XaF) (s:List UInt8) (res:XaF) (h:XdZ XaP ha0 s=some res) :
 XaQ Try.prog 62 1 ⟨⟨62,63,[(0,.pointer (some ⟨0,0,none⟩)),(1,.string ⟨⟨s⟩⟩)],[.code Xya],[],false,none⟩,[],[(0,.cells [.bool ha0.made,.int .u64 ha0.s.e0,.int .u64 ha0.s.e1,.int .u64 ha0.s.e2,.int .u64 ha0.s.e3,.int .u64 ha0.last,.int .i64 ha0.count])],1⟩ (fun v H _=>Res 1 (XAQ res) v H):=by
 unfold XdZ at h
 have LP:=@Xp6 XaP hS;have LQ:=lm [(0,0),(1,1)]
 refine Xa3 XaN hS true 3000 ?_
 conv=>whnf
 refine br.h h (by rfl) ?_ ?_
 ·clear h;intro hb h;conv=>whnf
  all_goals (cases h)
  all_goals exact Res.of [] rfl Xqo (by decide) XpT (wr_s (rfl) (Xfi rfl) Xpj)
 clear h;intro hb h;conv=>whnf
 refine XCj ?_
 conv=>whnf
 have hl:=Xp6 XaP hS h rfl;simp only [Xjp] at hl
 exact Xuq hl [(0,0),(1,1)] rfl
def Xbh:XbR:=XdZ XaP
theorem XDx:XfJ Try.prog 62 (s62 Xbh):=by
 have hL:=Xym XaP (XaB.Xa4 ⟨XxL,trivial⟩)
 exact okA ⟨Try.f62,rfl,by decide,rfl⟩
def Xge (Xa1:XbL) (XaP:Xbd) (ha0:XaF):Option (Int×XaF):=
 cond (!ha0.made)
  (
  some ((0,ha0)))
  (
  let t:=XqM .u64 ha0.last (wI .u64 ((wI .u64 ha0.count)*2^56))
  (XaP ha0.s t).bind fun t1=>
  (Xa1 (XaE.mk t1.e0 t1.e1 (XeZ .u64 t1.e2 255) t1.e3) 4).bind fun m=>
  let t2:=XeZ .u64 (XeZ .u64 (XeZ .u64 m.e0 m.e1) m.e2) m.e3
  some ((t2,ha0)))
def rx63 (x:Int×XaF):XcJ:=⟨.int .u64 x.1,[],[some [.bool x.2.made,.int .u64 x.2.s.e0,.int .u64 x.2.s.e1,.int .u64 x.2.s.e2,.int .u64 x.2.s.e3,.int .u64 x.2.last,.int .i64 x.2.count]]⟩
abbrev Xcp:=XaF→Option (Int×XaF)
def r63 (g:Xcp):Dec:=dPt 0 Xf6 fun (y0:XaF)=>Xev (ofG (g y0) rx63)
theorem r63_c {g:Xcp} {y0:XaF} {x:Int×XaF} (hx:g y0=some x):r63 g [.pointer (some ⟨0,0,none⟩)] [some [.bool y0.made,.int .u64 y0.s.e0,.int .u64 y0.s.e1,.int .u64 y0.s.e2,.int .u64 y0.s.e3,.int .u64 y0.last,.int .i64 y0.count]]=some (rx63 x):=(XnJ (XiY _)).trans (Xbe hx)
def s63 (g:Xcp):XcE:=⟨[.pt 7],r63 g⟩
theorem XCa {g:Xcp} {y0:XaF} {x:Int×XaF} (hx:g y0=some x):(s63 g).run [.pointer (some ⟨0,0,none⟩)] [some [.bool y0.made,.int .u64 y0.s.e0,.int .u64 y0.s.e1,.int .u64 y0.s.e2,.int .u64 y0.s.e3,.int .u64 y0.last,.int .i64 y0.count]]=some (rx63 x):=r63_c hx
abbrev XBc (Xa1:XbL) (XaP:Xbd):List (Nat×XcE):=[(73,s73 Xa1),(72,s72 XaP)]
theorem XyU (Xa1:XbL) (XaP:Xbd) (hS:XaB Try.prog (XaI (XBc Xa1 XaP))) (ha0:XaF) (res:Int×XaF) (h:Xge Xa1 XaP ha0=some res) :
 XaQ Try.prog 63 1 ⟨⟨63,45,[(0,.pointer (some ⟨0,0,none⟩))],[.code Xx8],[],false,none⟩,[],[(0,.cells [.bool ha0.made,.int .u64 ha0.s.e0,.int .u64 ha0.s.e1,.int .u64 ha0.s.e2,.int .u64 ha0.s.e3,.int .u64 ha0.last,.int .i64 ha0.count])],1⟩ (fun v H _=>Res 1 (rx63 res) v H):=by
 unfold Xge at h
 have R1:=@Xx3 XaP
 have R2:=@Xxy Xa1
 refine Xa3 XaN hS true 3000 ?_
 conv=>whnf
 exact W
def XbO:Xcp:=Xge Xa1 XaP
theorem XBe:XfJ Try.prog 63 (s63 XbO):=by
 have hL:=XyU Xa1 XaP (XaB.Xa4 ⟨XxO,XxL,trivial⟩)
 exact okA ⟨Try.f63,rfl,by decide,rfl⟩
end Go.Vm.Code
namespace Go.Vm.Code
open Go Go.Vm
def trn (x k:Int):Int:=XqM .u64 (wI .u64 (x*2^(min k.toNat 64))) (x.fdiv (2^(min (64 - k).toNat 64)))
theorem Xnn {x k:Int} (h:k=13∨k=16∨k=17∨k=21∨k=32):XaM x k=some (trn x k):=by
 have e1:Xtf .u64 (wI .u64 k) 63=k:=by rcases h with rfl|rfl|rfl|rfl|rfl<;>decide +kernel
 have e2:wI .u64 (64 - k)=64 - k:=Xp3 (by omega) (by omega)
 unfold XaM XcP trn
 rw [e1,e2,XaH (by omega)]
 simp only []
 rw [XaH (by omega)]
def rnd (s:XaE):XaE:=
 let a1:=wI .u64 (s.e0+s.e1)
 let b1:=XeZ .u64 (trn s.e1 13) a1
 let c1:=wI .u64 (s.e2+s.e3)
 let d1:=XeZ .u64 (trn s.e3 16) c1
 let t:=wI .u64 (trn a1 32+d1)
 let t1:=wI .u64 (c1+b1)
 ⟨t,XeZ .u64 (trn b1 17) t1,trn t1 32,XeZ .u64 (trn d1 21) t⟩
theorem round_eq (s:XaE):XaV s=some (rnd s):=by
 unfold XaV XfQ
 simp only [Xnn (k:=13) (by omega),Xnn (k:=16) (by omega),Xnn (k:=17) (by omega),Xnn (k:=21) (by omega),Xnn (k:=32) (by omega),Option.bind_some]
 rfl
def XzL:Nat→XaE→XaE
 | 0,q=>q
 | n+1,q=>XzL n (rnd q)
def cnt (n:Int):Nat:=(if (if 64<n then 64 else n)>0 then if 64<n then 64 else n else 0:Int).toNat
theorem XxS (s:XaE) (n:Int):Xa1 s n=some (XzL (cnt n) s):=by
 unfold Xa1 Xgq cnt
 generalize ht:(if (if 64<n then 64 else n)>0 then if 64<n then 64 else n else 0:Int)=t
 have hb:0≤t∧t≤64:=by rw [←ht];split<;>split<;>omega
 have key:=iter_eq (step:=fun (st:Int×Int×Int×Int×Int)=>Xde XaV t st.1 st.2.1 st.2.2.1 st.2.2.2.1 st.2.2.2.2) (fun st=>XzL (t - st.1).toNat ⟨st.2.1,st.2.2.1,st.2.2.2.1,st.2.2.2.2⟩) (fun st=>0≤st.1∧st.1≤t) (fun st=>(t - st.1).toNat) ?_ FUEL (0,s.e0,s.e1,s.e2,s.e3) ⟨by simp,hb.1⟩ (by rw [XcD];simp only;omega)
 ·simp only [] at key ⊢
  rw [key];simp
 rintro ⟨i,a,b,c,d⟩ ⟨g1,g2⟩
 simp only at g1 g2 ⊢
 unfold Xde
 by_cases hi:i<t
 ·refine .inr ⟨(i+1,(rnd ⟨a,b,c,d⟩).e0,(rnd ⟨a,b,c,d⟩).e1,(rnd ⟨a,b,c,d⟩).e2,(rnd ⟨a,b,c,d⟩).e3),?_,⟨by simp only;omega,by simp only;omega⟩,by simp only;omega,?_⟩
  ·rw [XbS hi,round_eq,Option.bind_some,Xey (by omega) (by omega)]
  ·simp only []
   have e:(t - i).toNat=(t - (i+1)).toNat+1:=by omega
   rw [e];rfl
 ·refine .inl ?_
  rw [XaW hi]
  have e:(t - i).toNat=0:=by omega
  simp only [e,XzL]
def tak (s:XaE) (m:Int):XaE:=
 let q:=XzL 2 ⟨s.e0,s.e1,s.e2,XeZ .u64 s.e3 m⟩
 ⟨XeZ .u64 q.e0 m,q.e1,q.e2,q.e3⟩
theorem Xuj (s:XaE) (m:Int):XaP s m=some (tak s m):=by
 unfold XaP Xgb
 rw [XxS,show cnt 2=2 from rfl,Option.bind_some]
 simp only [tak]
def wrT (T:XaE→Int→XaE) (h:XaF) (b:UInt8):XaF:=
 let m:=XqM .u64 h.last (wI .u64 ((b.toNat:Int)*2^(8*(h.count.toNat%8))))
 if (h.count.toNat+1)%8=0 then ⟨h.made,T h.s m,0,h.count+1⟩ else ⟨h.made,h.s,m,h.count+1⟩
theorem Xr8 (T:XaE→Int→XaE) {h:XaF} {s:List UInt8} (hm:h.made=true) (h0:0≤h.count) (h1:h.count+s.length<2^62):XdZ (fun q m=>some (T q m)) h s=some (s.foldl (wrT T) h):=by
 unfold XdZ
 rw [hm,Bool.not_true,cond_false]
 have key:=iter_eq (step:=fun (st:Int×Int×Int×Int×Int×Int×Int)=>XcG (fun q m=>some (T q m)) h s st.1 st.2.1 st.2.2.1 st.2.2.2.1 st.2.2.2.2.1 st.2.2.2.2.2.1 st.2.2.2.2.2.2)
  (fun st=>(s.drop st.1.toNat).foldl (wrT T) ⟨true,⟨st.2.1,st.2.2.1,st.2.2.2.1,st.2.2.2.2.1⟩,st.2.2.2.2.2.1,st.2.2.2.2.2.2⟩) (fun st=>0≤st.1∧st.1≤s.length∧st.2.2.2.2.2.2=h.count+st.1) (fun st=>(s.length - st.1).toNat) ?_ FUEL (0,h.s.e0,h.s.e1,h.s.e2,h.s.e3,h.last,h.count) ⟨by simp,by simp,by simp⟩ (by rw [XcD];simp only;omega)
 ·rw [key]
  simp only [Int.toNat_zero,List.drop_zero]
  rw [←hm]
 rintro ⟨p,a,b,c,d,l,n⟩ ⟨g1,g2,g3⟩
 simp only at g1 g2 g3 ⊢
 obtain ⟨i,rfl⟩:=Int.eq_ofNat_of_zero_le g1
 obtain ⟨k,hk⟩:=Int.eq_ofNat_of_zero_le (show 0≤n by omega)
 subst hk
 simp only [Int.toNat_natCast]
 unfold XcG
 by_cases hi:i<s.length
 ·have hb:=s[i].toNat_lt
  have e1:(bI s)[i]?=some (s[i].toNat:Int):=by simp [bI,hi]
  have e2:((k:Int).tmod 8)=((k%8:Nat):Int):=by rw [Int.tmod_eq_emod_of_nonneg (by omega)];rfl
  have e3:min (8*((k%8:Nat):Int)).toNat 64=8*(k%8):=by omega
  have e4:(((k:Int)+1).tmod 8==0)=decide ((k+1)%8=0):=by
   rw [Int.tmod_eq_emod_of_nonneg (by omega),Bool.eq_iff_iff,beq_iff_eq,decide_eq_true_eq];omega
  refine .inr ⟨(((i+1:Nat):Int),(wrT T ⟨true,⟨a,b,c,d⟩,l,k⟩ s[i]).s.e0,(wrT T ⟨true,⟨a,b,c,d⟩,l,k⟩ s[i]).s.e1,(wrT T ⟨true,⟨a,b,c,d⟩,l,k⟩ s[i]).s.e2,(wrT T ⟨true,⟨a,b,c,d⟩,l,k⟩ s[i]).s.e3,(wrT T ⟨true,⟨a,b,c,d⟩,l,k⟩ s[i]).last,(k:Int)+1),?_,⟨by simp only;omega,by simp only;omega,by simp only;omega⟩,by simp only;omega,?_⟩
  ·simp (disch:=omega) only [XbS,XaH,Int.toNat_natCast,e1,Option.bind_some,e2,Xey,e3,e4,Xp3 (n:=(s[i].toNat:Int)),Xvj]
   unfold wrT
   simp only [Int.toNat_natCast]
   split<;>rfl
  ·simp only [Int.toNat_natCast]
   rw [List.drop_eq_getElem_cons hi,List.foldl_cons]
   congr 1
   unfold wrT
   simp only [Int.toNat_natCast]
   split<;>rfl
 ·refine .inl ?_
  rw [XaW (by omega),List.drop_eq_nil_of_le (by omega),hm];rfl
def wrB:XaF→UInt8→XaF:=wrT tak
theorem XwI {h:XaF} {s:List UInt8} (hm:h.made=true) (h0:0≤h.count) (h1:h.count+s.length<2^62):Xbh h s=some (s.foldl wrB h):=by
 unfold Xbh
 rw [show XaP=fun q m=>some (tak q m) from funext fun q=>funext fun m=>Xuj q m]
 exact Xr8 tak hm h0 h1
theorem XwF (T:XaE→Int→XaE) (h:XaF) (b:UInt8):(wrT T h b).made=h.made:=by unfold wrT;simp only;split<;>rfl
theorem Xrq (T:XaE→Int→XaE) (h:XaF) (b:UInt8):(wrT T h b).count=h.count+1:=by unfold wrT;simp only;split<;>rfl
theorem Xu5 (h:XaF) (b:UInt8):(wrB h b).made=h.made:=XwF tak h b
theorem Xr2 (h:XaF) (b:UInt8):(wrB h b).count=h.count+1:=Xrq tak h b
theorem wrL:∀ (s:List UInt8) (h:XaF),(s.foldl wrB h).made=h.made∧(s.foldl wrB h).count=h.count+s.length
 | [],h=>⟨rfl,by simp⟩
 | b::s,h=>by
   obtain ⟨a1,a2⟩:=wrL s (wrB h b)
   rw [List.foldl_cons,a1,a2,Xu5,Xr2,List.length_cons]
   exact ⟨rfl,by omega⟩
def sumV (h:XaF):Int:=
 let t:=tak h.s (XqM .u64 h.last (wI .u64 ((wI .u64 h.count)*2^56)))
 let m:=XzL 4 ⟨t.e0,t.e1,XeZ .u64 t.e2 255,t.e3⟩
 XeZ .u64 (XeZ .u64 (XeZ .u64 m.e0 m.e1) m.e2) m.e3
theorem XCU {h:XaF} (hm:h.made=true):XbO h=some (sumV h,h):=by
 unfold XbO Xge
 rw [hm,Bool.not_true,cond_false]
 simp only [Xuj,XxS,Option.bind_some,show cnt 4=4 from rfl,sumV]
def newV (k:Xap):XaF:=⟨true,⟨XeZ .u64 8317987319222330741 k.A,XeZ .u64 7237128888997146477 k.B,XeZ .u64 7816392313619706465 k.A,XeZ .u64 8387220255154660723 k.B⟩,0,0⟩
theorem XBq (k:Xap):Xgz k=some (newV k):=rfl
end Go.Vm.Code
namespace Go.Vm.Code
open Go Go.Vm Go.Proofs
set_option maxRecDepth 100000
set_option maxHeartbeats 4000000
set_option linter.unusedVariables false
end Go.Vm.Code
namespace Go.Vm.Code
open Go Go.Vm
theorem Xjs (k:Nat) {a b:Int} (h0:0≤a) (h1:a*2^k<18446744073709551616) (hb0:0≤b) (hb:b<2^k) (hb1:b<18446744073709551616):XqM .u64 b (a*2^k)=a*2^k+b:=by
 obtain ⟨n,rfl⟩:=Int.eq_ofNat_of_zero_le h0
 obtain ⟨m,rfl⟩:=Int.eq_ofNat_of_zero_le hb0
 have e:((n:Int)*2^k)=((n*2^k:Nat):Int):=by push_cast;rfl
 rw [e] at h1 ⊢
 rw [XBF (by omega) (by omega),Nat.or_comm,XCK (by exact_mod_cast hb)];push_cast;rfl
def wrd:List UInt8→Nat
 | []=>0
 | b::l=>b.toNat+256*wrd l
theorem Xrm:∀ l:List UInt8,wrd l<256^l.length
 | []=>by simp [wrd]
 | b::l=>by
   have:=Xrm l
   have hb:=b.toNat_lt
   rw [wrd,List.length_cons,Nat.pow_succ];omega
theorem XpP:∀ (l:List UInt8) (b:UInt8),wrd (l++[b])=wrd l+256^l.length*b.toNat
 | [],b=>by simp [wrd]
 | c::l,b=>by
   have:=XpP l b
   rw [List.cons_append,wrd,this,wrd,List.length_cons,Nat.pow_succ,Nat.mul_add,Nat.mul_comm (256^l.length) 256,Nat.mul_assoc];omega
theorem XAv {j:Nat} (h:j≤8):256^j≤18446744073709551616:=by
 have:(256:Nat)^j≤256^8:=Nat.pow_le_pow_right (by decide) h
 simpa using this
def XAT (q:XaE):Int:=
 let m:=XzL 4 ⟨q.e0,q.e1,XeZ .u64 q.e2 255,q.e3⟩
 XeZ .u64 (XeZ .u64 (XeZ .u64 m.e0 m.e1) m.e2) m.e3
theorem XoB (T:XaE→Int→XaE):∀ (l:List UInt8) (h:XaF) (j v:Nat),h.count.toNat%8=j→0≤h.count→h.last=(v:Int)→v<256^j→j+l.length<8→l.foldl (wrT T) h=⟨h.made,h.s,((v+256^j*wrd l:Nat):Int),h.count+l.length⟩
 | [],h,j,v,hj,h0,hv,hlt,hl=>by
   obtain ⟨m,s,la,c⟩:=h
   simp only at hv;subst hv
   simp [wrd]
 | b::l,h,j,v,hj,h0,hv,hlt,hl=>by
   rw [List.length_cons] at hl
   have hb:=b.toNat_lt
   have hp:(256:Nat)^j=2^(8*j):=by rw [Nat.pow_mul]
   have hp2:=XAv (j:=j+1) (by omega)
   rw [Nat.pow_succ] at hp2
   have hb2:b.toNat*256^j≤255*256^j:=Nat.mul_le_mul_right _ (by omega)
   have hpI:(2:Int)^(8*j)=((256^j:Nat):Int):=by rw [hp];push_cast;rfl
   have e1:wI .u64 ((b.toNat:Int)*2^(8*j))=(b.toNat:Int)*2^(8*j):=by
    rw [hpI,←Int.natCast_mul];exact Xp3 (by omega) (by omega)
   have e2:XqM .u64 (v:Int) ((b.toNat:Int)*2^(8*j))=((v+256^j*b.toNat:Nat):Int):=by
    rw [Xjs (8*j) (by omega) (by rw [hpI,←Int.natCast_mul];omega) (by omega) (by rw [hpI];omega) (by omega),hpI,←Int.natCast_mul,Nat.mul_comm];omega
   have hw:wrT T h b=⟨h.made,h.s,((v+256^j*b.toNat:Nat):Int),h.count+1⟩:=by
    unfold wrT
    rw [hj,hv,if_neg (by omega),e1,e2]
   rw [List.foldl_cons,hw,XoB T l _ (j+1) (v+256^j*b.toNat) (by simp only;omega) (by simp only;omega) rfl (by rw [Nat.pow_succ,Nat.mul_comm (256^j) b.toNat];omega) (by omega)]
   simp only [wrd,Nat.pow_succ,List.length_cons]
   congr 1
   ·rw [Nat.mul_add,←Nat.mul_assoc,Nat.add_assoc]
   ·omega
theorem Xy3 (T:XaE→Int→XaE) {l:List UInt8} {h:XaF} (hl:l.length=8) (hc:h.count.toNat%8=0) (h0:0≤h.count) (hv:h.last=0):l.foldl (wrT T) h=⟨h.made,T h.s (wrd l:Int),0,h.count+8⟩:=by
 obtain ⟨l7,b,rfl⟩:∃ l7 b,l=l7++[b]:=⟨l.dropLast,l.getLast (by intro e;rw [e] at hl;simp at hl),(List.dropLast_concat_getLast _).symm⟩
 have h7:l7.length=7:=by simp at hl;omega
 have hb:=b.toNat_lt
 have hw:=Xrm l7
 rw [h7] at hw
 rw [List.foldl_append,XoB T l7 h 0 0 hc h0 (by rw [hv];rfl) (by simp) (by omega),h7,XpP,h7]
 simp only [List.foldl_cons,List.foldl_nil,wrT,Nat.pow_zero,Nat.one_mul,Nat.zero_add]
 have e0:(h.count+((7:Nat):Int)).toNat%8=7:=by omega
 have e00:((h.count+((7:Nat):Int)).toNat+1)%8=0:=by omega
 rw [e0,if_pos e00]
 have e1:wI .u64 ((b.toNat:Int)*2^(8*7))=(b.toNat:Int)*2^(8*7):=Xp3 (by omega) (by omega)
 have e2:XqM .u64 (wrd l7:Int) ((b.toNat:Int)*2^(8*7))=((wrd l7+256^7*b.toNat:Nat):Int):=by
  rw [Xjs (8*7) (by omega) (by omega) (by omega) (by omega) (by omega)];omega
 rw [e1,e2]
 congr 1
 omega
def Xlw (T:XaE→Int→XaE) (fin:XaE→Int) (n:Nat) (q:XaE) (l:List UInt8):Int:=
 if h:8≤l.length then Xlw T fin n (T q (wrd (l.take 8):Int)) (l.drop 8) else fin (T q ((wrd l+n%256*2^56:Nat):Int))
termination_by l.length
decreasing_by simp;omega
theorem XqE (T:XaE→Int→XaE) (fin:XaE→Int):∀ (k:Nat) (l:List UInt8) (h:XaF),l.length≤k→h.count.toNat%8=0→0≤h.count→h.last=0→∀ n:Nat,(n:Int)=h.count+l.length →
 fin (T (l.foldl (wrT T) h).s (XqM .u64 (l.foldl (wrT T) h).last (wI .u64 ((wI .u64 (l.foldl (wrT T) h).count)*2^56))))=Xlw T fin n h.s l:=by
 intro k
 induction k with
 | zero=>
   intro l h hl hc h0 hv n hn
   obtain rfl:l=[]:=List.length_eq_zero_iff.1 (by omega)
   rw [Xlw,dif_neg (by simp)]
   simp only [List.foldl_nil,hv,wrd]
   congr 2
   simp at hn
   rw [←hn]
   have e1:wI .u64 ((wI .u64 (n:Int))*2^56)=((n%256:Nat):Int)*2^56:=by rw [XuM,XuM];omega
   rw [e1,Xjs 56 (by omega) (by omega) (by omega) (by omega) (by omega)];omega
 | succ k ih=>
   intro l h hl hc h0 hv n hn
   by_cases h8:8≤l.length
   ·rw [Xlw,dif_pos h8]
    have hs:l.foldl (wrT T) h=(l.drop 8).foldl (wrT T) ⟨h.made,T h.s (wrd (l.take 8):Int),0,h.count+8⟩:=by
     rw [←Xy3 T (l:=l.take 8) (by simp;omega) hc h0 hv,←List.foldl_append,List.take_append_drop]
    rw [hs]
    exact ih (l.drop 8) ⟨h.made,T h.s (wrd (l.take 8):Int),0,h.count+8⟩ (by simp;omega) (by simp only;omega) (by simp only;omega) rfl n (by simp;omega)
   ·rw [Xlw,dif_neg h8,XoB T l h 0 0 hc h0 (by rw [hv];rfl) (by simp) (by omega)]
    simp only [Nat.zero_add,Nat.pow_zero,Nat.one_mul]
    congr 2
    rw [←hn]
    have hw:wrd l<256^7:=Nat.lt_of_lt_of_le (Xrm l) (Nat.pow_le_pow_right (by decide) (by omega))
    have e1:wI .u64 ((wI .u64 (n:Int))*2^56)=((n%256:Nat):Int)*2^56:=by rw [XuM,XuM];omega
    rw [e1,Xjs 56 (by omega) (by omega) (by omega) (by omega) (by omega)];omega
end Go.Vm.Code
namespace Go.Vm.Code
open Go Go.Vm Go.Proofs
set_option maxRecDepth 100000
set_option maxHeartbeats 4000000
set_option linter.unusedVariables false
def XjN (XbO:Xcp) (Xbh:XbR) (Xgz:Xf3) (k:Xap) (s:List UInt8):Option Int:=
 (Xgz k).bind fun n=>
 (Xbh n s).bind fun w=>
 (XbO w).bind fun s1=>
 some (s1.1)
def rx47 (x:Int):XcJ:=⟨.int .u64 x,[],[]⟩
abbrev Xa2:=Xap→(List UInt8)→Option Int
def r47 (g:Xa2):Dec:=dV XgP fun (y0:Xap)=>dV asS fun (y1:List UInt8)=>Xev (ofG (g y0 y1) rx47)
theorem r47_c {g:Xa2} {y0:Xap} {y1:List UInt8} {x:Int} (hx:g y0 y1=some x):r47 g [.agg ⟨[.int .u64 y0.A,.int .u64 y0.B]⟩,.string ⟨⟨y1⟩⟩] []=some (rx47 x):=(Xcd (Xjf _)).trans ((Xcd (Xf7)).trans (Xbe hx))
def s47 (g:Xa2):XcE:=⟨[.v,.v],r47 g⟩
theorem Xkz {g:Xa2} {y0:Xap} {y1:List UInt8} {x:Int} (hx:g y0 y1=some x):(s47 g).run [.agg ⟨[.int .u64 y0.A,.int .u64 y0.B]⟩,.string ⟨⟨y1⟩⟩] []=some (rx47 x):=r47_c hx
abbrev XCC (XbO:Xcp) (Xbh:XbR) (Xgz:Xf3):List (Nat×XcE):=[(63,s63 XbO),(62,s62 Xbh),(61,s61 Xgz)]
theorem XyO (XbO:Xcp) (Xbh:XbR) (Xgz:Xf3) (hS:XaB Try.prog (XaI (XCC XbO Xbh Xgz))) (k:Xap) (s:List UInt8) (res:Int) (h:XjN XbO Xbh Xgz k s=some res) :
 XaQ Try.prog 47 0 ⟨⟨47,13,[(0,.agg ⟨[.int .u64 k.A,.int .u64 k.B]⟩),(1,.string ⟨⟨s⟩⟩)],[.code XB1],[],false,none⟩,[],[],0⟩ (fun v H _=>Res 0 (rx47 res) v H):=by
 unfold XjN at h
 have R1:=@XC4 Xgz
 have R2:=@XC7 Xbh
 have R3:=@XCa XbO
 refine Xa3 XaN hS true 3000 ?_
 conv=>whnf
 exact W
def XaG:Xa2:=XjN XbO Xbh Xgz
theorem XkE:XfJ Try.prog 47 (s47 XaG):=by
 have hL:=XyO XbO Xbh Xgz (XaB.Xa4 ⟨XBe,XDx,XDk,trivial⟩)
 exact okA ⟨Try.f47,rfl,by decide,rfl⟩
end Go.Vm.Code
namespace Go.Vm.Code
open Go Go.Vm
theorem XyQ {k:Xap} {s:List UInt8} (h:s.length<2^61):XaG k s=some (sumV (s.foldl wrB (newV k))):=by
 unfold XaG XjN
 rw [XBq,Option.bind_some,XwI rfl (by simp [newV]) (by simp [newV];omega),Option.bind_some,XCU (by rw [(wrL s _).1];rfl)];rfl
theorem XCI {k:Xap} {s:List UInt8} (h:s.length<2^61):XaG k s=some (Xlw tak XAT s.length (newV k).s s):=by
 rw [XyQ h]
 congr 1
 exact XqE tak XAT s.length s (newV k) (Nat.le_refl _) rfl (by simp [newV]) rfl s.length (by simp [newV])
theorem XvB (a b:Int):0≤XeZ .u64 a b∧XeZ .u64 a b<2^64:=by
 have:=XuM (((BitVec.ofInt (IntKind.bits .u64) a ^^^ BitVec.ofInt (IntKind.bits .u64) b).toNat:Nat):Int)
 have e:XeZ .u64 a b=wI .u64 (((BitVec.ofInt (IntKind.bits .u64) a ^^^ BitVec.ofInt (IntKind.bits .u64) b).toNat:Nat):Int):=rfl
 rw [e,this];omega
theorem Xv2 (q:XaE):0≤XAT q∧XAT q<2^64:=XvB _ _
theorem Xns (T:XaE→Int→XaE) (fin:XaE→Int) (hf:∀ q,0≤fin q∧fin q<2^64) (n:Nat):∀ (k:Nat) (l:List UInt8) (q:XaE),l.length≤k→0≤Xlw T fin n q l∧Xlw T fin n q l<2^64
 | 0,l,q,h=>by
   rw [Xlw,dif_neg (by omega)];exact hf _
 | k+1,l,q,h=>by
   rw [Xlw]
   split
   ·exact Xns T fin hf n k _ _ (by simp;omega)
   ·exact hf _
end Go.Vm.Code
namespace Go.Vm.Code
open Go Go.Vm Go.Proofs
set_option maxRecDepth 100000
set_option maxHeartbeats 4000000
set_option linter.unusedVariables false
def XfO (x:Int) (y:Int):Option (Int×Int):=
 let t:=wI .u64 ((Xtf .u64 x 4294967295)*(Xtf .u64 y 4294967295))
 let t1:=wI .u64 ((x.fdiv (2^32))*(Xtf .u64 y 4294967295))
 let t2:=Xtf .u64 (wI .u64 (t1+(t.fdiv (2^32)))) 4294967295
 let t3:=(wI .u64 (t1+(t.fdiv (2^32)))).fdiv (2^32)
 let t4:=wI .u64 ((Xtf .u64 x 4294967295)*(y.fdiv (2^32)))
 let t5:=wI .u64 ((x.fdiv (2^32))*(y.fdiv (2^32)))
 let t6:=wI .u64 ((wI .u64 (t5+t3))+((wI .u64 (t2+t4)).fdiv (2^32)))
 some ((t6,wI .u64 (x*y)))
def rx71 (x:Int×Int):XcJ:=⟨.tuple ⟨[.int .u64 x.1,.int .u64 x.2]⟩,[],[]⟩
abbrev Xb3:=Int→Int→Option (Int×Int)
def r71 (g:Xb3):Dec:=dV (asI .u64) fun (y0:Int)=>dV (asI .u64) fun (y1:Int)=>Xev (ofG (g y0 y1) rx71)
theorem r71_c {g:Xb3} {y0:Int} {y1:Int} {x:Int×Int} (hx:g y0 y1=some x):r71 g [.int .u64 y0,.int .u64 y1] []=some (rx71 x):=(Xcd (XfX _)).trans ((Xcd (XfX _)).trans (Xbe hx))
def s71 (g:Xb3):XcE:=⟨[.v,.v],r71 g⟩
theorem XB8 {g:Xb3} {y0:Int} {y1:Int} {x:Int×Int} (hx:g y0 y1=some x):(s71 g).run [.int .u64 y0,.int .u64 y1] []=some (rx71 x):=r71_c hx
abbrev XBp:List (Nat×XcE):=[]
theorem XAl (hS:XaB Try.prog (XaI (XBp))) (x:Int) (y:Int) (res:Int×Int) (h:XfO x y=some res) :
 XaQ Try.prog 71 0 ⟨⟨71,51,[(0,.int .u64 x),(1,.int .u64 y)],[.code XxX],[],false,none⟩,[],[],0⟩ (fun v H _=>Res 0 (rx71 res) v H):=by
 unfold XfO at h
 refine Xa3 XaN hS true 3000 ?_
 conv=>whnf
 exact W
def Xbu:Xb3:=XfO
theorem XDe:XfJ Try.prog 71 (s71 Xbu):=by
 have hL:=XAl (XaB.Xa4 trivial)
 exact okA ⟨Try.f71,rfl,by decide,rfl⟩
def Xg1 (Xbu:Xb3) (a:Int) (b:Int):Option Xfh:=
 (Xbu a b).bind fun m=>
 some (Xfh.mk m.1 m.2)
def rx60 (x:Xfh):XcJ:=⟨.agg ⟨[.int .u64 x.e0,.int .u64 x.e1]⟩,[],[]⟩
abbrev XcQ:=Int→Int→Option Xfh
def r60 (g:XcQ):Dec:=dV (asI .u64) fun (y0:Int)=>dV (asI .u64) fun (y1:Int)=>Xev (ofG (g y0 y1) rx60)
theorem r60_c {g:XcQ} {y0:Int} {y1:Int} {x:Xfh} (hx:g y0 y1=some x):r60 g [.int .u64 y0,.int .u64 y1] []=some (rx60 x):=(Xcd (XfX _)).trans ((Xcd (XfX _)).trans (Xbe hx))
def s60 (g:XcQ):XcE:=⟨[.v,.v],r60 g⟩
theorem XBS {g:XcQ} {y0:Int} {y1:Int} {x:Xfh} (hx:g y0 y1=some x):(s60 g).run [.int .u64 y0,.int .u64 y1] []=some (rx60 x):=r60_c hx
abbrev XDh (Xbu:Xb3):List (Nat×XcE):=[(71,s71 Xbu)]
theorem Xy2 (Xbu:Xb3) (hS:XaB Try.prog (XaI (XDh Xbu))) (a:Int) (b:Int) (res:Xfh) (h:Xg1 Xbu a b=some res) :
 XaQ Try.prog 60 0 ⟨⟨60,16,[(0,.int .u64 a),(1,.int .u64 b)],[.code XBJ],[],false,none⟩,[],[],0⟩ (fun v H _=>Res 0 (rx60 res) v H):=by
 unfold Xg1 at h
 have R1:=@XB8 Xbu
 refine Xa3 XaN hS true 3000 ?_
 conv=>whnf
 exact W
def XcM:XcQ:=Xg1 Xbu
theorem XA1:XfJ Try.prog 60 (s60 XcM):=by
 have hL:=Xy2 Xbu (XaB.Xa4 ⟨XDe,trivial⟩)
 exact okA ⟨Try.f60,rfl,by decide,rfl⟩
def XiQ (XcM:XcQ) (x:Int) (n:Int):Option Int:=
 cond (decide (n<1))
  (
  some (0))
  (
  cond (decide (n>2147483648))
   (
   some (0))
   (
   (XcM x (wI .u64 n)).bind fun p=>
   some (wI .i64 p.e0)))
def rx46 (x:Int):XcJ:=⟨.int .i64 x,[],[]⟩
abbrev XaU:=Int→Int→Option Int
def r46 (g:XaU):Dec:=dV (asI .u64) fun (y0:Int)=>dV (asI .i64) fun (y1:Int)=>Xev (ofG (g y0 y1) rx46)
theorem r46_c {g:XaU} {y0:Int} {y1:Int} {x:Int} (hx:g y0 y1=some x):r46 g [.int .u64 y0,.int .i64 y1] []=some (rx46 x):=(Xcd (XfX _)).trans ((Xcd (XfX _)).trans (Xbe hx))
def s46 (g:XaU):XcE:=⟨[.v,.v],r46 g⟩
theorem Xky {g:XaU} {y0:Int} {y1:Int} {x:Int} (hx:g y0 y1=some x):(s46 g).run [.int .u64 y0,.int .i64 y1] []=some (rx46 x):=r46_c hx
abbrev XCe (XcM:XcQ):List (Nat×XcE):=[(60,s60 XcM)]
theorem Xyv (XcM:XcQ) (hS:XaB Try.prog (XaI (XCe XcM))) (x:Int) (n:Int) (res:Int) (h:XiQ XcM x n=some res) :
 XaQ Try.prog 46 0 ⟨⟨46,17,[(0,.int .u64 x),(1,.int .i64 n)],[.code XCo],[],false,none⟩,[],[],0⟩ (fun v H _=>Res 0 (rx46 res) v H):=by
 unfold XiQ at h
 have R1:=@XBS XcM
 refine Xa3 XaN hS true 3000 ?_
 conv=>whnf
 exact W
def Xal:XaU:=XiQ XcM
theorem Xkr:XfJ Try.prog 46 (s46 Xal):=by
 have hL:=Xyv XcM (XaB.Xa4 ⟨XA1,trivial⟩)
 exact okA ⟨Try.f46,rfl,by decide,rfl⟩
end Go.Vm.Code
namespace Go.Vm.Code
open Go Go.Vm
theorem Xwe {x y:Int} (hx:0≤x∧x<2^64) (hy:0≤y∧y<2^32):Xbu x y=some (x*y/2^64,wI .u64 (x*y)):=by
 unfold Xbu XfO
 rw [show (4294967295:Int)=2^32 - 1 from rfl,Xji 32 rfl (by decide) hx.1 hx.2,Xji 32 rfl (by decide) hy.1 (by omega),Xzw,Xzw y]
 have hy1:y/2^32=0:=Int.ediv_eq_zero_of_lt hy.1 hy.2
 have hy0:y%2^32=y:=Int.emod_eq_of_lt hy.1 hy.2
 rw [hy1,hy0]
 have e:x*y=x/2^32*y*2^32+x%2^32*y:=by
  have:x=x/2^32*2^32+x%2^32:=by omega
  conv=>lhs;rw [this]
  rw [Int.add_mul,Int.mul_right_comm]
 have b1:0≤x/2^32*y:=Int.mul_nonneg (by omega) hy.1
 have b2:0≤x%2^32*y:=Int.mul_nonneg (by omega) hy.1
 have b3:x/2^32*y≤(2^32 - 1)*(2^32 - 1):=Int.mul_le_mul (by omega) (by omega) hy.1 (by omega)
 have b4:x%2^32*y≤(2^32 - 1)*(2^32 - 1):=Int.mul_le_mul (by omega) (by omega) hy.1 (by omega)
 generalize x/2^32*y=p at *
 generalize x%2^32*y=q at *
 rw [Int.mul_zero,Int.mul_zero,Xp3 b2 (by omega),Xp3 b1 (by omega),e]
 simp only [Xzw]
 rw [Xp3 (n:=0) (by decide) (by decide),Xp3 (n:=p+q/2^32) (by omega) (by omega),Xji 32 rfl (by decide) (by omega) (by omega),Int.add_zero,Int.zero_add,
  Xp3 (n:=(p+q/2^32)%2^32) (by omega) (by omega),Xp3 (n:=(p+q/2^32)/2^32) (by omega) (by omega),Xp3 (by omega) (by omega)]
 congr 2;omega
def scl (x n:Int):Int:=x*n/2^64
theorem Xox {x n:Int} (hx:0≤x∧x<2^64) (hn:1≤n):0≤scl x n∧scl x n<n:=by
 unfold scl
 refine ⟨Int.ediv_nonneg (Int.mul_nonneg hx.1 (by omega)) (by decide),Int.ediv_lt_of_lt_mul (by decide) ?_⟩
 rw [Int.mul_comm];exact Int.mul_lt_mul_of_pos_left hx.2 (by omega)
theorem Xvg {x n:Int} (hx:0≤x∧x<2^64) (h1:1≤n) (h2:n≤2147483648):Xal x n=some (scl x n):=by
 unfold Xal XiQ XcM Xg1
 rw [XaW (by omega),XaW (by omega),Xp3 (by omega) (by omega),Xwe hx (by omega)]
 have:=Xox hx h1
 simp only [Option.bind_some]
 show some (wI .i64 (scl x n))=_
 rw [Xey (by omega) (by omega)]
theorem Xcr {S ρ:Type} {step:S→Option (Sum S ρ)} (f:Nat→S) (r:ρ):∀ (n:Nat) (_:∀ j,j<n→step (f j)=some (.inl (f (j+1)))) (_:step (f n)=some (.inr r)) {F:Nat} (_:n<F),iter step F (f 0)=some r:=by
 intro n h1 h2 F hF
 have key:∀ d j F,j+d=n→d<F→iter step F (f j)=some r:=by
  intro d
  induction d with
  | zero=>intro j F hj hF;obtain rfl:j=n:=by omega
          obtain ⟨F,rfl⟩:∃ G,F=G+1:=⟨F - 1,by omega⟩
          rw [iter,h2]
  | succ d ih=>
    intro j F hj hF
    obtain ⟨F,rfl⟩:∃ G,F=G+1:=⟨F - 1,by omega⟩
    rw [iter,h1 j (by omega)];exact ih (j+1) F (by omega) (by omega)
 exact key n 0 F (by omega) hF
def cap (n:Int):Int:=if n<1099511627776 then n else 1099511627776
def Xja (e:Xan):Bool:=decide (0≤e.N∧e.N≤1048576)
def XDr (k:Xap) (i:Nat) (t:List UInt8):Int:=Xlw tak XAT t.length (newV ⟨wI .u64 (k.A+wI .u64 (i:Int)),k.B⟩).s t
theorem XiH {k:Xap} {i:Nat} {t:List UInt8} (h:t.length≤20):XaG ⟨wI .u64 (k.A+wI .u64 (i:Int)),k.B⟩ t=some (XDr k i t):=XCI (by omega)
theorem Xm7 (k:Xap) (i:Nat) (t:List UInt8):0≤XDr k i t∧XDr k i t<2^64:=Xns tak XAT Xv2 _ _ _ _ (Nat.le_refl _)
def plN (k:Xap) (p i:Nat) (t:List UInt8):Nat:=(scl (XDr k i t) p).toNat
theorem Xcz {p:Nat} (hp:1≤p) (k:Xap) (i:Nat) (t:List UInt8):plN k p i t<p:=by
 have:=Xox (Xm7 k i t) (n:=p) (by omega)
 unfold plN;omega
theorem XcH {p:Nat} (hp:1≤p) (hp2:p≤4096) (k:Xap) (i:Nat) (t:List UInt8):Xal (XDr k i t) (p:Int)=some (plN k p i t:Int):=by
 have:=Xox (Xm7 k i t) (n:=p) (by omega)
 rw [Xvg (Xm7 k i t) (by omega) (by omega)]
 unfold plN;congr 1;omega
structure SkS where
 R:Nat→List Int
 tot:Int
def Xpn (k:Xap) (p:Nat) (t:List UInt8) (N:Int) (i:Nat) (row:List Int):List Int:=row.set (plN k p i t) (cap (row.getD (plN k p i t) 0+N))
def stepS (k:Xap) (p:Nat) (x:SkS) (e:Xan):SkS:=if Xja e=true then ⟨fun i=>Xpn k p e.Text e.N i (x.R i),cap (x.tot+e.N)⟩ else x
def newS (p:Nat):SkS:=⟨fun _=>List.replicate p 0,0⟩
def SK (k:Xap) (p:Nat) (l:List Xan):SkS:=l.foldl (stepS k p) (newS p)
theorem Xid (k:Xap) (p:Nat) {l:List Xan} {j:Nat} (h:j<l.length):SK k p (l.take (j+1))=stepS k p (SK k p (l.take j)) l[j]:=by
 unfold SK;rw [List.take_succ_eq_append_getElem h,List.foldl_append];rfl
structure XgR (p:Nat) (x:SkS):Prop where
 len:∀ i,(x.R i).length=p
 rng:∀ i,∀ e∈x.R i,0≤e∧e≤1099511627776
 tot:0≤x.tot∧x.tot≤1099511627776
theorem XrD {n:Int} (h:0≤n):0≤cap n∧cap n≤1099511627776:=by unfold cap;split<;>omega
theorem XgR.new (p:Nat):XgR p (newS p):=⟨fun _=>List.length_replicate,fun _ e h=>by rw [(List.mem_replicate.1 h).2];decide,⟨Int.le_refl 0,by show (0:Int)≤_;decide⟩⟩
theorem XgR.getD {p:Nat} {x:SkS} (h:XgR p x) (i q:Nat):0≤(x.R i).getD q 0∧(x.R i).getD q 0≤1099511627776:=by
 rw [List.getD_eq_getElem?_getD]
 cases hq:(x.R i)[q]? with
 | none=>exact ⟨Int.le_refl _,by decide⟩
 | some e=>exact h.rng i e (List.mem_of_getElem? hq)
theorem XgR.step {p:Nat} {x:SkS} (h:XgR p x) (k:Xap) (e:Xan):XgR p (stepS k p x e):=by
 unfold stepS
 split
 ·rename_i hm
  have hN:0≤e.N∧e.N≤1048576:=of_decide_eq_true hm
  refine ⟨fun i=>by simp [Xpn,h.len i],fun i v hv=>?_,XrD (by have:=h.tot;omega)⟩
  rcases List.mem_or_eq_of_mem_set hv with hv|rfl
  ·exact h.rng i v hv
  ·exact XrD (by have:=(h.getD i (plN k p i e.Text)).1;omega)
 ·exact h
theorem XgR.SK (k:Xap) (p:Nat) (l:List Xan):XgR p (SK k p l):=by
 have:∀ (l:List Xan) x,XgR p x→XgR p (l.foldl (stepS k p) x):=by
  intro l
  induction l with
  | nil=>exact fun x h=>h
  | cons e l ih=>exact fun x h=>ih _ (h.step k e)
 exact this l _ (.new p)
def eqS (t:List UInt8) (l:List Xan):Int:=l.foldl (fun n e=>if (e.Text==t&&Xja e)=true then n+e.N else n) 0
theorem XgU (t:List UInt8) {l:List Xan} {j:Nat} (h:j<l.length):eqS t (l.take (j+1))=if ((l[j]).Text==t&&Xja l[j])=true then eqS t (l.take j)+(l[j]).N else eqS t (l.take j):=by
 unfold eqS;rw [List.take_succ_eq_append_getElem h,List.foldl_append];rfl
theorem Xhj (t:List UInt8) (l:List Xan):0≤eqS t l∧eqS t l≤1048576*l.length:=by
 have:∀ (l:List Xan) (n:Int),0≤n→0≤l.foldl (fun n e=>if (e.Text==t&&Xja e)=true then n+e.N else n) n∧l.foldl (fun n e=>if (e.Text==t&&Xja e)=true then n+e.N else n) n≤n+1048576*l.length:=by
  intro l
  induction l with
  | nil=>intro n h;simp;omega
  | cons e l ih=>
    intro n h
    rw [List.foldl_cons,List.length_cons]
    split
    ·rename_i hc
     have hN:0≤e.N∧e.N≤1048576:=of_decide_eq_true (Bool.and_eq_true _ _▸hc).2
     have:=ih (n+e.N) (by omega);omega
    ·have:=ih n h;omega
 have:=this l 0 (by decide);unfold eqS;omega
theorem XsO {p:Nat} (hp:1≤p) (k:Xap) (l:List Xan) (t:List UInt8) (i:Nat):cap (eqS t l)≤((SK k p l).R i).getD (plN k p i t) 0∧((SK k p l).R i).getD (plN k p i t) 0≤(SK k p l).tot:=by
 have:∀ (l:List Xan) (x:SkS) (n:Int),XgR p x→0≤n→cap n≤(x.R i).getD (plN k p i t) 0→(∀ q,(x.R i).getD q 0≤x.tot) →
  cap (l.foldl (fun n e=>if (e.Text==t&&Xja e)=true then n+e.N else n) n)≤((l.foldl (stepS k p) x).R i).getD (plN k p i t) 0∧∀ q,((l.foldl (stepS k p) x).R i).getD q 0≤(l.foldl (stepS k p) x).tot:=by
  intro l
  induction l with
  | nil=>exact fun x n _ _ h1 h2=>⟨h1,h2⟩
  | cons e l ih=>
    intro x n hx hn h1 h2
    rw [List.foldl_cons,List.foldl_cons]
    cases hm:Xja e with
    | false=>
      rw [Bool.and_false,if_neg (by decide),show stepS k p x e=x by unfold stepS;rw [hm];rfl]
      exact ih x n hx hn h1 h2
    | true=>
      have hN:0≤e.N∧e.N≤1048576:=of_decide_eq_true hm
      have es:stepS k p x e=⟨fun i=>Xpn k p e.Text e.N i (x.R i),cap (x.tot+e.N)⟩:=by unfold stepS;rw [hm];rfl
      have hx':=hx.step k e
      have hg:∀ q,((stepS k p x e).R i).getD q 0=if plN k p i e.Text=q then cap ((x.R i).getD q 0+e.N) else (x.R i).getD q 0:=by
       intro q
       rw [es]
       show (Xpn k p e.Text e.N i (x.R i)).getD q 0=_
       unfold Xpn
       rw [List.getD_eq_getElem?_getD,List.getElem?_set,hx.len i]
       split
       ·rename_i hq;subst hq
        rw [if_pos (Xcz hp k i e.Text)];rfl
       ·rw [←List.getD_eq_getElem?_getD]
      have ht:(stepS k p x e).tot=cap (x.tot+e.N):=by rw [es]
      have h3:∀ q,((stepS k p x e).R i).getD q 0≤(stepS k p x e).tot:=fun q=>by
       rw [hg q,ht]
       have:=h2 q;have:=hx.getD i q;have:=hx.tot
       unfold cap
       repeat' split
       all_goals omega
      have gp:=hx.getD i (plN k p i t)
      rw [Bool.and_true]
      by_cases he:e.Text=t
      ·rw [if_pos (beq_iff_eq.2 he)]
       refine ih _ _ hx' (by omega) ?_ h3
       rw [hg,if_pos (by rw [he])]
       revert h1;unfold cap;intro h1
       repeat' split
       all_goals (try split at h1)
       all_goals omega
      ·rw [if_neg (fun h=>he (beq_iff_eq.1 h))]
       refine ih _ _ hx' hn ?_ h3
       rw [hg]
       revert h1;unfold cap;intro h1
       repeat' split
       all_goals (try split at h1)
       all_goals (try split)
       all_goals omega
 have hz:∀ q,((newS p).R i).getD q 0=0:=fun q=>by
  rw [show (newS p).R i=List.replicate p 0 from rfl,List.getD_eq_getElem?_getD,List.getElem?_replicate];split<;>rfl
 have:=this l (newS p) 0 (.new p) (by decide) (by rw [hz];decide) (fun q=>by rw [hz];exact Int.le_refl 0)
 exact ⟨this.1,this.2 _⟩
def XkX (k:Xap) (p:Nat) (x:SkS) (t:List UInt8):Nat→Int
 | 0=>1099511627776
 | i+1=>if (x.R i).getD (plN k p i t) 0<XkX k p x t i then (x.R i).getD (plN k p i t) 0 else XkX k p x t i
theorem Xlg {k:Xap} {p:Nat} {x:SkS} {t:List UInt8} {m M:Int} (hm:m≤1099511627776) (h:∀ i,m≤(x.R i).getD (plN k p i t) 0∧(x.R i).getD (plN k p i t) 0≤M):∀ n,m≤XkX k p x t n∧(1≤n→XkX k p x t n≤M)
 | 0=>⟨hm,by omega⟩
 | n+1=>by
   have g:=Xlg hm h n
   have h1:=h n
   rw [XkX]
   split
   ·omega
   ·rename_i hc
    refine ⟨g.1,fun _=>?_⟩
    rcases Nat.eq_zero_or_pos n with rfl|hn
    ·rw [XkX] at hc ⊢;omega
    ·exact g.2 hn
end Go.Vm.Code
