import Derived.Test.YtgmodbbcnfdpdaaGreatNShimFullb
namespace Go.Vm
open Go Go.RowKit
def req (b:Bool) (p:Prop):Prop:=match b with|true=>p|false=>False
theorem req.intro {b:Bool} {p:Prop} (h:b=true) (k:p):req b p:=by subst h;exact k
theorem req.elim {b:Bool} {p:Prop} (h:req b p):b=true∧p:=by cases b;exact h.elim;exact ⟨rfl,h⟩
def br (b:Bool) (p q:Prop):Prop:=match b with|true=>p|false=>q
theorem br.intro {b:Bool} {p q:Prop} (h:b=true→p) (k:b=false→q):br b p q:=by cases b;exact k rfl;exact h rfl
theorem br.pos {b:Bool} {p q:Prop} (e:b=true) (h:p):br b p q:=by subst e;exact h
theorem br.neg {b:Bool} {p q:Prop} (e:b=false) (h:q):br b p q:=by subst e;exact h
def XhK (v:Value) (K:Value→Prop):Prop:=
 match v with
 | .bool b=>K (.bool b)
 | .int k n=>K (.int k n)
 | .float k n=>K (.float k n)
 | .string s=>K (.string s)
 | .pointer none=>K (.pointer none)
 | .pointer (some a)=>K (.pointer (some a))
 | .slice none n c=>K (.slice none n c)
 | .slice (some a) n c=>K (.slice (some a) n c)
 | .func f a b=>K (.func f a b)
 | .nilFunc=>K .nilFunc
 | .nilIface=>K .nilIface
 | .iface t v=>K (.iface t v)
 | .agg a=>K (.agg a)
 | .tuple a=>K (.tuple a)
 | .map none=>K (.map none)
 | .map (some b)=>K (.map (some b))
 | v=>K v
theorem Xhu (v:Value) (K:Value→Prop):XhK v K=K v:=by
 unfold XhK;split<;>rfl
def Xn4 (l:List Value) (K:List Value→Prop):Prop:=
 match l with
 | []=>K []
 | v::l=>Xn4 l (fun l'=>K (v::l'))
theorem XkB:∀ (l:List Value) (K:List Value→Prop),Xn4 l K=K l
 | [],_=>rfl
 | v::l,K=>by rw [Xn4,XkB l]
def Xt4 {α:Type} (l:List (Nat×α)) (j:Nat) (K:List (Nat×α)→Prop):Prop:=
 match l with
 | []=>K []
 | (i,x)::l=>cond (Nat.beq i j) (Xt4 l j K) (Xt4 l j (fun l'=>K ((i,x)::l')))
theorem XmH {α:Type}:∀ (l:List (Nat×α)) (j:Nat) (K:List (Nat×α)→Prop),Xt4 l j K=K (XnS l j)
 | [],_,_=>rfl
 | (i,x)::l,j,K=>by
   simp only [Xt4,XnS]
   cases Nat.beq i j
   ·simp only [cond_false];rw [XmH l]
   ·simp only [cond_true];rw [XmH l]
def XrL {α:Type} (l:List (Nat×α)) (i:Nat) (x:α) (K:List (Nat×α)→Prop):Prop:=Xt4 l i (fun l'=>K ((i,x)::l'))
theorem Xjk {α:Type} (l:List (Nat×α)) (i:Nat) (x:α) (K:List (Nat×α)→Prop):XrL l i x K=K (XfQ l i x):=XmH _ _ _
def rd (cs:List Value) (o:Nat) (K:Value→Prop):Prop:=match cs[o]? with|some v=>XhK v K|none=>False
theorem rd.intro {cs:List Value} {o:Nat} {K:Value→Prop} {v:Value} (h:cs[o]?=some v) (k:XhK v K):rd cs o K:=by unfold rd;rw [h];exact k
theorem rd.elim {cs:List Value} {o:Nat} {K:Value→Prop} (h:rd cs o K):∃ v,cs[o]?=some v∧K v:=by
 unfold rd at h
 split at h
 ·rename_i v hv;rw [Xhu] at h;exact ⟨v,hv,h⟩
 ·exact h.elim
def rdN (cs:List Value) (o:Nat) (n:Nat) (K:List Value→Prop):Prop:=
 match n with
 | 0=>K []
 | n+1=>rd cs o fun v=>rdN cs (o+1) n fun l=>K (v::l)
theorem rdN.elim:∀ {n:Nat} {cs:List Value} {o:Nat} {K:List Value→Prop},rdN cs o n K→(o+n≤cs.length∨n=0)∧K ((cs.drop o).take n)
 | 0,cs,o,K,h=>⟨.inr rfl,by simpa [rdN] using h⟩
 | n+1,cs,o,K,h=>by
   obtain ⟨v,hv,h2⟩:=rd.elim h
   obtain ⟨h3,h4⟩:=rdN.elim h2
   have hlt:o<cs.length:=by
    rcases Nat.lt_or_ge o cs.length with h|h
    ·exact h
    ·rw [List.getElem?_eq_none h] at hv;cases hv
   refine ⟨.inl (by omega),?_⟩
   have:(cs.drop o).take (n+1)=v::(cs.drop (o+1)).take n:=by
    rw [List.drop_eq_getElem_cons hlt,List.take_succ_cons]
    rw [List.getElem?_eq_getElem hlt,Option.some.injEq] at hv
    rw [hv]
   rw [this];exact h4
abbrev CK:=Option Value→List (Option Xbx)→Option Xbx→Prop
def XGX (r:Option XcY) (K:CK):Prop:=
 match r with
 | some ⟨some v,os,fr⟩=>XhK v fun v=>K (some v) os fr
 | some ⟨none,os,fr⟩=>K none os fr
 | none=>False
def Good (r:Option XcY) (K:CK):Prop:=∃ v os fr,r=some ⟨v,os,fr⟩∧K v os fr
theorem XGX.good {r:Option XcY} {K:CK} (h:XGX r K):Good r K:=by
 unfold XGX at h
 split at h
 ·rw [Xhu] at h;exact ⟨_,_,_,rfl,h⟩
 ·exact ⟨_,_,_,rfl,h⟩
 ·exact h.elim
def valK (v:Value) (K:CK):Prop:=XhK v fun v=>K (some v) [] none
def Xt6:List (Nat×Nat×Value)→List Value→(List Value→Prop)→Prop
 | [],cs,K=>K cs
 | (off,size,v)::rest,cs,K=>cond (Nat.beq (Xa2 v).length size&&Nat.ble (off+size) cs.length) (Xn4 (setAt cs off (Xa2 v)) fun cs'=>Xt6 rest cs' K) False
theorem Xt6.elim:∀ {l:List (Nat×Nat×Value)} {cs:List Value} {K:List Value→Prop},Xt6 l cs K→∃ cs',Xpf cs l=some cs'∧K cs'
 | [],cs,K,h=>⟨cs,rfl,h⟩
 | (off,size,v)::rest,cs,K,h=>by
   rw [Xt6] at h
   cases hb:(Nat.beq (Xa2 v).length size&&Nat.ble (off+size) cs.length)
   ·rw [hb] at h;exact h.elim
   ·rw [hb,cond_true,XkB] at h
    obtain ⟨cs',h1,h2⟩:=Xt6.elim h
    rw [Bool.and_eq_true] at hb
    exact ⟨cs',by rw [Xpf,if_pos ⟨Nat.eq_of_beq_eq_true hb.1,Nat.le_of_ble_eq_true hb.2⟩,h1],h2⟩
def Xti (z:List Value) (ps:List (Nat×Nat×Operand)) (vals:List Value) (objs:List Xbx) (K:CK):Prop:=
 match objs with
 | []=>cond (Nat.beq vals.length ps.length) (Xt6 (XGc ps vals) z fun cs=>K (some (.agg ⟨cs⟩)) [] none) False
 | _=>False
def XpD (len sz:Nat) (z:List Value) (ps:List (Nat×Nat×Operand)) (vals:List Value) (objs:List Xbx) (top:Nat) (K:CK):Prop:=
 match objs with
 | []=>cond (Nat.beq vals.length ps.length) (Xt6 (XGc ps vals) z fun cs=>K (some (.slice (some ⟨top,0,none⟩) len sz)) [] (some (.row true cs))) False
 | _=>False
theorem Xsk {z:List Value} {ps:List (Nat×Nat×Operand)} {vals:List Value} {objs:List Xbx} {K:CK} (h:Xti z ps vals objs K):Good (XkO z ps vals objs) K:=by
 unfold Xti at h
 split at h
 ·cases hb:Nat.beq vals.length ps.length
  ·rw [hb] at h;exact h.elim
  ·rw [hb,cond_true] at h
   obtain ⟨cs,h1,h2⟩:=h.elim
   exact ⟨_,_,_,by simp only [XkO,if_pos (Nat.eq_of_beq_eq_true hb),h1];rfl,h2⟩
 ·exact h.elim
theorem Xp2 {len sz:Nat} {z:List Value} {ps:List (Nat×Nat×Operand)} {vals:List Value} {objs:List Xbx} {top:Nat} {K:CK} (h:XpD len sz z ps vals objs top K):Good (XkP len sz z ps vals objs top) K:=by
 unfold XpD at h
 split at h
 ·cases hb:Nat.beq vals.length ps.length
  ·rw [hb] at h;exact h.elim
  ·rw [hb,cond_true] at h
   obtain ⟨cs,h1,h2⟩:=h.elim
   exact ⟨_,_,_,by simp only [XkP,if_pos (Nat.eq_of_beq_eq_true hb),h1],h2⟩
 ·exact h.elim
def Xzp (vals:List Value) (objs:List Xbx) (K:CK):Prop:=
 match vals,objs with
 | [.bool c,a,b],[]=>br c (valK a K) (valK b K)
 | _,_=>False
def Xt5 (vals:List Value) (objs:List Xbx) (K:CK):Prop:=
 match vals,objs with
 | [.pointer (some ⟨_,o,none⟩)],[.cells cs]=>rd cs o fun v=>K (some v) [some (.cells cs)] none
 | [.pointer (some ⟨_,o,none⟩)],[.row w cs]=>rd cs o fun v=>K (some v) [some (.row w cs)] none
 | [.pointer (some ⟨_,o,none⟩)],[.ty t cs]=>rd cs o fun v=>K (some v) [some (.ty t cs)] none
 | _,_=>False
def Xty (n:Nat) (vals:List Value) (objs:List Xbx) (K:CK):Prop:=
 match vals,objs with
 | [.pointer (some ⟨_,o,none⟩)],[.cells cs]=>req (decide (o+n≤cs.length)) (rdN cs o n fun l=>K (some (.agg ⟨l⟩)) [some (.cells cs)] none)
 | [.pointer (some ⟨_,o,none⟩)],[.row w cs]=>req (decide (o+n≤cs.length)) (rdN cs o n fun l=>K (some (.agg ⟨l⟩)) [some (.row w cs)] none)
 | [.pointer (some ⟨_,o,none⟩)],[.ty t cs]=>req (decide (o+n≤cs.length)) (rdN cs o n fun l=>K (some (.agg ⟨l⟩)) [some (.ty t cs)] none)
 | _,_=>False
def XtS (n:Nat) (vals:List Value) (objs:List Xbx) (K:CK):Prop:=
 match vals,objs with
 | [.pointer (some ⟨_,o,none⟩),v],[.cells cs]=>req (decide ((Xa2 v).length=n∧o+n≤cs.length)&&(Xa2 v).all Xiq) (Xn4 (setAt cs o (Xa2 v)) fun cs'=>K none [some (.cells cs')] none)
 | [.pointer (some ⟨_,o,none⟩),v],[.ty t cs]=>req (decide ((Xa2 v).length=n∧o+n≤cs.length)&&(Xa2 v).all Xiq) (Xn4 (setAt cs o (Xa2 v)) fun cs'=>K none [some (.ty t cs')] none)
 | [.pointer (some ⟨_,o,none⟩),v],[.row true cs]=>req (decide ((Xa2 v).length=n∧o+n≤cs.length)&&(Xa2 v).all Xiq) (∃ cs',setAt cs o (Xa2 v)=cs'∧K none [some (.row true cs')] none)
 | _,_=>False
def binK (op:BinOp) (x y:Value) (K:CK):Prop:=
 match x,y with
 | .int k a,.int k' b=>match op with
   | .shl=>req (decide (0≤b)) (K (some (.int k (k.wrap (a*2^(min b.toNat k.bits))))) [] none)
   | .shr=>req (decide (0≤b)) (K (some (.int k (a.fdiv (2^(min b.toNat k.bits))))) [] none)
   | .quo=>req (decide (k=k')&&!(decide (b=0))) (K (some (.int k (k.wrap (a.tdiv b)))) [] none)
   | .rem=>req (decide (k=k')&&!(decide (b=0))) (K (some (.int k (a.tmod b))) [] none)
   | op=>XGX (match XwH op (.int k a) (.int k' b) with|some v=>val v|none=>none) K
 | .string a,.string b=>match op with
   | .add=>req (decide (a.data.toList.length+b.data.toList.length<2^63)) (K (some (.string ⟨⟨a.data.toList++b.data.toList⟩⟩)) [] none)
   | op=>XGX (match XwH op (.string a) (.string b) with|some v=>val v|none=>none) K
 | _,_=>False
def XLR (op:BinOp) (vals:List Value) (objs:List Xbx) (K:CK):Prop:=
 match vals,objs with
 | [x,y],[]=>binK op x y K
 | _,_=>False
def Xtz (k:Nat) (neg:Bool) (vals:List Value) (objs:List Xbx) (K:CK):Prop:=
 match k,vals,objs with
 | 1,[.slice (some _) n _],[]=>req (Nat.blt 0 n) (K (some (.bool neg)) [] none)
 | k,vals,objs=>XGX (XlT k neg vals objs) K
def XKM (vals:List Value) (objs:List Xbx) (K:CK):Prop:=
 match vals,objs with
 | [.slice none 0 _],[]=>K (some (.string ⟨⟨[]⟩⟩)) [] none
 | [.slice (some ⟨_,o,none⟩) n 1],[ob]=>match ob.cs with
    | some cs=>req (decide (o+n≤cs.length)) (∃ bs,Xgw ((cs.drop o).take n)=some bs∧K (some (.string ⟨⟨bs⟩⟩)) [some ob] none)
    | none=>False
 | _,_=>False
def XHS (vals:List Value) (objs:List Xbx) (top:Nat) (K:CK):Prop:=
 match vals,objs with
 | [.string s],[]=>∃ cs',ofBytes s.data.toList=cs'∧K (some (.slice (some ⟨top,0,none⟩) s.data.toList.length 1)) [] (some (.row true cs'))
 | _,_=>False
def Xys (sz bytes:Nat) (z:List Value) (vals:List Value) (objs:List Xbx) (top:Nat) (K:CK):Prop:=
 match vals,objs with
 | [.int _ l,.int _ c],[]=>req (decide (0≤l∧l≤c∧c<2^63∧(bytes:Int)*c≤2^48))
    (∃ cs',(List.replicate c.toNat z).flatten=cs'∧K (some (.slice (some ⟨top,0,none⟩) l.toNat sz)) [] (some (.row true cs')))
 | _,_=>False
def XpL (n:Nat) (hasLo hasHi:Bool) (bs:List Value) (K:Nat→Nat→Prop):Prop:=
 match hasLo,hasHi,bs with
 | false,false,[]=>K 0 n
 | true,false,[.int _ l]=>req (decide (0≤l∧l≤n)) (K l.toNat n)
 | false,true,[.int _ h]=>req (decide (0≤h∧h≤n)) (K 0 h.toNat)
 | true,true,[.int _ l,.int _ h]=>req (decide (0≤h∧h≤n∧0≤l∧l≤h.toNat)) (K l.toNat h.toNat)
 | _,_,_=>False
theorem XpL.elim {n:Nat} {hl hh:Bool} {bs:List Value} {K:Nat→Nat→Prop} (h:XpL n hl hh bs K):∃ l u,XBa n hl hh bs=some (l,u)∧K l u:=by
 unfold XpL at h
 split at h
 ·exact ⟨_,_,rfl,h⟩
 ·obtain ⟨h1,h2⟩:=h.elim;exact ⟨_,_,by simp only [XBa];rw [if_pos (of_decide_eq_true h1)],h2⟩
 ·obtain ⟨h1,h2⟩:=h.elim;exact ⟨_,_,by simp only [XBa];rw [if_pos (of_decide_eq_true h1)],h2⟩
 ·obtain ⟨h1,h2⟩:=h.elim;exact ⟨_,_,by simp only [XBa];rw [if_pos (of_decide_eq_true h1)],h2⟩
 ·exact h.elim
def XrE (bl bh:Bool) (vals:List Value) (objs:List Xbx) (K:CK):Prop:=
 match vals,objs with
 | .string s::bs,[]=>XpL s.data.toList.length bl bh bs fun l h=>K (some (.string ⟨⟨(s.data.toList.drop l).take (h - l)⟩⟩)) [] none
 | _,_=>False
def Xrh (sz:Nat) (bl bh:Bool) (vals:List Value) (objs:List Xbx) (K:CK):Prop:=
 match vals,objs with
 | .slice none 0 c::bs,[]=>XpL 0 bl bh bs fun _ _=>K (some (.slice none 0 c)) [] none
 | .slice (some ⟨b,o,none⟩) n sz'::bs,[]=>req (Nat.beq sz sz') (XpL n bl bh bs fun l h=>K (some (.slice (some ⟨b,o+l*sz,none⟩) (h - l) sz)) [] none)
 | _,_=>False
def XrY (n sz:Nat) (bl bh:Bool) (vals:List Value) (objs:List Xbx) (K:CK):Prop:=
 match vals,objs with
 | .pointer (some ⟨b,o,none⟩)::bs,[ob]=>match ob.cs with
   | some cs=>req (decide (o+n*sz≤cs.length)) (XpL n bl bh bs fun l h=>K (some (.slice (some ⟨b,o+l*sz,none⟩) (h - l) sz)) [some ob] none)
   | none=>False
 | _,_=>False
def XtK (n sz:Nat) (vals:List Value) (objs:List Xbx) (K:CK):Prop:=
 match vals,objs with
 | [.pointer (some ⟨b,o,none⟩),.int _ i],[]=>req (decide (0≤i∧i<n)) (K (some (.pointer (some ⟨b,o+i.toNat*sz,none⟩))) [] none)
 | _,_=>False
def Xtd (sz:Nat) (vals:List Value) (objs:List Xbx) (K:CK):Prop:=
 match vals,objs with
 | [.slice (some ⟨b,o,none⟩) n _,.int _ i],[]=>req (decide (0≤i∧i<n)) (K (some (.pointer (some ⟨b,o+i.toNat*sz,none⟩))) [] none)
 | _,_=>False
def XtE (n:Nat) (vals:List Value) (objs:List Xbx) (K:CK):Prop:=
 match vals,objs with
 | [.agg ⟨cs⟩,.int _ i],[]=>req (decide (0≤i∧i<n)) (rd cs i.toNat fun v=>K (some v) [] none)
 | _,_=>False
def XtO (n sz:Nat) (vals:List Value) (objs:List Xbx) (K:CK):Prop:=
 match vals,objs with
 | [.agg ⟨cs⟩,.int _ i],[]=>req (decide (0≤i∧i<n∧i.toNat*sz+sz≤cs.length)) (rdN cs (i.toNat*sz) sz fun l=>K (some (.agg ⟨l⟩)) [] none)
 | _,_=>False
def rdS (s:List UInt8) (i:Nat) (K:UInt8→Prop):Prop:=match s[i]? with|some b=>K b|none=>False
theorem rdS.intro {s:List UInt8} {i:Nat} {K:UInt8→Prop} {b:UInt8} (h:s[i]?=some b) (k:K b):rdS s i K:=by unfold rdS;rw [h];exact k
theorem rdS.elim {s:List UInt8} {i:Nat} {K:UInt8→Prop} (h:rdS s i K):∃ b,s[i]?=some b∧K b:=by
 unfold rdS at h;split at h
 ·exact ⟨_,by assumption,h⟩
 ·exact h.elim
def XAB (vals:List Value) (objs:List Xbx) (K:CK):Prop:=
 match vals,objs with
 | [.string s,.int _ i],[]=>req (decide (0≤i)) (rdS s.data.toList i.toNat fun b=>K (some (.int .u8 b.toNat)) [] none)
 | _,_=>False
def XIA (vals:List Value) (objs:List Xbx) (K:CK):Prop:=
 match vals,objs with
 | [.string s,.int .u8 c],[]=>K (some (.int .i64 (ixB s.data.toList c))) [] none
 | _,_=>False
def XzP (sz:Nat) (y:Value) (objs:List Xbx) (K:List Value→Nat→Prop):Prop:=
 match y,objs with
 | .string s,_=>K (ofBytes s.data.toList) s.data.toList.length
 | .slice none 0 _,_=>K [] 0
 | .slice (some a) n _,[o]=>match o.cs with
   | some cs=>req (decide (a.off+n*sz≤cs.length)) (K ((cs.drop a.off).take (n*sz)) n)
   | none=>False
 | _,_=>False
theorem XzP.elim {sz:Nat} {y:Value} {objs:List Xbx} {K:List Value→Nat→Prop} (h:XzP sz y objs K):∃ c n,Xjp sz y objs=some c∧XmQ y=some n∧K c n:=by
 unfold XzP at h
 split at h
 ·exact ⟨_,_,rfl,rfl,h⟩
 ·exact ⟨_,_,rfl,rfl,h⟩
 ·split at h
  ·rename_i cs hcs
   obtain ⟨h1,h2⟩:=h.elim
   exact ⟨_,_,by simp only [Xjp,hcs];rw [if_pos (of_decide_eq_true h1)],rfl,h2⟩
  ·exact h.elim
 ·exact h.elim
def XLE (t sz bytes:Nat) (vals:List Value) (objs:List Xbx) (top:Nat) (K:CK):Prop:=
 match vals,objs with
 | [.slice none 0 _,y],objs=>XzP sz y objs fun new m=>req (decide (m*bytes≤2^47∧new.length=m*sz)) (∃ cs' n',new=cs'∧m=n'∧K (some (.slice (some ⟨top,0,none⟩) n' sz)) (objs.map some) (some (.row true cs')))
 | [.slice (some ⟨b,o,none⟩) n sz',y],.row true cs::objs=>XzP sz y objs fun new m=>
    req (decide ((n+m)*bytes≤2^47∧o+n*sz≤cs.length∧sz=sz'∧new.length=m*sz)&&new.all Xiq&&(XeC y).all (fun c=>!Nat.beq b c))
     (∃ cs' n',(cs.drop o).take (n*sz)++new=cs'∧n+m=n'∧K (some (.slice (some ⟨top,0,none⟩) n' sz)) (none::objs.map some) (some (.row true cs')))
 | [.func (.method _) ⟨[.slice none 0 e]⟩ ⟨[]⟩, y], objs => XzP sz y objs fun new m => req (decide (m * bytes ≤ 2 ^ 47 ∧ new.length = m * sz ∧ sz = 1 ∧ e = t)) (∃ cs' n', new = cs' ∧ m = n' ∧ K (some (.func (.method "") ⟨[.slice (some ⟨top, 0, none⟩) n' 1]⟩ ⟨[]⟩)) (objs.map some) (some (.ty t cs')))
 | [.func (.method _) ⟨[.slice (some ⟨b,0,none⟩) n 1]⟩ ⟨[]⟩,y],.ty e cs::objs=>XzP sz y objs fun new m=>
    req (decide ((n+m)*bytes≤2^47∧n≤cs.length∧sz=1∧e=t∧new.length=m)&&new.all Xiq&&(XeC y).all (fun c=>!Nat.beq b c))
     (∃ cs' n', cs.take n ++ new = cs' ∧ n + m = n' ∧ K (some (.func (.method "") ⟨[.slice (some ⟨top, 0, none⟩) n' 1]⟩ ⟨[]⟩)) (none :: objs.map some) (some (.ty t cs')))
 | _,_=>False
def Xx0 (t:Nat) (vals:List Value) (objs:List Xbx) (K:CK):Prop:=
 match vals,objs with
 | [.pointer none,.int .i64 0],[]=>K (some (.string ⟨⟨[]⟩⟩)) [] none
 | [.func (.method _) ⟨[.slice (some ⟨_,0,none⟩) n 1]⟩ ⟨[.bool true]⟩,.int .i64 m],[.ty e cs]=>req (decide (e=t∧m=n∧n≤cs.length∧n<2^63))
    (∃ bs,Xgw (cs.take n)=some bs∧K (some (.string ⟨⟨bs⟩⟩)) [some (.row false cs)] none)
 | _,_=>False
def XLs (sz:Nat) (vals:List Value) (objs:List Xbx) (K:CK):Prop:=
 match vals,objs with
 | [.slice none 0 _],[]=>K (some (.tuple ⟨[]⟩)) [] none
 | [.slice (some ⟨_,o,none⟩) n sz'],[.row true cs]=>req (decide (sz=sz'∧o+n*sz=cs.length)) (∃ cs',cs.take o=cs'∧K (some (.tuple ⟨[]⟩)) [some (.row true cs')] none)
 | _,_=>False
def XtM (vals:List Value) (objs:List Xbx) (K:CK):Prop:=
 match vals,objs with
 | [.pointer (some ⟨_,0,none⟩)],[.siter s pos]=>
    br (decide (pos<s.size)) (K (some (.tuple #[.bool true,.int .i64 pos,.int .i32 (Utf8.decode s pos).1])) [some (.siter s (pos+(Utf8.decode s pos).2))] none)
     (K (some (.tuple #[.bool false])) [some (.siter s pos)] none)
 | _,_=>False
def Xxt (os:List (Nat×SK)) (z:Value) (ok:Bool) (vals:List Value) (objs:List Xbx) (K:CK):Prop:=
 match vals,objs with
 | [.map none,.agg ⟨k⟩],[]=>req (Xb4 k k os).isSome (K (some (cond ok (.tuple ⟨[z,.bool false]⟩) z)) [] none)
 | [.map (some _),.agg ⟨k⟩],[.mp cs]=>∃ v b,Xwc os z k cs=some (v,b)∧K (some (cond ok (.tuple ⟨[v,.bool b]⟩) v)) [some (.mp cs)] none
 | _,_=>False
def Xyv (os:List (Nat×SK)) (vals:List Value) (objs:List Xbx) (K:CK):Prop:=
 match vals,objs with
 | [.map (some _),.agg ⟨k⟩,x],[.mp cs]=>∃ cs',XvZ os k x cs=some cs'∧K none [some (.mp cs')] none
 | _,_=>False
def XAE (os:List (Nat×SK)) (vals:List Value) (objs:List Xbx) (K:CK):Prop:=
 match vals,objs with
 | [.map none,.agg ⟨k⟩],[]=>req (Xb4 k k os).isSome (K (some (.tuple ⟨[]⟩)) [] none)
 | [.map (some _),.agg ⟨k⟩],[.mp cs]=>∃ cs',Xv2 os k cs=some cs'∧K (some (.tuple ⟨[]⟩)) [some (.mp cs')] none
 | _,_=>False
def Xw6 (vals:List Value) (objs:List Xbx) (K:CK):Prop:=
 match vals,objs with
 | [.map none],[]=>K (some (.int .i64 0)) [] none
 | [.map (some _)],[.mp cs]=>∃ n:Nat,cs.length=2*n∧K (some (.int .i64 n)) [some (.mp cs)] none
 | _,_=>False
def XKb (op:VOp) (vals:List Value) (objs:List Xbx) (top:Nat) (K:CK):Prop:=
 match op with
 | .pick _ _ _=>Xzp vals objs K
 | .load1 _ _=>Xt5 vals objs K
 | .loadN ks _=>Xty ks.length vals objs K
 | .store n _ _=>XtS n vals objs K
 | .bin op _ _=>XLR op vals objs K
 | .isNil k neg _=>Xtz k neg vals objs K
 | .b2s _=>XKM vals objs K
 | .s2b _=>XHS vals objs top K
 | .mkSl sz bytes z _ _=>Xys sz bytes z vals objs top K
 | .sliceS _ lo hi=>XrE lo.isSome hi.isSome vals objs K
 | .sliceL sz _ lo hi=>Xrh sz lo.isSome hi.isSome vals objs K
 | .sliceA n sz _ lo hi=>XrY n sz lo.isSome hi.isSome vals objs K
 | .idxAA n sz _ _=>XtK n sz vals objs K
 | .idxAL sz _ _=>Xtd sz vals objs K
 | .idxV1 n _ _=>XtE n vals objs K
 | .idxVN n sz _ _=>XtO n sz vals objs K
 | .idxS _ _=>XAB vals objs K
 | .ixb _ _=>XIA vals objs K
 | .app t sz bytes _ _=>XLE t sz bytes vals objs top K
 | .ustr t _ _=>Xx0 t vals objs K
 | .clr sz _=>XLs sz vals objs K
 | .build z ps=>Xti z ps vals objs K
 | .buildSl len sz z ps=>XpD len sz z ps vals objs top K
 | .nextS _=>XtM vals objs K
 | .mget os z ok _ _=>Xxt os z ok vals objs K
 | .mput os _ _ _=>Xyv os vals objs K
 | .mdel os _ _=>XAE os vals objs K
 | .lenM _=>Xw6 vals objs K
 | op=>XGX (core op vals objs top) K
theorem Xt1 {vals:List Value} {objs:List Xbx} {K:CK} (h:Xzp vals objs K):Good (XsK vals objs) K:=by
 unfold Xzp at h
 split at h
 ·rename_i c _ _
  cases c
  ·simp only [br,valK,Xhu] at h;exact ⟨_,_,_,rfl,h⟩
  ·simp only [br,valK,Xhu] at h;exact ⟨_,_,_,rfl,h⟩
 ·exact h.elim
theorem Xsb {vals:List Value} {objs:List Xbx} {K:CK} (h:Xt5 vals objs K):Good (Xjz vals objs) K:=by
 unfold Xt5 at h
 split at h
 ·obtain ⟨v,h1,h2⟩:=rd.elim h;exact ⟨_,_,_,by simp only [Xjz,Xbx.cs,h1],h2⟩
 ·obtain ⟨v,h1,h2⟩:=rd.elim h;exact ⟨_,_,_,by simp only [Xjz,Xbx.cs,h1],h2⟩
 ·obtain ⟨v,h1,h2⟩:=rd.elim h;exact ⟨_,_,_,by simp only [Xjz,Xbx.cs,h1],h2⟩
 ·exact h.elim
theorem Xsw {n:Nat} {vals:List Value} {objs:List Xbx} {K:CK} (h:Xty n vals objs K):Good (Xjy n vals objs) K:=by
 unfold Xty at h
 split at h
 ·obtain ⟨h1,h2⟩:=req.elim h
  obtain ⟨_,h3⟩:=rdN.elim h2
  exact ⟨_,_,_,by simp only [Xjy,Xbx.cs,if_pos (of_decide_eq_true h1)],h3⟩
 ·obtain ⟨h1,h2⟩:=req.elim h
  obtain ⟨_,h3⟩:=rdN.elim h2
  exact ⟨_,_,_,by simp only [Xjy,Xbx.cs,if_pos (of_decide_eq_true h1)],h3⟩
 ·obtain ⟨h1,h2⟩:=req.elim h
  obtain ⟨_,h3⟩:=rdN.elim h2
  exact ⟨_,_,_,by simp only [Xjy,Xbx.cs,if_pos (of_decide_eq_true h1)],h3⟩
 ·exact h.elim
theorem Xsx {n:Nat} {vals:List Value} {objs:List Xbx} {K:CK} (h:XtS n vals objs K):Good (XkX n vals objs) K:=by
 unfold XtS at h
 split at h
 ·obtain ⟨h1,h2⟩:=req.elim h
  rw [XkB] at h2
  simp only [Bool.and_eq_true,decide_eq_true_eq] at h1
  exact ⟨_,_,_,by simp only [XkX,Xbx.cs,Xbx.wr];rw [if_pos ⟨h1.1.1,h1.1.2,h1.2⟩],h2⟩
 ·obtain ⟨h1,h2⟩:=req.elim h
  rw [XkB] at h2
  simp only [Bool.and_eq_true,decide_eq_true_eq] at h1
  exact ⟨_,_,_,by simp only [XkX,Xbx.cs,Xbx.wr];rw [if_pos ⟨h1.1.1,h1.1.2,h1.2⟩],h2⟩
 ·obtain ⟨h1,cs',rfl,h2⟩:=req.elim h
  simp only [Bool.and_eq_true,decide_eq_true_eq] at h1
  exact ⟨_,_,_,by simp only [XkX,Xbx.cs,Xbx.wr];rw [if_pos ⟨h1.1.1,h1.1.2,h1.2⟩],h2⟩
 ·exact h.elim
theorem XwC {op:BinOp} {vals:List Value} {objs:List Xbx} {K:CK} (h:XLR op vals objs K):Good (XtI op vals objs) K:=by
 unfold XLR at h
 split at h
 ·rename_i x y
  have key:∀ v,XwH op x y=some v→K (some v) [] none→Good (XtI op [x,y] []) K:=fun v h1 h2=>⟨_,_,_,by simp only [XtI,h1,val],h2⟩
  unfold binK at h
  split at h
  ·split at h
   ·obtain ⟨h1,h2⟩:=req.elim h
    exact key _ (by simp only [XwH];rw [if_pos (of_decide_eq_true h1)]) h2
   ·obtain ⟨h1,h2⟩:=req.elim h
    exact key _ (by simp only [XwH];rw [if_pos (of_decide_eq_true h1)]) h2
   ·obtain ⟨h1,h2⟩:=req.elim h
    simp only [Bool.and_eq_true,decide_eq_true_eq,Bool.not_eq_true',decide_eq_false_iff_not] at h1
    exact key _ (by simp only [XwH];rw [if_pos h1.1,if_neg h1.2]) h2
   ·obtain ⟨h1,h2⟩:=req.elim h
    simp only [Bool.and_eq_true,decide_eq_true_eq,Bool.not_eq_true',decide_eq_false_iff_not] at h1
    exact key _ (by simp only [XwH];rw [if_pos h1.1,if_neg h1.2]) h2
   ·exact h.good
  ·split at h
   ·obtain ⟨h1,h2⟩:=req.elim h
    exact key _ (by simp only [XwH];rw [if_pos (of_decide_eq_true h1)]) h2
   ·exact h.good
  ·exact h.elim
 ·exact h.elim
theorem Xsm {k:Nat} {neg:Bool} {vals:List Value} {objs:List Xbx} {K:CK} (h:Xtz k neg vals objs K):Good (XlT k neg vals objs) K:=by
 unfold Xtz at h
 split at h
 ·rename_i n _
  obtain ⟨h1,h2⟩:=req.elim h
  cases n with
  | zero=>simp at h1
  | succ n=>exact ⟨_,_,_,by simp only [XlT,XHf,val];cases neg<;>rfl,h2⟩
 ·exact h.good
theorem Xwv {vals:List Value} {objs:List Xbx} {K:CK} (h:XKM vals objs K):Good (Xrv vals objs) K:=by
 unfold XKM at h
 split at h
 ·exact ⟨_,_,_,rfl,h⟩
 ·split at h
  ·rename_i cs hcs
   obtain ⟨h1,bs,h2,h3⟩:=req.elim h
   exact ⟨_,_,_,by simp only [Xrv,hcs];rw [if_pos (of_decide_eq_true h1)];simp only [h2],h3⟩
  ·exact h.elim
 ·exact h.elim
theorem XwD {vals:List Value} {objs:List Xbx} {top:Nat} {K:CK} (h:XHS vals objs top K):Good (XCy vals objs top) K:=by
 unfold XHS at h
 split at h
 ·obtain ⟨cs',rfl,h⟩:=h;exact ⟨_,_,_,rfl,h⟩
 ·exact h.elim
theorem Xte {sz bytes:Nat} {z:List Value} {vals:List Value} {objs:List Xbx} {top:Nat} {K:CK} (h:Xys sz bytes z vals objs top K):Good (Xsu sz bytes z vals objs top) K:=by
 unfold Xys at h
 split at h
 ·obtain ⟨h1,cs',rfl,h2⟩:=req.elim h
  exact ⟨_,_,_,by simp only [Xsu];rw [if_pos (of_decide_eq_true h1)],h2⟩
 ·exact h.elim
theorem XrK {bl bh:Bool} {vals:List Value} {objs:List Xbx} {K:CK} (h:XrE bl bh vals objs K):Good (Xlk bl bh vals objs) K:=by
 unfold XrE at h
 split at h
 ·obtain ⟨l,u,h1,h2⟩:=XpL.elim h
  exact ⟨_,_,_,by simp only [Xlk,h1,val],h2⟩
 ·exact h.elim
theorem XrQ {sz:Nat} {bl bh:Bool} {vals:List Value} {objs:List Xbx} {K:CK} (h:Xrh sz bl bh vals objs K):Good (Xj9 sz bl bh vals objs) K:=by
 unfold Xrh at h
 split at h
 ·obtain ⟨l,u,h1,h2⟩:=XpL.elim h
  exact ⟨_,_,_,by simp only [Xj9,h1,val],h2⟩
 ·obtain ⟨h0,h⟩:=req.elim h
  obtain ⟨l,u,h1,h2⟩:=XpL.elim h
  exact ⟨_,_,_,by simp only [Xj9];rw [if_pos (Nat.eq_of_beq_eq_true h0)];simp only [h1,val],h2⟩
 ·exact h.elim
theorem XrZ {n sz:Nat} {bl bh:Bool} {vals:List Value} {objs:List Xbx} {K:CK} (h:XrY n sz bl bh vals objs K):Good (Xjh n sz bl bh vals objs) K:=by
 unfold XrY at h
 split at h
 ·split at h
  ·rename_i cs hcs
   obtain ⟨h0,h⟩:=req.elim h
   obtain ⟨l,u,h1,h2⟩:=XpL.elim h
   exact ⟨_,_,_,by simp only [Xjh,hcs];rw [if_pos (of_decide_eq_true h0)];simp only [h1],h2⟩
  ·exact h.elim
 ·exact h.elim
theorem Xsn {n sz:Nat} {vals:List Value} {objs:List Xbx} {K:CK} (h:XtK n sz vals objs K):Good (XnC n sz vals objs) K:=by
 unfold XtK at h
 split at h
 ·obtain ⟨h1,h2⟩:=req.elim h
  exact ⟨_,_,_,by simp only [XnC,val];rw [if_pos (of_decide_eq_true h1)],h2⟩
 ·exact h.elim
theorem Xs2 {sz:Nat} {vals:List Value} {objs:List Xbx} {K:CK} (h:Xtd sz vals objs K):Good (XnD sz vals objs) K:=by
 unfold Xtd at h
 split at h
 ·obtain ⟨h1,h2⟩:=req.elim h
  exact ⟨_,_,_,by simp only [XnD,val];rw [if_pos (of_decide_eq_true h1)],h2⟩
 ·exact h.elim
theorem XsQ {n:Nat} {vals:List Value} {objs:List Xbx} {K:CK} (h:XtE n vals objs K):Good (XnH n vals objs) K:=by
 unfold XtE at h
 split at h
 ·obtain ⟨h1,h2⟩:=req.elim h
  obtain ⟨v,h3,h4⟩:=rd.elim h2
  exact ⟨_,_,_,by simp only [XnH];rw [if_pos (of_decide_eq_true h1)];simp only [h3,val],h4⟩
 ·exact h.elim
theorem Xs8 {n sz:Nat} {vals:List Value} {objs:List Xbx} {K:CK} (h:XtO n sz vals objs K):Good (XnA n sz vals objs) K:=by
 unfold XtO at h
 split at h
 ·obtain ⟨h1,h2⟩:=req.elim h
  obtain ⟨_,h3⟩:=rdN.elim h2
  exact ⟨_,_,_,by simp only [XnA,val];rw [if_pos (of_decide_eq_true h1)],h3⟩
 ·exact h.elim
theorem Xug {vals:List Value} {objs:List Xbx} {K:CK} (h:XAB vals objs K):Good (XqK vals objs) K:=by
 unfold XAB at h
 split at h
 ·obtain ⟨h1,h2⟩:=req.elim h
  obtain ⟨v,h3,h4⟩:=rdS.elim h2
  exact ⟨_,_,_,by simp only [XqK];rw [if_pos (of_decide_eq_true h1)];simp only [h3,val],h4⟩
 ·exact h.elim
theorem Xv9 {vals:List Value} {objs:List Xbx} {K:CK} (h:XIA vals objs K):Good (Xxy vals objs) K:=by
 unfold XIA at h
 split at h
 ·exact ⟨_,_,_,rfl,h⟩
 ·exact h.elim
theorem XtZ {t:Nat} {vals:List Value} {objs:List Xbx} {K:CK} (h:Xx0 t vals objs K):Good (XqG t vals objs) K:=by
 unfold Xx0 at h
 split at h
 ·exact ⟨_,_,_,rfl,h⟩
 ·obtain ⟨h1,bs,h2,h3⟩:=req.elim h
  exact ⟨_,_,_,by simp only [XqG];rw [if_pos (of_decide_eq_true h1)];simp only [h2],h3⟩
 ·exact h.elim
theorem XvY {sz:Nat} {vals:List Value} {objs:List Xbx} {K:CK} (h:XLs sz vals objs K):Good (Xwu sz vals objs) K:=by
 unfold XLs at h
 split at h
 ·exact ⟨_,_,_,rfl,h⟩
 ·obtain ⟨h1,cs',rfl,h3⟩:=req.elim h
  exact ⟨_,_,_,by simp only [Xwu];rw [if_pos (of_decide_eq_true h1)],h3⟩
 ·exact h.elim
theorem Xwn {t sz bytes:Nat} {vals:List Value} {objs:List Xbx} {top:Nat} {K:CK} (h:XLE t sz bytes vals objs top K):Good (Xt0 t sz bytes vals objs top) K:=by
 unfold XLE at h
 split at h
 ·obtain ⟨c,m,h1,h2,h3⟩:=XzP.elim h
  obtain ⟨h4,cs',n',rfl,rfl,h5⟩:=req.elim h3
  exact ⟨_,_,_,by simp only [Xt0,h1,h2];rw [if_pos (of_decide_eq_true h4)],h5⟩
 ·obtain ⟨c,m,h1,h2,h3⟩:=XzP.elim h
  obtain ⟨h4,cs',n',rfl,rfl,h5⟩:=req.elim h3
  simp only [Bool.and_eq_true,decide_eq_true_eq] at h4
  exact ⟨_,_,_,by simp only [Xt0,h1,h2];rw [if_pos ⟨h4.1.1.1,h4.1.1.2.1,h4.1.1.2.2.1,h4.1.1.2.2.2,h4.1.2,h4.2⟩],h5⟩
 ·obtain ⟨c,m,h1,h2,h3⟩:=XzP.elim h
  obtain ⟨h4,cs',n',rfl,rfl,h5⟩:=req.elim h3
  exact ⟨_,_,_,by simp only [Xt0,h1,h2,bSl];rw [if_pos (of_decide_eq_true h4)],h5⟩
 ·obtain ⟨c,m,h1,h2,h3⟩:=XzP.elim h
  obtain ⟨h4,cs',n',rfl,rfl,h5⟩:=req.elim h3
  simp only [Bool.and_eq_true,decide_eq_true_eq] at h4
  exact ⟨_,_,_,by simp only [Xt0,h1,h2,bSl];rw [if_pos ⟨h4.1.1.1,h4.1.1.2.1,h4.1.1.2.2.1,h4.1.1.2.2.2.1,h4.1.1.2.2.2.2,h4.1.2,h4.2⟩],h5⟩
 ·exact h.elim
theorem XsP {vals:List Value} {objs:List Xbx} {K:CK} (h:XtM vals objs K):Good (XlZ vals objs) K:=by
 unfold XtM at h
 split at h
 ·rename_i s pos
  cases hb:decide (pos<s.size) with
  | true=>rw [hb] at h;exact ⟨_,_,_,by simp only [XlZ];rw [if_pos (of_decide_eq_true hb)],h⟩
  | false=>rw [hb] at h;exact ⟨_,_,_,by simp only [XlZ];rw [if_neg (of_decide_eq_false hb)],h⟩
 ·exact h.elim
theorem Xtn {os:List (Nat×SK)} {z:Value} {ok:Bool} {vals:List Value} {objs:List Xbx} {K:CK} (h:Xxt os z ok vals objs K):Good (XmT os z ok vals objs) K:=by
 unfold Xxt at h
 split at h
 ·obtain ⟨h1,h2⟩:=h.elim
  exact ⟨_,_,_,by simp only [XmT];rw [if_pos h1];cases ok<;>rfl,h2⟩
 ·obtain ⟨v,b,h1,h2⟩:=h
  exact ⟨_,_,_,by simp only [XmT,h1];cases ok<;>rfl,h2⟩
 ·exact h.elim
theorem Xub {os:List (Nat×SK)} {vals:List Value} {objs:List Xbx} {K:CK} (h:Xyv os vals objs K):Good (XqW os vals objs) K:=by
 unfold Xyv at h
 split at h
 ·obtain ⟨cs',h1,h2⟩:=h
  exact ⟨_,_,_,by simp only [XqW,h1],h2⟩
 ·exact h.elim
theorem Xtx {os:List (Nat×SK)} {vals:List Value} {objs:List Xbx} {K:CK} (h:XAE os vals objs K):Good (Xpv os vals objs) K:=by
 unfold XAE at h
 split at h
 ·obtain ⟨h1,h2⟩:=h.elim
  exact ⟨_,_,_,by simp only [Xpv];rw [if_pos h1];rfl,h2⟩
 ·obtain ⟨cs',h1,h2⟩:=h
  exact ⟨_,_,_,by simp only [Xpv,h1],h2⟩
 ·exact h.elim
theorem Xua {vals:List Value} {objs:List Xbx} {K:CK} (h:Xw6 vals objs K):Good (XnX vals objs) K:=by
 unfold Xw6 at h
 split at h
 ·exact ⟨_,_,_,rfl,h⟩
 ·obtain ⟨n,h1,h2⟩:=h
  exact ⟨_,_,_,by simp only [XnX,h1];rw [show 2*n/2=n by omega],h2⟩
 ·exact h.elim
theorem XKb.good {op:VOp} {vals:List Value} {objs:List Xbx} {top:Nat} {K:CK} (h:XKb op vals objs top K):Good (core op vals objs top) K:=by
 cases op with
 | pick=>exact Xt1 h
 | load1=>exact Xsb h
 | loadN=>exact Xsw h
 | store=>exact Xsx h
 | bin=>exact XwC h
 | isNil=>exact Xsm h
 | b2s=>exact Xwv h
 | s2b=>exact XwD h
 | mkSl=>exact Xte h
 | sliceS=>exact XrK h
 | sliceL=>exact XrQ h
 | sliceA=>exact XrZ h
 | idxAA=>exact Xsn h
 | idxAL=>exact Xs2 h
 | idxV1=>exact XsQ h
 | idxVN=>exact Xs8 h
 | idxS=>exact Xug h
 | ixb=>exact Xv9 h
 | app=>exact Xwn h
 | ustr=>exact XtZ h
 | clr=>exact XvY h
 | build=>exact Xsk h
 | buildSl=>exact Xp2 h
 | nextS=>exact XsP h
 | mget=>exact Xtn h
 | mput=>exact Xub h
 | mdel=>exact Xtx h
 | lenM=>exact Xua h
 | _=>exact XGX.good h
def XnR (h:Hp) (is:List Nat) (os:List (Option Xbx)) (K:Hp→Prop):Prop:=
 match is,os with
 | i::is,some o::os=>XrL h i o fun h'=>XnR h' is os K
 | i::is,none::os=>Xt4 h i fun h'=>XnR h' is os K
 | _,_=>K h
theorem Xo8:∀ (is:List Nat) (os:List (Option Xbx)) (h:Hp) (K:Hp→Prop),XnR h is os K=K (Xf1 h is os)
 | [],_,h,K=>by simp [XnR,Xf1]
 | i::is,[],h,K=>by simp [XnR,Xf1]
 | i::is,some o::os,h,K=>by rw [XnR,Xjk,Xo8 is os];simp [Xf1]
 | i::is,none::os,h,K=>by rw [XnR,XmH,Xo8 is os];simp [Xf1]
def opK (op:VOp) (vals:List Value) (h:Hp) (top:Nat) (K:Option Value→Hp→Nat→Prop):Prop:=
 match XiE h (needs op vals) with
 | none=>False
 | some objs=>XKb op vals objs top fun v os fr=>XnR h (needs op vals) os fun h'=>match fr with
   | none=>K v h' top
   | some o=>XrL h' top o fun h''=>K v h'' (top+1)
theorem opK.elim {op:VOp} {vals:List Value} {h:Hp} {top:Nat} {K:Option Value→Hp→Nat→Prop} (hk:opK op vals h top K):∃ v h' top',Xcy op vals h top=some (v,h',top')∧K v h' top':=by
 unfold opK at hk
 split at hk
 ·exact hk.elim
 ·rename_i objs hobjs
  obtain ⟨v,os,fr,hc,hk⟩:=hk.good
  rw [Xo8] at hk
  cases fr with
  | none=>exact ⟨v,_,_,by simp only [Xcy,hobjs,hc],hk⟩
  | some o=>simp only [Xjk] at hk;exact ⟨v,_,_,by simp only [Xcy,hobjs,hc],hk⟩
def Xr2 (n:Nat) (e:Env) (d:Option Nat) (v:Value) (K:Env→Prop):Prop:=
 match d with
 | some i=>cond (Nat.blt i n) (XrL e i v K) (K e)
 | none=>K e
theorem Xh1 (n:Nat) (e:Env) (d:Option Nat) (v:Value) (K:Env→Prop):Xr2 n e d v K=K (Xo6 n e d v):=by
 cases d with
 | none=>rfl
 | some i=>simp only [Xr2,Xo6];cases Nat.blt i n<;>simp [Xjk]
def XDf (i:Nat) (vs:List Value) (K:Env→Prop):Prop:=
 match vs with
 | []=>K []
 | v::vs=>XDf (i+1) vs fun e=>K ((i,v)::e)
theorem Xum:∀ (vs:List Value) (i:Nat) (K:Env→Prop),XDf i vs K=K (Xnz i vs)
 | [],_,_=>rfl
 | v::vs,i,K=>by rw [XDf,Xum vs];rfl
def Xpq (F:Fns) (f:Nat) (args:List Value) (K:XbR→Prop):Prop:=
 match F f with
 | some ⟨nt,body,_⟩=>cond (Nat.ble args.length nt) (XDf 0 args fun e=>K ⟨f,nt,e,[.code body],[],false,none⟩) False
 | none=>False
theorem Xpq.elim {F:Fns} {f:Nat} {args:List Value} {K:XbR→Prop} (h:Xpq F f args K):∃ c,Xju F f args=some c∧K c:=by
 unfold Xpq at h
 split at h
 ·rename_i nt body rs hf
  cases hb:Nat.ble args.length nt with
  | false=>rw [hb] at h;exact h.elim
  | true=>
    rw [hb,cond_true,Xum] at h
    exact ⟨_,by simp only [Xju,hf];rw [if_pos (Nat.le_of_ble_eq_true hb)],h⟩
 ·exact h.elim
def XrU (u:XbR) (v:Value) (K:XbR→Prop):Prop:=
 match u with
 | ⟨fn,nt,env,.inReg (⟨dst,_,_⟩::rest)::k,defers,ret,round⟩=>Xr2 nt env dst v fun e=>K ⟨fn,nt,e,.inReg rest::k,defers,ret,round⟩
 | ⟨fn,nt,env,.inRangeFunc l::k,defers,ret,round⟩=>K ⟨fn,nt,env,.endRangeFunc l::k,defers,ret,round⟩
 | _=>False
theorem XrU.elim {u:XbR} {v:Value} {K:XbR→Prop} (h:XrU u v K):∃ u',finish u v=some u'∧K u':=by
 unfold XrU at h
 split at h
 ·rw [Xh1] at h;exact ⟨_,rfl,h⟩
 ·exact ⟨_,rfl,h⟩
 ·exact h.elim
def XxZ (e:Env) (h:Hp) (rs:List XAY) (K:List Value→Prop):Prop:=
 match rs with
 | []=>K []
 | .tmp t::rs=>match XaI e t with
   | some v=>XxZ e h rs fun vs=>K (v::vs)
   | none=>False
 | .cell t ks agg::rs=>match XaI e t with
   | some (.pointer (some ⟨b,o,none⟩))=>match XaI h b with
     | some ob=>match ob.cs with
       | some cs=>cond agg (req (decide (o+ks.length≤cs.length)) (rdN cs o ks.length fun l=>XxZ e h rs fun vs=>K (.agg ⟨l⟩::vs))) (rd cs o fun v=>XxZ e h rs fun vs=>K (v::vs))
       | none=>False
     | none=>False
   | _=>False
theorem XxZ.elim {e:Env} {h:Hp}:∀ {rs:List XAY} {K:List Value→Prop},XxZ e h rs K→∃ vs,XpA e h rs=some vs∧K vs
 | [],K,hk=>⟨[],rfl,hk⟩
 | .tmp t::rs,K,hk=>by
   simp only [XxZ] at hk
   split at hk
   ·rename_i v hv
    obtain ⟨vs,h1,h2⟩:=XxZ.elim hk
    exact ⟨v::vs,by simp only [XpA,resV,hv,h1],h2⟩
   ·exact hk.elim
 | .cell t ks agg::rs,K,hk=>by
   simp only [XxZ] at hk
   split at hk
   ·rename_i b o hp
    split at hk
    ·rename_i ob hob
     split at hk
     ·rename_i cs hcs
      cases agg with
      | true=>
        obtain ⟨h1,h2⟩:=req.elim hk
        obtain ⟨_,h3⟩:=rdN.elim h2
        obtain ⟨vs,h4,h5⟩:=XxZ.elim h3
        exact ⟨_,by simp only [XpA,resV,hp,hob,hcs,↓reduceIte,if_pos (of_decide_eq_true h1),h4],h5⟩
      | false=>
        obtain ⟨v,h1,h2⟩:=rd.elim hk
        obtain ⟨vs,h4,h5⟩:=XxZ.elim h2
        exact ⟨_,by simp only [XpA,resV,hp,hob,hcs,Bool.false_eq_true,↓reduceIte,h1,h4],h5⟩
     ·exact hk.elim
    ·exact hk.elim
   ·exact hk.elim
def Xzz (o:Xbx) (K:Xbx→Prop):Prop:=
 match o with
 | .cells cs=>K (.cells cs)
 | .row own cs=>K (.row own cs)
 | .ty t cs=>K (.ty t cs)
 | .siter s p=>K (.siter s p)
 | .mp cs=>K (.mp cs)
 | .loop l=>K (.loop l)
 | .marks=>K .marks
theorem Xsy (o:Xbx) (K:Xbx→Prop):Xzz o K=K o:=by cases o<;>rfl
def XuS (h:Hp) (K:Hp→Prop):Prop:=
 match h with
 | []=>K []
 | (i,o)::l=>Xzz o fun o=>XuS l fun l=>K ((i,o)::l)
theorem XoV:∀ (h:Hp) (K:Hp→Prop),XuS h K=K h
 | [],K=>rfl
 | (i,o)::l,K=>by rw [XuS,Xsy,XoV l]
def XfS (s:Xb3) (vals:List Value) (h:Hp) (top:Nat) (K:Value→Hp→Nat→Prop):Prop:=
 match XiB s vals h top with
 | some (v,h',top')=>XhK v fun v=>XuS h' fun h'=>K v h' top'
 | none=>False
theorem XfS.elim {s:Xb3} {vals:List Value} {h:Hp} {top:Nat} {K:Value→Hp→Nat→Prop} (hk:XfS s vals h top K):∃ v h' top',XiB s vals h top=some (v,h',top')∧K v h' top':=by
 unfold XfS at hk
 split at hk
 ·rw [Xhu,XoV] at hk;exact ⟨_,_,_,by assumption,hk⟩
 ·exact hk.elim
def Xj1 (F:Fns) (S:Xl1) (o:XcW) (rest:List XcW) (k:List XfT) (fn nt:Nat) (env:Env) (defers:List Nat) (round:Option Nat) (up:List XbR) (h:Hp) (top:Nat) (K:VM→Prop):Prop:=
 match o with
 | ⟨dst,op,g⟩=>match Xmo env op.ops with
   | none=>False
   | some vals=>match op with
     | .callF f _=>match S f with
       | some s=>XfS s vals h top fun v h' top'=>Xr2 nt env dst v fun e=>K ⟨⟨fn,nt,e,.inReg rest::k,defers,false,round⟩,up,h',top'⟩
       | none=>Xpq F f vals fun c=>K ⟨c,⟨fn,nt,env,.inReg (⟨dst,op,g⟩::rest)::k,defers,false,round⟩::up,h,top⟩
     | .callV _ _=>match vals with
       | .func (.func f) ⟨first⟩ ⟨caps⟩::args=>match S f with
         | some s=>XfS s (first++args++caps) h top fun v h' top'=>Xr2 nt env dst v fun e=>K ⟨⟨fn,nt,e,.inReg rest::k,defers,false,round⟩,up,h',top'⟩
         | none=>Xpq F f (first++args++caps) fun c=>K ⟨c,⟨fn,nt,env,.inReg (⟨dst,op,g⟩::rest)::k,defers,false,round⟩::up,h,top⟩
       | .func (.yield l) ⟨[]⟩ ⟨[]⟩::args=>match XmM l args h with
         | some c=>K ⟨c,⟨fn,nt,env,.inReg (⟨dst,op,g⟩::rest)::k,defers,false,round⟩::up,h,top⟩
         | none=>False
       | _=>False
     | op=>opK op vals h top fun v h' top'=>match v with
       | some v=>Xr2 nt env dst v fun e=>K ⟨⟨fn,nt,e,.inReg rest::k,defers,false,round⟩,up,h',top'⟩
       | none=>Xr2 nt env dst Xhy fun e=>K ⟨⟨fn,nt,e,.inReg rest::k,defers,false,round⟩,up,h',top'⟩
theorem Xj1.elim {F:Fns} {S:Xl1} {o:XcW} {rest:List XcW} {k:List XfT} {fn nt:Nat} {env:Env} {todo:List XfT} {defers:List Nat} {round:Option Nat} {up:List XbR} {h:Hp} {top:Nat} {K:VM→Prop}
 (hk:Xj1 F S o rest k fn nt env defers round up h top K):∃ vm',Xs4 F S o rest k ⟨fn,nt,env,todo,defers,false,round⟩ up h top=some vm'∧K vm':=by
 obtain ⟨dst,op,g⟩:=o
 unfold Xj1 at hk
 unfold Xs4
 simp only at hk ⊢
 split at hk
 ·exact hk.elim
 ·rename_i vals hv
  simp only [hv]
  split at hk
  ·rename_i f xs
   split at hk
   ·rename_i s hs
    obtain ⟨v,h',top',h1,h2⟩:=hk.elim
    rw [Xh1] at h2
    exact ⟨_,by simp only [hs,h1],h2⟩
   ·rename_i hs
    obtain ⟨c,h1,h2⟩:=hk.elim
    exact ⟨_,by simp only [hs,h1],h2⟩
  ·split at hk
   ·split at hk
    ·rename_i s hs
     obtain ⟨v,h',top',h1,h2⟩:=hk.elim
     rw [Xh1] at h2
     exact ⟨_,by simp only [hs,h1],h2⟩
    ·rename_i hs
     obtain ⟨c,h1,h2⟩:=hk.elim
     exact ⟨_,by simp only [hs,h1],h2⟩
   ·split at hk
    ·rename_i c hc
     exact ⟨_,by simp only [hc],hk⟩
    ·exact hk.elim
   ·exact hk.elim
  ·rename_i hne1 hne2
   obtain ⟨v,h',top',h1,h2⟩:=hk.elim
   refine ⟨⟨⟨fn,nt,Xo6 nt env dst (v.getD Xhy),.inReg rest::k,defers,false,round⟩,up,h',top'⟩,?_,?_⟩
   ·split
    ·exact absurd rfl (hne1 _ _)
    ·exact absurd rfl (hne2 _ _)
    ·simp only [h1]
   ·cases v with
    | none=>simp only [Xh1] at h2;exact h2
    | some v=>simp only [Xh1] at h2;exact h2
def XpB (e:Env) (d:Nat) (x:Bool) (K:Env→Prop):Prop:=
 match e with
 | []=>K []
 | (i,v)::l=>cond (Nat.beq i d) (K ((i,.bool x)::l)) (XpB l d x fun l'=>K ((i,v)::l'))
theorem Xmk:∀ {e:Env} {d:Nat} {x:Bool} {K:Env→Prop},XaI e d=some (.bool x)→XpB e d x K=K e
 | [],d,x,K,h=>rfl
 | (i,v)::l,d,x,K,h=>by
   simp only [XaI] at h
   simp only [XpB]
   cases hb:Nat.beq i d with
   | true=>rw [hb,cond_true,Option.some.injEq] at h;subst h;rfl
   | false=>rw [hb,cond_false] at h;simp only [cond_false];rw [Xmk h]
def XhW (l:Nat) (jump:Option VC) (up:List XbR) (h:Hp) (top:Nat) (K:VM→Prop):Prop:=
 match Xh5 l jump up h top with
 | some ⟨u,us,h',top'⟩=>K ⟨u,us,h',top'⟩
 | none=>False
theorem XhW.elim {l:Nat} {jump:Option VC} {up:List XbR} {h:Hp} {top:Nat} {K:VM→Prop} (hk:XhW l jump up h top K):∃ vm',Xh5 l jump up h top=some vm'∧K vm':=by
 unfold XhW at hk
 split at hk
 ·exact ⟨_,by assumption,hk⟩
 ·exact hk.elim
def XlS (l:List Nat) (K:List Nat→Prop):Prop:=
 match l with
 | []=>K []
 | n::l=>XlS l (fun l'=>K (n::l'))
theorem XjQ:∀ (l:List Nat) (K:List Nat→Prop),XlS l K=K l
 | [],_=>rfl
 | v::l,K=>by rw [XlS,XjQ l]
def XkG (S:Xl1) (nt:Nat) (o:XcW) (e:Env) (h:Hp) (m:Nat) (K:Env→Hp→Nat→List Nat→List Nat→Prop):Prop:=
 match o with
 | ⟨dst,op,_⟩=>match Xmo e op.ops with
   | none=>False
   | some vals=>match op with
     | .callF f _=>match S f with
       | some s=>XfS s vals h m fun v h' m'=>Xr2 nt e dst v fun e=>XlS (Xdn (Xkn h s.modes vals)) fun r=>XlS (Xl4 (Xkn h s.modes vals)) fun w=>K e h' m' r w
       | none=>False
     | .callV _ _=>match vals with
       | .func (.func f) ⟨first⟩ ⟨caps⟩::args=>match S f with
         | some s=>XfS s (first++args++caps) h m fun v h' m'=>Xr2 nt e dst v fun e=>XlS (Xdn (Xkn h s.modes (first++args++caps))) fun r=>XlS (Xl4 (Xkn h s.modes (first++args++caps))) fun w=>K e h' m' r w
         | none=>False
       | _=>False
     | op=>opK op vals h m fun v h' m'=>match v with
       | some v=>Xr2 nt e dst v fun e=>K e h' m' (needs op vals) (cond (XxD op) (needs op vals) [])
       | none=>Xr2 nt e dst Xhy fun e=>K e h' m' (needs op vals) (cond (XxD op) (needs op vals) [])
theorem XkG.elim {S:Xl1} {nt:Nat} {o:XcW} {e:Env} {h:Hp} {m:Nat} {K:Env→Hp→Nat→List Nat→List Nat→Prop} (hk:XkG S nt o e h m K) (hw:Xd7 e o.g=some true) :
 ∃ e' h' m' r w,stepD S nt o e h m=some (e',h',m',r,w)∧K e' h' m' r w:=by
 obtain ⟨dst,op,g⟩:=o
 unfold XkG at hk
 simp only at hk hw
 unfold stepD
 simp only [hw]
 split at hk
 ·exact hk.elim
 ·rename_i vals hv
  simp only [hv]
  split at hk
  ·split at hk
   ·rename_i s hs
    obtain ⟨v,h',m',h1,h2⟩:=hk.elim
    rw [Xh1,XjQ,XjQ] at h2
    exact ⟨_,_,_,_,_,by simp only [hs,h1],h2⟩
   ·exact hk.elim
  ·split at hk
   ·split at hk
    ·rename_i s hs
     obtain ⟨v,h',m',h1,h2⟩:=hk.elim
     rw [Xh1,XjQ,XjQ] at h2
     exact ⟨_,_,_,_,_,by simp only [hs,h1],h2⟩
    ·exact hk.elim
   ·exact hk.elim
  ·rename_i hne1 hne2
   obtain ⟨v,h',m',h1,h2⟩:=hk.elim
   refine ⟨Xo6 nt e dst (v.getD Xhy),h',m',needs op vals,cond (XxD op) (needs op vals) [],?_,?_⟩
   ·split
    ·exact absurd rfl (hne1 _ _)
    ·exact absurd rfl (hne2 _ _)
    ·simp only [h1]
   ·cases v with
    | none=>simp only [Xh1] at h2;exact h2
    | some v=>simp only [Xh1] at h2;exact h2
def Xvb (S:Xl1) (nt:Nat) (o:XcW) (e:Env) (h:Hp) (m:Nat) (K:Env→Hp→Nat→List Nat→List Nat→Prop):Prop:=
 match o with
 | ⟨dst,op,none⟩=>XkG S nt ⟨dst,op,none⟩ e h m K
 | ⟨dst,op,some (d,x)⟩=>match XaI e d with
   | some (.bool b)=>cond x
      (br b (XpB e d true fun e=>XkG S nt ⟨dst,op,some (d,x)⟩ e h m K) (XpB e d false fun e=>Xr2 nt e dst Xhy fun e=>K e h m [] []))
      (br b (XpB e d true fun e=>Xr2 nt e dst Xhy fun e=>K e h m [] []) (XpB e d false fun e=>XkG S nt ⟨dst,op,some (d,x)⟩ e h m K))
   | some (.tuple ⟨[]⟩)=>Xr2 nt e dst Xhy fun e=>K e h m [] []
   | _=>False
def XwE (S:Xl1) (nt:Nat) (os:List XcW) (e:Env) (h:Hp) (m:Nat) (K:List Fp→Env→Hp→Nat→Prop):Prop:=
 match os with
 | []=>K [] e h m
 | o::os=>Xvb S nt o e h m fun e1 h1 m1 r w=>XwE S nt os e1 h1 (m1+1) fun fps e h m'=>K ((r,w++List.range' m (m1 - m))::fps) e h m'
theorem br.cases {b:Bool} {p q:Prop} (h:br b p q):(b=true∧p)∨(b=false∧q):=by cases b;exact .inr ⟨rfl,h⟩;exact .inl ⟨rfl,h⟩
theorem Xvb.elim {S:Xl1} {nt:Nat} {o:XcW} {e:Env} {h:Hp} {m:Nat} {K:Env→Hp→Nat→List Nat→List Nat→Prop} (hk:Xvb S nt o e h m K) :
 ∃ e' h' m' r w,stepD S nt o e h m=some (e',h',m',r,w)∧K e' h' m' r w:=by
 obtain ⟨dst,op,g⟩:=o
 cases g with
 | none=>exact XkG.elim (o:=⟨dst,op,none⟩) hk rfl
 | some p=>
   obtain ⟨d,x⟩:=p
   simp only [Xvb] at hk
   have skip:Xd7 e (some (d,x))=some false→(Xr2 nt e dst Xhy fun e=>K e h m [] [])→∃ e' h' m' r w,stepD S nt ⟨dst,op,some (d,x)⟩ e h m=some (e',h',m',r,w)∧K e' h' m' r w:=fun hw hk=>by
    rw [Xh1] at hk
    exact ⟨_,_,_,_,_,by simp only [stepD,hw],hk⟩
   split at hk
   ·rename_i b hb
    cases x with
    | true=>
      rw [cond_true] at hk
      rcases hk.cases with ⟨rfl,hk⟩|⟨rfl,hk⟩<;>rw [Xmk hb] at hk
      ·exact XkG.elim (show XkG S nt ⟨dst,op,some (d,true)⟩ e h m K from hk) (by simp [Xd7,hb])
      ·exact skip (by simp [Xd7,hb]) hk
    | false=>
      rw [cond_false] at hk
      rcases hk.cases with ⟨rfl,hk⟩|⟨rfl,hk⟩<;>rw [Xmk hb] at hk
      ·exact skip (by simp [Xd7,hb]) hk
      ·exact XkG.elim (show XkG S nt ⟨dst,op,some (d,false)⟩ e h m K from hk) (by simp [Xd7,hb])
   ·rename_i hb
    exact skip (by simp [Xd7,hb]) hk
   ·exact hk.elim
theorem XwE.elim {S:Xl1} {nt:Nat}:∀ {os:List XcW} {e:Env} {h:Hp} {m:Nat} {K:List Fp→Env→Hp→Nat→Prop},XwE S nt os e h m K→∃ fps e' h' m',XHD S nt os e h m=some (fps,e',h',m')∧K fps e' h' m'
 | [],e,h,m,K,hk=>⟨_,_,_,_,rfl,hk⟩
 | o::os,e,h,m,K,hk=>by
   simp only [XwE] at hk
   obtain ⟨e1,h1,m1,r,w,g1,g2⟩:=hk.elim
   obtain ⟨fps,e',h',m',k1,k2⟩:=XwE.elim g2
   exact ⟨_,_,_,_,by simp only [XHD,g1,k1],k2⟩
def Xxv (F:Fns) (S:Xl1) (f:Nat) (lp:Bool) (L:VM→Prop) (E:Value→Hp→Nat→Prop) (K:VM→Prop):VM→Prop
 | ⟨⟨fn,nt,env,todo,defers,ret,round⟩,up,h,top⟩=>
   match ret with
   | true=>match defers with
     | r::ds=>match XaI h r with
       | some .marks=>Xt4 h r fun h'=>K ⟨⟨fn,nt,env,todo,ds,true,round⟩,up,h',top⟩
       | _=>False
     | []=>match F fn with
       | some ⟨_,_,rs⟩=>XxZ env h rs fun vs=>match up with
         | u::us=>XhK (XGp vs) fun v=>XrU u v fun u'=>K ⟨u',us,h,top⟩
         | []=>cond (Nat.beq fn f) (XhK (XGp vs) fun v=>E v h top) False
       | none=>False
   | false=>match todo with
     | []=>match round with
       | none=>K ⟨⟨fn,nt,env,[],defers,true,none⟩,up,h,top⟩
       | some l=>XhW l none up h top K
     | .code .ret::k=>match round with
       | none=>K ⟨⟨fn,nt,env,.code .ret::k,defers,true,none⟩,up,h,top⟩
       | some l=>XhW l (some .ret) up h top K
     | .code .skip::k=>K ⟨⟨fn,nt,env,k,defers,false,round⟩,up,h,top⟩
     | .inScope::k=>K ⟨⟨fn,nt,env,k,defers,false,round⟩,up,h,top⟩
     | .code (.scope b)::k=>K ⟨⟨fn,nt,env,.code b::.inScope::k,defers,false,round⟩,up,h,top⟩
     | .inBlock _::k=>K ⟨⟨fn,nt,env,k,defers,false,round⟩,up,h,top⟩
     | .code (.seq a b)::k=>K ⟨⟨fn,nt,env,.code a::.code b::k,defers,false,round⟩,up,h,top⟩
     | .code (.cond c a b)::k=>match Xni env c with
       | some (.bool x)=>br x (K ⟨⟨fn,nt,env,.code a::k,defers,false,round⟩,up,h,top⟩) (K ⟨⟨fn,nt,env,.code b::k,defers,false,round⟩,up,h,top⟩)
       | _=>False
     | .code (.block id b)::k=>K ⟨⟨fn,nt,env,.code b::.inBlock id::k,defers,false,round⟩,up,h,top⟩
     | .code (.loop b)::k=>cond lp (L ⟨⟨fn,nt,env,.code b::.inLoop b::k,defers,false,round⟩,up,h,top⟩) (K ⟨⟨fn,nt,env,.code b::.inLoop b::k,defers,false,round⟩,up,h,top⟩)
     | .inLoop b::k=>cond lp (L ⟨⟨fn,nt,env,.code b::.inLoop b::k,defers,false,round⟩,up,h,top⟩) (K ⟨⟨fn,nt,env,.code b::.inLoop b::k,defers,false,round⟩,up,h,top⟩)
     | .code (.exit id)::k=>match exitTo id k with
       | some k'=>K ⟨⟨fn,nt,env,k',defers,false,round⟩,up,h,top⟩
       | none=>match round with
         | none=>False
         | some l=>XhW l (some (.exit id)) up h top K
     | .code (.reg ops)::k=>K ⟨⟨fn,nt,env,.inReg ops::k,defers,false,round⟩,up,h,top⟩
     | .code .stuck::_=>False
     | .code (.regD ops ord post)::k=>XwE S nt ops env h top fun fps e h m=>req (XnQ fps ord) (K ⟨⟨fn,nt,e,.inReg post::k,defers,false,round⟩,up,h,m⟩)
     | .inReg []::k=>K ⟨⟨fn,nt,env,k,defers,false,round⟩,up,h,top⟩
     | .inReg (⟨dst,op,none⟩::rest)::k=>Xj1 F S ⟨dst,op,none⟩ rest k fn nt env defers round up h top K
     | .inReg (⟨dst,op,some (d,w)⟩::rest)::k=>match XaI env d with
       | some (.bool b)=>cond w
          (br b (XpB env d true fun env=>Xj1 F S ⟨dst,op,some (d,w)⟩ rest k fn nt env defers round up h top K) (XpB env d false fun env=>Xr2 nt env dst Xhy fun e=>K ⟨⟨fn,nt,e,.inReg rest::k,defers,false,round⟩,up,h,top⟩))
          (br b (XpB env d true fun env=>Xr2 nt env dst Xhy fun e=>K ⟨⟨fn,nt,e,.inReg rest::k,defers,false,round⟩,up,h,top⟩) (XpB env d false fun env=>Xj1 F S ⟨dst,op,some (d,w)⟩ rest k fn nt env defers round up h top K))
       | some (.tuple ⟨[]⟩)=>Xr2 nt env dst Xhy fun e=>K ⟨⟨fn,nt,e,.inReg rest::k,defers,false,round⟩,up,h,top⟩
       | _=>False
     | .code (.rangeF f ps asg body)::k=>match Xni env f,round with
       | some (.func (.func g) ⟨first⟩ ⟨caps⟩),none=>
         Xpq F g (first++[.func (.yield (top+1)) #[] #[]]++caps) fun c=>XrL h top .marks fun h1=>XrL h1 (top+1) (.loop ⟨.ready,none,fn,nt,env,ps,asg,body,top⟩) fun h2=>
          K ⟨c,⟨fn,nt,env,.inRangeFunc (top+1)::k,top::defers,false,none⟩::up,h2,top+2⟩
       | some (.func (.func g) ⟨first⟩ ⟨caps⟩),some l0=>match XaI h l0 with
         | some (.loop r0)=>Xpq F g (first++[.func (.yield top) #[] #[]]++caps) fun c=>XrL h top (.loop ⟨.ready,none,fn,nt,env,ps,asg,body,r0.defers⟩) fun h2=>
            K ⟨c,⟨fn,nt,env,.inRangeFunc top::k,defers,false,some l0⟩::up,h2,top+1⟩
         | _=>False
       | _,_=>False
     | .inRangeFunc _::_=>False
     | .endRangeFunc l::k=>match XaI h l with
       | some (.loop ⟨st,pend,fn',nt',env',ps,asg,body,ds⟩)=>match st with
         | .busy=>False
         | _=>XrL h l (.loop ⟨.exhausted,pend,fn',nt',env',ps,asg,body,ds⟩) fun h'=>match pend with
           | some c=>K ⟨⟨fn,nt,env,.code c::k,defers,false,round⟩,up,h',top⟩
           | none=>K ⟨⟨fn,nt,env,k,defers,false,round⟩,up,h',top⟩
       | _=>False
     | .beginRound::k=>match round with
       | some l=>match XaI h l with
         | some (.loop ⟨st,pend,fn',nt',env',ps,asg,body,ds⟩)=>match st with
           | .ready=>XrL h l (.loop ⟨.busy,pend,fn',nt',env',ps,asg,body,ds⟩) fun h'=>K ⟨⟨fn,nt,env,k,defers,false,some l⟩,up,h',top⟩
           | _=>False
         | _=>False
       | none=>False
section
variable {P:Program} {F:Fns} {S:Xl1}
theorem XyC (hF:XkS P F) (hS:Xar P S) {f base:Nat} {lp:Bool} {R:Value→Hp→Nat→Prop} {K:VM→Prop} (hK:∀ vm,K vm→XaO P f base vm R) {vm:VM}
 (h:Xxv F S f lp (fun vm=>XaO P f base vm R) R K vm):XaO P f base vm R:=by
 obtain ⟨⟨fn,nt,env,todo,defers,ret,round⟩,up,H,top⟩:=vm
 unfold Xxv at h
 simp only at h
 have go:∀ vm',Xde F S ⟨⟨fn,nt,env,todo,defers,ret,round⟩,up,H,top⟩=some vm'→K vm'→XaO P f base ⟨⟨fn,nt,env,todo,defers,ret,round⟩,up,H,top⟩ R:=
  fun vm' h1 h2=>XaO.next hF hS h1 (hK _ h2)
 split at h
 ·split at h
  ·split at h
   ·rename_i hm
    rw [XmH] at h
    exact go _ (by simp only [Xde,hm]) h
   ·exact h.elim
  ·split at h
   ·rename_i nt' b' rs hf
    obtain ⟨vs,h1,h2⟩:=h.elim
    split at h2
    ·rw [Xhu] at h2
     obtain ⟨u',h3,h4⟩:=h2.elim
     exact go _ (by simp only [Xde,hf,h1,h3]) h4
    ·cases hb:Nat.beq fn f with
     | false=>rw [hb] at h2;exact h2.elim
     | true=>
       rw [hb,cond_true,Xhu] at h2
       have:=Nat.eq_of_beq_eq_true hb
       subst this
       exact XaO.stop hF hf h1 h2
   ·exact h.elim
 ·split at h
  ·split at h
   ·exact go _ (by simp only [Xde]) h
   ·obtain ⟨vm',h1,h2⟩:=h.elim
    exact go _ (by simp only [Xde,h1]) h2
  ·split at h
   ·exact go _ (by simp only [Xde]) h
   ·obtain ⟨vm',h1,h2⟩:=h.elim
    exact go _ (by simp only [Xde,h1]) h2
  ·exact go _ (by simp only [Xde]) h
  ·exact go _ (by simp only [Xde]) h
  ·exact go _ (by simp only [Xde]) h
  ·exact go _ (by simp only [Xde]) h
  ·exact go _ (by simp only [Xde]) h
  ·split at h
   ·rename_i x hx
    rcases h.cases with ⟨rfl,h⟩|⟨rfl,h⟩
    ·exact go _ (by simp only [Xde,hx];rfl) h
    ·exact go _ (by simp only [Xde,hx];rfl) h
   ·exact h.elim
  ·exact go _ (by simp only [Xde]) h
  ·cases lp
   ·exact go _ (by simp only [Xde]) h
   ·exact XaO.next hF hS (vm':=_) (by simp only [Xde]) h
  ·cases lp
   ·exact go _ (by simp only [Xde]) h
   ·exact XaO.next hF hS (vm':=_) (by simp only [Xde]) h
  ·split at h
   ·rename_i k' hk'
    exact go _ (by simp only [Xde,hk']) h
   ·rename_i hk'
    split at h
    ·exact h.elim
    ·obtain ⟨vm',h1,h2⟩:=h.elim
     exact go _ (by simp only [Xde,hk',h1]) h2
  ·exact go _ (by simp only [Xde]) h
  ·exact h.elim
  ·obtain ⟨fps,e',h',m',g1,g2⟩:=h.elim
   obtain ⟨g3,g4⟩:=g2.elim
   exact go _ (by simp only [Xde,g1,g3]) g4
  ·exact go _ (by simp only [Xde]) h
  ·obtain ⟨vm',h1,h2⟩:=Xj1.elim (todo:=_) h
   exact go _ (by simp only [Xde,Xd7];exact h1) h2
  ·split at h
   ·rename_i b hb
    rename_i w _ _ _
    cases w
    ·rcases h.cases with ⟨rfl,h'⟩|⟨rfl,h'⟩<;>rw [Xmk hb] at h'
     ·rw [Xh1] at h'
      replace h:=h'
      exact go _ (by simp only [Xde,Xd7,hb];rfl) h
     ·obtain ⟨vm',h1,h2⟩:=Xj1.elim (todo:=_) h'
      exact go _ (by simp only [Xde,Xd7,hb];exact h1) h2
    ·rcases h.cases with ⟨rfl,h'⟩|⟨rfl,h'⟩<;>rw [Xmk hb] at h'
     ·obtain ⟨vm',h1,h2⟩:=Xj1.elim (todo:=_) h'
      exact go _ (by simp only [Xde,Xd7,hb];exact h1) h2
     ·rw [Xh1] at h'
      replace h:=h'
      exact go _ (by simp only [Xde,Xd7,hb];rfl) h
   ·rename_i hb
    rw [Xh1] at h
    exact go _ (by simp only [Xde,Xd7,hb]) h
   ·exact h.elim
  ·split at h
   ·rename_i hfv
    obtain ⟨c,h1,h2⟩:=h.elim
    rw [Xjk,Xjk] at h2
    exact go _ (by simp only [Xde,hfv,h1]) h2
   ·rename_i hfv
    split at h
    ·rename_i r0 hr0
     obtain ⟨c,h1,h2⟩:=h.elim
     rw [Xjk] at h2
     exact go _ (by simp only [Xde,hfv,hr0,h1]) h2
    ·exact h.elim
   ·exact h.elim
  ·exact h.elim
  ·split at h
   ·rename_i hl
    split at h
    ·exact h.elim
    ·rename_i hb
     rw [Xjk] at h
     split at h
     ·rename_i st _ _ _ _ _ _ _ _ _ _
      exact go _ (by simp only [Xde,hl];cases st<;>first|exact absurd rfl hb|rfl) h
     ·rename_i st _ _ _ _ _ _ _ _ _
      exact go _ (by simp only [Xde,hl];cases st<;>first|exact absurd rfl hb|rfl) h
   ·exact h.elim
  ·split at h
   ·split at h
    ·rename_i hl
     split at h
     ·rw [Xjk] at h
      exact go _ (by simp only [Xde,hl]) h
     ·exact h.elim
    ·exact h.elim
   ·exact h.elim
def ev (F:Fns) (S:Xl1) (f:Nat) (lp:Bool) (L:VM→Prop) (E:Value→Hp→Nat→Prop):Nat→VM→Prop
 | 0,vm=>L vm
 | n+1,vm=>Xxv F S f lp L E (ev F S f lp L E n) vm
theorem XbD (hF:XkS P F) (hS:Xar P S) {f base:Nat} (lp:Bool) {R:Value→Hp→Nat→Prop}:∀ (n:Nat) {vm:VM},ev F S f lp (fun vm=>XaO P f base vm R) R n vm→XaO P f base vm R
 | 0,_,h=>h
 | n+1,_,h=>XyC hF hS (fun _ h=>XbD hF hS lp n h) h
end
end Go.Vm
namespace Go.Vm
open Go
def XPn (P:Program):List (Nat×VFn)→Prop
 | []=>True
 | (i,vf)::l=>(P.funcs[i]?).bind (XaG P)=some vf∧XPn P l
theorem XkS.Xa6 {P:Program}:∀ {l:List (Nat×VFn)},XPn P l→XkS P (XaI l)
 | [],_,f,vf,h=>by simp [XaI] at h
 | (i,v)::l,hl,f,vf,h=>by
   obtain ⟨h1,h2⟩:=hl
   simp only [XaI] at h
   cases hb:Nat.beq i f with
   | true=>
     rw [hb,cond_true,Option.some.injEq] at h
     subst h
     have:=Nat.eq_of_beq_eq_true hb
     subst this
     cases hf:P.funcs[i]? with
     | none=>simp [hf] at h1
     | some fn=>rw [hf,Option.bind_some] at h1;exact ⟨fn,rfl,h1⟩
   | false=>
     rw [hb,cond_false] at h
     exact XkS.Xa6 h2 f vf h
theorem Xar.none {P:Program}:Xar P (fun _=>none):=fun _ _ h=>by cases h
end Go.Vm
namespace Go.Vm
open Go
def subE (e:Env):Env→Prop
 | []=>True
 | (i,v)::l=>XaI e i=some v∧subE e l
theorem XuW {e:Env}:∀ {l:Env},subE e l→∀ i v,XaI l i=some v→XaI e i=some v
 | [],_,i,v,h=>by simp [XaI] at h
 | (j,u)::l,h,i,v,hv=>by
   obtain ⟨h1,h2⟩:=h
   simp only [XaI] at hv
   cases hb:Nat.beq j i with
   | true=>
     rw [hb,cond_true,Option.some.injEq] at hv
     subst hv
     have:=Nat.eq_of_beq_eq_true hb;subst this
     exact h1
   | false=>
     rw [hb,cond_false] at hv
     exact XuW h2 i v hv
theorem XaO.env {P:Program} {f base fn nt:Nat} {e e':Env} {todo:List XfT} {defers:List Nat} {ret:Bool} {round:Option Nat} {up:List XbR} {H:Hp} {top:Nat} {R:Value→Hp→Nat→Prop}
 (h:XaO P f base ⟨⟨fn,nt,e',todo,defers,ret,round⟩,up,H,top⟩ R) (hs:subE e e'):XaO P f base ⟨⟨fn,nt,e,todo,defers,ret,round⟩,up,H,top⟩ R:=by
 refine ⟨fun w0 U ρ rf rfs w cs hr=>?_⟩
 exact h.get w0 U ρ rf rfs w cs ⟨{ hr.cur with env:=fun i v hv=>hr.cur.env i v (XuW hs i v hv) },hr.up,hr.heap⟩
end Go.Vm
namespace Go.Vm
open Go Go.RowKit
inductive XIF where
 | v (x:Value)
 | sl (n:Nat) (cs:List Value)
def entry (k:Nat):List Md→List XIF→List Value
 | .v::ms,.v x::aqs=>x::entry k ms aqs
 | .sl sz::ms,.sl n _::aqs=>.slice (some ⟨k,0,none⟩) n sz::entry (k+1) ms aqs
 | _,_=>[]
def rowsOf (k:Nat):List XIF→Hp
 | .sl _ cs::aqs=>(k,.row false cs)::rowsOf (k+1) aqs
 | .v _::aqs=>rowsOf k aqs
 | []=>[]
def wins:List XIF→Nat
 | .sl _ _::aqs=>wins aqs+1
 | .v _::aqs=>wins aqs
 | []=>0
def ArgR (w:World):Md→XIF→Value→Prop
 | .v,.v x,rv=>XaY x=true∧rv=x
 | .sl sz,.sl n cs,rv=>((∃ a,rv=.slice a 0 0)∧n=0∧cs=[])∨∃ b o c,rv=.slice (some ⟨b,o,none⟩) n c∧n≤c∧∀ ρ,Xbu ρ w ⟨b,o,c*sz⟩ false cs
 | _,_,_=>False
inductive Xw8 (w:World):List Md→List XIF→List Value→Prop
 | nil:Xw8 w [] [] []
 | cons {m ms a aqs v vs} (h:ArgR w m a v) (t:Xw8 w ms aqs vs):Xw8 w (m::ms) (a::aqs) (v::vs)
theorem Xxx {k n:Nat} {ρc:Ren} {vs rvs:List Value} {Hr:Hp} {w:World} (c1:∀ i l,ρc i=some l→k+1≤i∧i<k+1+n) (c2:VRL ρc vs rvs)
 (c3:∀ i o,XaI Hr i=some o→∃ cs l,o=.row false cs∧ρc i=some l∧∀ ρ',Xbu ρ' w l false cs) (l:Loc) (cs:List Value) (hc:∀ ρ',Xbu ρ' w l false cs) :
 (∀ i l',upd ρc k l i=some l'→k≤i∧i<k+1+n)∧VRL (upd ρc k l) vs rvs ∧
   (∀ i o,XaI ((k,.row false cs)::Hr) i=some o→∃ cs l',o=.row false cs∧upd ρc k l i=some l'∧∀ ρ',Xbu ρ' w l' false cs)∧upd ρc k l k=some l:=by
 have hoff:ρc k=none:=by
  cases e:ρc k with
  | none=>rfl
  | some l=>have:=(c1 k l e).1;omega
 refine ⟨fun i l' e=>?_,c2.mono (Ext.upd hoff),fun i o e=>?_,upd_same _ _ _⟩
 ·by_cases hi:k=i
  ·subst hi;omega
  ·rw [upd_ne _ _ hi] at e;have:=c1 i l' e;omega
 ·rw [XkY] at e
  split at e
  ·rename_i hk
   cases e;subst hk
   exact ⟨cs,l,rfl,upd_same _ _ _,hc⟩
  ·rename_i hk
   obtain ⟨cs',l',a,b,c⟩:=c3 i o e
   exact ⟨cs',l',a,by rw [upd_ne _ _ hk];exact b,c⟩
theorem XpE {w:World}:∀ {ms:List Md} {aqs:List XIF} {rvals:List Value} (k:Nat),Xw8 w ms aqs rvals →
 ∃ ρc:Ren,(∀ i l,ρc i=some l→k≤i∧i<k+wins aqs)∧VRL ρc (entry k ms aqs) rvals ∧
  (∀ i o,XaI (rowsOf k aqs) i=some o→∃ cs l,o=.row false cs∧ρc i=some l∧∀ ρ',Xbu ρ' w l false cs)
 | _,_,_,k,.nil=>⟨fun _=>none,fun i l e=>by simp at e,.nil,fun i o e=>by simp [rowsOf,XaI] at e⟩
 | _,_,_,k,.cons (m:=m) (a:=a) (v:=v) h t=>by
   cases m with
   | v=>
     cases a with
     | v x=>
       obtain ⟨hf,rfl⟩:=h
       obtain ⟨ρc,c1,c2,c3⟩:=XpE k t
       exact ⟨ρc,c1,.cons (VR.flat _ _ hf) c2,c3⟩
     | _=>exact h.elim
   | sl sz=>
     cases a with
     | sl n cs=>
       obtain ⟨ρc,c1,c2,c3⟩:=XpE (k+1) t
       rcases h with ⟨⟨a,rfl⟩,rfl,rfl⟩|⟨b,o,c,rfl,hn,hc⟩
       ·obtain ⟨d1,d2,d3,d4⟩:=Xxx c1 c2 c3 ⟨0,0,0⟩ [] (fun ρ'=>⟨Nat.zero_le _,fun i v e=>by simp at e,fun i hi=>absurd hi (Nat.not_lt_zero _)⟩)
        exact ⟨_,by simpa [wins,Nat.add_assoc,Nat.add_comm 1] using d1,.cons (.slice0 _) d2,d3⟩
       ·obtain ⟨d1,d2,d3,d4⟩:=Xxx c1 c2 c3 ⟨b,o,c*sz⟩ cs hc
        exact ⟨_,by simpa [wins,Nat.add_assoc,Nat.add_comm 1] using d1,.cons (.slice d4 hn (by simp)) d2,d3⟩
     | _=>exact h.elim
   | pt n=>cases a<;>exact h.elim
   | tr ps=>cases a<;>exact h.elim
theorem XBd {P:Program} {F:Fns} (hF:XkS P F) {f:Nat} {ms:List Md} {aqs:List XIF} {rvals:List Value} {w:World} {c:XbR} {r:Bool}
 (ha:Xw8 w ms aqs rvals) (hc:Xju F f (entry 0 ms aqs)=some c) (hl:XaO P f (wins aqs) ⟨c,[],rowsOf 0 aqs,wins aqs⟩ (fun v _ _=>v=.bool r)) :
 Calls P f ⟨rvals⟩ w fun e w'=>e=.returned (.bool r)∧Below w.heap.size w w':=by
 intro cs
 obtain ⟨ρc,c1,c2,c3⟩:=XpE 0 ha
 have hpc:HpR P w UG.no ρc (rowsOf 0 aqs) (wins aqs) w:=
  { obj:=fun i o e=>by obtain ⟨cs',l,rfl,a,b⟩:=c3 i o e;exact ⟨l,a,b ρc,fun e=>by cases e⟩
    dis:=fun i j oi oj li lj _ hi _ _ _ hw=>by obtain ⟨cs',l,rfl,a,b⟩:=c3 i oi hi;cases hw
    lt:=fun i l e=>by have:=c1 i l e;exact .inr ⟨Nat.zero_le _,by omega⟩
    keep:=Keep.refl _ _ }
 obtain ⟨ρ',rv,fr',w',v',Hc,tc,g1,g2,g3,g4,g5,g6,g7⟩:=hl.get w _ ρc _ [] w cs ⟨(Xkb hF hc c2).1,.nil,hpc⟩
 subst g7
 obtain rfl:=g4.Xyc
 exact ⟨.returned (.bool r),w',fr',⟨rfl,g5.keep.toBelow⟩,g1,g2,g3⟩
end Go.Vm
namespace Go.Vm
open Go
def XHj (P:Program):List (Nat×Xb3)→Prop
 | []=>True
 | (i,s)::l=>Xb8 P i s∧XHj P l
theorem Xar.Xa6 {P:Program}:∀ {l:List (Nat×Xb3)},XHj P l→Xar P (XaI l)
 | [],_,f,s,h=>by simp [XaI] at h
 | (i,v)::l,hl,f,s,h=>by
   obtain ⟨h1,h2⟩:=hl
   simp only [XaI] at h
   cases hb:Nat.beq i f with
   | true=>
     rw [hb,cond_true,Option.some.injEq] at h
     subst h
     have:=Nat.eq_of_beq_eq_true hb
     subst this
     exact h1
   | false=>
     rw [hb,cond_false] at h
     exact Xar.Xa6 h2 f s h
theorem XfS.intro {s:Xb3} {vals:List Value} {h:Hp} {top:Nat} {K:Value→Hp→Nat→Prop} {v:Value} {h':Hp} {top':Nat} (e:XiB s vals h top=some (v,h',top')) (k:XhK v fun v=>K v h' top'):XfS s vals h top K:=by
 unfold XfS;rw [e];simp only [Xhu,XoV] at *;exact k
def unL {α:Type} (f:Value→Option α):List Value→Option (List α)
 | []=>some []
 | v::l=>match f v with
   | some x=>match unL f l with
     | some xs=>some (x::xs)
     | none=>none
   | none=>none
theorem Xym {α:Type} {f:Value→Option α} {g:α→Value} (h:∀ x,f (g x)=some x):∀ (xs:List α),unL f (xs.map g)=some xs
 | []=>rfl
 | x::xs=>by rw [List.map_cons,unL,h,Xym h xs]
theorem Xve {α:Type} {f:Value→Option α} {g:α→Value} (h:∀ v x,f v=some x→v=g x):∀ {cs:List Value} {xs:List α},unL f cs=some xs→cs=xs.map g
 | [],xs,e=>by simp only [unL,Option.some.injEq] at e;subst e;rfl
 | v::cs,xs,e=>by
   simp only [unL] at e
   split at e<;>try (cases e;done)
   rename_i x hx
   split at e<;>cases e
   rename_i ys hys
   rw [List.map_cons,←h v x hx,←Xve h hys]
theorem Xm3 {α:Type} {g:α→Value} (h:∀ x,XaY (g x)=true):∀ (xs:List α),XaY.flatL (xs.map g)=true
 | []=>rfl
 | x::xs=>by rw [List.map_cons,XaY.flatL,h,Xm3 h xs];rfl
def asB:Value→Option Bool|.bool b=>some b|_=>none
theorem XAu (v:Value) (x:Bool) (h:asB v=some x):v=.bool x:=by cases v<;>simp [asB] at h;subst h;rfl
def asI (k:IntKind):Value→Option Int|.int k' n=>if k'=k then some n else none|_=>none
theorem Xx4 (k:IntKind) (v:Value) (x:Int) (h:asI k v=some x):v=.int k x:=by
 cases v<;>simp [asI] at h
 obtain ⟨rfl,rfl⟩:=h;rfl
def reE (m:Nat→Option Nat) (e:Env):Env→Prop
 | []=>True
 | (i,v)::l=>(∃ v',XeR m v=some v'∧XaI e i=some v')∧reE m e l
theorem Xtm {m:Nat→Option Nat} {e:Env}:∀ {l:Env},reE m e l→XM9 m e l
 | [],_=>trivial
 | (i,v)::l,⟨⟨v',h1,h2⟩,h3⟩=>⟨by rw [h1];exact h2,Xtm h3⟩
def reH (m:Nat→Option Nat) (H:Hp):Hp→Prop
 | []=>True
 | (i,o')::l=>(∃ j o,m i=some j∧XaI H j=some o∧Xp4 m o o')∧reH m H l
theorem Xxp {m:Nat→Option Nat} {H:Hp}:∀ {l:Hp},reH m H l→HSub m H l
 | [],_,i,o,h=>by simp [XaI] at h
 | (k,x)::l,⟨h1,h2⟩,i,o,h=>by
   rw [XkY] at h
   split at h
   ·rename_i e;cases h;subst e;exact h1
   ·exact Xxp h2 i o h
def reU (m:Nat→Option Nat):List XbR→List XbR→Prop
 | [],[]=>True
 | ⟨fn,nt,e,td,ds,ret,rd⟩::l,⟨fn',nt',e',td',ds',ret',rd'⟩::l'=>(fn'=fn∧nt'=nt∧ret'=ret∧rd=none∧rd'=none∧reE m e e'∧XDl m td'=some td∧XEs m ds'=some ds)∧reU m l l'
 | _,_=>False
theorem Xxk {m:Nat→Option Nat}:∀ {l l':List XbR},reU m l l'→XkR (FSub m) l l'
 | [],[],_=>.nil
 | ⟨_,_,_,_,_,_,_⟩::l,⟨_,_,_,_,_,_,_⟩::l',⟨⟨h1,h2,h3,h4,h5,h6,h7,h8⟩,h9⟩=>.cons ⟨h1,h2,Xtm h6,h7,h8,h3,by simp only;rw [h4,h5];trivial⟩ (Xxk h9)
 | [],_::_,h=>h.elim
 | _::_,[],h=>h.elim
def Xrf (j:Nat):List (Nat×Nat)→Bool
 | []=>true
 | (_,k)::l=>cond (Nat.beq j k) false (Xrf j l)
def XBh (base top':Nat):List (Nat×Nat)→Bool
 | m=>injM m&&ltM m&&fixM m base
where
 injM:List (Nat×Nat)→Bool
  | []=>true
  | (_,j)::l=>Xrf j l&&injM l
 ltM:List (Nat×Nat)→Bool
  | []=>true
  | (i,_)::l=>Nat.blt i top'&&ltM l
 fixM (m:List (Nat×Nat)):Nat→Bool
  | 0=>true
  | n+1=>(match XaI m n with|some j=>Nat.beq j n|none=>false)&&fixM m n
theorem XkU {j:Nat}:∀ {l:List (Nat×Nat)},Xrf j l=true→∀ i,XaI l i≠some j
 | [],_,i,h=>by simp [XaI] at h
 | (a,k)::l,hv,i,h=>by
   simp only [Xrf] at hv
   cases hb:Nat.beq j k with
   | true=>rw [hb] at hv;cases hv
   | false=>
     rw [hb,cond_false] at hv
     rw [XkY] at h
     split at h
     ·cases h;simp at hb
     ·exact XkU hv i h
theorem XsU {top':Nat}:∀ {l:List (Nat×Nat)},XBh.injM l=true→∀ i j k,XaI l i=some k→XaI l j=some k→i=j
 | [],_,i,j,k,h,_=>by simp [XaI] at h
 | (a,b)::l,hv,i,j,k,h1,h2=>by
   simp only [XBh.injM,Bool.and_eq_true] at hv
   rw [XkY] at h1 h2
   split at h1<;>split at h2
   ·omega
   ·cases h1;exact absurd h2 (XkU hv.1 j)
   ·cases h2;exact absurd h1 (XkU hv.1 i)
   ·exact XsU (top':=top') hv.2 i j k h1 h2
theorem Xu0 {top':Nat}:∀ {l:List (Nat×Nat)},XBh.ltM top' l=true→∀ i j,XaI l i=some j→i<top'
 | [],_,i,j,h=>by simp [XaI] at h
 | (a,b)::l,hv,i,j,h=>by
   simp only [XBh.ltM,Bool.and_eq_true] at hv
   rw [XkY] at h
   split at h
   ·rename_i e;subst e;exact Nat.blt_eq.mp hv.1
   ·exact Xu0 hv.2 i j h
theorem XsL {m:List (Nat×Nat)}:∀ {n:Nat},XBh.fixM m n=true→∀ i,i<n→XaI m i=some i
 | 0,_,i,h=>absurd h (Nat.not_lt_zero _)
 | n+1,hv,i,h=>by
   simp only [XBh.fixM,Bool.and_eq_true] at hv
   by_cases hi:i=n
   ·subst hi
    have:=hv.1
    split at this
    ·rename_i j hj;rw [hj,Nat.eq_of_beq_eq_true this]
    ·cases this
   ·exact XsL hv.2 i (by omega)
theorem XaO.re {P:Program} {f base fn nt:Nat} {e e':Env} {todo todo':List XfT} {ds ds':List Nat} {ret:Bool} {up up':List XbR} {H H':Hp} {top top':Nat} {R:Value→Hp→Nat→Prop}
 (h:XaO P f base ⟨⟨fn,nt,e',todo',ds',ret,none⟩,up',H',top'⟩ R) (m:List (Nat×Nat)) (hc:XBh base top' m=true) (he:reE (XaI m) e e') (hH:reH (XaI m) H H')
 (ht:XDl (XaI m) todo'=some todo:=by rfl) (hd:XEs (XaI m) ds'=some ds:=by rfl) (hu:reU (XaI m) up up':=by trivial) :
 XaO P f base ⟨⟨fn,nt,e,todo,ds,ret,none⟩,up,H,top⟩ R:=by
 simp only [XBh,Bool.and_eq_true] at hc
 refine XaO.sub (s:=XaI m) ?_ h
 exact ⟨⟨rfl,rfl,Xtm he,ht,hd,rfl,trivial⟩,Xxk hu,Xxp hH,XsU (top':=top') hc.1.1,Xu0 hc.1.2,XsL hc.2⟩
end Go.Vm
namespace Go.Vm
open Go Go.RowKit Go.WideShapes
def Xo5 (g:TypeId→Option (List SK)) (P:Program) (o:Nat):List Field→Option (List SK)
 | []=>some []
 | f::fs=>if f.offset=o then match g f.type with
   | some a=>if a.length=P.cellsOf f.type then match Xo5 g P (o+a.length) fs with
     | some b=>some (a++b)
     | none=>none
     else none
   | none=>none
   else none
def XyA (P:Program):Nat→TypeId→Option (List SK)
 | 0,_=>none
 | n+1,t=>match P.underlying t with
   | some .bool=>some [.bool]
   | some (.int k)=>some [.int k]
   | some .string=>some [.str]
   | some (.struct fs)=>match Xo5 (XyA P n) P 0 fs.toList with
     | some ks=>if ks.length=P.cellsOf t then some ks else none
     | none=>none
   | _=>none
def XoI:SK→Value→Prop
 | .bool,v=>∃ b,v=.bool b
 | .int k,v=>∃ n,v=.int k n∧(Lit.int k n).wf=true
 | .str,v=>∃ s,v=.string s∧s.size≤maxLen
 | .oth,_=>False
def XfD:List SK→List Value→Prop
 | [],[]=>True
 | k::ks,v::vs=>XoI k v∧XfD ks vs
 | _,_=>False
theorem XfD.append:∀ {a b:List SK} {x y:List Value},XfD a x→XfD b y→XfD (a++b) (x++y)
 | [],_,[],_,_,k=>k
 | [],_,_::_,_,h,_=>h.elim
 | _::_,_,[],_,h,_=>h.elim
 | _::_,_,_::_,_,h,k=>⟨h.1,XfD.append h.2 k⟩
theorem XfD.length:∀ {a:List SK} {x:List Value},XfD a x→x.length=a.length
 | [],[],_=>rfl
 | [],_::_,h=>h.elim
 | _::_,[],h=>h.elim
 | _::_,_::_,h=>by simp [XfD.length h.2]
theorem XfD.inv {k:SK} {ks:List SK} {cs:List Value} (h:XfD (k::ks) cs):∃ v vs,cs=v::vs∧XoI k v∧XfD ks vs:=by
 cases cs with
 | nil=>exact h.elim
 | cons v vs=>exact ⟨v,vs,rfl,h⟩
theorem XfD.inv0 {cs:List Value} (h:XfD [] cs):cs=[]:=by
 cases cs with
 | nil=>rfl
 | cons=>exact h.elim
section
variable {H:Type} {enc:TypeId×Value→H} {P:Program} {w:World} {base:Nat} {spare:Nat→Bool} {held:Bool}
theorem Xqt {g:TypeId→Option (List SK)} {F:TypeId→List Value→Prop} (hg:∀ t ks cs,g t=some ks→F t cs→XfD ks cs) {cs:List Value} :
 ∀ {fs:List Field} {o:Nat} {ks:List SK},Xo5 g P o fs=some ks→(∀ f∈fs,F f.type ((cs.drop f.offset).take (P.cellsOf f.type)))→XfD ks ((cs.drop o).take ks.length)
 | [],o,ks,h,_=>by simp only [Xo5,Option.some.injEq] at h;subst h;simp [XfD]
 | f::fs,o,ks,h,hm=>by
   simp only [Xo5] at h
   split at h<;>try (cases h;done)
   rename_i ho
   split at h<;>try (cases h;done)
   rename_i a ha
   split at h<;>try (cases h;done)
   rename_i hl
   split at h<;>cases h
   rename_i b hb
   have h1:=hg f.type a _ ha (hm f (by simp))
   have h2:=Xqt hg hb (fun f' hf=>hm f' (by simp [hf]))
   have h3:=h1.append h2
   rw [ho,←hl] at h3
   rw [List.length_append,List.take_add,List.drop_drop]
   exact h3
theorem Xs3:∀ {n:Nat} {t:TypeId} {ks:List SK} {fuel:Nat} {cs:List Value} {x:DataW H×List MemPlace},XyA P n t=some ks→DataW.trod enc P w base spare held fuel t cs=some x→XfD ks cs
 | 0,t,ks,fuel,cs,x,h,_=>by simp [XyA] at h
 | n+1,t,ks,fuel,cs,x,h,hd=>by
   simp only [XyA] at h
   split at h
   ·rename_i ht
    cases h
    obtain ⟨b,rfl,_⟩:=DataW.trod_bool ht hd
    exact ⟨⟨_,rfl⟩,trivial⟩
   ·rename_i k ht
    cases h
    obtain ⟨b,rfl,_,hw⟩:=DataW.trod_int ht hd
    exact ⟨⟨_,rfl,hw⟩,trivial⟩
   ·rename_i ht
    cases h
    obtain ⟨b,rfl,_,hw⟩:=DataW.trod_string ht hd
    exact ⟨⟨_,rfl,hw⟩,trivial⟩
   ·rename_i fs ht
    split at h<;>try (cases h;done)
    rename_i ks' hks
    split at h<;>cases h
    rename_i hlen
    obtain ⟨xs,m,_,_,hcl,hxl,hf⟩:=DataW.trod_struct ht hd
    have:=Xqt (P:=P) (cs:=cs) (F:=fun t cs=>∃ x,DataW.trod enc P w base spare held m t cs=some x) (fun t ks cs h1 ⟨x,h2⟩=>Xs3 h1 h2) hks (fun f hfm=>by
     obtain ⟨i,hi⟩:=List.getElem?_of_mem hfm
     rw [Array.getElem?_toList] at hi
     have hlt:i<xs.length:=by rw [hxl];exact (Array.getElem?_eq_some_iff.1 hi).1
     exact ⟨xs[i],by rw [hf i f hi,List.getElem?_eq_getElem hlt]⟩)
    rw [List.drop_zero,List.take_of_length_le (by omega)] at this
    exact this
   ·cases h
theorem XTF {r:Reach} {b0 n:Nat} {t:TypeId} {ks:List SK} {v:Value} {d:DataW H} {ps:List MemPlace} (hk:XyA P n t=some ks) (hval:Value.okWide P w r b0 t v) (hd:DataW.Trod enc P w base spare held t v d ps) :
 XfD ks (Xa2 v)∧((Xeu P t=true∧v=.agg ⟨Xa2 v⟩)∨Xeu P t=false):=by
 obtain ⟨fuel,hf⟩:=hd
 refine ⟨Xs3 hk hf,?_⟩
 unfold Value.okWide at hval
 unfold Xeu
 split at hval
 ·rename_i hu;rw [hu]
  obtain ⟨cs,rfl,_⟩:=hval
  exact .inl ⟨rfl,rfl⟩
 ·rename_i hu;rw [hu]
  obtain ⟨cs,rfl,_⟩:=hval
  exact .inl ⟨rfl,rfl⟩
 ·rename_i h1 h2
  right
  split
  ·rename_i hu;exact absurd hu (h1 _)
  ·rename_i hu;exact absurd hu (h2 _ _)
  ·rfl
def RowR (w:World) (k:SK) (a:Option Addr) (len cap:Nat) (zs:List Value):Prop:=
 (a=none∧len=0∧cap=0∧zs=[])∨∃ x,a=some x∧len≤cap∧cap≤maxLen∧zs.length=cap∧∀ (i:Nat) v,zs[i]?=some v→w.cell? (x.add i)=some v∧XoI k v
theorem XoI.flat {k:SK} {v:Value} (h:XoI k v):XaY v=true:=by
 cases k with
 | bool=>obtain ⟨b,rfl⟩:=h;rfl
 | int k=>obtain ⟨b,rfl,_⟩:=h;rfl
 | str=>obtain ⟨b,rfl,_⟩:=h;rfl
 | oth=>exact h.elim
theorem ArgR.row {k:SK} {w:World} {a:Option Addr} {len cap:Nat} {zs:List Value} (h:RowR w k a len cap zs):ArgR w (.sl 1) (.sl len (zs.take len)) (.slice a len cap)∧(zs.take len).length=len∧(∀ v∈zs.take len,XoI k v)∧len≤maxLen:=by
 rcases h with ⟨rfl,rfl,rfl,rfl⟩|⟨x,rfl,hl,hm,hz,hc⟩
 ·exact ⟨.inl ⟨⟨_,rfl⟩,rfl,rfl⟩,rfl,fun v hv=>by simp at hv,by simp [maxLen]⟩
 ·have hleaf:∀ v∈zs.take len,XoI k v:=fun v hv=>by
   obtain ⟨i,hi⟩:=List.getElem?_of_mem (List.mem_of_mem_take hv)
   exact (hc i v hi).2
  refine ⟨?_,by simp;omega,hleaf,by omega⟩
  rcases Nat.eq_zero_or_pos cap with h0|h0
  ·subst h0
   obtain rfl:len=0:=by omega
   exact .inl ⟨⟨_,rfl⟩,rfl,by simp⟩
  ·have hs:x.spot=none:=by
    have:=(hc 0 zs[0] (List.getElem?_eq_getElem (by omega))).1
    cases hx:x.spot with
    | none=>rfl
    | some q=>
      simp only [Addr.add,↓reduceIte,World.cell?] at this
      split at this
      ·simp [hx] at this
      ·cases this
   obtain ⟨b,o,q⟩:=x
   simp only at hs
   subst hs
   have hadd:∀ i,(⟨b,o,none⟩:Addr).add i=⟨b,o+i,none⟩:=fun i=>by
    unfold Addr.add;split
    ·rename_i e;subst e;rfl
    ·rfl
   refine .inr ⟨b,o,cap,rfl,hl,fun ρ=>⟨by simp;omega,fun i v e=>?_,fun i hi=>?_⟩⟩
   ·have hi:i<len:=by
     rcases Nat.lt_or_ge i len with h|h
     ·exact h
     ·rw [List.getElem?_eq_none (by simp;omega)] at e;cases e
    rw [List.getElem?_take_of_lt hi] at e
    obtain ⟨h1,h2⟩:=hc i v e
    rw [hadd] at h1
    exact ⟨v,h1,VR.flat ρ v h2.flat⟩
   ·have hi':i<zs.length:=by simp at hi;omega
    obtain ⟨h1,_⟩:=hc i zs[i] (List.getElem?_eq_getElem hi')
    rw [hadd] at h1
    exact ⟨by simp [h1],fun e=>by cases e⟩
end
theorem wf_u8 {n:Int} (h:(Lit.int .u8 n).wf=true):0≤n∧n<256:=by simp [Lit.wf,IntKind.min,IntKind.max,IntKind.signed,IntKind.bits] at h;omega
theorem wf_u64 {n:Int} (h:(Lit.int .u64 n).wf=true):0≤n∧n<18446744073709551616:=by simp [Lit.wf,IntKind.min,IntKind.max,IntKind.signed,IntKind.bits] at h;omega
end Go.Vm
namespace Go.Vm
open Go Go.RowKit
abbrev wI (k:IntKind) (n:Int):Int:=IntKind.wrap k n
abbrev Xm8 (k:IntKind) (a b:Int):Int:=IntKind.wrap k (BitVec.ofInt k.bits a &&& BitVec.ofInt k.bits b).toNat
abbrev Xwm (k:IntKind) (a b:Int):Int:=IntKind.wrap k (BitVec.ofInt k.bits a ||| BitVec.ofInt k.bits b).toNat
abbrev Xks (k:IntKind) (a b:Int):Int:=IntKind.wrap k (BitVec.ofInt k.bits a &&& ~~~ BitVec.ofInt k.bits b).toNat
def XbU {α:Type} (b:Bool) (x:Option α):Option α:=match b with|true=>x|false=>none
theorem XbU.elim {α:Type} {b:Bool} {x:Option α} {r:α} (h:XbU b x=some r):b=true∧x=some r:=by cases b;cases h;exact ⟨rfl,h⟩
theorem XbU.mk {α:Type} {b:Bool} {x:Option α} (h:b=true):XbU b x=x:=by subst h;rfl
theorem Xdj.elim {α β:Type} {x:Option α} {F:α→Option β} {r:β} (h:x.bind F=some r):∃ a,x=some a∧F a=some r:=by cases x with|none=>cases h|some a=>exact ⟨a,rfl,h⟩
def FUEL:Nat:=2^64
def iter {σ ρ:Type} (f:σ→Option (Sum σ ρ)):Nat→σ→Option ρ
 | 0,_=>none
 | n+1,s=>match f s with
   | none=>none
   | some (.inl s')=>iter f n s'
   | some (.inr r)=>some r
theorem Xdh {σ ρ:Type} {P:Program} {f base:Nat} {R:Value→Hp→Nat→Prop} {step:σ→Option (Sum σ ρ)} {head:σ→VM} {C:ρ→Prop}
 (h:∀ s o,step s=some o→Sum.elim (fun s'=>XaO P f base (head s') R) C o→XaO P f base (head s) R) :
 ∀ n s r,iter step n s=some r→C r→XaO P f base (head s) R
 | 0,_,_,e,_=>by cases e
 | n+1,s,r,e,hc=>by
   rw [iter] at e
   split at e
   ·cases e
   ·rename_i s' hs
    exact h s _ hs (Xdh h n s' r e hc)
   ·rename_i r' hs
    cases e
    exact h s _ hs hc
def vI (k:IntKind) (xs:List Int):List Value:=xs.map (Value.int k)
def vB (xs:List Bool):List Value:=xs.map Value.bool
def vS (xs:List (List UInt8)):List Value:=xs.map fun s=>Value.string ⟨⟨s⟩⟩
def bI (l:List UInt8):List Int:=l.map fun b=>(b.toNat:Int)
def iB (xs:List Int):List UInt8:=xs.map fun n=>UInt8.ofNat n.toNat
@[simp] theorem vI_len (k:IntKind) (xs:List Int):(vI k xs).length=xs.length:=List.length_map _
@[simp] theorem vB_len (xs:List Bool):(vB xs).length=xs.length:=List.length_map _
@[simp] theorem vS_len (xs:List (List UInt8)):(vS xs).length=xs.length:=List.length_map _
@[simp] theorem bI_len (l:List UInt8):(bI l).length=l.length:=List.length_map _
@[simp] theorem iB_len (l:List Int):(iB l).length=l.length:=List.length_map _
theorem XjC (k:IntKind) (xs:List Int):XaY.flatL (vI k xs)=true:=Xm3 (fun _=>rfl) xs
theorem Xnn (xs:List Bool):XaY.flatL (vB xs)=true:=Xm3 (fun _=>rfl) xs
theorem Xnq (xs:List (List UInt8)):XaY.flatL (vS xs)=true:=Xm3 (fun _=>rfl) xs
theorem XlB (k:IntKind):∀ (xs:List Int),(vI k xs).all Xiq=true
 | []=>rfl
 | _::xs=>by simp only [vI,List.map_cons,List.all_cons,Xiq,Bool.true_and];exact XlB k xs
theorem Xo1:∀ (xs:List Bool),(vB xs).all Xiq=true
 | []=>rfl
 | _::xs=>by simp only [vB,List.map_cons,List.all_cons,Xiq,Bool.true_and];exact Xo1 xs
theorem XpH:∀ (xs:List (List UInt8)),(vS xs).all Xiq=true
 | []=>rfl
 | _::xs=>by simp only [vS,List.map_cons,List.all_cons,Xiq,Bool.true_and];exact XpH xs
theorem XiR (l:List UInt8):ofBytes l=vI .u8 (bI l):=by simp [ofBytes,vI,bI,List.map_map]
theorem XnG:∀ (xs:List Int),Xgw (vI .u8 xs)=some (iB xs)
 | []=>rfl
 | x::xs=>by simp only [vI,List.map_cons,Xgw];rw [show Xgw (xs.map (Value.int .u8))=_ from XnG xs];rfl
theorem XNl (k:IntKind) (xs:List Int) (i:Nat) (x:Int):(vI k xs).set i (.int k x)=vI k (xs.set i x):=by simp [vI,List.map_set]
theorem Xpy (k:IntKind) (xs:List Int) (n:Nat):(vI k xs).drop n=vI k (xs.drop n):=by simp [vI,List.map_drop]
theorem XpJ (k:IntKind) (xs:List Int) (n:Nat):(vI k xs).take n=vI k (xs.take n):=by simp [vI,List.map_take]
theorem XIo (xs:List Bool) (n:Nat):(vB xs).drop n=vB (xs.drop n):=by simp [vB,List.map_drop]
theorem XLu (xs:List Bool) (n:Nat):(vB xs).take n=vB (xs.take n):=by simp [vB,List.map_take]
theorem Xq0 (xs:List (List UInt8)) (n:Nat):(vS xs).drop n=vS (xs.drop n):=by simp [vS,List.map_drop]
theorem Xru (xs:List (List UInt8)) (n:Nat):(vS xs).take n=vS (xs.take n):=by simp [vS,List.map_take]
theorem XFE (k:IntKind) (xs ys:List Int):vI k xs++vI k ys=vI k (xs++ys):=by simp [vI]
theorem br.h {α:Type} {b b':Bool} {X Y:Option α} {r:α} {p q:Prop} (h:cond b' X Y=some r) (e:b=b') (k1:b'=true→X=some r→p) (k2:b'=false→Y=some r→q):br b p q:=by
 subst e;cases b;exact k2 rfl h;exact k1 rfl h
theorem rd.I {k:IntKind} {xs:List Int} {o i:Nat} {x:Int} {K:Value→Prop} (hx:xs[i]?=some x) (e:o=i) (h:XhK (.int k x) K):rd (vI k xs) o K:=by
 subst e;exact rd.intro (v:=.int k x) (by simp [vI,hx]) h
theorem rd.B {xs:List Bool} {o i:Nat} {x:Bool} {K:Value→Prop} (hx:xs[i]?=some x) (e:o=i) (h:XhK (.bool x) K):rd (vB xs) o K:=by
 subst e;exact rd.intro (v:=.bool x) (by simp [vB,hx]) h
theorem rd.S {xs:List (List UInt8)} {o i:Nat} {x:List UInt8} {K:Value→Prop} (hx:xs[i]?=some x) (e:o=i) (h:XhK (.string ⟨⟨x⟩⟩) K):rd (vS xs) o K:=by
 subst e;exact rd.intro (v:=.string ⟨⟨x⟩⟩) (by simp [vS,hx]) h
theorem XMv {k:IntKind} {xs:List Int} {o i:Nat} {x:Int} (hb:decide (i<xs.length)=true) (e:o=i):(decide ((Xa2 (.int k x)).length=1∧o+1≤(vI k xs).length)&&(Xa2 (.int k x)).all Xiq)=true:=by
 subst e;have:=of_decide_eq_true hb;simp [Xa2,Value.cells,Xiq];omega
theorem XQ6 {k:IntKind} {xs:List Int} {o i:Nat} {x:Int} {K:List Value→Prop} (e:o=i) (h:K (vI k (xs.set i x))):∃ cs',setAt (vI k xs) o (Xa2 (.int k x))=cs'∧K cs':=
 ⟨_,by subst e;exact XNl k xs o x,h⟩
theorem XSq {k:IntKind} {n:Nat} {z:Int} {K:List Value→Prop} (h:K (vI k (List.replicate n z))):∃ cs',(List.replicate n [Value.int k z]).flatten=cs'∧K cs':=
 ⟨_,by simp [vI,List.flatten_replicate_singleton],h⟩
theorem XOY {l:List UInt8} {K:List Value→Prop} (h:K (vI .u8 (bI l))):∃ cs',ofBytes l=cs'∧K cs':=⟨_,XiR l,h⟩
theorem XRK {xs:List Int} {o n:Nat} {K:List UInt8→Prop} (h:K (iB ((xs.drop o).take n))):∃ bs,Xgw (((vI .u8 xs).drop o).take n)=some bs∧K bs:=
 ⟨_,by rw [Xpy,XpJ];exact XnG _,h⟩
theorem XJa {l:List Value} {bs:List UInt8} {K:List UInt8→Prop} (e:Xgw l=some bs) (h:K bs):∃ bs,Xgw l=some bs∧K bs:=⟨_,e,h⟩
theorem XI9 {k:IntKind} {new:List Value} {m:Nat} {ys:List Int} {K:List Value→Nat→Prop} (e:new=vI k ys) (em:m=ys.length) (h:K (vI k ys) ys.length):∃ cs' n',new=cs'∧m=n'∧K cs' n':=⟨_,_,e,em,h⟩
theorem XPf {k:IntKind} {new:List Value} {xs:List Int} {o c n m:Nat} {ys:List Int} {K:List Value→Nat→Prop} (e:new=vI k ys) (h0:o=0) (hc:c=xs.length) (hn:n+m=(xs++ys).length) (h:K (vI k (xs++ys)) (xs++ys).length) :
 ∃ cs' n',((vI k xs).drop o).take c++new=cs'∧n+m=n'∧K cs' n':=
 ⟨_,_,by subst h0;rw [List.drop_zero,List.take_of_length_le (by simp [hc]),e,XFE],hn,h⟩
def vT {α:Type} (f:α→List Value) (xs:List α):List Value:=xs.flatMap f
section
variable {α:Type} {f:α→List Value} {c:Nat}
theorem XhF (hf:∀ x,(f x).length=c) (xs:List α):(vT f xs).length=xs.length*c:=by
 induction xs with
 | nil=>simp [vT]
 | cons x xs ih=>
   have:vT f (x::xs)=f x++vT f xs:=rfl
   rw [this,List.length_append,hf,ih,List.length_cons,Nat.succ_mul];omega
theorem XnB (hf:∀ x,XaY.flatL (f x)=true) (xs:List α):XaY.flatL (vT f xs)=true:=by
 have app:∀ a b:List Value,XaY.flatL a=true→XaY.flatL b=true→XaY.flatL (a++b)=true:=by
  intro a b ha hb
  induction a with
  | nil=>exact hb
  | cons v a ih=>simp only [XaY.flatL,Bool.and_eq_true,List.cons_append] at ha ⊢;exact ⟨ha.1,ih ha.2⟩
 induction xs with
 | nil=>rfl
 | cons x xs ih=>exact app _ _ (hf x) ih
theorem Xp5 (hf:∀ x,(f x).all Xiq=true) (xs:List α):(vT f xs).all Xiq=true:=by
 induction xs with
 | nil=>rfl
 | cons x xs ih=>have:vT f (x::xs)=f x++vT f xs:=rfl;rw [this,List.all_append,hf,ih];rfl
theorem XGF (xs ys:List α):vT f xs++vT f ys=vT f (xs++ys):=by simp [vT]
theorem Xgu (hf:∀ x,(f x).length=c) (xs:List α) (n:Nat):(vT f xs).drop (n*c)=vT f (xs.drop n):=by
 induction xs generalizing n with
 | nil=>simp [vT]
 | cons x xs ih=>
   cases n with
   | zero=>simp
   | succ n=>
     have:vT f (x::xs)=f x++vT f xs:=rfl
     rw [this,List.drop_succ_cons,Nat.succ_mul,Nat.add_comm,List.drop_append,hf,List.drop_eq_nil_of_le (by rw [hf];omega),List.nil_append,show c+n*c - c=n*c by omega,ih]
theorem Xgx (hf:∀ x,(f x).length=c) (xs:List α) (n:Nat):(vT f xs).take (n*c)=vT f (xs.take n):=by
 induction xs generalizing n with
 | nil=>simp [vT]
 | cons x xs ih=>
   cases n with
   | zero=>simp [vT]
   | succ n=>
     have:vT f (x::xs)=f x++vT f xs:=rfl
     have h2:vT f ((x::xs).take (n+1))=f x++vT f (xs.take n):=rfl
     rw [this,h2,Nat.succ_mul,Nat.add_comm,List.take_append,hf,List.take_of_length_le (by rw [hf];omega),show c+n*c - c=n*c by omega,ih]
theorem XQw (hf:∀ x,(f x).length=c) {xs:List α} {i j:Nat} {x:α} (hx:xs[i]?=some x) (hj:j<c):(vT f xs)[i*c+j]?=(f x)[j]?:=by
 induction xs generalizing i with
 | nil=>simp at hx
 | cons y xs ih=>
   have:vT f (y::xs)=f y++vT f xs:=rfl
   rw [this]
   cases i with
   | zero=>
     simp at hx;subst hx
     rw [Nat.zero_mul,Nat.zero_add,List.getElem?_append_left (by rw [hf];exact hj)]
   | succ i=>
     rw [List.getElem?_append_right (by rw [hf,Nat.succ_mul];omega),hf,show (i+1)*c+j - c=i*c+j by rw [Nat.succ_mul];omega]
     exact ih (by simpa using hx)
theorem rd.T (hf:∀ x,(f x).length=c) {xs:List α} {o i j:Nat} {x:α} {v:Value} {K:Value→Prop} (hx:xs[i]?=some x) (e:o=i*c+j) (hj:j<c) (hv:(f x)[j]?=some v) (h:XhK v K):rd (vT f xs) o K:=by
 subst e;exact rd.intro (by rw [XQw hf hx hj];exact hv) h
theorem XRk (hf:∀ x,(f x).length=c) {new:List Value} {xs:List α} {o k n m:Nat} {ys:List α} {K:List Value→Nat→Prop} (e:new=vT f ys) (h0:o=0) (hc:k=xs.length*c) (hn:n+m=(xs++ys).length) (h:K (vT f (xs++ys)) (xs++ys).length) :
 ∃ cs' n',((vT f xs).drop o).take k++new=cs'∧n+m=n'∧K cs' n':=
 ⟨_,_,by subst h0;rw [List.drop_zero,List.take_of_length_le (by rw [XhF hf,hc];omega),e,XGF],hn,h⟩
def unT (sz:Nat) (un:List Value→Option α):Nat→List Value→Option (List α)
 | 0,[]=>some []
 | 0,_::_=>none
 | _+1,[]=>some []
 | n+1,v::cs=>match un ((v::cs).take sz) with
   | some x=>match unT sz un n ((v::cs).drop sz) with
     | some xs=>some (x::xs)
     | none=>none
   | none=>none
theorem XGx {un:List Value→Option α} (hf:∀ x,(f x).length=c) (h0:0<c) (hu:∀ x,un (f x)=some x):∀ (xs:List α) (n:Nat),xs.length≤n→unT c un n (vT f xs)=some xs
 | [],0,_=>rfl
 | [],n+1,_=>rfl
 | x::xs,0,h=>by simp at h
 | x::xs,n+1,h=>by
   have e:vT f (x::xs)=f x++vT f xs:=rfl
   obtain ⟨v,l,hv⟩:∃ v l,vT f (x::xs)=v::l:=by
    cases hx:f x with
    | nil=>have:=hf x;rw [hx] at this;simp at this;omega
    | cons v l=>exact ⟨v,l++vT f xs,by rw [e,hx];rfl⟩
   rw [hv,unT,←hv,e,List.take_append_of_le_length (by rw [hf];exact Nat.le_refl _),List.take_of_length_le (by rw [hf];exact Nat.le_refl _),hu,List.drop_append,hf,List.drop_eq_nil_of_le (by rw [hf];exact Nat.le_refl _),Nat.sub_self,List.drop_zero,List.nil_append,XGx hf h0 hu xs n (by simpa using h)]
theorem XhL {un:List Value→Option α} (hu:∀ cs x,un cs=some x→cs=f x):∀ {n:Nat} {cs:List Value} {xs:List α},unT c un n cs=some xs→cs=vT f xs
 | 0,[],xs,h=>by simp only [unT,Option.some.injEq] at h;subst h;rfl
 | 0,_::_,xs,h=>by simp [unT] at h
 | n+1,[],xs,h=>by simp only [unT,Option.some.injEq] at h;subst h;rfl
 | n+1,v::cs,xs,h=>by
   simp only [unT] at h
   split at h<;>try (cases h;done)
   rename_i x hx
   split at h<;>cases h
   rename_i ys hys
   have e1:=hu _ _ hx
   have e2:=XhL hu hys
   have:vT f (x::ys)=f x++vT f ys:=rfl
   rw [this,←e1,←e2,List.take_append_drop]
def unR (sz:Nat) (un:List Value→Option α) (cs:List Value):Option (List α):=unT sz un cs.length cs
theorem XPi {un:List Value→Option α} (hf:∀ x,(f x).length=c) (h0:0<c) (hu:∀ x,un (f x)=some x) (xs:List α):unR c un (vT f xs)=some xs:=
 XGx hf h0 hu xs _ (by rw [XhF hf];exact Nat.le_mul_of_pos_right _ h0)
end
theorem XsR {s:Xb3} {vals aqs:List Value} {os:List (Option Xbx)} {h h1 h2:Hp} {top n m t':Nat} {ws:List Wd} {r:Xc4} {v':Value} (e1:Xdy h 0 s.modes vals=some (aqs,os)) (ew:Xkn h s.modes vals=ws) {cw:List (Option (List Value))} (ec:Xkt os=cw) (e2:s.run aqs cw=some r) (e3:apartB ws=true)
 (hn:r.new.length=n) (hm:Xla ws=m) (ht:top+n+m=t') (e4:Xda h (XtX top n ws) ws r.wr=some h1) (e5:Xi6 h1 (XtX top n ws) top r.new=some h2) (e6:XeR (XtX top n ws) r.v=some v'):XiB s vals h top=some (v',Xjg h2 (top+n) m,t'):=by
 subst hn hm ht ec
 simp only [XiB,e1,e2,ew,e3,e4,e5,e6]
theorem XTY {h:Hp} {k:Nat}:Xdy h k [] []=some ([],[]):=rfl
theorem XMi {h:Hp} {k k':Nat} {m:Md} {ms:List Md} {v a:Value} {vs aqs:List Value} {os os':List (Option Xbx)} (e:XcX h k m v=some (a,os)) (hk:k+os.length=k') (t:Xdy h k' ms vs=some (aqs,os')):Xdy h k (m::ms) (v::vs)=some (a::aqs,os++os'):=by
 subst hk
 simp only [Xdy,e,t]
theorem XDS {h:Hp} {k b o n m sz sz':Nat} {ob:Xbx} {cs cs':List Value} (ho:XaI h b=some ob) (hc:ob.cs=some cs) (hs:sz=sz') (en:n=m) (hle:o+n*sz≤cs.length) (e:(cs.drop o).take (n*sz)=cs') (hf:XaY.flatL cs'=true) :
 XcX h k (.sl sz) (.slice (some ⟨b,o,none⟩) n sz')=some (.slice (some ⟨k,0,none⟩) m sz,[some (.row false cs')]):=by
 subst hs en e
 simp only [XcX,ho,hc,hle,hf,↓reduceIte]
theorem XGs {h:Hp} {b o n i m sz kk:Nat} {k:IntKind} {own:Bool} {xs:List Int} (ho:XaI h b=some (.row own (vI k xs))) (hs:sz=1) (e0:o=i) (en:n=m) (hle:i+m≤xs.length):XcX h kk (.sl 1) (.slice (some ⟨b,o,none⟩) n sz)=some (.slice (some ⟨kk,0,none⟩) m 1,[some (.row false (vI k ((xs.drop i).take m)))]):=by
 subst hs e0 en
 exact XDS ho rfl rfl rfl (by simp;omega) (by rw [Xpy,XpJ,Nat.mul_one]) (XjC _ _)
theorem XFP {h:Hp} {b o n i m sz kk:Nat} {own:Bool} {xs:List (List UInt8)} (ho:XaI h b=some (.row own (vS xs))) (hs:sz=1) (e0:o=i) (en:n=m) (hle:i+m≤xs.length):XcX h kk (.sl 1) (.slice (some ⟨b,o,none⟩) n sz)=some (.slice (some ⟨kk,0,none⟩) m 1,[some (.row false (vS ((xs.drop i).take m)))]):=by
 subst hs e0 en
 exact XDS ho rfl rfl rfl (by simp;omega) (by rw [Xq0,Xru,Nat.mul_one]) (Xnq _)
theorem XGG {h:Hp} {b o n i m sz kk:Nat} {own:Bool} {xs:List Bool} (ho:XaI h b=some (.row own (vB xs))) (hs:sz=1) (e0:o=i) (en:n=m) (hle:i+m≤xs.length):XcX h kk (.sl 1) (.slice (some ⟨b,o,none⟩) n sz)=some (.slice (some ⟨kk,0,none⟩) m 1,[some (.row false (vB ((xs.drop i).take m)))]):=by
 subst hs e0 en
 exact XDS ho rfl rfl rfl (by simp;omega) (by rw [XIo,XLu,Nat.mul_one]) (Xnn _)
theorem XJx {h:Hp} {b o n sz kk:Nat} {k:IntKind} {own:Bool} {xs:List Int} (ho:XaI h b=some (.row own (vI k xs))) (hs:sz=1) (e0:o=0) (en:n=xs.length):XcX h kk (.sl 1) (.slice (some ⟨b,o,none⟩) n sz)=some (.slice (some ⟨kk,0,none⟩) xs.length 1,[some (.row false (vI k xs))]):=by
 have:=XGs (kk:=kk) (i:=0) (m:=xs.length) ho hs e0 en (by omega)
 simpa using this
theorem XJL {h:Hp} {b o n sz kk:Nat} {own:Bool} {xs:List (List UInt8)} (ho:XaI h b=some (.row own (vS xs))) (hs:sz=1) (e0:o=0) (en:n=xs.length):XcX h kk (.sl 1) (.slice (some ⟨b,o,none⟩) n sz)=some (.slice (some ⟨kk,0,none⟩) xs.length 1,[some (.row false (vS xs))]):=by
 have:=XFP (kk:=kk) (i:=0) (m:=xs.length) ho hs e0 en (by omega)
 simpa using this
theorem XJB {h:Hp} {b o n sz kk:Nat} {own:Bool} {xs:List Bool} (ho:XaI h b=some (.row own (vB xs))) (hs:sz=1) (e0:o=0) (en:n=xs.length):XcX h kk (.sl 1) (.slice (some ⟨b,o,none⟩) n sz)=some (.slice (some ⟨kk,0,none⟩) xs.length 1,[some (.row false (vB xs))]):=by
 have:=XGG (kk:=kk) (i:=0) (m:=xs.length) ho hs e0 en (by omega)
 simpa using this
theorem XiA {α:Type} {f:α→List Value} {c:Nat} (hf:∀ x,(f x).length=c) (hfl:∀ x,XaY.flatL (f x)=true) {h:Hp} {b o n i m sz kk:Nat} {own:Bool} {xs:List α} (ho:XaI h b=some (.row own (vT f xs))) (hs:sz=c) (e0:o=i*c) (en:n=m) (hle:i+m≤xs.length):XcX h kk (.sl c) (.slice (some ⟨b,o,none⟩) n sz)=some (.slice (some ⟨kk,0,none⟩) m c,[some (.row false (vT f ((xs.drop i).take m)))]):=by
 subst hs e0 en
 refine XDS ho rfl rfl rfl ?_ (by rw [Xgu hf,Xgx hf]) (XnB hfl _)
 rw [XhF hf,←Nat.add_mul];exact Nat.mul_le_mul_right _ hle
theorem XgS {α:Type} {f:α→List Value} {c:Nat} (hf:∀ x,(f x).length=c) (hfl:∀ x,XaY.flatL (f x)=true) {h:Hp} {b o n sz kk:Nat} {own:Bool} {xs:List α} (ho:XaI h b=some (.row own (vT f xs))) (hs:sz=c) (e0:o=0) (en:n=xs.length):XcX h kk (.sl c) (.slice (some ⟨b,o,none⟩) n sz)=some (.slice (some ⟨kk,0,none⟩) xs.length c,[some (.row false (vT f xs))]):=by
 have:=XiA hf hfl (kk:=kk) (i:=0) (m:=xs.length) ho hs (by simpa using e0) en (by omega)
 simpa using this
theorem ra_tr {h:Hp} {k:Nat} {ps:List Path} {bs:List PR} {v v' w:Value} {l:List (Option Xbx)} (e0:Xhn h v ps []=bs) (e1:XeR (Xw2 k bs) v=some v') (e2:XfH h (Xw2 k bs) (fun s=>Xmg k s ps bs) 0 ps bs=some l) (e3:XvG v' (Xmg k none ps bs)=w):XcX h k (.tr ps) v=some (w,l):=by
 subst e0 e3
 simp only [XcX,e1,e2]
theorem XOr {h:Hp} {s:Nat→Option Nat} {pat:Option Nat→List (Nat×Value)} {i:Nat}:XfH h s pat i [] []=some []:=rfl
theorem vp_no {h:Hp} {s:Nat→Option Nat} {pat:Option Nat→List (Nat×Value)} {i:Nat} {p:Path} {ps:List Path} {bs:List PR} {l:List (Option Xbx)} (t:XfH h s pat (i+1) ps bs=some l):XfH h s pat i (p::ps) (.no::bs)=some (none::l):=by
 simp only [XfH,t]
theorem XPe {h:Hp} {s:Nat→Option Nat} {pat:Option Nat→List (Nat×Value)} {i z:Nat} {p:Path} {ps:List Path} {bs:List PR} {l:List (Option Xbx)} (t:XfH h s pat (i+1) ps bs=some l) (hk:Nat.beq p.kind 3=false:=by rfl):XfH h s pat i (p::ps) (.nil z::bs)=some (some (mkObj p.kind [])::l):=by
 simp only [XfH,t,hk,cond_false]
theorem vp_at {h:Hp} {s:Nat→Option Nat} {pat:Option Nat→List (Nat×Value)} {i b:Nat} {p:Path} {ps:List Path} {bs:List PR} {l:List (Option Xbx)} {ob:Xbx} {cs cs' cs'':List Value} (e1:XaI h b=some ob) (e2:(cond (isW p.kind) ob.wcs ob.cs)=some cs) (e3:XeR.renL s cs=some cs') (e4:XsS cs' (pat (some i))=cs'')
 (t:XfH h s pat (i+1) ps bs=some l) (hk:Nat.beq p.kind 3=false:=by rfl):XfH h s pat i (p::ps) (.hit b::bs)=some (some (mkObj p.kind cs'')::l):=by
 subst e4
 simp only [XfH,Xr7,e1,e2,e3,t,hk,cond_false]
theorem XQh {h:Hp} {s:Nat→Option Nat} {pat:Option Nat→List (Nat×Value)} {i b:Nat} {p:Path} {ps:List Path} {bs:List PR} {l:List (Option Xbx)} {cs:List Value} (e1:XaI h b=some (.mp cs)) (hk:Nat.beq p.kind 3=true)
 (t:XfH h s pat (i+1) ps bs=some l):XfH h s pat i (p::ps) (.hit b::bs)=some (some (.mp cs)::l):=by
 simp only [XfH,Xr7,e1,t,hk,cond_true,mapB]
def skipW:Wd→Bool
 | .no|.emp _|.win _ _ _ false|.blk _ false=>true
 | _=>false
theorem XFG {h:Hp} {s:Nat→Option Nat}:Xda h s [] []=some h:=rfl
theorem XKv {h h':Hp} {s:Nat→Option Nat} {x:Wd} {ws:List Wd} {c:Option (List Value)} {cs:List (Option (List Value))} (hx:skipW x=true) (t:Xda h s ws cs=some h'):Xda h s (x::ws) (c::cs)=some h':=by
 cases x with
 | win b o n w=>cases w<;>first|(simp only [Xda];exact t)|cases hx
 | blk b w=>cases w<;>first|(simp only [Xda];exact t)|cases hx
 | _=>simp only [Xda];exact t
theorem XFT {h h':Hp} {s:Nat→Option Nat} {b off n:Nat} {ws:List Wd} {c c' x y:List Value} {cs:List (Option (List Value))} {ob ob':Xbx} (e1:XaI h b=some ob) (e2:ob.wcs=some x) (e3:XeR.renL s c=some c') (e4:c'.length=n∧off+n≤x.length) (e5:setAt x off c'=y) (e6:ob.wr y=some ob') (t:Xda (XfQ h b ob') s ws cs=some h') (hm:mk3 c=none:=by rfl) :
 Xda h s (.win b off n true::ws) (some c::cs)=some h':=by
 subst e5
 have e4':c'.length=n∧off+n≤x.length∧mk3 c=none:=⟨e4.1,e4.2,hm⟩
 simp only [Xda,e1,e2,e3,e6,if_pos e4'];exact t
theorem XSu {h h':Hp} {s:Nat→Option Nat} {b:Nat} {ws:List Wd} {c c' x:List Value} {cs:List (Option (List Value))} {ob ob':Xbx} (e1:XaI h b=some ob) (e2:ob.wcs=some x) (e3:XeR.renL s c=some c') (e6:ob.wr c'=some ob') (t:Xda (XfQ h b ob') s ws cs=some h') (hm:mk3 c=none:=by rfl) :
 Xda h s (.blk b true::ws) (some c::cs)=some h':=by
 have:XFQ s ob c=some ob':=by
  unfold XFQ
  rw [hm]
  cases ob<;>first|(simp only [e2,e3];exact e6)|cases e2
 simp only [Xda,e1,this];exact t
theorem XPI {h h':Hp} {s:Nat→Option Nat} {b:Nat} {ws:List Wd} {c0 c:List Value} {cs:List (Option (List Value))} (e1:XaI h b=some (.mp c0)) (t:Xda (XfQ h b (.mp c)) s ws cs=some h') :
 Xda h s (.blk b true::ws) (some (.float .f64 0::c)::cs)=some h':=by
 simp only [Xda,e1,XFQ,mk3];exact t
theorem XUc {h h':Hp} {s:Nat→Option Nat} {b:Nat} {ws:List Wd} {cs:List (Option (List Value))} (t:Xda (XnS h b) s ws cs=some h'):Xda h s (.blk b true::ws) (none::cs)=some h':=by
 simp only [Xda];exact t
theorem XHb {h:Hp} {s:Nat→Option Nat} {top:Nat}:Xi6 h s top []=some h:=rfl
theorem XJg {h h':Hp} {s:Nat→Option Nat} {top:Nat} {c c':List Value} {cs:List (List Value)} (e:XeR.renL s c=some c') (t:Xi6 (XfQ h top (.row true c')) s (top+1) cs=some h'):Xi6 h s top (c::cs)=some h':=by
 simp only [Xi6,e];exact t
theorem Xud {s:Nat→Option Nat} {k:IntKind} {xs:List Int}:XeR.renL s (vI k xs)=some (vI k xs):=Xcn _ _ (XjC _ _)
theorem Xto {s:Nat→Option Nat} {xs:List Bool}:XeR.renL s (vB xs)=some (vB xs):=Xcn _ _ (Xnn _)
theorem Xt7 {s:Nat→Option Nat} {xs:List (List UInt8)}:XeR.renL s (vS xs)=some (vS xs):=Xcn _ _ (Xnq _)
theorem XbN {s:Nat→Option Nat} {α:Type} {f:α→List Value} (hfl:∀ x,XaY.flatL (f x)=true) {xs:List α}:XeR.renL s (vT f xs)=some (vT f xs):=Xcn _ _ (XnB hfl _)
def XHh (n:Nat) (wr:List (Option (List Value))):List Nat→Prop
 | []=>True
 | j::js=>(n≤j∨wr[j]?=some none)∧XHh n wr js
theorem XvQ {n:Nat} {wr:List (Option (List Value))}:∀ {js:List Nat},XHh n wr js→∀ j∈js,n≤j∨wr[j]?=some none
 | [],_,j,h=>by cases h
 | k::js,h,j,hj=>by
   rcases List.mem_cons.1 hj with rfl|hj
   ·exact h.1
   ·exact XvQ h.2 j hj
theorem Res.of {n:Nat} {r:Xc4} {v':Value} {H':Hp} (js:List Nat) (e1:XeR (XvU js n) r.v=some v') (e2:Xt8 H' (XvU js n) js r.new) (e3:js.Nodup) (e4:XHh n r.wr js) (e5:XwV H' (XvU js n) 0 r.wr):Res n r v' H':=
 ⟨⟨js,e1,e2,e3,XvQ e4,e5⟩⟩
theorem Xiy {H:Hp} {j:Nat} {c:List Value} (h:XaI H j=some (.row true c)):Has H j c:=.inl h
theorem Xh7 {H:Hp} {j:Nat} {c:List Value} (h:XaI H j=some (.cells c)):Has H j c:=.inr (.inl h)
abbrev Dec:=List Value→List (Option (List Value))→Option Xc4
def dV {α:Type} (un:Value→Option α) (K:α→Dec):Dec:=fun vs cs=>match vs with
 | v::vs'=>match un v with
   | some x=>K x vs' cs
   | none=>none
 | []=>none
theorem Xbb {α:Type} {un:Value→Option α} {K:α→Dec} {v:Value} {vs:List Value} {cs:List (Option (List Value))} {x:α} (h:un v=some x):dV un K (v::vs) cs=K x vs cs:=by simp only [dV,h]
theorem dV.elim {α:Type} {un:Value→Option α} {K:α→Dec} {vs:List Value} {cs:List (Option (List Value))} {r:Xc4} (h:dV un K vs cs=some r):∃ v vs' x,vs=v::vs'∧un v=some x∧K x vs' cs=some r:=by
 unfold dV at h
 split at h<;>try (cases h;done)
 split at h<;>try (cases h;done)
 exact ⟨_,_,_,rfl,by assumption,h⟩
def dSl {α:Type} (k sz:Nat) (un:List Value→Option (List α)) (K:List α→Dec):Dec:=fun vs cs=>match vs,cs with
 | .slice (some ⟨k',0,none⟩) n sz'::vs',some c::cs'=>match un c with
   | some xs=>if k'=k∧sz'=sz∧n=xs.length then K xs vs' cs' else none
   | none=>none
 | _,_=>none
theorem XAq {α:Type} {k sz:Nat} {un:List Value→Option (List α)} {K:List α→Dec} {vs:List Value} {c:List Value} {cs:List (Option (List Value))} {xs:List α} (h:un c=some xs):dSl k sz un K (.slice (some ⟨k,0,none⟩) xs.length sz::vs) (some c::cs)=K xs vs cs:=by simp [dSl,h]
theorem dSl.elim {α:Type} {k sz:Nat} {un:List Value→Option (List α)} {K:List α→Dec} {vs:List Value} {cs:List (Option (List Value))} {r:Xc4} (h:dSl k sz un K vs cs=some r):∃ c vs' cs' xs,vs=.slice (some ⟨k,0,none⟩) xs.length sz::vs'∧cs=some c::cs'∧un c=some xs∧K xs vs' cs'=some r:=by
 unfold dSl at h
 split at h<;>try (cases h;done)
 split at h<;>try (cases h;done)
 split at h<;>try (cases h;done)
 rename_i hc
 obtain ⟨rfl,rfl,rfl⟩:=hc
 exact ⟨_,_,_,_,rfl,rfl,by assumption,h⟩
def dTr {α:Type} (n:Nat) (un:Value→List (Option (List Value))→Option α) (K:α→Dec):Dec:=fun vs cs=>match vs with
 | v::vs'=>match un v (cs.take n) with
   | some x=>K x vs' (cs.drop n)
   | none=>none
 | []=>none
theorem Xkm {α:Type} {n:Nat} {un:Value→List (Option (List Value))→Option α} {K:α→Dec} {v:Value} {vs:List Value} {cs cs1 cs2:List (Option (List Value))} {x:α} (h1:cs.take n=cs1) (h2:cs.drop n=cs2) (h:un v cs1=some x):dTr n un K (v::vs) cs=K x vs cs2:=by
 subst h1 h2;simp only [dTr,h]
theorem dTr.elim {α:Type} {n:Nat} {un:Value→List (Option (List Value))→Option α} {K:α→Dec} {vs:List Value} {cs:List (Option (List Value))} {r:Xc4} (h:dTr n un K vs cs=some r):∃ v vs' cs1 cs2 x,vs=v::vs'∧cs=cs1++cs2∧un v cs1=some x∧K x vs' cs2=some r:=by
 unfold dTr at h
 split at h<;>try (cases h;done)
 split at h<;>try (cases h;done)
 exact ⟨_,_,_,_,_,rfl,(List.take_append_drop n cs).symm,by assumption,h⟩
def dPt {α:Type} (k:Nat) (un:List Value→Option α) (K:α→Dec):Dec:=fun vs cs=>match vs,cs with
 | .pointer (some ⟨k',0,none⟩)::vs',some c::cs'=>match un c with
   | some x=>if k'=k then K x vs' cs' else none
   | none=>none
 | _,_=>none
theorem XmV {α:Type} {k:Nat} {un:List Value→Option α} {K:α→Dec} {vs:List Value} {c:List Value} {cs:List (Option (List Value))} {x:α} (h:un c=some x):dPt k un K (.pointer (some ⟨k,0,none⟩)::vs) (some c::cs)=K x vs cs:=by simp [dPt,h]
theorem dPt.elim {α:Type} {k:Nat} {un:List Value→Option α} {K:α→Dec} {vs:List Value} {cs:List (Option (List Value))} {r:Xc4} (h:dPt k un K vs cs=some r):∃ c vs' cs' x,vs=.pointer (some ⟨k,0,none⟩)::vs'∧cs=some c::cs'∧un c=some x∧K x vs' cs'=some r:=by
 unfold dPt at h
 split at h<;>try (cases h;done)
 split at h<;>try (cases h;done)
 split at h<;>try (cases h;done)
 rename_i hc
 subst hc
 exact ⟨_,_,_,_,rfl,rfl,by assumption,h⟩
def dNo:Nat→Dec→Dec
 | 0,K=>K
 | n+1,K=>fun vs cs=>match cs with
   | none::cs'=>dNo n K vs cs'
   | _=>none
theorem dNo.elim {K:Dec} {vs:List Value} {r:Xc4}:∀ {n:Nat} {cs:List (Option (List Value))},dNo n K vs cs=some r→∃ cs',cs=List.replicate n none++cs'∧K vs cs'=some r
 | 0,cs,h=>⟨cs,rfl,h⟩
 | n+1,cs,h=>by
   simp only [dNo] at h
   split at h<;>try (cases h;done)
   obtain ⟨cs',rfl,h2⟩:=dNo.elim h
   exact ⟨cs',rfl,h2⟩
def dNl (n:Nat) (K:Dec):Dec:=fun vs cs=>match vs with
 | .pointer none::vs'=>dNo n K vs' cs
 | _=>none
theorem dNl.elim {n:Nat} {K:Dec} {vs:List Value} {cs:List (Option (List Value))} {r:Xc4} (h:dNl n K vs cs=some r):∃ vs' cs',vs=.pointer none::vs'∧cs=List.replicate n none++cs'∧K vs' cs'=some r:=by
 unfold dNl at h
 split at h<;>try (cases h;done)
 obtain ⟨cs',rfl,h2⟩:=dNo.elim h
 exact ⟨_,cs',rfl,rfl,h2⟩
def XdY (r:Option Xc4):Dec:=fun vs cs=>match vs,cs with
 | [],[]=>r
 | _,_=>none
theorem XdY.elim {o:Option Xc4} {vs:List Value} {cs:List (Option (List Value))} {r:Xc4} (h:XdY o vs cs=some r):vs=[]∧cs=[]∧o=some r:=by
 unfold XdY at h
 split at h<;>try (cases h;done)
 exact ⟨rfl,rfl,h⟩
def orD (a b:Dec):Dec:=fun vs cs=>match a vs cs with
 | some r=>some r
 | none=>b vs cs
theorem orD.elim {a b:Dec} {vs:List Value} {cs:List (Option (List Value))} {r:Xc4} (h:orD a b vs cs=some r):a vs cs=some r∨b vs cs=some r:=by
 unfold orD at h
 split at h
 ·cases h;left;assumption
 ·exact .inr h
def ofG {α:Type} (o:Option α) (f:α→Xc4):Option Xc4:=match o with
 | some x=>some (f x)
 | none=>none
theorem Xbc {α:Type} {o:Option α} {f:α→Xc4} {x:α} (h:o=some x):ofG o f=some (f x):=by subst h;rfl
theorem ofG.elim {α:Type} {o:Option α} {f:α→Xc4} {r:Xc4} (h:ofG o f=some r):∃ x,o=some x∧f x=r:=by
 cases o with
 | none=>cases h
 | some x=>exact ⟨x,rfl,by cases h;rfl⟩
def asS:Value→Option (List UInt8)|.string s=>some s.data.toList|_=>none
theorem Xxj (v:Value) (x:List UInt8) (h:asS v=some x):v=.string ⟨⟨x⟩⟩:=by cases v<;>simp [asS] at h;subst h;rfl
theorem Xzt (k:IntKind) (xs:List Int):unL (asI k) (vI k xs)=some xs:=Xym (fun x=>by simp [asI]) xs
theorem XHo {k:IntKind} {cs:List Value} {xs:List Int} (h:unL (asI k) cs=some xs):cs=vI k xs:=Xve (Xx4 k) h
theorem XRe {cs:List Value} {xs:List Bool} (h:unL asB cs=some xs):cs=vB xs:=Xve XAu h
theorem XRm {cs:List Value} {xs:List (List UInt8)} (h:unL asS cs=some xs):cs=vS xs:=Xve (g:=fun s=>Value.string ⟨⟨s⟩⟩) Xxj h
end Go.Vm
namespace Go.Vm
open Go Go.RowKit
end Go.Vm
namespace Go.Vm
open Go Go.RowKit
theorem st_I {k:IntKind} {xs:List Int} {o i:Nat} {x:Int} {K:List Value→Prop} (hb:decide (i<xs.length)=true) (e:o=i) (h:K (vI k (xs.set i x))) :
 req (decide ((Xa2 (.int k x)).length=1∧o+1≤(vI k xs).length)&&(Xa2 (.int k x)).all Xiq) (∃ cs',setAt (vI k xs) o (Xa2 (.int k x))=cs'∧K cs'):=req.intro (XMv hb e) (XQ6 e h)
end Go.Vm
namespace Go.Vm
theorem br.h2 {α:Type} {b b':Bool} {X Y:Option α} {r:α} {p q:Prop} (h:cond b' X Y=some r) (e:b=b') (k2:b'=false→Y=some r→q) (k1:b'=true→X=some r→p):br b p q:=br.h h e k1 k2
end Go.Vm
namespace Go.Vm
open Go Go.RowKit
theorem VR.ofNil {ρ:Ren} {s:Nat} {rv:Value} (h:VR ρ (.slice none 0 s) rv) (j sz:Nat):VR ρ (.slice (some ⟨j,0,none⟩) 0 sz) rv:=by
 cases h;exact .slice0 none
theorem XaO.nilT {P:Program} {f base fn nt s:Nat} {e:Env} {todo:List XfT} {ds:List Nat} {ret:Bool} {rd:Option Nat} {up:List XbR} {H:Hp} {top:Nat} {R:Value→Hp→Nat→Prop} (t sz:Nat)
 (h:XaO P f base ⟨⟨fn,nt,XfQ e t (.slice (some ⟨top,0,none⟩) 0 sz),todo,ds,ret,rd⟩,up,XfQ H top (.row true []),top+1⟩ R) (he:XaI e t=some (.slice none 0 s):=by rfl) :
 XaO P f base ⟨⟨fn,nt,e,todo,ds,ret,rd⟩,up,H,top⟩ R:=by
 refine ⟨fun w0 U ρ rf rfs w cs hr=>?_⟩
 have hx:=Ext.upd (l:=⟨0,0,0⟩) hr.heap.XnW
 have hcur:FrR P (upd ρ top ⟨0,0,0⟩) ⟨fn,nt,XfQ e t (.slice (some ⟨top,0,none⟩) 0 sz),todo,ds,ret,rd⟩ rf:=
  { hr.cur.mono hx with
    env:=fun i v hv=>by
     rw [Xa7] at hv
     split at hv
     ·rename_i hi;subst hi;cases hv
      obtain ⟨v',a,b⟩:=hr.cur.env t _ he
      exact ⟨v',a,(VR.ofNil b _ _).mono hx⟩
     ·exact (hr.cur.env.mono hx) i v hv }
 obtain ⟨ρ',rv,fr',w',v,H',top',h1,h2,h3,h4,h5,h6,h7⟩:=h.get w0 U _ rf rfs w cs ⟨hcur,hr.up.mono (fun _ _ x=>x.mono hx),XjI hr.heap⟩
 exact ⟨ρ',rv,fr',w',v,H',top',h1,h2,h3,h4,h5,fun i l hi hl=>h6 i l hi (hx _ _ hl),h7⟩
theorem XaO.nilC {P:Program} {f base s:Nat} {fr:XbR} {up:List XbR} {H:Hp} {top:Nat} {R:Value→Hp→Nat→Prop} (b i sz:Nat) {cs:List Value}
 (h:XaO P f base ⟨fr,up,XfQ (XfQ H b (.cells (cs.set i (.slice (some ⟨top,0,none⟩) 0 sz)))) top (.row true []),top+1⟩ R) (hb:XaI H b=some (.cells cs):=by rfl) (hi:cs[i]?=some (.slice none 0 s):=by rfl) :
 XaO P f base ⟨fr,up,H,top⟩ R:=by
 refine ⟨fun w0 U ρ rf rfs w cs' hr=>?_⟩
 have hx:=Ext.upd (l:=⟨0,0,0⟩) hr.heap.XnW
 have hp:HpR P w0 (.of U) ρ (XfQ H b (.cells (cs.set i (.slice (some ⟨top,0,none⟩) 0 sz)))) top w:=
  { hr.heap with
    obj:=fun j o ho=>by
     rw [Xa7] at ho
     split at ho
     ·rename_i hj;subst hj;cases ho
      obtain ⟨l,hl,hc,hw⟩:=hr.heap.obj b _ hb
      refine ⟨l,hl,?_,fun _=>hw rfl⟩
      obtain ⟨g1,g2,g3⟩:=(hc:Xbu ρ w l true cs)
      refine ⟨by simpa using g1,fun k v hv=>?_,g3⟩
      rw [List.getElem?_set] at hv
      split at hv
      ·rename_i hk;subst hk
       split at hv
       ·cases hv
        obtain ⟨v',a,b'⟩:=g2 i _ hi
        exact ⟨v',a,VR.ofNil b' _ _⟩
       ·cases hv
      ·exact g2 k v hv
     ·exact hr.heap.obj j o ho
    dis:=fun j k oj ok lj lk hjk hj hk hlj hlk hw=>by
     have key:∀ j o,XaI (XfQ H b (.cells (cs.set i (.slice (some ⟨top,0,none⟩) 0 sz)))) j=some o→∃ o',XaI H j=some o'∧(writable o=true→writable o'=true):=fun j o ho=>by
      rw [Xa7] at ho
      split at ho
      ·rename_i hj;subst hj;exact ⟨_,hb,fun _=>rfl⟩
      ·exact ⟨o,ho,id⟩
     obtain ⟨oj',a1,a2⟩:=key j oj hj
     obtain ⟨ok',b1,_⟩:=key k ok hk
     exact hr.heap.dis j k oj' ok' lj lk hjk a1 b1 hlj hlk (a2 hw) }
 obtain ⟨ρ',rv,fr',w',v,H',top',h1,h2,h3,h4,h5,h6,h7⟩:=h.get w0 U _ rf rfs w cs' ⟨hr.cur.mono hx,hr.up.mono (fun _ _ x=>x.mono hx),XjI hp⟩
 exact ⟨ρ',rv,fr',w',v,H',top',h1,h2,h3,h4,h5,fun i l hi hl=>h6 i l hi (hx _ _ hl),h7⟩
mutual
inductive Nv (j:Nat):Value→Value→Prop
 | same (v):Nv j v v
 | nil (s sz):Nv j (.slice none 0 s) (.slice (some ⟨j,0,none⟩) 0 sz)
 | tup {a b:List Value} (h:NvL j a b):Nv j (.tuple ⟨a⟩) (.tuple ⟨b⟩)
 | agg {a b:List Value} (h:NvL j a b):Nv j (.agg ⟨a⟩) (.agg ⟨b⟩)
inductive NvL (j:Nat):List Value→List Value→Prop
 | nil:NvL j [] []
 | cons {v v':Value} {l l':List Value} (h:Nv j v v') (t:NvL j l l'):NvL j (v::l) (v'::l')
end
mutual
theorem Nv.vr {j:Nat} {ρ:Ren}:∀ {v v':Value},Nv j v v'→∀ {rv:Value},VR ρ v rv→VR ρ v' rv
 | _,_,.same v,_,h=>h
 | _,_,.nil s sz,_,h=>VR.ofNil h _ _
 | _,_,.tup hl,_,h=>by cases h with|tuple ht=>exact .tuple (NvL.vr hl ht)
 | _,_,.agg hl,_,h=>by cases h with|agg ht=>exact .agg (NvL.vr hl ht)
theorem NvL.vr {j:Nat} {ρ:Ren}:∀ {l l':List Value},NvL j l l'→∀ {rl:List Value},VRL ρ l rl→VRL ρ l' rl
 | _,_,.nil,_,h=>h
 | _,_,.cons hv ht,_,h=>by cases h with|cons a b=>exact .cons (Nv.vr hv a) (NvL.vr ht b)
end
end Go.Vm
namespace Go.Vm
theorem XGz {A B C D:Prop} [Decidable (A∧B∧C∧D)] {p q:Bool} (a:A) (b:B) (c:C) (d:D) (e:p=true) (g:q=true):(decide (A∧B∧C∧D)&&p&&q)=true:=by
 rw [decide_eq_true ⟨a,b,c,d⟩,e,g];rfl
end Go.Vm
namespace Go.Vm
open Go Go.RowKit
def Xt2 (o:Xbx) (K:Xbx→Prop):Prop:=
 match o with
 | .cells cs=>Xn4 cs fun cs=>K (.cells cs)
 | .row own cs=>Xn4 cs fun cs=>K (.row own cs)
 | .ty t cs=>K (.ty t cs)
 | .siter s p=>K (.siter s p)
 | .mp cs=>K (.mp cs)
 | .loop l=>K (.loop l)
 | .marks=>K .marks
theorem Xv6 (o:Xbx) (K:Xbx→Prop):Xt2 o K=K o:=by
 cases o<;>simp only [Xt2,XkB]
def Xk1 (bs:List Nat) (h:Hp) (K:Hp→Prop):Prop:=
 match h with
 | []=>K []
 | (i,o)::l=>cond (XGO i bs) (Xt2 o fun o=>Xk1 bs l fun l=>K ((i,o)::l)) (Xzz o fun o=>Xk1 bs l fun l=>K ((i,o)::l))
theorem Xnm (bs:List Nat):∀ (h:Hp) (K:Hp→Prop),Xk1 bs h K=K h
 | [],K=>rfl
 | (i,o)::l,K=>by
   rw [Xk1]
   cases XGO i bs
   ·rw [cond_false,Xsy,Xnm bs l]
   ·rw [cond_true,Xv6,Xnm bs l]
theorem XfS.XHl {s:Xb3} {vals:List Value} {h:Hp} {top:Nat} {K:Value→Hp→Nat→Prop} {v:Value} {h':Hp} {top':Nat} (bs:List Nat) (e:XiB s vals h top=some (v,h',top')) (k:XhK v fun v=>Xk1 bs h' fun h'=>K v h' top'):XfS s vals h top K:=
 XfS.intro e (by simpa only [Xhu,Xnm] using k)
end Go.Vm
namespace Go.Vm
open Go Go.RowKit
inductive XA8:Value→Hp→Nat→Value→Hp→Nat→Prop
 | refl (v:Value) (H:Hp) (t:Nat):XA8 v H t v H t
 | val {v v' v2:Value} {H H2:Hp} {t t2:Nat} (h:Nv t v v') (k:XA8 v' (XfQ H t (.row true [])) (t+1) v2 H2 t2):XA8 v H t v2 H2 t2
 | cell {v v2:Value} {H H2:Hp} {t t2 s:Nat} (b i sz:Nat) {cs:List Value} (hb:XaI H b=some (.cells cs)) (hi:cs[i]?=some (.slice none 0 s)) (k:XA8 v (XfQ (XfQ H b (.cells (cs.set i (.slice (some ⟨t,0,none⟩) 0 sz)))) t (.row true [])) (t+1) v2 H2 t2):XA8 v H t v2 H2 t2
theorem XLL {P:Program} {w0:World} {U:UG} {ρ:Ren} {H:Hp} {top s:Nat} {w:World} (h:HpR P w0 U ρ H top w) {b i:Nat} (sz:Nat) {cs:List Value} (hb:XaI H b=some (.cells cs)) (hi:cs[i]?=some (.slice none 0 s)):HpR P w0 U ρ (XfQ H b (.cells (cs.set i (.slice (some ⟨top,0,none⟩) 0 sz)))) top w:=
 { h with
   obj:=fun j o ho=>by
    rw [Xa7] at ho
    split at ho
    ·rename_i hj;subst hj;cases ho
     obtain ⟨l,hl,hc,hw⟩:=h.obj b _ hb
     refine ⟨l,hl,?_,fun _=>hw rfl⟩
     obtain ⟨g1,g2,g3⟩:=(hc:Xbu ρ w l true cs)
     refine ⟨by simpa using g1,fun k v hv=>?_,g3⟩
     rw [List.getElem?_set] at hv
     split at hv
     ·rename_i hk;subst hk
      split at hv
      ·cases hv
       obtain ⟨v',a,b'⟩:=g2 i _ hi
       exact ⟨v',a,VR.ofNil b' _ _⟩
      ·cases hv
     ·exact g2 k v hv
    ·exact h.obj j o ho
   dis:=fun j k oj ok lj lk hjk hj hk hlj hlk hw=>by
    have key:∀ j o,XaI (XfQ H b (.cells (cs.set i (.slice (some ⟨top,0,none⟩) 0 sz)))) j=some o→∃ o',XaI H j=some o'∧(writable o=true→writable o'=true):=fun j o ho=>by
     rw [Xa7] at ho
     split at ho
     ·rename_i hj;subst hj;exact ⟨_,hb,fun _=>rfl⟩
     ·exact ⟨o,ho,id⟩
    obtain ⟨oj',a1,a2⟩:=key j oj hj
    obtain ⟨ok',b1,_⟩:=key k ok hk
    exact h.dis j k oj' ok' lj lk hjk a1 b1 hlj hlk (a2 hw) }
theorem XA8.ok {P:Program} {w0:World} {U:Nat→Nat→Prop} {v v2 rv:Value} {H H2:Hp} {t t2:Nat} (k:XA8 v H t v2 H2 t2):∀ {ρ:Ren} {w:World},VR ρ v rv→HpR P w0 (.of U) ρ H t w→∃ ρ',Ext ρ ρ'∧VR ρ' v2 rv∧HpR P w0 (.of U) ρ' H2 t2 w:=by
 induction k with
 | refl=>intro ρ w h1 h2;exact ⟨ρ,Ext.refl ρ,h1,h2⟩
 | val h k ih=>
   intro ρ w h1 h2
   have hx:=Ext.upd (l:=⟨0,0,0⟩) h2.XnW
   obtain ⟨ρ',e1,e2,e3⟩:=ih ((h.vr h1).mono hx) (XjI h2)
   exact ⟨ρ',hx.trans e1,e2,e3⟩
 | cell b i sz hb hi k ih=>
   intro ρ w h1 h2
   have hx:=Ext.upd (l:=⟨0,0,0⟩) h2.XnW
   obtain ⟨ρ',e1,e2,e3⟩:=ih (h1.mono hx) (XjI (XLL h2 sz hb hi))
   exact ⟨ρ',hx.trans e1,e2,e3⟩
theorem XaO.nilW {P:Program} {f base:Nat} {vm:VM} {R:Value→Hp→Prop} (h:XaO P f base vm (fun v H t=>∃ v' H' t',XA8 v H t v' H' t'∧R v' H')):XaO P f base vm (fun v H _=>R v H):=by
 refine ⟨fun w0 U ρ rf rfs w cs hr=>?_⟩
 obtain ⟨ρ',rv,fr',w',v,H',top',h1,h2,h3,h4,h5,h6,v2,H2,t2,hk,h7⟩:=h.get w0 U ρ rf rfs w cs hr
 obtain ⟨ρ2,e1,e2,e3⟩:=hk.ok h4 h5
 exact ⟨ρ2,rv,fr',w',v2,H2,t2,h1,h2,h3,e2,e3,fun i l hi hl=>e1 _ _ (h6 i l hi hl),h7⟩
end Go.Vm
namespace Go.Vm
end Go.Vm
namespace Go.Vm
open Go Go.RowKit
@[simp] theorem XJJ (l:List UInt8):(ofBytes l).length=l.length:=by simp [ofBytes]
theorem pk_us {xs:List Int} {n:Nat} {K:List UInt8→Prop} (h:K (iB xs)) (hn:xs.length≤n:=by first|exact Nat.le_refl _|omega|(simp;done)|(simp;omega)):∃ bs,Xgw ((vI .u8 xs).take n)=some bs∧K bs:=
 ⟨_,by rw [List.take_of_length_le (by simpa using hn)];exact XnG _,h⟩
theorem XTr {A B C D:Prop} [Decidable (A∧B∧C∧D)] (a:A) (b:B) (c:C) (d:D):decide (A∧B∧C∧D)=true:=decide_eq_true ⟨a,b,c,d⟩
theorem XER {A B C D:Prop} [Decidable (A∧B∧C∧D)] (a:A) (b:B) (c:C) (d:D):decide (A∧B∧C∧D)=true:=decide_eq_true ⟨a,b,c,d⟩
theorem XH6 {A B C D E:Prop} [Decidable (A∧B∧C∧D∧E)] {p q:Bool} (a:A) (b:B) (c:C) (d:D) (e:E) (f:p=true) (g:q=true):(decide (A∧B∧C∧D∧E)&&p&&q)=true:=by
 rw [decide_eq_true ⟨a,b,c,d,e⟩,f,g];rfl
theorem XP6 {new:List Value} {xs:List Int} {n m:Nat} {ys:List Int} {K:List Value→Nat→Prop} (e:new=vI .u8 ys) (hc:n=xs.length) (hn:n+m=(xs++ys).length) (h:K (vI .u8 (xs++ys)) (xs++ys).length) :
 ∃ cs' n',(vI .u8 xs).take n++new=cs'∧n+m=n'∧K cs' n':=
 ⟨_,_,by rw [List.take_of_length_le (by simp [hc]),e,XFE],hn,h⟩
def un1 {α:Type} (un:Value→Option α):List Value→Option α
 | [v]=>un v
 | _=>none
theorem Xxo {α:Type} {un:Value→Option α} {g:α→Value} (h:∀ v x,un v=some x→v=g x) {cs:List Value} {x:α} (e:un1 un cs=some x):cs=[g x]:=by
 unfold un1 at e
 split at e
 ·rw [h _ _ e]
 ·cases e
theorem XPE {α:Type} {un:Value→Option α} {v:Value} {x:α} (h:un v=some x):un1 un [v]=some x:=h
theorem XIN {b:Bool}:asB (.bool b)=some b:=rfl
theorem Xdo (k:IntKind) {n:Int}:asI k (.int k n)=some n:=by simp [asI]
theorem Xeb {s:List UInt8}:asS (.string ⟨⟨s⟩⟩)=some s:=rfl
def fvV:Option Nat→Value
 | none=>.nilFunc
 | some n=>.func (.func n) ⟨[]⟩ ⟨[]⟩
theorem Xez (x:Option Nat):XaY (fvV x)=true:=by cases x<;>rfl
theorem XFy {h:Hp} {k b o n:Nat} {ob:Xbx} {cs cs':List Value} (ho:XaI h b=some ob) (hc:ob.wcs=some cs) (hle:o+n≤cs.length) (e:(cs.drop o).take n=cs') (hf:XaY.flatL cs'=true) :
 XcX h k (.pt n) (.pointer (some ⟨b,o,none⟩))=some (.pointer (some ⟨k,0,none⟩),[some (.cells cs')]):=by
 subst e
 simp only [XcX,ho,hc,hle,hf,↓reduceIte]
theorem fsp {α:Type} {x:Option Nat} {A:Option α} {B:Nat→Option α} {res:α} {G:Prop} (h:x.elim A B=some res) (t:x=none→A=some res→G) (f:∀ n,x=some n→B n=some res→G):G:=by
 cases x with
 | none=>exact t rfl h
 | some n=>exact f n rfl h
theorem fcase {α:Type} {x c:Nat} {A B:Option α} {res:α} {G:Prop} (h:cond (x==c) A B=some res) (t:x=c→A=some res→G) (f:B=some res→G):G:=by
 cases hx:(x==c)
 ·rw [hx] at h;exact f h
 ·rw [hx] at h;exact t (eq_of_beq hx) h
theorem Xzm {K:Dec} {vs:List Value} {cs:List (Option (List Value))}:dNl 2 K (.pointer none::vs) (none::none::cs)=K vs cs:=rfl
def XCw (i:Nat) (a b:Dec):Dec:=fun vs cs=>match vs[i]? with
 | some (.pointer none)=>b vs cs
 | _=>a vs cs
theorem XCw.elim {i:Nat} {a b:Dec} {vs:List Value} {cs:List (Option (List Value))} {r:Xc4} (h:XCw i a b vs cs=some r):a vs cs=some r∨b vs cs=some r:=by
 unfold XCw at h
 split at h
 ·exact .inr h
 ·exact .inl h
theorem XwW {H:Hp} {s:Nat→Option Nat}:Xt8 H s [] []:=trivial
theorem Xyd {H:Hp} {s:Nat→Option Nat} {j:Nat} {js:List Nat} {c c':List Value} {cs:List (List Value)} (e:XeR.renL s c=some c') (h:Has H j c') (t:Xt8 H s js cs):Xt8 H s (j::js) (c::cs):=⟨⟨_,e,h⟩,t⟩
theorem XwT {n:Nat} {wr:List (Option (List Value))}:XHh n wr []:=trivial
theorem Xzg {n j:Nat} {wr:List (Option (List Value))} {js:List Nat} (h:n≤j) (t:XHh n wr js):XHh n wr (j::js):=⟨.inl h,t⟩
theorem XSK {n j:Nat} {wr:List (Option (List Value))} {js:List Nat} (h:wr[j]?=some none) (t:XHh n wr js):XHh n wr (j::js):=⟨.inr h,t⟩
theorem XwR {H:Hp} {s:Nat→Option Nat} {k:Nat}:XwV H s k []:=trivial
theorem XPb {H:Hp} {s:Nat→Option Nat} {k:Nat} {l:List (Option (List Value))} (t:XwV H s (k+1) l):XwV H s k (none::l):=t
theorem XPO {H:Hp} {s:Nat→Option Nat} {k:Nat} {c c':List Value} {l:List (Option (List Value))} (e:XeR.renL s c=some c') (h:Has H k c') (t:XwV H s (k+1) l) (hm:mk3 c=none:=by rfl):XwV H s k (some c::l):=⟨by unfold HasW;rw [hm];exact ⟨_,e,h⟩,t⟩
theorem XOI {H:Hp} {s:Nat→Option Nat} {k:Nat} {c:List Value} {l:List (Option (List Value))} (h:XaI H k=some (.mp c)) (t:XwV H s (k+1) l):XwV H s k (some (.float .f64 0::c)::l):=⟨h,t⟩
theorem Res.flat {n:Nat} {r:Xc4} {v':Value} {H':Hp} {b:Bool} (e:r.v=.bool b) (_:r.new=[]) (h:Res n r v' H'):v'=.bool b:=by
 obtain ⟨js,h1,h2,-⟩:=h.ex
 rw [e] at h1
 cases h1;rfl
theorem XfS.q {s:Xb3} {vals:List Value} {h:Hp} {top:Nat} {K:Value→Hp→Nat→Prop} {r:Xc4} {v':Value} (e1:Xdy h 0 s.modes vals=some (vals,[])) (ew:Xkn h s.modes vals=[]) (e2:s.run vals []=some r) (hn:r.new=[]) (hw:r.wr=[]) (e6:XeR (XtX top 0 []) r.v=some v')
 (k:XhK v' fun v=>Xk1 [] h fun h'=>K v h' top):XfS s vals h top K:=by
 refine XfS.XHl [] (XsR (n:=0) (m:=0) (t':=top) e1 ew rfl e2 rfl (by rw [hn];rfl) rfl rfl (by rw [hw];exact XFG) (by rw [hn];exact XHb) e6) k
theorem dFin {α:Type} {o:Option α} {f:α→Xc4} {vs:List Value} {cs:List (Option (List Value))} {r:Xc4} (h:XdY (ofG o f) vs cs=some r):vs=[]∧cs=[]∧∃ x,o=some x∧f x=r:=by
 obtain ⟨a,b,c⟩:=XdY.elim h
 exact ⟨a,b,ofG.elim c⟩
theorem Res.z {n:Nat} {r:Xc4} {v':Value} {H':Hp} (e1:XeR (XvU [] n) r.v=some v') (e2:r.new=[]) (e3:r.wr=[]):Res n r v' H':=
 Res.of [] e1 (by rw [e2];exact XwW) (by decide) XwT (by rw [e3];exact XwR)
theorem XfS.p {s:Xb3} {vals:List Value} {h:Hp} {top:Nat} {K:Value→Hp→Nat→Prop} {r:Xc4} {v':Value} (e2:s.run vals []=some r)
 (k:XhK v' fun v=>Xk1 [] h fun h'=>K v h' top) (e1:Xdy h 0 s.modes vals=some (vals,[]):=by exact rfl) (ew:Xkn h s.modes vals=[]:=by exact rfl) (hn:r.new=[]:=by exact rfl) (hw:r.wr=[]:=by exact rfl) (e6:XeR (XtX top 0 []) r.v=some v':=by exact rfl):XfS s vals h top K:=XfS.q e1 ew e2 hn hw e6 k
theorem Res.y {n:Nat} {r:Xc4} {v':Value} {H':Hp} (e1:XeR (XvU [] n) r.v=some v':=by exact rfl) (e2:r.new=[]:=by exact rfl) (e3:r.wr=[]:=by exact rfl):Res n r v' H':=Res.z e1 e2 e3
end Go.Vm
namespace Go.Vm
open Go Go.RowKit
section
variable {α:Type} {f:α→List Value} {c:Nat}
end
end Go.Vm
namespace Go.Vm
end Go.Vm
namespace Go.Vm
open Go
theorem Xe0 {n:Int} (h1:-9223372036854775808≤n) (h2:n<9223372036854775808):wI .i64 n=n:=by
 show IntKind.wrap .i64 n=n;rw [IntKind.wrap_i64];omega
theorem Xkr {n:Int} (h1:0≤n) (h2:n<18446744073709551616):wI .u64 n=n:=by
 show IntKind.wrap .u64 n=n
 simp only [IntKind.wrap,IntKind.bits,IntKind.signed];simp;omega
theorem XQR {n:Int} (h1:0≤n) (h2:n<4294967296):wI .u32 n=n:=by
 show IntKind.wrap .u32 n=n
 simp only [IntKind.wrap,IntKind.bits,IntKind.signed];simp;omega
theorem wU8 {n:Int} (h1:0≤n) (h2:n<256):wI .u8 n=n:=by
 show IntKind.wrap .u8 n=n
 simp only [IntKind.wrap,IntKind.bits,IntKind.signed];simp;omega
theorem wU64m (n:Int):wI .u64 n=n%18446744073709551616:=by
 show IntKind.wrap .u64 n=_
 simp only [IntKind.wrap,IntKind.bits,IntKind.signed];simp
theorem XSk (n:Int):wI .u32 n=n%4294967296:=by
 show IntKind.wrap .u32 n=_
 simp only [IntKind.wrap,IntKind.bits,IntKind.signed];simp
theorem XLC (n:Int):wI .u16 n=n%65536:=by
 show IntKind.wrap .u16 n=_
 simp only [IntKind.wrap,IntKind.bits,IntKind.signed];simp
theorem wU8m (n:Int):wI .u8 n=n%256:=by
 show IntKind.wrap .u8 n=_
 simp only [IntKind.wrap,IntKind.bits,IntKind.signed];simp
theorem XMp {n:Nat} (h:n<18446744073709551616):(BitVec.ofInt 64 (n:Int)).toNat=n:=by
 rw [BitVec.toNat_ofInt];omega
theorem XNF {a b:Nat} (ha:a<9223372036854775808) (hb:b<9223372036854775808):Xm8 .i64 (a:Int) (b:Int)=((a &&& b:Nat):Int):=by
 have h:a &&& b≤a:=Nat.and_le_left
 show IntKind.wrap .i64 _=_
 rw [show IntKind.bits .i64=64 from rfl,BitVec.toNat_and,XMp (by omega),XMp (by omega)]
 exact Xe0 (by omega) (by omega)
theorem XRG {a b:Nat} (ha:a<9223372036854775808) (hb:b<9223372036854775808):Xwm .i64 (a:Int) (b:Int)=((a ||| b:Nat):Int):=by
 have h:a ||| b<2^63:=Nat.or_lt_two_pow (by omega) (by omega)
 show IntKind.wrap .i64 _=_
 rw [show IntKind.bits .i64=64 from rfl,BitVec.toNat_or,XMp (by omega),XMp (by omega)]
 exact Xe0 (by omega) (by omega)
theorem XNQ {a b:Nat} (ha:a<18446744073709551616) (hb:b<18446744073709551616):Xwm .u64 (a:Int) (b:Int)=((a ||| b:Nat):Int):=by
 have h:a ||| b<2^64:=Nat.or_lt_two_pow (by omega) (by omega)
 show IntKind.wrap .u64 _=_
 rw [show IntKind.bits .u64=64 from rfl,BitVec.toNat_or,XMp (by omega),XMp (by omega)]
 exact Xkr (by omega) (by omega)
theorem XCR (a k:Nat):a &&& (2^k - 1)=a%2^k:=Nat.and_two_pow_sub_one_eq_mod a k
theorem XHx {a b k:Nat} (hb:b<2^k):(a*2^k) ||| b=a*2^k+b:=by
 rw [Nat.mul_comm];exact (Nat.two_pow_add_eq_or_of_lt hb a).symm
theorem XiZ (k:Nat) {a m:Int} (hm:m=2^k - 1) (hk:k≤62) (h0:0≤a) (h1:a<9223372036854775808):Xm8 .i64 a m=a%2^k:=by
 obtain ⟨n,rfl⟩:=Int.eq_ofNat_of_zero_le h0
 have hp:2^k≤2^62:=Nat.pow_le_pow_right (by decide) hk
 have hp1:1≤2^k:=Nat.one_le_two_pow
 have:m=((2^k - 1:Nat):Int):=by rw [hm];push_cast [hp1];rfl
 rw [this,XNF (by omega) (by omega),XCR];push_cast;rfl
theorem Xqy (k:Nat) {a b:Int} (h0:0≤a) (h1:a*2^k<9223372036854775808) (hb0:0≤b) (hb:b<2^k) (hb1:b<9223372036854775808):Xwm .i64 (a*2^k) b=a*2^k+b:=by
 obtain ⟨n,rfl⟩:=Int.eq_ofNat_of_zero_le h0
 obtain ⟨m,rfl⟩:=Int.eq_ofNat_of_zero_le hb0
 have e:((n:Int)*2^k)=((n*2^k:Nat):Int):=by push_cast;rfl
 rw [e] at h1 ⊢
 rw [XRG (by omega) (by omega),XHx (by exact_mod_cast hb)];push_cast;rfl
theorem XqA (k:Nat) {a b:Int} (h0:0≤a) (h1:a*2^k<18446744073709551616) (hb0:0≤b) (hb:b<2^k) (hb1:b<18446744073709551616):Xwm .u64 (a*2^k) b=a*2^k+b:=by
 obtain ⟨n,rfl⟩:=Int.eq_ofNat_of_zero_le h0
 obtain ⟨m,rfl⟩:=Int.eq_ofNat_of_zero_le hb0
 have e:((n:Int)*2^k)=((n*2^k:Nat):Int):=by push_cast;rfl
 rw [e] at h1 ⊢
 rw [XNQ (by omega) (by omega),XHx (by exact_mod_cast hb)];push_cast;rfl
theorem XsM (a:Int) (k:Nat):a.fdiv (2^k)=a/2^k:=Int.fdiv_eq_ediv_of_nonneg a (Int.le_of_lt (Int.pow_pos (by decide)))
theorem Xa9 {α:Type} {p:Prop} [Decidable p] {x:Option α} (h:p):XbU (decide p) x=x:=XbU.mk (decide_eq_true h)
theorem XbB {α:Type} {p:Prop} [Decidable p] {x y:α} (h:p):cond (decide p) x y=x:=by rw [decide_eq_true h,cond_true]
theorem Xbd {α:Type} {p:Prop} [Decidable p] {x y:α} (h:¬ p):cond (decide p) x y=y:=by rw [decide_eq_false h,cond_false]
theorem Xvg {α:Type} {p:Prop} [Decidable p] {x y:α}:cond (decide p) x y=if p then x else y:=by
 by_cases h:p<;>simp [h]
theorem iter_eq {σ ρ:Type} {step:σ→Option (Sum σ ρ)} (F:σ→ρ) (P:σ→Prop) (μ:σ→Nat)
 (h:∀ s,P s→step s=some (.inr (F s))∨∃ s',step s=some (.inl s')∧P s'∧μ s'<μ s∧F s'=F s):∀ n s,P s→μ s<n→iter step n s=some (F s)
 | 0,s,hp,hn=>by omega
 | n+1,s,hp,hn=>by
   rw [iter]
   rcases h s hp with e|⟨s',e,hp',hm,hf⟩
   ·rw [e]
   ·rw [e];exact hf▸iter_eq F P μ h n s' hp' (by omega)
theorem XgR:FUEL=18446744073709551616:=rfl
end Go.Vm
namespace Go.Vm.Code
open Go Go.Vm Go.Proofs
def τ0:Operand:=.tmp 0
def τ1:Operand:=.tmp 1
def τ2:Operand:=.tmp 2
def τ3:Operand:=.tmp 3
def τ4:Operand:=.tmp 4
def τ5:Operand:=.tmp 5
def τ6:Operand:=.tmp 6
def τ7:Operand:=.tmp 7
def τ8:Operand:=.tmp 8
def τ9:Operand:=.tmp 9
def Xdg:Operand:=.tmp 10
def XcC:Operand:=.tmp 11
def XdH:Operand:=.tmp 12
def XdG:Operand:=.tmp 13
def Xd9:Operand:=.tmp 14
def XdR:Operand:=.tmp 15
def Xed:Operand:=.tmp 16
def Xec:Operand:=.tmp 17
def XeX:Operand:=.tmp 18
def Xe3:Operand:=.tmp 19
def Xfw:Operand:=.tmp 20
def Xfm:Operand:=.tmp 21
def XfA:Operand:=.tmp 22
def XfN:Operand:=.tmp 23
def Xfl:Operand:=.tmp 24
def Xgp:Operand:=.tmp 25
def Xf2:Operand:=.tmp 26
def Xgd:Operand:=.tmp 27
def Xgt:Operand:=.tmp 28
def Xgs:Operand:=.tmp 29
def XgH:Operand:=.tmp 30
def XgA:Operand:=.tmp 31
def Xgz:Operand:=.tmp 32
def Xhp:Operand:=.tmp 33
def Xhq:Operand:=.tmp 34
def XhG:Operand:=.tmp 35
def XhH:Operand:=.tmp 36
def Xg0:Operand:=.tmp 37
def Xiu:Operand:=.tmp 38
def Xim:Operand:=.tmp 39
def Xjb:Operand:=.tmp 40
def XiD:Operand:=.tmp 41
def XiK:Operand:=.tmp 42
def XiV:Operand:=.tmp 43
def Xje:Operand:=.tmp 44
def Xjf:Operand:=.tmp 45
def Xji:Operand:=.tmp 46
def Xjc:Operand:=.tmp 47
def XjG:Operand:=.tmp 48
def Xjd:Operand:=.tmp 49
def XjO:Operand:=.tmp 50
def XjR:Operand:=.tmp 51
def Xj6:Operand:=.tmp 52
def Xkq:Operand:=.tmp 53
def Xlw:Operand:=.tmp 54
def Xls:Operand:=.tmp 55
def Xlz:Operand:=.tmp 56
def Xld:Operand:=.tmp 57
def XlC:Operand:=.tmp 58
def XlO:Operand:=.tmp 59
def Xnd:Operand:=.tmp 60
def Xml:Operand:=.tmp 61
def Xns:Operand:=.tmp 62
def Xoa:Operand:=.tmp 63
def Xoy:Operand:=.tmp 64
def Xpi:Operand:=.tmp 65
def XpP:Operand:=.tmp 66
def Xpa:Operand:=.tmp 67
def Xo9:Operand:=.tmp 68
def XpO:Operand:=.tmp 69
def Xqm:Operand:=.tmp 70
def XqJ:Operand:=.tmp 71
def Xqr:Operand:=.tmp 72
def XqN:Operand:=.tmp 73
def XsO:Operand:=.tmp 74
def Xsv:Operand:=.tmp 75
def Xtc:Operand:=.tmp 76
def Xr3:Operand:=.tmp 77
def Xta:Operand:=.tmp 78
def Xtj:Operand:=.tmp 79
def Xtp:Operand:=.tmp 80
def Xwz:Operand:=.tmp 81
def Xv4:Operand:=.tmp 82
def XtY:Operand:=.tmp 83
def XyI:Operand:=.tmp 84
def XBf:Operand:=.tmp 85
def XA9:Operand:=.tmp 86
def XAQ:Operand:=.tmp 87
def XAR:Operand:=.tmp 88
def XA7:Operand:=.tmp 89
def XAT:Operand:=.tmp 90
def Xxl:Operand:=.tmp 91
def XA0:Operand:=.tmp 92
def XAU:Operand:=.tmp 93
def XAy:Operand:=.tmp 94
def XAV:Operand:=.tmp 95
def Xw9:Operand:=.tmp 96
def XCJ:Operand:=.tmp 97
def XGB:Operand:=.tmp 98
def XNc:Operand:=.tmp 99
def XtV:Operand:=.tmp 100
def XvT:Operand:=.tmp 101
def XzR:Operand:=.tmp 102
def XxK:Operand:=.tmp 103
def XyE:Operand:=.tmp 104
def Xyn:Operand:=.tmp 105
def Xxn:Operand:=.tmp 106
def XAO:Operand:=.tmp 107
def Xxh:Operand:=.tmp 108
def XD5:Operand:=.tmp 109
def XDK:Operand:=.tmp 110
def XvX:Operand:=.tmp 111
def XEN:Operand:=.tmp 112
def XDD:Operand:=.tmp 113
def XIV:Operand:=.tmp 114
def XFn:Operand:=.tmp 115
def Xzh:Operand:=.tmp 116
def XCc:Operand:=.tmp 117
def XBH:Operand:=.tmp 118
def XES:Operand:=.tmp 119
def XyR:Operand:=.tmp 120
def XEM:Operand:=.tmp 121
def XCu:Operand:=.tmp 122
def XEQ:Operand:=.tmp 123
def XDT:Operand:=.tmp 124
def XBG:Operand:=.tmp 125
def XDC:Operand:=.tmp 126
def Xzn:Operand:=.tmp 127
def XDo:Operand:=.tmp 128
def XC3:Operand:=.tmp 129
def XBo:Operand:=.tmp 130
def XEE:Operand:=.tmp 131
def XDw:Operand:=.tmp 132
def XED:Operand:=.tmp 133
def XxC:Operand:=.tmp 134
def XBM:Operand:=.tmp 135
def XCW:Operand:=.tmp 136
def XDk:Operand:=.tmp 137
def XEV:Operand:=.tmp 138
def XCt:Operand:=.tmp 139
def XE4:Operand:=.tmp 140
def XEg:Operand:=.tmp 141
def Xy5:Operand:=.tmp 142
def XE5:Operand:=.tmp 143
def XxE:Operand:=.tmp 144
def XJu:Operand:=.tmp 145
def Xz7:Operand:=.tmp 146
def XBX:Operand:=.tmp 147
def XEa:Operand:=.tmp 148
def XEC:Operand:=.tmp 149
def XBR:Operand:=.tmp 150
def XDd:Operand:=.tmp 151
def XxT:Operand:=.tmp 152
def XKG:Operand:=.tmp 153
def XJ4:Operand:=.tmp 154
def XDV:Operand:=.tmp 155
def XM1:Operand:=.tmp 156
def XLv:Operand:=.tmp 157
def XLz:Operand:=.tmp 158
def XMU:Operand:=.tmp 159
def XH4:Operand:=.tmp 160
def XRN:Operand:=.tmp 161
def XLa:Operand:=.tmp 162
def XN1:Operand:=.tmp 163
def XQ4:Operand:=.tmp 164
def XO2:Operand:=.tmp 165
def XRZ:Operand:=.tmp 166
def XTq:Operand:=.tmp 167
def XRs:Operand:=.tmp 168
def XRa:Operand:=.tmp 169
def XR4:Operand:=.tmp 170
def XRT:Operand:=.tmp 171
def XNw:Operand:=.tmp 172
def XRr:Operand:=.tmp 173
def XMd:Operand:=.tmp 174
def XRj:Operand:=.tmp 175
def XSw:Operand:=.tmp 176
def XRW:Operand:=.tmp 177
def XRE:Operand:=.tmp 178
def XPm:Operand:=.tmp 179
def XKP:Operand:=.tmp 180
def XRF:Operand:=.tmp 181
def XS3:Operand:=.tmp 182
def XQq:Operand:=.tmp 183
def XRv:Operand:=.tmp 184
def XIq:Operand:=.tmp 185
def XNI:Operand:=.tmp 186
def XR6:Operand:=.tmp 187
def XN2:Operand:=.tmp 188
def XPj:Operand:=.tmp 189
def XQy:Operand:=.tmp 190
def XS2:Operand:=.tmp 191
def XTm:Operand:=.tmp 192
def XOU:Operand:=.tmp 193
def XNL:Operand:=.tmp 194
def XSo:Operand:=.tmp 195
def XOC:Operand:=.tmp 196
def XTk:Operand:=.tmp 197
def XUa:Operand:=.tmp 198
def XTt:Operand:=.tmp 199
def XSL:Operand:=.tmp 200
def XNf:Operand:=.tmp 201
def XT5:Operand:=.tmp 202
def XOG:Operand:=.tmp 203
def XPQ:Operand:=.tmp 204
def XSY:Operand:=.tmp 205
def XPl:Operand:=.tmp 206
def XNZ:Operand:=.tmp 207
def XRu:Operand:=.tmp 208
def XPp:Operand:=.tmp 209
def XTC:Operand:=.tmp 210
def XP4:Operand:=.tmp 211
def XOJ:Operand:=.tmp 212
def XNG:Operand:=.tmp 213
def XTx:Operand:=.tmp 214
def XT2:Operand:=.tmp 215
def XPW:Operand:=.tmp 216
def XNz:Operand:=.tmp 217
def XS5:Operand:=.tmp 218
def XOl:Operand:=.tmp 219
def XHG:Operand:=.tmp 220
def XOi:Operand:=.tmp 221
def XQm:Operand:=.tmp 222
def XOo:Operand:=.tmp 223
def XQa:Operand:=.tmp 224
def XR5:Operand:=.tmp 225
def τ226:Operand:=.tmp 226
def τ227:Operand:=.tmp 227
def τ228:Operand:=.tmp 228
def τ229:Operand:=.tmp 229
def XTJ:Operand:=.tmp 230
def τ231:Operand:=.tmp 231
def τ232:Operand:=.tmp 232
def τ233:Operand:=.tmp 233
def τ234:Operand:=.tmp 234
def τ235:Operand:=.tmp 235
def τ236:Operand:=.tmp 236
def XSh:Operand:=.tmp 237
def τ238:Operand:=.tmp 238
def τ239:Operand:=.tmp 239
def τ240:Operand:=.tmp 240
def τ241:Operand:=.tmp 241
def τ242:Operand:=.tmp 242
def τ243:Operand:=.tmp 243
def τ244:Operand:=.tmp 244
def τ245:Operand:=.tmp 245
def τ246:Operand:=.tmp 246
def τ247:Operand:=.tmp 247
def τ248:Operand:=.tmp 248
def τ249:Operand:=.tmp 249
def τ250:Operand:=.tmp 250
def τ251:Operand:=.tmp 251
def τ252:Operand:=.tmp 252
def τ253:Operand:=.tmp 253
def τ254:Operand:=.tmp 254
def τ255:Operand:=.tmp 255
def τ256:Operand:=.tmp 256
def τ257:Operand:=.tmp 257
def τ258:Operand:=.tmp 258
def τ259:Operand:=.tmp 259
def τ260:Operand:=.tmp 260
def τ261:Operand:=.tmp 261
def τ262:Operand:=.tmp 262
def τ263:Operand:=.tmp 263
def τ264:Operand:=.tmp 264
def τ265:Operand:=.tmp 265
def τ266:Operand:=.tmp 266
def τ267:Operand:=.tmp 267
def oD (n:Nat) (o:VOp):XcW:=⟨some n,o,none⟩
def oN (o:VOp):XcW:=⟨none,o,none⟩
def oM (n:Nat) (x:Operand):XcW:=⟨some n,.mv x,none⟩
def oG (n:Nat) (o:VOp) (j:Nat) (b:Bool):XcW:=⟨some n,o,some (j,b)⟩
def oE (n i:Nat) (x:Operand):XcW:=⟨some n,.extract i x,none⟩
def k3_39:VC:=.regD [oM 100 τ5,oD 101 (.fieldA 2 τ8),oD 102 (.loadN [(.int .i64),.bool,(.int .u64),(.int .u64),.bool,(.int .u64),(.int .u64),(.int .i64),(.int .i64)] XvT),oD 103 (.callF 14 [XtV,XzR]),oM 104 τ6,oD 105 (.fieldA 2 τ8),oD 106 (.loadN [(.int .i64),.bool,(.int .u64),(.int .u64),.bool,(.int .u64),(.int .u64),(.int .i64),(.int .i64)] Xyn)] [(3,6)] [oD 107 (.callF 15 [XyE,Xxn]),oD 108 (.eqB true XxK XAO)]
def k3_60:VC:=.regD [oM 134 Xec,oM 135 Xe3,oD 136 (.bin .neq XxC XBM),oM 137 XCW,oG 138 (.mv XeX) 137 false,oG 139 (.mv Xfw) 137 false,oG 140 (.eqB true XEV XCt) 137 false,oD 141 (.pick XDk (.const (.bool true)) XE4),oM 142 XEg,oG 143 (.mv τ5) 142 false,oG 144 (.callF 19 [XE5]) 142 false,oG 145 (.mv τ6) 142 false,oG 146 (.nilCheck XJu) 142 false,oG 147 (.fieldA 2 Xz7) 142 false,oG 148 (.load1 .oth XBX) 142 false,oG 149 (.lenL XEa) 142 false] [(10,14)] [oG 150 (.bin .neq XxE XEC) 142 false,oD 151 (.pick Xy5 (.const (.bool true)) XBR)]
def k3_82:VC:=.seq (.reg [oD 4 (.mv (.const (.bool false)))]) (.seq (.seq (.reg [oM 21 τ1,oD 22 (.callF 6 [Xfm]),oD 23 (.not XfA)]) (.cond XfN (.seq (.reg [oD 24 (.callF 7 []),oM 4 Xfl]) .ret) .skip)) (.seq (.reg [oM 25 τ0,oD 26 (.callF 8 [Xgp]),oM 27 τ0,oD 28 (.callF 9 [Xgd]),oM 5 Xf2,oM 6 Xgt]) (.seq (.seq (.reg [oM 29 τ5,oD 30 (.isNil 0 false Xgs),oM 31 τ6,oD 32 (.isNil 0 false XgA),oD 33 (.eqB true XgH Xgz)]) (.cond Xhp (.seq (.reg [oD 4 (.mv (.const (.bool false)))]) .ret) .skip)) (.seq (.seq (.reg [oD 7 (.mv (.const (.int .i64 0)))]) (.block 0 (.loop (.seq (.seq (.reg [oM 34 τ7,oM 35 τ1,oD 36 (.lenL XhG),oD 37 (.bin .lss Xhq XhH),oM 38 Xg0,oG 39 (.mv τ6) 38 true,oG 40 (.isNil 0 true Xim) 38 true,oD 41 (.pick Xiu Xjb (.const (.bool false)))]) (.cond XiD .skip (.exit 0))) (.seq (.block 1 (.seq (.reg [oM 44 τ1,oM 45 τ7,oD 46 (.idxAL 12 Xje Xjf),oD 47 (.loadN [(.int .i64),.str,(.int .i64),.bool,(.int .u64),(.int .u64),.bool,(.int .u64),(.int .u64),(.int .i64),(.int .i64),(.int .u32)] Xji),oD 8 (.alloc [(.int .i64 0),(.string ⟨⟨[]⟩⟩),(.int .i64 0),(.bool false),(.int .u64 0),(.int .u64 0),(.bool false),(.int .u64 0),(.int .u64 0),(.int .i64 0),(.int .i64 0),(.int .u32 0)]),oN (.store 12 τ8 Xjc)]) (.seq (.seq (.reg [oD 48 (.fieldA 0 τ8),oD 49 (.load1 (.int .i64) XjG)]) (.block 2 (.seq (.reg [oD 51 (.bin .eql Xjd (.const (.int .i64 0))),oM 50 XjR]) (.cond XjO (.seq (.reg [oM 53 τ5,oD 54 (.fieldA 1 τ8),oD 55 (.load1 .str Xlw),oD 56 (.callF 10 [Xkq,Xls]),oM 52 Xlz,oE 57 0 Xj6,oE 58 1 Xj6,oM 9 Xld,oM 10 XlC]) (.seq (.reg [oM 60 τ6,oD 61 (.fieldA 1 τ8),oD 62 (.load1 .str Xml),oD 63 (.callF 11 [Xnd,Xns]),oM 59 Xoa,oE 64 0 XlO,oE 65 1 XlO,oM 11 Xoy,oM 12 Xpi]) (.seq (.reg [oM 66 τ9,oM 67 XcC,oD 68 (.bin .neq XpP Xpa),oM 69 Xo9,oG 70 (.mv Xdg) 69 false,oG 71 (.mv XdH) 69 false,oG 72 (.bin .neq Xqm XqJ) 69 false,oD 73 (.pick XpO (.const (.bool true)) Xqr)]) (.cond XqN (.seq (.reg [oD 4 (.mv (.const (.bool false)))]) .ret) .skip)))) (.seq (.reg [oD 75 (.bin .eql Xjd (.const (.int .i64 1))),oM 74 Xsv]) (.cond XsO (.seq (.reg [oM 77 τ5,oD 78 (.fieldA 1 τ8),oD 79 (.load1 .str Xta),oD 80 (.callF 12 [Xr3,Xtj]),oM 76 Xtp,oE 81 0 Xtc,oE 82 1 Xtc,oM 13 Xwz,oM 14 Xv4]) (.seq (.reg [oM 84 τ6,oD 85 (.fieldA 1 τ8),oD 86 (.load1 .str XBf),oD 87 (.callF 13 [XyI,XA9]),oM 83 XAQ,oE 88 0 XtY,oE 89 1 XtY,oM 15 XAR,oM 16 XA7]) (.seq (.reg [oM 90 XdG,oM 91 XdR,oD 92 (.bin .neq XAT Xxl),oM 93 XA0,oG 94 (.mv Xd9) 93 false,oG 95 (.mv Xed) 93 false,oG 96 (.bin .neq XAy XAV) 93 false,oD 97 (.pick XAU (.const (.bool true)) Xw9)]) (.cond XCJ (.seq (.reg [oD 4 (.mv (.const (.bool false)))]) .ret) .skip)))) (.seq (.reg [oD 99 (.bin .eql Xjd (.const (.int .i64 2))),oM 98 XNc]) (.cond XGB (.seq k3_39 (.cond Xxh (.seq (.reg [oD 4 (.mv (.const (.bool false)))]) .ret) .skip)) (.seq (.reg [oD 110 (.bin .eql Xjd (.const (.int .i64 3))),oM 109 XDK]) (.cond XD5 (.seq (.reg [oM 111 τ5,oD 112 (.fieldA 11 τ8),oD 113 (.load1 (.int .u32) XEN),oD 114 (.callF 16 [XvX,XDD])]) (.reg [oM 115 τ6,oD 116 (.fieldA 11 τ8),oD 117 (.load1 (.int .u32) Xzh),oD 118 (.nilCheck XFn),oD 119 (.fieldA 1 XBH),oN (.store 1 XES XCc)])) .skip)))))))))) (.seq (.reg [oM 121 τ5,oD 122 (.fieldA 2 τ8),oD 123 (.loadN [(.int .i64),.bool,(.int .u64),(.int .u64),.bool,(.int .u64),(.int .u64),(.int .i64),(.int .i64)] XCu),oD 124 (.callF 17 [XEM,XEQ]),oM 120 XDT,oE 125 0 XyR,oE 126 1 XyR,oM 17 XBG,oM 18 XDC]) (.seq (.reg [oM 128 τ6,oD 129 (.fieldA 2 τ8),oD 130 (.loadN [(.int .i64),.bool,(.int .u64),(.int .u64),.bool,(.int .u64),(.int .u64),(.int .i64),(.int .i64)] XC3),oD 131 (.callF 18 [XDo,XBo]),oM 127 XEE,oE 132 0 Xzn,oE 133 1 Xzn,oM 19 XDw,oM 20 XED]) (.seq k3_60 (.cond XDd (.seq (.reg [oD 4 (.mv (.const (.bool false)))]) .ret) .skip))))))) (.reg [oM 42 τ7,oD 43 (.bin .add XiK (.const (.int .i64 1))),oM 7 XiV])))))) (.seq (.reg [oD 152 (.callF 7 []),oM 4 XxT]) .ret)))))
def fn3:VFn:=⟨153,k3_82,[.tmp 4]⟩
def k6_20:VC:=.seq (.reg [oD 2 (.mv (.const (.bool false)))]) (.seq (.seq (.reg [oD 3 (.mv (.const (.int .i64 0)))]) (.block 0 (.loop (.seq (.seq (.reg [oM 4 τ3,oM 5 τ0,oD 6 (.lenL τ5),oD 7 (.bin .lss τ4 τ6),oM 8 τ7,oG 9 (.mv τ3) 8 true,oG 10 (.bin .lss τ9 (.const (.int .i64 40))) 8 true,oD 11 (.pick τ8 Xdg (.const (.bool false)))]) (.cond XcC .skip (.exit 0))) (.seq (.block 1 (.seq (.reg [oM 14 τ0,oM 15 τ3,oD 16 (.idxAL 12 Xd9 XdR),oD 17 (.fieldA 1 Xed),oD 18 (.load1 .str Xec),oD 19 (.lenS XeX),oD 20 (.bin .gtr Xe3 (.const (.int .i64 300)))]) (.cond Xfw (.seq (.reg [oD 2 (.mv (.const (.bool false)))]) .ret) .skip))) (.reg [oM 12 τ3,oD 13 (.bin .add XdH (.const (.int .i64 1))),oM 3 XdG])))))) (.seq (.reg [oM 21 τ0,oD 22 (.lenL Xfm),oD 23 (.bin .leq XfA (.const (.int .i64 40))),oM 2 XfN]) .ret))
def fn6:VFn:=⟨24,k6_20,[.tmp 2]⟩
def XOK:VC:=.seq (.reg [oD 0 (.mv (.const (.bool false)))]) (.seq (.reg [oD 14 (.callF 8 [(.const (.int .i64 7))]),oM 1 Xd9]) (.seq (.reg [oM 16 τ1,oD 17 (.callF 10 [Xed,(.const (.string ⟨⟨[]⟩⟩))]),oM 15 Xec,oE 18 0 XdR,oE 19 1 XdR,oM 2 XeX,oM 3 Xe3]) (.seq (.reg [oM 21 τ1,oD 22 (.callF 12 [Xfm,(.const (.string ⟨⟨[]⟩⟩))]),oM 20 XfA,oE 23 0 Xfw,oE 24 1 Xfw,oM 4 XfN,oM 5 Xfl]) (.seq (.reg [oD 6 (.mv (.const (.pointer none)))]) (.seq (.reg [oD 25 (.build [(.int .i64 0),(.int .u32 0),(.map none)] []),oD 26 (.box Xgp),oM 7 Xf2]) (.seq (.reg [oM 27 τ6,oD 28 (.callF 16 [Xgd,(.const (.int .u32 1))])]) (.seq (.reg [oM 30 τ6,oD 31 (.callF 10 [XgH,(.const (.string ⟨⟨[]⟩⟩))]),oM 29 XgA,oE 32 0 Xgs,oE 33 1 Xgs,oM 8 Xgz,oM 9 Xhp]) (.seq (.reg [oM 35 τ7,oD 36 (.callF 12 [XhG,(.const (.string ⟨⟨[]⟩⟩))]),oM 34 XhH,oE 37 0 Xhq,oE 38 1 Xhq,oM 10 Xg0,oM 11 Xiu]) (.seq (.reg [oM 40 τ6,oD 41 (.build [(.int .i64 0),(.bool false),(.int .u64 0),(.int .u64 0),(.bool false),(.int .u64 0),(.int .u64 0),(.int .i64 0),(.int .i64 0)] []),oD 42 (.callF 17 [Xjb,XiD]),oM 39 XiK,oE 43 0 Xim,oE 44 1 Xim,oM 12 XiV,oM 13 Xje]) (.seq (.reg [oM 45 τ3,oD 46 (.bin .eql Xjf (.const (.int .i64 2))),oM 47 Xji,oG 48 (.mv τ5) 47 true,oG 49 (.bin .eql XjG (.const (.int .i64 2))) 47 true,oD 50 (.pick Xjc Xjd (.const (.bool false))),oM 51 XjO,oG 52 (.mv τ9) 51 true,oG 53 (.bin .eql Xj6 (.const (.int .i64 1))) 51 true,oD 54 (.pick XjR Xkq (.const (.bool false))),oM 55 Xlw,oG 56 (.mv XcC) 55 true,oG 57 (.bin .eql Xlz (.const (.int .i64 1))) 55 true,oD 58 (.pick Xls Xld (.const (.bool false))),oM 59 XlC,oG 60 (.mv XdG) 59 true,oG 61 (.not Xnd) 59 true,oD 62 (.pick XlO Xml (.const (.bool false))),oM 63 Xns,oG 64 (.mv τ7) 63 true,oG 65 (.build [(.int .i64 0),(.bool false),(.int .u64 0),(.int .u64 0),(.bool false),(.int .u64 0),(.int .u64 0),(.int .i64 0),(.int .i64 0)] []) 63 true,oG 66 (.callF 14 [Xoy,Xpi]) 63 true,oG 67 (.not XpP) 63 true,oD 68 (.pick Xoa Xpa (.const (.bool false))),oM 69 Xo9,oG 70 (.mv τ6) 69 true,oG 71 (.callF 19 [Xqm]) 69 true,oG 72 (.bin .eql XqJ (.const (.int .i64 0))) 69 true,oD 73 (.pick XpO Xqr (.const (.bool false))),oM 74 XqN,oG 75 (.callF 8 [(.const (.int .i64 0))]) 74 true,oG 76 (.isNil 0 false Xsv) 74 true,oD 77 (.pick XsO Xtc (.const (.bool false))),oM 78 Xr3,oD 79 (.pick Xta (.const (.bool true)) (.const (.bool false))),oM 0 Xtj]) .ret))))))))))
def fn7:VFn:=⟨80,XOK,[.tmp 0]⟩
def k8_9:VC:=.seq (.reg [oD 2 (.mv (.const (.pointer none)))]) (.seq (.seq (.reg [oM 3 τ0,oD 4 (.bin .lss τ3 (.const (.int .i64 1))),oM 5 τ4,oG 6 (.mv τ0) 5 false,oG 7 (.bin .gtr τ6 (.const (.int .i64 65535))) 5 false,oD 8 (.pick τ5 (.const (.bool true)) τ7)]) (.cond τ8 (.seq (.reg [oD 2 (.mv (.const (.pointer none)))]) .ret) .skip)) (.seq (.reg [oM 9 τ0,oD 10 (.mkMap 66),oD 11 (.build [(.int .i64 0),(.int .u32 0),(.map none)] [(0,1,τ9),(2,1,Xdg)]),oD 12 (.box XcC),oM 2 XdH]) .ret))
def fn8:VFn:=⟨13,k8_9,[.tmp 2]⟩
def XNk:VC:=.regD [oD 22 (.fieldA 1 τ6),oD 23 (.load1 (.int .i64) XfA),oM 24 τ0,oD 25 (.nilCheck Xfl),oD 26 (.fieldA 0 Xgp),oD 27 (.load1 (.int .i64) Xf2)] [] [oD 28 (.bin .neq XfN Xgd)]
def Xx5:VC:=.seq (.reg [oD 4 (.mv (.const (.string ⟨⟨[]⟩⟩))),oD 5 (.mv (.const (.int .i64 0)))]) (.seq (.seq (.reg [oM 10 τ0,oD 11 (.callF 28 [Xdg]),oD 12 (.not XcC)]) (.cond XdH (.seq (.reg [oD 4 (.mv (.const (.string ⟨⟨[]⟩⟩))),oD 5 (.mv (.const (.int .i64 1)))]) .ret) .skip)) (.seq (.reg [oM 14 τ1,oD 15 (.callF 29 [Xd9]),oM 13 XdR,oE 16 0 XdG,oE 17 1 XdG,oE 18 2 XdG,oD 6 (.alloc [(.bool false),(.int .i64 0),(.int .u64 0),(.bool false),(.int .i64 0)]),oN (.store 5 τ6 Xed),oM 7 Xec,oM 8 XeX]) (.seq (.seq (.reg [oM 19 τ8,oD 20 (.bin .neq Xe3 (.const (.int .i64 0)))]) (.cond Xfw (.seq (.reg [oM 21 τ8,oD 4 (.mv (.const (.string ⟨⟨[]⟩⟩))),oM 5 Xfm]) .ret) .skip)) (.seq (.seq XNk (.cond Xgt (.seq (.reg [oD 4 (.mv (.const (.string ⟨⟨[]⟩⟩))),oD 5 (.mv (.const (.int .i64 16)))]) .ret) .skip)) (.seq (.reg [oM 30 τ7,oD 31 (.callF 30 [XgH]),oM 29 XgA,oE 32 0 Xgs,oE 33 1 Xgs,oD 9 (.alloc [(.int .i64 0),(.bool false),(.int .u64 0),(.int .u64 0),(.bool false),(.int .u64 0),(.int .u64 0),(.int .i64 0),(.int .i64 0),(.int .i64 0),(.bool false),(.int .u32 0),(.int .u32 0),(.bool false),(.string ⟨⟨[]⟩⟩),(.int .i64 0)]),oN (.store 16 τ9 Xgz),oM 8 Xhp]) (.seq (.seq (.reg [oM 34 τ8,oD 35 (.bin .eql Xhq (.const (.int .i64 0)))]) (.cond XhG (.reg [oM 36 τ0,oD 37 (.fieldA 0 τ9),oD 38 (.loadN [(.int .i64),.bool,(.int .u64),(.int .u64),.bool,(.int .u64),(.int .u64),(.int .i64),(.int .i64)] Xg0),oD 39 (.loadN [.bool,(.int .i64),(.int .u64),.bool,(.int .i64)] τ6),oD 40 (.callF 31 [XhH,Xiu,Xim]),oM 8 Xjb]) .skip)) (.seq (.block 0 (.seq (.reg [oM 42 τ8,oD 43 (.bin .neq XiK (.const (.int .i64 0))),oM 41 XiV]) (.cond XiD (.seq (.reg [oM 44 τ8,oD 4 (.mv (.const (.string ⟨⟨[]⟩⟩))),oM 5 Xje]) .ret) (.seq (.reg [oD 46 (.fieldA 10 τ9),oD 47 (.load1 .bool Xji),oM 45 Xjc]) (.cond Xjf (.seq (.reg [oM 48 τ7,oM 49 τ0,oD 50 (.nilCheck Xjd),oD 51 (.fieldA 1 XjO),oD 52 (.load1 (.int .u32) XjR),oD 53 (.callF 32 [XjG,Xj6]),oE 54 0 Xkq,oE 55 1 Xkq,oM 4 Xlw,oM 5 Xls]) .ret) .skip))))) (.seq (.reg [oM 56 τ7,oM 4 Xlz,oD 5 (.mv (.const (.int .i64 0)))]) .ret))))))))
def fn10:VFn:=⟨57,Xx5,[.tmp 4,.tmp 5]⟩
def XDO:VC:=.seq (.reg [oD 2 (.mv (.const (.bool false)))]) (.seq (.reg [oM 3 τ0,oD 4 (.isNil 0 true τ3),oM 5 τ4,oG 6 (.mv τ0) 5 true,oG 7 (.nilCheck τ6) 5 true,oG 8 (.fieldA 2 τ7) 5 true,oG 9 (.load1 .oth τ8) 5 true,oG 10 (.isNil 4 true τ9) 5 true,oD 11 (.pick τ5 Xdg (.const (.bool false))),oM 2 XcC]) .ret)
def fn28:VFn:=⟨12,XDO,[.tmp 2]⟩
def XOH:VC:=.regD [oD 78 (.loadN [.bool,(.int .i64),(.int .u64),.bool,(.int .i64)] τ9),oM 79 τ0,oD 80 (.sliceS Xtj (some (.const (.int .i64 18))) none),oN (.store 5 τ2 Xta)] [] [oM 3 Xtp,oD 4 (.mv (.const (.int .i64 0)))]
def XFV:VC:=.seq (.reg [oD 2 (.alloc [(.bool false),(.int .i64 0),(.int .u64 0),(.bool false),(.int .i64 0)]),oD 3 (.mv (.const (.string ⟨⟨[]⟩⟩))),oD 4 (.mv (.const (.int .i64 0)))]) (.seq (.seq (.reg [oM 13 τ0,oD 14 (.lenS XdG),oD 15 (.bin .lss Xd9 (.const (.int .i64 18)))]) (.cond XdR (.seq (.reg [oD 16 (.build [(.bool false),(.int .i64 0),(.int .u64 0),(.bool false),(.int .i64 0)] []),oN (.store 5 τ2 Xed),oD 3 (.mv (.const (.string ⟨⟨[]⟩⟩))),oD 4 (.mv (.const (.int .i64 2)))]) .ret) .skip)) (.seq (.reg [oM 18 τ0,oD 19 (.callF 50 [XeX,(.const (.string ⟨⟨[71,85,1]⟩⟩))]),oM 17 Xe3,oE 20 0 Xec,oE 21 1 Xec,oM 5 Xfw,oM 6 Xfm]) (.seq (.reg [oM 22 τ5,oD 23 (.callF 51 [XfA]),oM 7 XfN]) (.seq (.reg [oM 24 τ7,oD 25 (.callF 52 [Xfl,(.const (.int .i64 1))]),oM 8 Xgp]) (.seq (.reg [oM 26 τ8,oD 27 (.bin .eql Xf2 (.const (.int .i64 41))),oM 28 τ7,oD 29 (.callF 52 [Xgt,(.const (.int .i64 2))]),oD 30 (.build [(.bool false),(.int .i64 0),(.int .u64 0),(.bool false),(.int .i64 0)] [(0,1,Xgd),(1,1,Xgs)]),oD 9 (.alloc [(.bool false),(.int .i64 0),(.int .u64 0),(.bool false),(.int .i64 0)]),oN (.store 5 τ9 XgH)]) (.seq (.reg [oM 31 τ7,oD 32 (.callF 52 [XgA,(.const (.int .i64 1))]),oM 10 Xgz]) (.seq (.reg [oM 33 Xdg,oD 34 (.bin .eql Xhp (.const (.int .i64 1))),oM 35 τ7,oD 36 (.callF 52 [XhG,(.const (.int .i64 1))]),oD 37 (.fieldA 3 τ9),oN (.store 1 Xg0 Xhq),oD 38 (.fieldA 4 τ9),oN (.store 1 Xiu XhH)]) (.seq (.reg [oM 39 τ7,oD 40 (.callF 52 [Xim,(.const (.int .i64 2))])]) (.seq (.reg [oM 41 τ7,oD 42 (.callF 52 [XiD,(.const (.int .i64 4))]),oM 43 τ7,oD 44 (.callF 52 [XiV,(.const (.int .i64 4))]),oM 11 XiK,oM 12 Xje]) (.seq (.reg [oM 45 XcC,oD 46 (.conv .u64 Xjf),oD 47 (.bin .shl Xji (.const (.int .u64 32))),oM 48 XdH,oD 49 (.conv .u64 XjG),oD 50 (.bin .or Xjc Xjd),oD 51 (.fieldA 2 τ9),oN (.store 1 XjR XjO)]) (.seq (.block 0 (.seq (.reg [oM 53 τ6,oD 54 (.not Xkq),oM 55 Xlw,oG 56 (.mv τ8) 55 false,oG 57 (.fieldA 0 τ9) 55 false,oG 58 (.load1 .bool Xld) 55 false,oG 59 (.callF 53 [XlC]) 55 false,oG 60 (.bin .neq Xlz XlO) 55 false,oD 61 (.pick Xls (.const (.bool true)) Xnd),oM 62 Xml,oG 63 (.mv Xdg) 62 false,oG 64 (.bin .gtr Xoa (.const (.int .i64 1))) 62 false,oD 65 (.pick Xns (.const (.bool true)) Xoy),oM 52 Xpi]) (.cond Xj6 (.seq (.reg [oD 66 (.build [(.bool false),(.int .i64 0),(.int .u64 0),(.bool false),(.int .i64 0)] []),oN (.store 5 τ2 XpP),oD 3 (.mv (.const (.string ⟨⟨[]⟩⟩))),oD 4 (.mv (.const (.int .i64 3)))]) .ret) (.seq (.reg [oM 68 τ0,oD 69 (.lenS Xo9),oD 70 (.bin .gtr XpO (.const (.int .i64 9018))),oM 67 Xqm]) (.cond Xpa (.seq (.reg [oD 71 (.build [(.bool false),(.int .i64 0),(.int .u64 0),(.bool false),(.int .i64 0)] []),oN (.store 5 τ2 XqJ),oD 3 (.mv (.const (.string ⟨⟨[]⟩⟩))),oD 4 (.mv (.const (.int .i64 5)))]) .ret) (.seq (.reg [oM 73 τ0,oD 74 (.sliceS XqN none (some (.const (.int .i64 18)))),oD 75 (.callF 54 [XsO]),oD 76 (.not Xsv),oM 72 Xtc]) (.cond Xqr (.seq (.reg [oD 77 (.build [(.bool false),(.int .i64 0),(.int .u64 0),(.bool false),(.int .i64 0)] []),oN (.store 5 τ2 Xr3),oD 3 (.mv (.const (.string ⟨⟨[]⟩⟩))),oD 4 (.mv (.const (.int .i64 4)))]) .ret) .skip))))))) (.seq XOH .ret))))))))))))
def fn29:VFn:=⟨81,XFV,[.cell 2 [.bool,(.int .i64),(.int .u64),.bool,(.int .i64)] true,.tmp 3,.tmp 4]⟩
def XO7:VC:=.seq (.reg [oD 4 (.mv (.const (.string ⟨⟨[]⟩⟩))),oD 5 (.mv (.const (.bool false)))]) (.seq (.reg [oM 6 τ0,oM 7 τ1,oD 8 (.callF 85 [τ6,τ7]),oE 9 0 τ8,oE 10 1 τ8,oM 4 τ9,oM 5 Xdg]) .ret)
def fn50:VFn:=⟨11,XO7,[.tmp 4,.tmp 5]⟩
def XTh:VC:=.seq (.reg [oD 4 (.mv (.const (.string ⟨⟨[]⟩⟩))),oD 5 (.mv (.const (.bool false)))]) (.seq (.seq (.reg [oM 6 τ0,oM 7 τ1,oD 8 (.callF 113 [τ6,τ7]),oD 9 (.not τ8)]) (.cond τ9 (.seq (.reg [oM 10 τ0,oM 4 Xdg,oD 5 (.mv (.const (.bool false)))]) .ret) .skip)) (.seq (.reg [oM 11 τ0,oM 12 τ1,oD 13 (.lenS XdH),oD 14 (.sliceS XcC (some XdG) none),oM 4 Xd9,oD 5 (.mv (.const (.bool true)))]) .ret))
def fn85:VFn:=⟨15,XTh,[.tmp 4,.tmp 5]⟩
def XFW:VC:=.seq (.reg [oD 4 (.mv (.const (.bool false)))]) (.seq (.reg [oM 5 τ0,oD 6 (.lenS τ5),oM 7 τ1,oD 8 (.lenS τ7),oD 9 (.bin .geq τ6 τ8),oM 10 τ9,oG 11 (.mv τ0) 10 true,oG 12 (.mv τ1) 10 true,oG 13 (.lenS XdH) 10 true,oG 14 (.sliceS XcC none (some XdG)) 10 true,oG 15 (.mv τ1) 10 true,oG 16 (.bin .eql Xd9 XdR) 10 true,oD 17 (.pick Xdg Xed (.const (.bool false))),oM 4 Xec]) .ret)
def XQZ:VFn:=⟨18,XFW,[.tmp 4]⟩
def XNN:VC:=.seq (.reg [oD 2 (.mv (.const (.pointer none)))]) (.seq (.reg [oM 3 τ0,oD 4 (.build [(.string ⟨⟨[]⟩⟩),(.bool false),(.bool false)] [(0,1,τ3),(1,1,(.const (.bool true)))]),oD 5 (.box τ4),oM 2 τ5]) .ret)
def fn51:VFn:=⟨6,XNN,[.tmp 2]⟩
def XHe:VC:=.seq (.reg [oD 4 (.mv (.const (.int .i64 0)))]) (.seq (.seq (.reg [oM 7 τ1,oD 8 (.bin .lss τ7 (.const (.int .i64 1))),oM 9 τ8,oG 10 (.mv τ1) 9 false,oG 11 (.bin .gtr Xdg (.const (.int .i64 7))) 9 false,oD 12 (.pick τ9 (.const (.bool true)) XcC)]) (.cond XdH (.reg [oD 1 (.mv (.const (.int .i64 (-1))))]) .skip)) (.seq (.reg [oM 14 τ0,oM 15 τ1,oD 16 (.callF 86 [Xd9,XdR]),oM 17 τ1,oD 18 (.callF 69 [Xed,(.const (.int .i64 0)),Xec]),oM 13 XeX,oE 19 0 XdG,oE 20 1 XdG,oM 5 Xe3,oM 6 Xfw]) (.seq (.reg [oM 21 τ5,oD 22 (.conv .i64 Xfm),oM 4 XfA]) .ret)))
def fn52:VFn:=⟨23,XHe,[.tmp 4]⟩
def XGa:VC:=.seq (.reg [oD 4 (.mv (.const (.string ⟨⟨[]⟩⟩)))]) (.seq (.seq (.reg [oM 6 τ0,oD 7 (.callF 95 [τ6])]) (.cond τ7 (.seq (.reg [oD 4 (.mv (.const (.string ⟨⟨[]⟩⟩)))]) .ret) .skip)) (.seq (.seq (.reg [oM 8 τ1,oD 9 (.bin .lss τ8 (.const (.int .i64 0))),oM 10 τ9,oG 11 (.mv τ1) 10 false,oG 12 (.mv τ0) 10 false,oG 13 (.nilCheck XdH) 10 false,oG 14 (.fieldA 0 XdG) 10 false,oG 15 (.load1 .str Xd9) 10 false,oG 16 (.lenS XdR) 10 false,oG 17 (.bin .gtr XcC Xed) 10 false,oD 18 (.pick Xdg (.const (.bool true)) Xec)]) (.cond XeX (.seq (.reg [oM 19 τ0,oD 20 (.nilCheck Xe3),oD 21 (.fieldA 2 Xfw),oN (.store 1 Xfm (.const (.bool true)))]) (.seq (.reg [oD 4 (.mv (.const (.string ⟨⟨[]⟩⟩)))]) .ret)) .skip)) (.seq (.reg [oM 22 τ0,oD 23 (.nilCheck XfA),oD 24 (.fieldA 0 XfN),oD 25 (.load1 .str Xfl),oM 26 τ1,oD 27 (.sliceS Xgp none (some Xf2)),oM 5 Xgd]) (.seq (.reg [oM 28 τ0,oM 29 τ0,oD 30 (.nilCheck Xgs),oD 31 (.fieldA 0 XgH),oD 32 (.load1 .str XgA),oM 33 τ1,oD 34 (.sliceS Xgz (some Xhp) none),oD 35 (.nilCheck Xgt),oD 36 (.fieldA 0 XhG),oN (.store 1 XhH Xhq)]) (.seq (.reg [oM 37 τ5,oM 4 Xg0]) .ret)))))
def fn86:VFn:=⟨38,XGa,[.tmp 4]⟩
def XNW:VC:=.seq (.reg [oD 2 (.mv (.const (.bool false)))]) (.seq (.reg [oM 3 τ0,oD 4 (.isNil 0 false τ3),oM 5 τ4,oG 6 (.mv τ0) 5 false,oG 7 (.nilCheck τ6) 5 false,oG 8 (.fieldA 1 τ7) 5 false,oG 9 (.load1 .bool τ8) 5 false,oG 10 (.not τ9) 5 false,oD 11 (.pick τ5 (.const (.bool true)) Xdg),oM 12 XcC,oG 13 (.mv τ0) 12 false,oG 14 (.nilCheck XdG) 12 false,oG 15 (.fieldA 2 Xd9) 12 false,oG 16 (.load1 .bool XdR) 12 false,oD 17 (.pick XdH (.const (.bool true)) Xed),oM 2 Xec]) .ret)
def fn95:VFn:=⟨18,XNW,[.tmp 2]⟩
def XxN:VC:=.seq (.reg [oD 38 (.bin .lss Xg0 XhH)]) (.seq (.cond Xiu .skip (.exit 0)) (.seq (.block 1 (.seq (.reg [oD 39 (.idxAL 1 XhG Xg0),oD 40 (.load1 (.int .u8) Xim),oM 10 Xjb]) (.reg [oM 41 τ8,oD 42 (.bin .shl XiD (.const (.int .u64 8))),oM 43 Xdg,oD 44 (.conv .u64 XiV),oD 45 (.bin .or XiK Xje),oM 8 Xjf]))) (.reg [oD 46 (.bin .add Xg0 (.const (.int .i64 1))),oM 37 Xji])))
def XHg:VC:=.seq (.reg [oM 47 τ8,oM 6 Xjc,oD 7 (.mv (.const (.bool true)))]) .ret
def XF3:VC:=.seq (.reg [oD 6 (.mv (.const (.int .u64 0))),oD 7 (.mv (.const (.bool false)))]) (.seq (.seq (.reg [oM 11 τ2,oD 12 (.bin .lss XcC (.const (.int .i64 1))),oM 13 XdH,oG 14 (.mv τ2) 13 false,oG 15 (.bin .gtr Xd9 (.const (.int .i64 8))) 13 false,oD 16 (.pick XdG (.const (.bool true)) XdR),oM 17 Xed,oG 18 (.mv τ1) 17 false,oG 19 (.bin .lss XeX (.const (.int .i64 0))) 17 false,oD 20 (.pick Xec (.const (.bool true)) Xe3),oM 21 Xfw,oG 22 (.mv τ0) 21 false,oG 23 (.lenS XfA) 21 false,oG 24 (.mv τ2) 21 false,oG 25 (.bin .sub XfN Xfl) 21 false,oG 26 (.mv τ1) 21 false,oG 27 (.bin .lss Xgp Xf2) 21 false,oD 28 (.pick Xfm (.const (.bool true)) Xgd)]) (.cond Xgt (.seq (.reg [oD 6 (.mv (.const (.int .u64 0))),oD 7 (.mv (.const (.bool false)))]) .ret) .skip)) (.seq (.reg [oD 8 (.mv (.const (.int .u64 0)))]) (.seq (.seq (.reg [oM 29 τ0,oM 30 τ1,oM 31 τ1,oM 32 τ2,oD 33 (.bin .add XgA Xgz),oD 34 (.sliceS Xgs (some XgH) (some Xhp)),oD 35 (.s2b Xhq),oD 36 (.lenL XhG),oD 37 (.mv (.const (.int .i64 0)))]) (.block 0 (.loop XxN))) XHg)))
def fn69:VFn:=⟨48,XF3,[.tmp 6,.tmp 7]⟩
def XOm:VC:=.seq (.reg [oD 2 (.mv (.const (.int .i64 0)))]) (.seq (.seq (.reg [oM 3 τ0]) (.cond τ3 (.seq (.reg [oD 2 (.mv (.const (.int .i64 41)))]) .ret) .skip)) (.seq (.reg [oD 2 (.mv (.const (.int .i64 4)))]) .ret))
def fn53:VFn:=⟨4,XOm,[.tmp 2]⟩
def XPM:VC:=.seq (.reg [oD 2 (.mv (.const (.bool false)))]) (.seq (.reg [oM 3 τ0,oD 4 (.callF 87 [τ3]),oD 5 (.bin .eql τ4 (.const (.int .i64 65535))),oM 2 τ5]) .ret)
def fn54:VFn:=⟨6,XPM,[.tmp 2]⟩
def XPz:VC:=.reg [oM 4 τ7]
def XN9:VC:=.block 1 (.reg [oD 8 (.load1 (.int .i64) τ3),oM 9 τ4,oD 10 (.bin .add τ8 τ9),oD 11 (.callF 115 [Xdg]),oN (.store 1 τ3 XcC)])
def k87_6:VC:=.rangeF τ6 [7] XPz XN9
def XGQ:VC:=.seq (.reg [oD 12 (.load1 (.int .i64) τ3),oM 2 XdH]) .ret
def XHi:VC:=.seq (.reg [oD 2 (.mv (.const (.int .i64 0)))]) (.seq (.reg [oD 3 (.alloc [(.int .i64 0)]),oN (.store 1 τ3 (.const (.int .i64 0)))]) (.seq (.seq (.reg [oM 5 τ0,oD 6 (.callF 114 [τ5])]) (.block 0 k87_6)) XGQ))
def fn87:VFn:=⟨13,XHi,[.tmp 2]⟩
def XSR:VC:=.seq (.reg [oD 1 (.box τ0),oM 2 (.const .nilFunc)]) (.seq (.reg [oD 3 (.mkFunc 128 [] [τ1]),oM 2 τ3]) .ret)
def XT0:VFn:=⟨4,XSR,[.tmp 2]⟩
def Xpr:VC:=.seq (.seq (.reg [oM 5 τ3,oD 6 (.load1 .str τ1),oD 7 (.lenS τ6),oD 8 (.bin .lss τ5 τ7)]) (.cond τ8 .skip (.exit 0))) (.seq (.block 1 (.seq (.reg [oD 11 (.load1 .str τ1),oM 12 τ3,oD 13 (.idxS XcC XdH),oD 14 (.conv .i64 XdG),oD 15 (.bin .shl Xd9 (.const (.int .u64 8))),oM 4 XdR]) (.seq (.seq (.reg [oM 16 τ3,oD 17 (.bin .add Xed (.const (.int .i64 1))),oD 18 (.load1 .str τ1),oD 19 (.lenS XeX),oD 20 (.bin .lss Xec Xe3)]) (.cond Xfw (.reg [oM 21 τ4,oD 22 (.load1 .str τ1),oM 23 τ3,oD 24 (.bin .add XfN (.const (.int .i64 1))),oD 25 (.idxS XfA Xfl),oD 26 (.conv .i64 Xgp),oD 27 (.bin .or Xfm Xf2),oM 4 Xgd]) .skip)) (.seq (.reg [oM 28 τ0,oM 29 τ4,oD 30 (.callV Xgt [Xgs]),oD 31 (.not XgH)]) (.cond XgA .ret .skip))))) (.reg [oM 9 τ3,oD 10 (.bin .add τ9 (.const (.int .i64 2))),oM 3 Xdg]))
def XL3:VC:=.seq (.reg [oD 3 (.mv (.const (.int .i64 0)))]) (.block 0 (.loop Xpr))
def XQI:VFn:=⟨32,XL3,[]⟩
def XAb:VC:=.seq (.seq (.reg [oM 3 τ0,oD 4 (.bin .gtr τ3 (.const (.int .i64 65535)))]) (.cond τ4 .skip (.exit 0))) (.block 1 (.reg [oM 5 τ0,oD 6 (.bin .and τ5 (.const (.int .i64 65535))),oM 7 τ0,oD 8 (.bin .shr τ7 (.const (.int .u64 16))),oD 9 (.bin .add τ6 τ8),oM 0 τ9]))
def Xyx:VC:=.seq (.reg [oM 10 τ0,oM 2 Xdg]) .ret
def Xzs:VC:=.seq (.reg [oD 2 (.mv (.const (.int .i64 0)))]) (.seq (.block 0 (.loop XAb)) Xyx)
def XRP:VFn:=⟨11,Xzs,[.tmp 2]⟩
def XQQ:VC:=.seq (.reg [oD 2 (.alloc [(.int .i64 0),(.bool false),(.int .u64 0),(.int .u64 0),(.bool false),(.int .u64 0),(.int .u64 0),(.int .i64 0),(.int .i64 0),(.int .i64 0),(.bool false),(.int .u32 0),(.int .u32 0),(.bool false),(.string ⟨⟨[]⟩⟩),(.int .i64 0)]),oD 3 (.mv (.const (.int .i64 0)))]) (.seq (.reg [oM 9 τ0,oD 10 (.callF 55 [τ9]),oM 8 Xdg,oE 11 0 τ8,oE 12 1 τ8,oE 13 2 τ8,oE 14 3 τ8,oD 4 (.alloc [(.int .i64 0),(.bool false),(.int .u64 0),(.int .u64 0),(.bool false),(.int .u64 0),(.int .u64 0),(.int .i64 0),(.int .i64 0),(.int .i64 0),(.bool false),(.int .u32 0),(.int .u32 0),(.bool false),(.string ⟨⟨[]⟩⟩),(.int .i64 0)]),oN (.store 16 τ4 XcC),oM 5 XdH,oM 6 XdG,oM 7 Xd9]) (.seq (.reg [oD 15 (.loadN [(.int .i64),.bool,(.int .u64),(.int .u64),.bool,(.int .u64),(.int .u64),(.int .i64),(.int .i64),(.int .i64),.bool,(.int .u32),(.int .u32),.bool,.str,(.int .i64)] τ4),oM 16 τ7,oN (.store 16 τ2 XdR),oM 3 Xed]) .ret))
def fn30:VFn:=⟨17,XQQ,[.cell 2 [(.int .i64),.bool,(.int .u64),(.int .u64),.bool,(.int .u64),(.int .u64),(.int .i64),(.int .i64),(.int .i64),.bool,(.int .u32),(.int .u32),.bool,.str,(.int .i64)] true,.tmp 3]⟩
def XQ9:VC:=.regD [oD 58 (.loadN [(.int .i64),.bool,(.int .u64),(.int .u64),.bool,(.int .u64),(.int .u64),(.int .i64),(.int .i64),(.int .i64),.bool,(.int .u32),(.int .u32),.bool,.str,(.int .i64)] τ8),oD 59 (.fieldA 7 τ6),oD 60 (.load1 .str XlO),oD 61 (.lenS Xnd),oM 62 τ9,oN (.store 16 τ2 XlC),oM 3 Xml] [(2,5)] [oM 4 Xns,oD 5 (.mv (.const (.int .i64 0)))]
def XHE:VC:=.seq (.reg [oD 2 (.alloc [(.int .i64 0),(.bool false),(.int .u64 0),(.int .u64 0),(.bool false),(.int .u64 0),(.int .u64 0),(.int .i64 0),(.int .i64 0),(.int .i64 0),(.bool false),(.int .u32 0),(.int .u32 0),(.bool false),(.string ⟨⟨[]⟩⟩),(.int .i64 0)]),oD 3 (.mv (.const (.int .i64 0))),oD 4 (.mv (.const (.int .i64 0))),oD 5 (.mv (.const (.int .i64 0)))]) (.seq (.block 0 (.seq (.reg [oM 11 τ0,oD 12 (.lenS XcC),oD 13 (.bin .gtr XdH (.const (.int .i64 9000))),oM 10 XdG]) (.cond Xdg (.seq (.reg [oD 14 (.build [(.int .i64 0),(.bool false),(.int .u64 0),(.int .u64 0),(.bool false),(.int .u64 0),(.int .u64 0),(.int .i64 0),(.int .i64 0),(.int .i64 0),(.bool false),(.int .u32 0),(.int .u32 0),(.bool false),(.string ⟨⟨[]⟩⟩),(.int .i64 0)] []),oN (.store 16 τ2 Xd9),oD 3 (.mv (.const (.int .i64 0))),oD 4 (.mv (.const (.int .i64 0))),oD 5 (.mv (.const (.int .i64 5)))]) .ret) (.seq (.reg [oM 16 τ0,oD 17 (.bin .eql Xed (.const (.string ⟨⟨[]⟩⟩))),oM 15 Xec]) (.cond XdR (.seq (.reg [oD 18 (.build [(.int .i64 0),(.bool false),(.int .u64 0),(.int .u64 0),(.bool false),(.int .u64 0),(.int .u64 0),(.int .i64 0),(.int .i64 0),(.int .i64 0),(.bool false),(.int .u32 0),(.int .u32 0),(.bool false),(.string ⟨⟨[]⟩⟩),(.int .i64 0)] []),oN (.store 16 τ2 XeX),oD 3 (.mv (.const (.int .i64 0))),oD 4 (.mv (.const (.int .i64 0))),oD 5 (.mv (.const (.int .i64 2)))]) .ret) .skip))))) (.seq (.reg [oM 20 τ0,oD 21 (.callF 88 [Xfw]),oM 19 Xfm,oE 22 0 Xe3,oE 23 1 Xe3,oD 6 (.alloc [(.bool false),(.int .u64 0),(.int .u64 0),(.bool false),(.int .u64 0),(.int .u64 0),(.int .i64 0),(.string ⟨⟨[]⟩⟩)]),oN (.store 8 τ6 XfA),oM 7 XfN]) (.seq (.seq (.reg [oM 24 τ7,oD 25 (.bin .neq Xfl (.const (.int .i64 0)))]) (.cond Xgp (.seq (.reg [oD 26 (.build [(.int .i64 0),(.bool false),(.int .u64 0),(.int .u64 0),(.bool false),(.int .u64 0),(.int .u64 0),(.int .i64 0),(.int .i64 0),(.int .i64 0),(.bool false),(.int .u32 0),(.int .u32 0),(.bool false),(.string ⟨⟨[]⟩⟩),(.int .i64 0)] []),oM 27 τ7,oN (.store 16 τ2 Xf2),oD 3 (.mv (.const (.int .i64 0))),oD 4 (.mv (.const (.int .i64 0))),oM 5 Xgd]) .ret) .skip)) (.seq (.reg [oM 28 τ0,oD 29 (.lenS Xgt),oD 30 (.fieldA 6 τ6),oD 31 (.load1 (.int .i64) XgH),oD 32 (.fieldA 0 τ6),oD 33 (.loadN [.bool,(.int .u64),(.int .u64)] Xgz),oD 34 (.fieldA 3 τ6),oD 35 (.loadN [.bool,(.int .u64),(.int .u64)] Xhq),oD 36 (.build [(.int .i64 0),(.bool false),(.int .u64 0),(.int .u64 0),(.bool false),(.int .u64 0),(.int .u64 0),(.int .i64 0),(.int .i64 0)] [(0,1,XgA),(1,3,Xhp),(4,3,XhG)]),oD 37 (.build [(.int .i64 0),(.bool false),(.int .u64 0),(.int .u64 0),(.bool false),(.int .u64 0),(.int .u64 0),(.int .i64 0),(.int .i64 0),(.int .i64 0),(.bool false),(.int .u32 0),(.int .u32 0),(.bool false),(.string ⟨⟨[]⟩⟩),(.int .i64 0)] [(15,1,Xgs),(0,9,XhH)]),oD 8 (.alloc [(.int .i64 0),(.bool false),(.int .u64 0),(.int .u64 0),(.bool false),(.int .u64 0),(.int .u64 0),(.int .i64 0),(.int .i64 0),(.int .i64 0),(.bool false),(.int .u32 0),(.int .u32 0),(.bool false),(.string ⟨⟨[]⟩⟩),(.int .i64 0)]),oN (.store 16 τ8 Xg0)]) (.seq (.reg [oD 9 (.mv (.const (.int .i64 0)))]) (.seq (.seq (.reg [oD 38 (.fieldA 6 τ6),oD 39 (.load1 (.int .i64) Xiu)]) (.block 1 (.seq (.reg [oD 41 (.bin .eql Xim (.const (.int .i64 6))),oM 40 XiD]) (.cond Xjb (.reg [oD 43 (.loadN [.bool,(.int .u64),(.int .u64),.bool,(.int .u64),(.int .u64),(.int .i64),.str] τ6),oD 44 (.callF 89 [XiV,τ8]),oM 42 Xje,oE 45 0 XiK,oE 46 1 XiK,oM 9 Xjf,oM 7 Xji]) (.seq (.reg [oD 48 (.bin .eql Xim (.const (.int .i64 17))),oM 47 XjG]) (.cond Xjc (.reg [oD 50 (.loadN [.bool,(.int .u64),(.int .u64),.bool,(.int .u64),(.int .u64),(.int .i64),.str] τ6),oD 51 (.callF 90 [XjO,τ8]),oM 49 XjR,oE 52 0 Xjd,oE 53 1 Xjd,oM 9 Xj6,oM 7 Xkq]) (.reg [oD 7 (.mv (.const (.int .i64 6)))]))))))) (.seq (.seq (.reg [oM 54 τ7,oD 55 (.bin .neq Xlw (.const (.int .i64 0)))]) (.cond Xls (.seq (.reg [oD 56 (.build [(.int .i64 0),(.bool false),(.int .u64 0),(.int .u64 0),(.bool false),(.int .u64 0),(.int .u64 0),(.int .i64 0),(.int .i64 0),(.int .i64 0),(.bool false),(.int .u32 0),(.int .u32 0),(.bool false),(.string ⟨⟨[]⟩⟩),(.int .i64 0)] []),oM 57 τ7,oN (.store 16 τ2 Xlz),oD 3 (.mv (.const (.int .i64 0))),oD 4 (.mv (.const (.int .i64 0))),oM 5 Xld]) .ret) .skip)) (.seq XQ9 .ret))))))))
def fn55:VFn:=⟨63,XHE,[.cell 2 [(.int .i64),.bool,(.int .u64),(.int .u64),.bool,(.int .u64),(.int .u64),(.int .i64),(.int .i64),(.int .i64),.bool,(.int .u32),(.int .u32),.bool,.str,(.int .i64)] true,.tmp 3,.tmp 4,.tmp 5]⟩
def XGl:VC:=.seq (.reg [oD 2 (.alloc [(.bool false),(.int .u64 0),(.int .u64 0),(.bool false),(.int .u64 0),(.int .u64 0),(.int .i64 0),(.string ⟨⟨[]⟩⟩)]),oD 3 (.mv (.const (.int .i64 0)))]) (.seq (.reg [oM 10 τ0,oD 11 (.callF 116 [Xdg]),oM 9 XcC,oE 12 0 τ9,oE 13 1 τ9,oE 14 2 τ9,oM 4 XdH,oM 5 XdG,oM 6 Xd9]) (.seq (.seq (.reg [oM 15 τ6,oD 16 (.bin .neq XdR (.const (.int .i64 0)))]) (.cond Xed (.seq (.reg [oD 17 (.build [(.bool false),(.int .u64 0),(.int .u64 0),(.bool false),(.int .u64 0),(.int .u64 0),(.int .i64 0),(.string ⟨⟨[]⟩⟩)] []),oM 18 τ6,oN (.store 8 τ2 Xec),oM 3 XeX]) .ret) .skip)) (.seq (.seq (.reg [oM 19 τ4]) (.block 0 (.seq (.reg [oD 20 (.tassert 175 (.agg ⟨[(.int .i64 0),(.int .i64 0),(.bool false),(.int .i64 0),(.int .i64 0),(.bool false),(.int .u64 0),(.int .u64 0),(.bool false),(.int .u64 0),(.int .u64 0),(.string ⟨⟨[]⟩⟩)]⟩) Xe3),oE 21 1 Xfw,oE 22 0 Xfw]) (.cond Xfm (.seq (.reg [oD 7 (.alloc [(.int .i64 0),(.int .i64 0),(.bool false),(.int .i64 0),(.int .i64 0),(.bool false),(.int .u64 0),(.int .u64 0),(.bool false),(.int .u64 0),(.int .u64 0),(.string ⟨⟨[]⟩⟩)]),oN (.store 12 τ7 XfA)]) (.seq (.seq (.reg [oM 23 τ0,oD 24 (.lenS XfN),oD 25 (.fieldA 11 τ7),oD 26 (.load1 .str Xgp),oD 27 (.lenS Xf2),oD 28 (.bin .add (.const (.int .i64 20)) Xgd),oM 29 τ5,oD 30 (.lenS Xgs),oD 31 (.bin .add Xgt XgH),oD 32 (.bin .neq Xfl XgA)]) (.cond Xgz (.seq (.reg [oD 33 (.build [(.bool false),(.int .u64 0),(.int .u64 0),(.bool false),(.int .u64 0),(.int .u64 0),(.int .i64 0),(.string ⟨⟨[]⟩⟩)] []),oN (.store 8 τ2 Xhp),oD 3 (.mv (.const (.int .i64 5)))]) .ret) .skip)) (.seq (.reg [oD 34 (.fieldA 5 τ7),oD 35 (.loadN [.bool,(.int .u64),(.int .u64)] Xhq),oD 36 (.fieldA 8 τ7),oD 37 (.loadN [.bool,(.int .u64),(.int .u64)] XhH),oD 38 (.fieldA 4 τ7),oD 39 (.load1 (.int .i64) Xiu),oM 40 τ5,oD 41 (.build [(.bool false),(.int .u64 0),(.int .u64 0),(.bool false),(.int .u64 0),(.int .u64 0),(.int .i64 0),(.string ⟨⟨[]⟩⟩)] [(0,3,XhG),(3,3,Xg0),(6,1,Xim),(7,1,Xjb)]),oN (.store 8 τ2 XiD),oD 3 (.mv (.const (.int .i64 0)))]) .ret))) (.seq (.reg [oD 42 (.tassert 176 (.agg ⟨[(.int .i64 0),(.int .i64 0),(.int .i64 0),(.int .i64 0),(.bool false),(.int .u64 0),(.int .u64 0),(.bool false),(.int .u64 0),(.int .u64 0)]⟩) Xe3),oE 43 1 XiK,oE 44 0 XiK]) (.cond XiV (.seq (.reg [oD 8 (.alloc [(.int .i64 0),(.int .i64 0),(.int .i64 0),(.int .i64 0),(.bool false),(.int .u64 0),(.int .u64 0),(.bool false),(.int .u64 0),(.int .u64 0)]),oN (.store 10 τ8 Xje)]) (.seq (.seq (.reg [oM 45 τ0,oD 46 (.lenS Xjf),oM 47 τ5,oD 48 (.lenS Xjc),oD 49 (.bin .add (.const (.int .i64 40)) XjG),oD 50 (.bin .neq Xji Xjd)]) (.cond XjO (.seq (.reg [oD 51 (.build [(.bool false),(.int .u64 0),(.int .u64 0),(.bool false),(.int .u64 0),(.int .u64 0),(.int .i64 0),(.string ⟨⟨[]⟩⟩)] []),oN (.store 8 τ2 XjR),oD 3 (.mv (.const (.int .i64 5)))]) .ret) .skip)) (.seq (.reg [oD 52 (.fieldA 4 τ8),oD 53 (.loadN [.bool,(.int .u64),(.int .u64)] Xj6),oD 54 (.fieldA 7 τ8),oD 55 (.loadN [.bool,(.int .u64),(.int .u64)] Xlw),oD 56 (.fieldA 2 τ8),oD 57 (.load1 (.int .i64) Xlz),oM 58 τ5,oD 59 (.build [(.bool false),(.int .u64 0),(.int .u64 0),(.bool false),(.int .u64 0),(.int .u64 0),(.int .i64 0),(.string ⟨⟨[]⟩⟩)] [(0,3,Xkq),(3,3,Xls),(6,1,Xld),(7,1,XlC)]),oN (.store 8 τ2 XlO),oD 3 (.mv (.const (.int .i64 0)))]) .ret))) .skip)))))) (.seq (.reg [oD 60 (.build [(.bool false),(.int .u64 0),(.int .u64 0),(.bool false),(.int .u64 0),(.int .u64 0),(.int .i64 0),(.string ⟨⟨[]⟩⟩)] []),oN (.store 8 τ2 Xnd),oD 3 (.mv (.const (.int .i64 3)))]) .ret))))
def fn88:VFn:=⟨61,XGl,[.cell 2 [.bool,(.int .u64),(.int .u64),.bool,(.int .u64),(.int .u64),(.int .i64),.str] true,.tmp 3]⟩
def XLW:VC:=.seq (.reg [oM 2 (.const .nilIface),oD 3 (.mv (.const (.string ⟨⟨[]⟩⟩))),oD 4 (.mv (.const (.int .i64 0)))]) (.seq (.seq (.reg [oM 11 τ0,oD 12 (.idxS XcC (.const (.int .i64 0))),oD 13 (.bin .shr XdH (.const (.int .u64 4)))]) (.block 0 (.seq (.reg [oD 15 (.bin .eql XdG (.const (.int .u8 4))),oM 14 XdR]) (.cond Xd9 (.seq (.reg [oM 17 τ0,oD 18 (.callF 129 [Xec]),oM 16 XeX,oE 19 0 Xed,oE 20 1 Xed,oE 21 2 Xed,oD 5 (.alloc [(.int .i64 0),(.int .i64 0),(.bool false),(.int .i64 0),(.int .i64 0),(.bool false),(.int .u64 0),(.int .u64 0),(.bool false),(.int .u64 0),(.int .u64 0),(.string ⟨⟨[]⟩⟩)]),oN (.store 12 τ5 Xe3),oM 6 Xfw,oM 7 Xfm]) (.seq (.reg [oD 22 (.loadN [(.int .i64),(.int .i64),.bool,(.int .i64),(.int .i64),.bool,(.int .u64),(.int .u64),.bool,(.int .u64),(.int .u64),.str] τ5),oD 23 (.iface 175 XfA),oM 24 τ6,oM 25 τ7,oM 2 XfN,oM 3 Xfl,oM 4 Xgp]) .ret)) (.seq (.reg [oD 27 (.bin .eql XdG (.const (.int .u8 6))),oM 26 Xgd]) (.cond Xf2 (.seq (.reg [oM 29 τ0,oD 30 (.callF 130 [Xgs]),oM 28 XgH,oE 31 0 Xgt,oE 32 1 Xgt,oE 33 2 Xgt,oD 8 (.alloc [(.int .i64 0),(.int .i64 0),(.int .i64 0),(.int .i64 0),(.bool false),(.int .u64 0),(.int .u64 0),(.bool false),(.int .u64 0),(.int .u64 0)]),oN (.store 10 τ8 XgA),oM 9 Xgz,oM 10 Xhp]) (.seq (.reg [oD 34 (.loadN [(.int .i64),(.int .i64),(.int .i64),(.int .i64),.bool,(.int .u64),(.int .u64),.bool,(.int .u64),(.int .u64)] τ8),oD 35 (.iface 176 Xhq),oM 36 τ9,oM 37 Xdg,oM 2 XhG,oM 3 XhH,oM 4 Xg0]) .ret)) .skip)))))) (.seq (.reg [oM 2 (.const .nilIface),oD 3 (.mv (.const (.string ⟨⟨[]⟩⟩))),oD 4 (.mv (.const (.int .i64 3)))]) .ret))
def XQe:VFn:=⟨38,XLW,[.tmp 2,.tmp 3,.tmp 4]⟩
def XIm:VC:=.regD [oD 72 (.fieldA 0 τ5),oD 73 (.load1 .oth Xqr),oD 74 (.callF 52 [XqN,(.const (.int .i64 1))]),oD 75 (.fieldA 0 τ5),oD 76 (.load1 .oth Xsv),oD 77 (.callF 52 [Xtc,(.const (.int .i64 1))]),oD 78 (.fieldA 3 τ7)] [(2,4)] [oN (.store 1 Xta XsO),oD 79 (.fieldA 4 τ7),oN (.store 1 Xtj Xr3)]
def XJw:VC:=.regD [oD 83 (.loadN [.oth] τ5),oD 84 (.callF 135 [XtY]),oD 85 (.loadN [.oth] τ5),oD 86 (.callF 135 [XBf]),oD 87 (.fieldA 5 τ7)] [(1,2)] [oN (.store 3 XAQ XyI),oD 88 (.fieldA 8 τ7),oN (.store 3 XAR XA9)]
def XLX:VC:=.regD [oD 95 (.loadN [(.int .i64),(.int .i64),.bool,(.int .i64),(.int .i64),.bool,(.int .u64),(.int .u64),.bool,(.int .u64),(.int .u64),.str] τ7),oD 96 (.fieldA 0 τ5),oD 97 (.load1 .oth Xw9),oM 98 τ9,oM 99 τ8,oD 100 (.bin .sub XGB XNc),oD 101 (.callF 86 [XCJ,XtV])] [(0,6)] [oN (.store 12 τ2 XAV),oM 3 XvT,oD 4 (.mv (.const (.int .i64 0)))]
def XzX:VC:=.seq (.reg [oD 2 (.alloc [(.int .i64 0),(.int .i64 0),(.bool false),(.int .i64 0),(.int .i64 0),(.bool false),(.int .u64 0),(.int .u64 0),(.bool false),(.int .u64 0),(.int .u64 0),(.string ⟨⟨[]⟩⟩)]),oD 3 (.mv (.const (.string ⟨⟨[]⟩⟩))),oD 4 (.mv (.const (.int .i64 0)))]) (.seq (.seq (.reg [oM 11 τ0,oD 12 (.lenS XcC),oD 13 (.bin .lss XdH (.const (.int .i64 20)))]) (.cond XdG (.seq (.reg [oD 14 (.build [(.int .i64 0),(.int .i64 0),(.bool false),(.int .i64 0),(.int .i64 0),(.bool false),(.int .u64 0),(.int .u64 0),(.bool false),(.int .u64 0),(.int .u64 0),(.string ⟨⟨[]⟩⟩)] []),oN (.store 12 τ2 Xd9),oD 3 (.mv (.const (.string ⟨⟨[]⟩⟩))),oD 4 (.mv (.const (.int .i64 2)))]) .ret) .skip)) (.seq (.reg [oM 15 τ0,oD 16 (.callF 51 [XdR]),oD 17 (.build [(.pointer none)] [(0,1,Xed)]),oD 5 (.alloc [(.pointer none)]),oN (.store 1 τ5 Xec)]) (.seq (.reg [oD 18 (.fieldA 0 τ5),oD 19 (.load1 .oth XeX),oD 20 (.callF 52 [Xe3,(.const (.int .i64 1))]),oM 6 Xfw]) (.seq (.reg [oD 21 (.fieldA 0 τ5),oD 22 (.load1 .oth Xfm),oD 23 (.callF 52 [XfA,(.const (.int .i64 1))]),oD 24 (.build [(.int .i64 0),(.int .i64 0),(.bool false),(.int .i64 0),(.int .i64 0),(.bool false),(.int .u64 0),(.int .u64 0),(.bool false),(.int .u64 0),(.int .u64 0),(.string ⟨⟨[]⟩⟩)] [(0,1,XfN)]),oD 7 (.alloc [(.int .i64 0),(.int .i64 0),(.bool false),(.int .i64 0),(.int .i64 0),(.bool false),(.int .u64 0),(.int .u64 0),(.bool false),(.int .u64 0),(.int .u64 0),(.string ⟨⟨[]⟩⟩)]),oN (.store 12 τ7 Xfl)]) (.seq (.reg [oM 25 τ6,oD 26 (.bin .and Xgp (.const (.int .i64 15))),oD 27 (.bin .mul Xf2 (.const (.int .i64 4))),oD 28 (.fieldA 0 τ5),oD 29 (.load1 .oth Xgt),oD 30 (.callF 52 [Xgs,(.const (.int .i64 2))]),oM 8 Xgd,oM 9 XgH]) (.seq (.block 0 (.seq (.reg [oM 32 τ6,oD 33 (.bin .shr Xgz (.const (.int .u64 4))),oD 34 (.bin .neq Xhp (.const (.int .i64 4))),oM 35 Xhq,oG 36 (.mv τ8) 35 false,oG 37 (.bin .lss XhH (.const (.int .i64 20))) 35 false,oD 38 (.pick XhG (.const (.bool true)) Xg0),oM 39 Xiu,oG 40 (.mv τ9) 39 false,oG 41 (.mv τ8) 39 false,oG 42 (.bin .lss Xjb XiD) 39 false,oD 43 (.pick Xim (.const (.bool true)) XiK),oM 31 XiV]) (.cond XgA (.seq (.reg [oD 44 (.build [(.int .i64 0),(.int .i64 0),(.bool false),(.int .i64 0),(.int .i64 0),(.bool false),(.int .u64 0),(.int .u64 0),(.bool false),(.int .u64 0),(.int .u64 0),(.string ⟨⟨[]⟩⟩)] []),oN (.store 12 τ2 Xje),oD 3 (.mv (.const (.string ⟨⟨[]⟩⟩))),oD 4 (.mv (.const (.int .i64 3)))]) .ret) (.seq (.reg [oM 46 τ9,oM 47 τ0,oD 48 (.lenS Xjc),oD 49 (.bin .gtr Xji XjG),oM 45 Xjd]) (.cond Xjf (.seq (.reg [oD 50 (.build [(.int .i64 0),(.int .i64 0),(.bool false),(.int .i64 0),(.int .i64 0),(.bool false),(.int .u64 0),(.int .u64 0),(.bool false),(.int .u64 0),(.int .u64 0),(.string ⟨⟨[]⟩⟩)] []),oN (.store 12 τ2 XjO),oD 3 (.mv (.const (.string ⟨⟨[]⟩⟩))),oD 4 (.mv (.const (.int .i64 2)))]) .ret) (.seq (.reg [oM 52 τ0,oM 53 τ8,oD 54 (.sliceS Xj6 none (some Xkq)),oD 55 (.callF 54 [Xlw]),oD 56 (.not Xls),oM 51 Xlz]) (.cond XjR (.seq (.reg [oD 57 (.build [(.int .i64 0),(.int .i64 0),(.bool false),(.int .i64 0),(.int .i64 0),(.bool false),(.int .u64 0),(.int .u64 0),(.bool false),(.int .u64 0),(.int .u64 0),(.string ⟨⟨[]⟩⟩)] []),oN (.store 12 τ2 Xld),oD 3 (.mv (.const (.string ⟨⟨[]⟩⟩))),oD 4 (.mv (.const (.int .i64 4)))]) .ret) .skip))))))) (.seq (.reg [oD 58 (.fieldA 0 τ5),oD 59 (.load1 .oth XlC),oD 60 (.callF 52 [XlO,(.const (.int .i64 2))]),oD 61 (.fieldA 1 τ7),oN (.store 1 Xml Xnd)]) (.seq (.reg [oD 62 (.fieldA 0 τ5),oD 63 (.load1 .oth Xns),oD 64 (.callF 52 [Xoa,(.const (.int .i64 2))]),oM 10 Xoy]) (.seq (.seq (.reg [oM 65 Xdg,oD 66 (.bin .andNot Xpi (.const (.int .i64 16384))),oD 67 (.bin .neq XpP (.const (.int .i64 0)))]) (.cond Xpa (.seq (.reg [oD 68 (.build [(.int .i64 0),(.int .i64 0),(.bool false),(.int .i64 0),(.int .i64 0),(.bool false),(.int .u64 0),(.int .u64 0),(.bool false),(.int .u64 0),(.int .u64 0),(.string ⟨⟨[]⟩⟩)] []),oN (.store 12 τ2 Xo9),oD 3 (.mv (.const (.string ⟨⟨[]⟩⟩))),oD 4 (.mv (.const (.int .i64 7)))]) .ret) .skip)) (.seq (.reg [oM 69 Xdg,oD 70 (.bin .neq XpO (.const (.int .i64 0))),oD 71 (.fieldA 2 τ7),oN (.store 1 XqJ Xqm)]) (.seq XIm (.seq (.reg [oD 80 (.fieldA 0 τ5),oD 81 (.load1 .oth Xtp),oD 82 (.callF 52 [Xwz,(.const (.int .i64 2))])]) (.seq XJw (.seq (.reg [oD 89 (.fieldA 0 τ5),oD 90 (.load1 .oth XA7),oM 91 τ8,oD 92 (.bin .sub Xxl (.const (.int .i64 20))),oD 93 (.callF 86 [XAT,XA0]),oD 94 (.fieldA 11 τ7),oN (.store 1 XAy XAU)]) (.seq XLX .ret)))))))))))))))
def XQN:VFn:=⟨102,XzX,[.cell 2 [(.int .i64),(.int .i64),.bool,(.int .i64),(.int .i64),.bool,(.int .u64),(.int .u64),.bool,(.int .u64),(.int .u64),.str] true,.tmp 3,.tmp 4]⟩
def XFu:VC:=.seq (.reg [oD 1 (.box τ0),oD 2 (.alloc [(.bool false),(.int .u64 0),(.int .u64 0)])]) (.seq (.reg [oD 6 (.fieldA 0 τ1),oD 7 (.load1 .oth τ6),oD 8 (.callF 86 [τ7,(.const (.int .i64 4))]),oD 9 (.callF 136 [τ8]),oM 5 τ9,oE 10 0 τ5,oE 11 1 τ5,oD 3 (.alloc [(.bool false),(.int .u64 0),(.int .u64 0)]),oN (.store 3 τ3 Xdg),oM 4 XcC]) (.seq (.reg [oD 12 (.loadN [.bool,(.int .u64),(.int .u64)] τ3),oN (.store 3 τ2 XdH)]) .ret))
def XP8:VFn:=⟨13,XFu,[.cell 2 [.bool,(.int .u64),(.int .u64)] true]⟩
def XAr:VC:=.seq (.reg [oD 2 (.alloc [(.bool false),(.int .u64 0),(.int .u64 0)]),oD 3 (.mv (.const (.bool false)))]) (.seq (.seq (.reg [oM 7 τ0,oD 8 (.lenS τ7)]) (.block 0 (.seq (.reg [oD 10 (.bin .eql τ8 (.const (.int .i64 4))),oM 9 Xdg]) (.cond τ9 (.seq (.reg [oM 12 τ0,oD 13 (.callF 69 [XdH,(.const (.int .i64 0)),(.const (.int .i64 4))]),oM 11 XdG,oE 14 0 XcC,oE 15 1 XcC,oM 4 Xd9,oM 5 XdR]) (.seq (.reg [oM 16 τ4,oD 17 (.build [(.bool false),(.int .u64 0),(.int .u64 0)] [(2,1,Xed)]),oN (.store 3 τ2 Xec),oD 3 (.mv (.const (.bool true)))]) .ret)) (.seq (.reg [oD 19 (.bin .eql τ8 (.const (.int .i64 16))),oM 18 Xe3]) (.cond XeX (.seq (.reg [oD 20 (.build [(.bool false),(.int .u64 0),(.int .u64 0)] [(0,1,(.const (.bool true)))]),oD 6 (.alloc [(.bool false),(.int .u64 0),(.int .u64 0)]),oN (.store 3 τ6 Xfw)]) (.seq (.reg [oM 22 τ0,oD 23 (.callF 69 [XfA,(.const (.int .i64 0)),(.const (.int .i64 8))]),oM 21 XfN,oE 24 0 Xfm,oE 25 1 Xfm,oD 26 (.fieldA 1 τ6),oN (.store 1 Xf2 Xfl)]) (.seq (.reg [oM 28 τ0,oD 29 (.callF 69 [Xgt,(.const (.int .i64 8)),(.const (.int .i64 8))]),oM 27 Xgs,oE 30 0 Xgd,oE 31 1 Xgd,oD 32 (.fieldA 2 τ6),oN (.store 1 Xgz XgH)]) (.seq (.reg [oD 33 (.loadN [.bool,(.int .u64),(.int .u64)] τ6),oN (.store 3 τ2 Xhp),oD 3 (.mv (.const (.bool true)))]) .ret)))) .skip)))))) (.seq (.reg [oD 34 (.build [(.bool false),(.int .u64 0),(.int .u64 0)] []),oN (.store 3 τ2 Xhq),oD 3 (.mv (.const (.bool false)))]) .ret))
def XSa:VFn:=⟨35,XAr,[.cell 2 [.bool,(.int .u64),(.int .u64)] true,.tmp 3]⟩
def Xx3:VC:=.seq (.reg [oD 2 (.alloc [(.int .i64 0),(.int .i64 0),(.int .i64 0),(.int .i64 0),(.bool false),(.int .u64 0),(.int .u64 0),(.bool false),(.int .u64 0),(.int .u64 0)]),oD 3 (.mv (.const (.string ⟨⟨[]⟩⟩))),oD 4 (.mv (.const (.int .i64 0)))]) (.seq (.reg [oM 12 τ0,oD 13 (.callF 51 [XdH]),oM 5 XdG]) (.seq (.reg [oM 14 τ5,oD 15 (.callF 52 [Xd9,(.const (.int .i64 4))]),oM 16 τ5,oD 17 (.callF 52 [Xed,(.const (.int .i64 2))]),oM 6 XdR,oM 7 Xec]) (.seq (.reg [oM 18 τ6,oD 19 (.bin .shr XeX (.const (.int .u64 20))),oD 20 (.bin .and Xe3 (.const (.int .i64 255))),oM 21 τ6,oD 22 (.bin .and Xfm (.const (.int .i64 1048575))),oM 23 τ5,oD 24 (.callF 52 [XfN,(.const (.int .i64 1))]),oM 25 τ5,oD 26 (.callF 52 [Xgp,(.const (.int .i64 1))]),oD 27 (.build [(.int .i64 0),(.int .i64 0),(.int .i64 0),(.int .i64 0),(.bool false),(.int .u64 0),(.int .u64 0),(.bool false),(.int .u64 0),(.int .u64 0)] [(0,1,Xfw),(1,1,XfA),(2,1,Xfl),(3,1,Xf2)]),oD 8 (.alloc [(.int .i64 0),(.int .i64 0),(.int .i64 0),(.int .i64 0),(.bool false),(.int .u64 0),(.int .u64 0),(.bool false),(.int .u64 0),(.int .u64 0)]),oN (.store 10 τ8 Xgd)]) (.seq (.reg [oM 28 τ5,oD 29 (.callF 86 [Xgt,(.const (.int .i64 16))]),oM 30 τ5,oD 31 (.callF 86 [XgH,(.const (.int .i64 16))]),oM 9 Xgs,oM 10 XgA]) (.seq (.seq (.reg [oM 32 τ5,oD 33 (.callF 95 [Xgz])]) (.cond Xhp (.seq (.reg [oD 34 (.build [(.int .i64 0),(.int .i64 0),(.int .i64 0),(.int .i64 0),(.bool false),(.int .u64 0),(.int .u64 0),(.bool false),(.int .u64 0),(.int .u64 0)] []),oN (.store 10 τ2 Xhq),oD 3 (.mv (.const (.string ⟨⟨[]⟩⟩))),oD 4 (.mv (.const (.int .i64 2)))]) .ret) .skip)) (.seq (.seq (.reg [oM 35 τ6,oD 36 (.bin .shr XhG (.const (.int .u64 28))),oD 37 (.bin .neq XhH (.const (.int .i64 6)))]) (.cond Xg0 (.seq (.reg [oD 38 (.build [(.int .i64 0),(.int .i64 0),(.int .i64 0),(.int .i64 0),(.bool false),(.int .u64 0),(.int .u64 0),(.bool false),(.int .u64 0),(.int .u64 0)] []),oN (.store 10 τ2 Xiu),oD 3 (.mv (.const (.string ⟨⟨[]⟩⟩))),oD 4 (.mv (.const (.int .i64 3)))]) .ret) .skip)) (.seq (.reg [oM 40 τ9,oD 41 (.callF 136 [Xjb]),oM 39 XiD,oE 42 0 Xim,oE 43 1 Xim,oD 44 (.fieldA 4 τ8),oN (.store 3 Xje XiK)]) (.seq (.reg [oM 46 Xdg,oD 47 (.callF 136 [Xji]),oM 45 Xjc,oE 48 0 Xjf,oE 49 1 Xjf,oD 50 (.fieldA 7 τ8),oN (.store 3 XjO XjG)]) (.seq (.reg [oM 51 τ5,oM 52 τ7,oD 53 (.callF 86 [XjR,Xj6]),oM 11 Xkq]) (.seq (.seq (.reg [oM 54 τ5,oD 55 (.callF 95 [Xlw])]) (.cond Xls (.seq (.reg [oD 56 (.build [(.int .i64 0),(.int .i64 0),(.int .i64 0),(.int .i64 0),(.bool false),(.int .u64 0),(.int .u64 0),(.bool false),(.int .u64 0),(.int .u64 0)] []),oN (.store 10 τ2 Xlz),oD 3 (.mv (.const (.string ⟨⟨[]⟩⟩))),oD 4 (.mv (.const (.int .i64 2)))]) .ret) .skip)) (.seq (.reg [oD 57 (.loadN [(.int .i64),(.int .i64),(.int .i64),(.int .i64),.bool,(.int .u64),(.int .u64),.bool,(.int .u64),(.int .u64)] τ8),oM 58 XcC,oN (.store 10 τ2 Xld),oM 3 XlC,oD 4 (.mv (.const (.int .i64 0)))]) .ret)))))))))))
def XPr:VFn:=⟨59,Xx3,[.cell 2 [(.int .i64),(.int .i64),(.int .i64),(.int .i64),.bool,(.int .u64),(.int .u64),.bool,(.int .u64),(.int .u64)] true,.tmp 3,.tmp 4]⟩
def k89_7:VC:=.regD [oM 26 τ1,oM 27 τ1,oM 28 τ1,oD 29 (.fieldA 0 τ6),oD 30 (.load1 (.int .i64) Xgs),oD 31 (.fieldA 1 τ6),oD 32 (.load1 (.int .i64) XgA),oD 33 (.fieldA 4 τ6),oD 34 (.load1 (.int .i64) Xhp),oD 35 (.nilCheck Xf2),oD 36 (.fieldA 0 XhG),oD 37 (.fieldA 7 XhH),oN (.store 1 Xg0 XgH),oD 38 (.nilCheck Xgd),oD 39 (.fieldA 0 Xiu),oD 40 (.fieldA 8 Xim),oN (.store 1 Xjb Xgz)] [(6,12),(8,12),(8,16)] [oD 41 (.nilCheck Xgt),oD 42 (.fieldA 9 XiD),oN (.store 1 XiK Xhq)]
def XF7:VC:=.seq (.reg [oD 2 (.box τ0),oD 4 (.mv (.const (.int .i64 0))),oD 5 (.mv (.const (.int .i64 0)))]) (.seq (.reg [oD 13 (.fieldA 7 τ2),oD 14 (.load1 .str XdG),oD 15 (.fieldA 0 τ2),oD 16 (.loadN [.bool,(.int .u64),(.int .u64)] XdR),oD 17 (.fieldA 3 τ2),oD 18 (.loadN [.bool,(.int .u64),(.int .u64)] Xec),oD 19 (.callF 117 [Xd9,Xed,XeX]),oM 12 Xe3,oE 20 0 XdH,oE 21 1 XdH,oE 22 2 XdH,oD 6 (.alloc [(.int .i64 0),(.int .i64 0),(.int .u32 0),(.int .u32 0),(.int .i64 0),(.int .i64 0),(.int .i64 0),(.string ⟨⟨[]⟩⟩)]),oN (.store 8 τ6 Xfw),oM 7 Xfm,oM 8 XfA]) (.seq (.seq (.reg [oM 23 τ8,oD 24 (.bin .neq XfN (.const (.int .i64 0)))]) (.cond Xfl (.seq (.reg [oM 25 τ8,oD 4 (.mv (.const (.int .i64 0))),oM 5 Xgp]) .ret) .skip)) (.seq k89_7 (.seq (.seq (.reg [oD 44 (.fieldA 7 τ6),oD 45 (.load1 .str Xje),oD 46 (.callF 91 [Xjf]),oM 43 Xji,oE 47 0 XiV,oE 48 1 XiV,oE 49 2 XiV,oM 9 Xjc,oM 10 XjG,oM 11 Xjd]) (.seq (.reg [oM 50 XcC,oD 51 (.bin .geq XjO (.const (.int .i64 0)))]) (.cond XjR (.reg [oM 52 τ1,oM 53 τ1,oM 54 τ1,oM 55 τ9,oM 56 Xdg,oD 57 (.nilCheck Xj6),oD 58 (.fieldA 10 Xld),oN (.store 1 XlC (.const (.bool true))),oD 59 (.nilCheck Xkq),oD 60 (.fieldA 11 XlO),oN (.store 1 Xnd Xls),oD 61 (.nilCheck Xlw),oD 62 (.fieldA 12 Xml),oN (.store 1 Xns Xlz)]) .skip))) (.seq (.reg [oM 63 τ7,oD 64 (.lenS Xoa),oM 4 Xoy,oD 5 (.mv (.const (.int .i64 0)))]) .ret)))))
def fn89:VFn:=⟨65,XF7,[.tmp 4,.tmp 5]⟩
def XSQ:VC:=.regD [oM 20 τ0,oD 21 (.idxS Xfw (.const (.int .i64 12))),oD 22 (.bin .shr Xfm (.const (.int .u64 4))),oD 23 (.conv .i64 XfA),oM 24 τ0,oD 25 (.idxS Xfl (.const (.int .i64 12))),oD 26 (.bin .and Xgp (.const (.int .u8 15))),oM 9 XfN] [] [oM 10 Xf2]
def XHX:VC:=.regD [oD 72 (.loadN [(.int .i64),(.int .i64),(.int .u32),(.int .u32),(.int .i64),(.int .i64),(.int .i64),.str] XdG),oM 73 τ0,oM 74 XcC,oD 75 (.sliceS XqN (some XsO) none),oN (.store 8 τ6 Xqr)] [] [oM 7 Xsv,oD 8 (.mv (.const (.int .i64 0)))]
def Xyo:VC:=.seq (.reg [oD 4 (.box τ1),oD 5 (.box τ2),oD 6 (.alloc [(.int .i64 0),(.int .i64 0),(.int .u32 0),(.int .u32 0),(.int .i64 0),(.int .i64 0),(.int .i64 0),(.string ⟨⟨[]⟩⟩)]),oD 7 (.mv (.const (.string ⟨⟨[]⟩⟩))),oD 8 (.mv (.const (.int .i64 0)))]) (.seq (.seq (.reg [oM 16 τ0,oD 17 (.lenS Xed),oD 18 (.bin .lss Xec (.const (.int .i64 20)))]) (.cond XeX (.seq (.reg [oD 19 (.build [(.int .i64 0),(.int .i64 0),(.int .u32 0),(.int .u32 0),(.int .i64 0),(.int .i64 0),(.int .i64 0),(.string ⟨⟨[]⟩⟩)] []),oN (.store 8 τ6 Xe3),oD 7 (.mv (.const (.string ⟨⟨[]⟩⟩))),oD 8 (.mv (.const (.int .i64 2)))]) .ret) .skip)) (.seq XSQ (.seq (.reg [oM 27 τ9,oD 28 (.bin .mul (.const (.int .i64 4)) Xgd),oM 11 Xgt]) (.seq (.block 0 (.seq (.reg [oM 30 XcC,oD 31 (.bin .lss XgH (.const (.int .i64 20))),oM 32 XgA,oG 33 (.mv Xdg) 32 false,oG 34 (.bin .neq Xhp (.const (.int .u8 0))) 32 false,oD 35 (.pick Xgz (.const (.bool true)) Xhq),oM 29 XhG]) (.cond Xgs (.seq (.reg [oD 36 (.build [(.int .i64 0),(.int .i64 0),(.int .u32 0),(.int .u32 0),(.int .i64 0),(.int .i64 0),(.int .i64 0),(.string ⟨⟨[]⟩⟩)] []),oN (.store 8 τ6 XhH),oD 7 (.mv (.const (.string ⟨⟨[]⟩⟩))),oD 8 (.mv (.const (.int .i64 3)))]) .ret) (.seq (.reg [oM 38 XcC,oM 39 τ0,oD 40 (.lenS Xim),oD 41 (.bin .gtr Xiu Xjb),oM 37 XiD]) (.cond Xg0 (.seq (.reg [oD 42 (.build [(.int .i64 0),(.int .i64 0),(.int .u32 0),(.int .u32 0),(.int .i64 0),(.int .i64 0),(.int .i64 0),(.string ⟨⟨[]⟩⟩)] []),oN (.store 8 τ6 XiK),oD 7 (.mv (.const (.string ⟨⟨[]⟩⟩))),oD 8 (.mv (.const (.int .i64 2)))]) .ret) .skip))))) (.seq (.reg [oD 43 (.loadN [.bool,(.int .u64),(.int .u64)] τ4),oD 44 (.loadN [.bool,(.int .u64),(.int .u64)] τ5),oM 45 τ0,oD 46 (.lenS Xjf),oD 47 (.callF 131 [XiV,Xje,(.const (.int .i64 6)),Xji]),oM 12 Xjc]) (.seq (.block 1 (.seq (.reg [oM 49 XdH,oD 50 (.bin .eql Xjd (.const (.string ⟨⟨[]⟩⟩))),oM 48 XjO]) (.cond XjG (.seq (.reg [oD 51 (.build [(.int .i64 0),(.int .i64 0),(.int .u32 0),(.int .u32 0),(.int .i64 0),(.int .i64 0),(.int .i64 0),(.string ⟨⟨[]⟩⟩)] []),oN (.store 8 τ6 XjR),oD 7 (.mv (.const (.string ⟨⟨[]⟩⟩))),oD 8 (.mv (.const (.int .i64 1)))]) .ret) (.seq (.reg [oM 53 XdH,oM 54 τ0,oD 55 (.bin .add Xkq Xlw),oD 56 (.callF 54 [Xls]),oD 57 (.not Xlz),oM 52 Xld]) (.cond Xj6 (.seq (.reg [oD 58 (.build [(.int .i64 0),(.int .i64 0),(.int .u32 0),(.int .u32 0),(.int .i64 0),(.int .i64 0),(.int .i64 0),(.string ⟨⟨[]⟩⟩)] []),oN (.store 8 τ6 XlC),oD 7 (.mv (.const (.string ⟨⟨[]⟩⟩))),oD 8 (.mv (.const (.int .i64 4)))]) .ret) .skip))))) (.seq (.reg [oM 59 τ0,oM 60 XcC,oD 61 (.callF 132 [XlO,Xnd]),oD 13 (.alloc [(.int .i64 0),(.int .i64 0),(.int .u32 0),(.int .u32 0),(.int .i64 0),(.int .i64 0),(.int .i64 0),(.string ⟨⟨[]⟩⟩)]),oN (.store 8 XdG Xml)]) (.seq (.seq (.reg [oD 63 (.fieldA 7 XdG),oD 64 (.load1 .str Xoa),oD 65 (.callF 119 [Xoy]),oM 62 Xpi,oE 66 0 Xns,oE 67 1 Xns,oM 14 XpP,oM 15 Xpa]) (.seq (.reg [oM 68 XdR,oD 69 (.bin .neq Xo9 (.const (.int .i64 0)))]) (.cond XpO (.seq (.reg [oD 70 (.build [(.int .i64 0),(.int .i64 0),(.int .u32 0),(.int .u32 0),(.int .i64 0),(.int .i64 0),(.int .i64 0),(.string ⟨⟨[]⟩⟩)] []),oM 71 XdR,oN (.store 8 τ6 Xqm),oD 7 (.mv (.const (.string ⟨⟨[]⟩⟩))),oM 8 XqJ]) .ret) .skip))) (.seq XHX .ret)))))))))
def XNg:VFn:=⟨76,Xyo,[.cell 6 [(.int .i64),(.int .i64),(.int .u32),(.int .u32),(.int .i64),(.int .i64),(.int .i64),.str] true,.tmp 7,.tmp 8]⟩
def XRl:VC:=.regD [oD 25 (.loadN [.bool,(.int .u64),(.int .u64)] τ4),oD 26 (.callF 138 [Xgp]),oD 27 (.loadN [.bool,(.int .u64),(.int .u64)] τ5)] [(1,2)] [oD 28 (.callF 138 [Xgd]),oD 29 (.bin .add Xf2 Xgt),oM 9 Xgs]
def Xyg:VC:=.seq (.reg [oD 4 (.box τ0),oD 5 (.box τ1),oD 8 (.mv (.const (.string ⟨⟨[]⟩⟩)))]) (.seq (.seq (.reg [oD 10 (.loadN [.bool,(.int .u64),(.int .u64)] τ4),oD 11 (.callF 137 [Xdg]),oD 12 (.not XcC),oM 13 XdH,oG 14 (.loadN [.bool,(.int .u64),(.int .u64)] τ5) 13 false,oG 15 (.callF 137 [Xd9]) 13 false,oG 16 (.not XdR) 13 false,oD 17 (.pick XdG (.const (.bool true)) Xed),oM 18 Xec,oG 19 (.fieldA 0 τ4) 18 false,oG 20 (.load1 .bool Xe3) 18 false,oG 21 (.fieldA 0 τ5) 18 false,oG 22 (.load1 .bool Xfm) 18 false,oG 23 (.eqB true Xfw XfA) 18 false,oD 24 (.pick XeX (.const (.bool true)) XfN)]) (.cond Xfl (.seq (.reg [oD 8 (.mv (.const (.string ⟨⟨[]⟩⟩)))]) .ret) .skip)) (.seq XRl (.seq (.seq (.reg [oD 30 (.fieldA 0 τ4),oD 31 (.load1 .bool XgH)]) (.cond XgA (.seq (.reg [oM 32 τ9,oM 33 τ3,oM 34 τ2,oD 35 (.buildSl 6 1 [(.int .i64 0),(.int .i64 0),(.int .i64 0),(.int .i64 0),(.int .i64 0),(.int .i64 0)] [(0,1,Xhp),(1,1,(.const (.int .i64 4))),(2,1,(.const (.int .i64 0))),(3,1,(.const (.int .i64 3))),(4,1,Xhq),(5,1,(.const (.int .i64 1)))]),oD 36 (.callF 139 [XhG]),oD 37 (.bin .add Xgz XhH),oM 8 Xg0]) .ret) .skip)) (.seq (.reg [oM 38 τ9,oM 39 τ2,oM 40 τ3,oD 41 (.buildSl 6 1 [(.int .i64 0),(.int .i64 0),(.int .i64 0),(.int .i64 0),(.int .i64 0),(.int .i64 0)] [(0,1,(.const (.int .i64 0))),(1,1,(.const (.int .i64 1))),(2,1,Xim),(3,1,(.const (.int .i64 1))),(4,1,Xjb),(5,1,(.const (.int .i64 2)))]),oD 42 (.callF 139 [XiD]),oD 43 (.bin .add Xiu XiK),oM 8 XiV]) .ret))))
def XPq:VFn:=⟨44,Xyg,[.tmp 8]⟩
def XGk:VC:=.seq (.reg [oD 1 (.box τ0),oD 2 (.mv (.const (.bool false)))]) (.seq (.reg [oD 3 (.fieldA 0 τ1),oD 4 (.load1 .bool τ3),oM 5 τ4,oG 6 (.fieldA 1 τ1) 5 false,oG 7 (.load1 (.int .u64) τ6) 5 false,oG 8 (.bin .eql τ7 (.const (.int .u64 0))) 5 false,oG 9 (.mv τ8) 5 false,oG 10 (.fieldA 2 τ1) 9 true,oG 11 (.load1 (.int .u64) Xdg) 9 true,oG 12 (.bin .lss XcC (.const (.int .u64 4294967296))) 9 true,oG 13 (.pick τ9 XdH (.const (.bool false))) 5 false,oD 14 (.pick τ5 (.const (.bool true)) XdG),oM 2 Xd9]) .ret)
def XNP:VFn:=⟨15,XGk,[.tmp 2]⟩
def XQT:VC:=.regD [oD 10 (.fieldA 1 τ1),oD 11 (.load1 (.int .u64) Xdg),oD 12 (.callF 71 [XcC,(.const (.int .i64 8))]),oD 13 (.fieldA 2 τ1),oD 14 (.load1 (.int .u64) XdG)] [(2,4)] [oD 15 (.callF 71 [Xd9,(.const (.int .i64 8))]),oD 16 (.bin .add XdH XdR),oM 2 Xed]
def Xzc:VC:=.seq (.reg [oD 1 (.box τ0),oD 2 (.mv (.const (.string ⟨⟨[]⟩⟩)))]) (.seq (.block 0 (.seq (.reg [oD 4 (.loadN [.bool,(.int .u64),(.int .u64)] τ1),oD 5 (.callF 137 [τ4]),oD 6 (.not τ5),oM 3 τ6]) (.cond τ3 (.seq (.reg [oD 2 (.mv (.const (.string ⟨⟨[]⟩⟩)))]) .ret) (.seq (.reg [oD 8 (.fieldA 0 τ1),oD 9 (.load1 .bool τ8),oM 7 τ9]) (.cond τ7 (.seq XQT .ret) .skip))))) (.seq (.reg [oD 17 (.fieldA 2 τ1),oD 18 (.load1 (.int .u64) Xec),oD 19 (.callF 71 [XeX,(.const (.int .i64 4))]),oM 2 Xe3]) .ret))
def XUe:VFn:=⟨20,Xzc,[.tmp 2]⟩
def XxQ:VC:=.seq (.reg [oD 18 (.bin .lss Xec Xed)]) (.seq (.cond XeX .skip (.exit 0)) (.seq (.block 1 (.seq (.reg [oM 19 Xec,oM 6 Xe3]) (.reg [oM 20 τ5,oM 21 τ6,oM 22 τ0,oM 23 τ1,oD 24 (.bin .sub XfN (.const (.int .i64 1))),oM 25 τ6,oD 26 (.bin .sub Xfl Xgp),oD 27 (.bin .mul (.const (.int .i64 8)) Xf2),oD 28 (.bin .shr XfA Xgd),oD 29 (.conv .u8 Xgt),oD 30 (.idxAL 1 Xfw Xfm),oN (.store 1 XgH Xgs)]))) (.reg [oD 31 (.bin .add Xec (.const (.int .i64 1))),oM 17 XgA])))
def XFM:VC:=.seq (.reg [oM 32 τ5,oD 33 (.b2s Xgz),oM 4 Xhp]) .ret
def XF1:VC:=.seq (.reg [oD 4 (.mv (.const (.string ⟨⟨[]⟩⟩)))]) (.seq (.seq (.reg [oM 7 τ1,oD 8 (.bin .lss τ7 (.const (.int .i64 1))),oM 9 τ8,oG 10 (.mv τ1) 9 false,oG 11 (.bin .gtr Xdg (.const (.int .i64 8))) 9 false,oD 12 (.pick τ9 (.const (.bool true)) XcC)]) (.cond XdH (.seq (.reg [oD 4 (.mv (.const (.string ⟨⟨[]⟩⟩)))]) .ret) .skip)) (.seq (.reg [oM 13 τ1,oD 14 (.mkSl 1 1 [(.int .u8 0)] XdG XdG),oM 5 Xd9]) (.seq (.seq (.reg [oM 15 τ5,oD 16 (.lenL XdR),oD 17 (.mv (.const (.int .i64 0)))]) (.block 0 (.loop XxQ))) XFM)))
def fn71:VFn:=⟨34,XF1,[.tmp 4]⟩
def XQM:VC:=.regD [oM 12 τ0,oM 13 τ4,oD 14 (.idxAL 1 XdH XdG),oD 15 (.load1 (.int .i64) Xd9),oD 16 (.conv .u64 XdR),oM 17 τ0,oM 18 τ4,oD 19 (.bin .add XeX (.const (.int .i64 1))),oD 20 (.idxAL 1 Xec Xe3),oD 21 (.load1 (.int .i64) Xfw)] [] [oD 22 (.callF 71 [Xed,Xfm]),oD 23 (.callF 140 [τ3,XfA])]
def Xtf:VC:=.seq (.seq (.reg [oM 5 τ4,oD 6 (.bin .add τ5 (.const (.int .i64 1))),oM 7 τ0,oD 8 (.lenL τ7),oD 9 (.bin .lss τ6 τ8)]) (.cond τ9 .skip (.exit 0))) (.seq (.block 1 XQM) (.reg [oM 10 τ4,oD 11 (.bin .add Xdg (.const (.int .i64 2))),oM 4 XcC]))
def XAK:VC:=.seq (.reg [oD 24 (.callF 141 [τ3]),oM 2 Xfl]) .ret
def XzV:VC:=.seq (.reg [oD 2 (.mv (.const (.string ⟨⟨[]⟩⟩)))]) (.seq (.reg [oD 3 (.allocB 210 5)]) (.seq (.seq (.reg [oD 4 (.mv (.const (.int .i64 0)))]) (.block 0 (.loop Xtf))) XAK))
def XTj:VFn:=⟨25,XzV,[.tmp 2]⟩
def XQB:VC:=.seq (.reg [oD 4 (.mv (.const (.int .i64 0))),oM 5 (.const .nilIface)]) (.seq (.reg [oM 6 τ0,oD 7 (.callF 142 [τ6])]) (.seq (.reg [oM 8 τ0,oM 9 τ0,oD 10 (.nilCheck τ9),oD 11 (.fieldA 1 Xdg),oD 12 (.load1 .oth XcC),oM 13 τ1,oD 14 (.app 5 1 1 XdH XdG),oD 15 (.nilCheck τ8),oD 16 (.fieldA 1 XdR),oN (.store 1 Xed Xd9)]) (.seq (.reg [oM 17 τ1,oD 18 (.lenS Xec),oM 4 XeX,oM 5 (.const .nilIface)]) .ret)))
def XOE:VFn:=⟨19,XQB,[.tmp 4,.tmp 5]⟩
def XQk:VC:=.seq (.reg [oM 2 τ0,oD 3 (.nilCheck τ2),oD 4 (.fieldA 0 τ3),oD 5 (.load1 .oth τ4),oD 6 (.isNil 0 false τ5)]) (.cond τ6 (.reg [oM 7 τ0,oM 8 τ0,oD 9 (.toU τ8),oM 10 τ9,oD 11 (.ofU 210 2 Xdg),oD 12 (.nilCheck τ7),oD 13 (.fieldA 0 XdH),oN (.store 1 XdG XcC)]) (.seq (.reg [oM 14 τ0,oD 15 (.nilCheck Xd9),oD 16 (.fieldA 0 XdR),oD 17 (.load1 .oth Xed),oM 18 τ0,oD 19 (.eqP true Xec XeX)]) (.cond Xe3 .stuck .skip)))
def XRw:VFn:=⟨20,XQk,[]⟩
def XRD:VC:=.regD [oM 3 τ0,oD 4 (.nilCheck τ3),oD 5 (.fieldA 1 τ4),oD 6 (.load1 .oth τ5),oD 7 (.sdata τ6),oM 8 τ0,oD 9 (.nilCheck τ8),oD 10 (.fieldA 1 τ9),oD 11 (.load1 .oth Xdg),oD 12 (.lenL XcC)] [] [oD 13 (.ustr 5 τ7 XdH),oM 2 XdG]
def XN0:VC:=.seq (.reg [oD 2 (.mv (.const (.string ⟨⟨[]⟩⟩)))]) (.seq XRD .ret)
def XR9:VFn:=⟨14,XN0,[.tmp 2]⟩
def Xy1:VC:=.seq (.reg [oD 4 (.alloc [(.int .i64 0),(.int .i64 0),(.int .u32 0),(.int .u32 0),(.int .i64 0),(.int .i64 0),(.int .i64 0),(.string ⟨⟨[]⟩⟩)])]) (.seq (.reg [oM 7 τ0,oD 8 (.callF 51 [τ7]),oM 5 τ8]) (.seq (.reg [oM 9 τ5,oD 10 (.callF 52 [τ9,(.const (.int .i64 2))]),oM 11 τ5,oD 12 (.callF 52 [XcC,(.const (.int .i64 2))]),oM 13 τ5,oD 14 (.callF 52 [XdG,(.const (.int .i64 4))]),oD 15 (.conv .u32 Xd9),oM 16 τ5,oD 17 (.callF 52 [Xed,(.const (.int .i64 4))]),oD 18 (.conv .u32 Xec),oD 19 (.build [(.int .i64 0),(.int .i64 0),(.int .u32 0),(.int .u32 0),(.int .i64 0),(.int .i64 0),(.int .i64 0),(.string ⟨⟨[]⟩⟩)] [(0,1,Xdg),(1,1,XdH),(2,1,XdR),(3,1,XeX)]),oD 6 (.alloc [(.int .i64 0),(.int .i64 0),(.int .u32 0),(.int .u32 0),(.int .i64 0),(.int .i64 0),(.int .i64 0),(.string ⟨⟨[]⟩⟩)]),oN (.store 8 τ6 Xe3)]) (.seq (.reg [oM 20 τ5,oD 21 (.callF 52 [Xfw,(.const (.int .i64 2))]),oD 22 (.bin .and Xfm (.const (.int .i64 255))),oD 23 (.fieldA 4 τ6),oN (.store 1 XfN XfA)]) (.seq (.reg [oM 24 τ5,oD 25 (.callF 52 [Xfl,(.const (.int .i64 2))]),oD 26 (.fieldA 5 τ6),oN (.store 1 Xf2 Xgp)]) (.seq (.reg [oM 27 τ5,oD 28 (.callF 52 [Xgd,(.const (.int .i64 2))])]) (.seq (.reg [oM 29 τ5,oD 30 (.callF 52 [Xgs,(.const (.int .i64 2))]),oD 31 (.fieldA 6 τ6),oN (.store 1 XgA XgH)]) (.seq (.reg [oM 32 τ5,oM 33 τ1,oD 34 (.bin .sub Xhp (.const (.int .i64 20))),oD 35 (.callF 86 [Xgz,Xhq]),oD 36 (.fieldA 7 τ6),oN (.store 1 XhH XhG)]) (.seq (.reg [oD 37 (.loadN [(.int .i64),(.int .i64),(.int .u32),(.int .u32),(.int .i64),(.int .i64),(.int .i64),.str] τ6),oN (.store 8 τ4 Xg0)]) .ret))))))))
def XSd:VFn:=⟨38,Xy1,[.cell 4 [(.int .i64),(.int .i64),(.int .u32),(.int .u32),(.int .i64),(.int .i64),(.int .i64),.str] true]⟩
def XG1:VC:=.reg [oD 5 (.alloc [(.int .i64 0),(.string ⟨⟨[]⟩⟩),(.int .i64 0)]),oN (.store 3 τ5 τ8)]
def XAj:VC:=.block 1 (.seq (.seq (.reg [oD 9 (.fieldA 2 τ5),oD 10 (.load1 (.int .i64) τ9),oD 11 (.bin .lss Xdg (.const (.int .i64 0)))]) (.cond XcC (.seq (.reg [oN (.store 1 τ2 (.const (.slice none 0 0))),oN (.store 1 τ3 (.const (.int .i64 3)))]) .ret) .skip)) (.reg [oD 12 (.load1 .oth τ4),oD 13 (.fieldA 0 τ5),oD 14 (.loadN [(.int .i64),.str] XdG),oD 15 (.buildSl 1 2 [(.int .i64 0),(.string ⟨⟨[]⟩⟩)] [(0,2,Xd9)]),oD 16 (.app 190 2 24 XdH XdR),oN (.store 1 τ4 Xed)]))
def XLB:VC:=.rangeF τ7 [8] XG1 XAj
def Xxe:VC:=.seq (.reg [oD 17 (.load1 .oth τ4),oN (.store 1 τ2 Xec),oN (.store 1 τ3 (.const (.int .i64 0)))]) .ret
def Xz1:VC:=.seq (.reg [oD 2 (.alloc [(.slice none 0 0)]),oD 3 (.alloc [(.int .i64 0)])]) (.seq (.reg [oD 4 (.alloc [(.slice none 0 0)])]) (.seq (.seq (.reg [oM 6 τ0,oD 7 (.callF 120 [τ6])]) (.block 0 XLB)) Xxe))
def XSs:VFn:=⟨18,Xz1,[.cell 2 [.oth] false,.cell 3 [(.int .i64)] false]⟩
def XSg:VC:=.seq (.reg [oD 1 (.box τ0),oM 2 (.const .nilFunc)]) (.seq (.reg [oD 3 (.mkFunc 133 [] [τ1]),oM 2 τ3]) .ret)
def XOw:VFn:=⟨4,XSg,[.tmp 2]⟩
def XJ5:VC:=.regD [oM 41 τ0,oD 42 (.load1 .str τ1),oM 43 τ3,oD 44 (.idxS XiK XiV),oD 45 (.conv .i64 Xje),oD 46 (.load1 .str τ1),oM 47 τ3,oD 48 (.bin .add Xjc (.const (.int .i64 2))),oM 49 τ3,oM 50 τ4,oD 51 (.bin .add Xjd XjO),oD 52 (.sliceS Xji (some XjG) (some XjR)),oD 53 (.build [(.int .i64 0),(.string ⟨⟨[]⟩⟩)] [(0,1,Xjf),(1,1,Xj6)]),oM 54 τ3,oD 55 (.bin .add Xlw (.const (.int .i64 2))),oD 56 (.build [(.int .i64 0),(.string ⟨⟨[]⟩⟩),(.int .i64 0)] [(0,2,Xkq),(2,1,Xls)])] [] [oD 57 (.callV XiD [Xlz]),oD 58 (.not Xld)]
def Xpz:VC:=.seq (.seq (.reg [oM 5 τ3,oD 6 (.load1 .str τ1),oD 7 (.lenS τ6),oD 8 (.bin .lss τ5 τ7)]) (.cond τ8 .skip (.exit 0))) (.block 1 (.seq (.seq (.reg [oD 9 (.load1 .str τ1),oM 10 τ3,oD 11 (.idxS τ9 Xdg)]) (.block 2 (.seq (.reg [oD 13 (.bin .eql XcC (.const (.int .u8 0))),oM 12 XdG]) (.cond XdH .ret (.seq (.reg [oD 15 (.bin .eql XcC (.const (.int .u8 1))),oM 14 XdR]) (.cond Xd9 (.seq (.reg [oM 16 τ3,oD 17 (.bin .add Xed (.const (.int .i64 1))),oM 3 Xec]) (.exit 1)) .skip)))))) (.seq (.reg [oD 4 (.mv (.const (.int .i64 0)))]) (.seq (.seq (.reg [oM 18 τ3,oD 19 (.bin .add XeX (.const (.int .i64 1))),oD 20 (.load1 .str τ1),oD 21 (.lenS Xfw),oD 22 (.bin .lss Xe3 Xfm)]) (.cond XfA (.reg [oD 23 (.load1 .str τ1),oM 24 τ3,oD 25 (.bin .add Xfl (.const (.int .i64 1))),oD 26 (.idxS XfN Xgp),oD 27 (.conv .i64 Xf2),oM 4 Xgd]) .skip)) (.seq (.seq (.reg [oM 28 τ4,oD 29 (.bin .lss Xgt (.const (.int .i64 2))),oM 30 Xgs,oG 31 (.mv τ4) 30 false,oG 32 (.load1 .str τ1) 30 false,oG 33 (.lenS Xgz) 30 false,oG 34 (.mv τ3) 30 false,oG 35 (.bin .sub Xhp Xhq) 30 false,oG 36 (.bin .gtr XgA XhG) 30 false,oD 37 (.pick XgH (.const (.bool true)) XhH)]) (.cond Xg0 (.seq (.reg [oM 38 τ0,oD 39 (.build [(.int .i64 0),(.string ⟨⟨[]⟩⟩),(.int .i64 0)] [(2,1,(.const (.int .i64 (-1))))]),oD 40 (.callV Xiu [Xim])]) .ret) .skip)) (.seq (.seq XJ5 (.cond XlC .ret .skip)) (.reg [oM 59 τ3,oM 60 τ4,oD 61 (.bin .add XlO Xnd),oM 3 Xml])))))))
def XJ6:VC:=.seq (.reg [oD 3 (.mv (.const (.int .i64 0)))]) (.block 0 (.loop Xpz))
def XSr:VFn:=⟨62,XJ6,[]⟩
def XRJ:VC:=.reg [oD 7 (.alloc [(.int .i64 0),(.string ⟨⟨[]⟩⟩),(.int .i64 0)]),oN (.store 3 τ7 Xe3)]
def XNs:VC:=.regD [oM 39 τ8,oD 40 (.bin .shr Xim (.const (.int .u64 32))),oD 41 (.conv .u32 Xjb),oM 42 τ8,oD 43 (.conv .u32 XiK),oD 44 (.fieldA 2 τ7),oD 45 (.load1 (.int .i64) Xje),oN (.store 1 τ2 XiD),oN (.store 1 τ3 XiV)] [(6,7),(6,8)] [oN (.store 1 τ4 Xjf)]
def XGe:VC:=.block 1 (.seq (.seq (.reg [oD 20 (.fieldA 0 τ7),oD 21 (.fieldA 0 Xfw),oD 22 (.load1 (.int .i64) Xfm),oD 23 (.bin .neq XfA (.const (.int .i64 8)))]) (.cond XfN (.exit 1) .skip)) (.seq (.seq (.reg [oD 25 (.fieldA 0 τ7),oD 26 (.fieldA 1 Xgp),oD 27 (.load1 .str Xf2),oD 28 (.callF 69 [Xgd,(.const (.int .i64 0)),(.const (.int .i64 8))]),oM 24 Xgt,oE 29 0 Xfl,oE 30 1 Xfl,oM 8 Xgs,oM 9 XgH]) (.seq (.reg [oM 31 τ9,oM 32 XgA,oG 33 (.fieldA 0 τ7) 32 true,oG 34 (.fieldA 1 Xhp) 32 true,oG 35 (.load1 .str Xhq) 32 true,oG 36 (.lenS XhG) 32 true,oG 37 (.bin .eql XhH (.const (.int .i64 8))) 32 true,oD 38 (.pick Xgz Xg0 (.const (.bool false)))]) (.cond Xiu (.seq XNs .ret) .skip))) (.exit 0)))
def XQU:VC:=.rangeF XeX [19] XRJ XGe
def XFv:VC:=.seq (.reg [oN (.store 1 τ2 (.const (.int .u32 0))),oN (.store 1 τ3 (.const (.int .u32 0))),oN (.store 1 τ4 (.const (.int .i64 (-1))))]) .ret
def XGD:VC:=.seq (.reg [oD 2 (.alloc [(.int .u32 0)]),oD 3 (.alloc [(.int .u32 0)]),oD 4 (.alloc [(.int .i64 0)])]) (.seq (.seq (.reg [oM 11 τ0,oD 12 (.callF 119 [XcC]),oM 10 XdH,oE 13 0 Xdg,oE 14 1 Xdg,oM 5 XdG,oM 6 Xd9]) (.seq (.reg [oM 15 τ6,oD 16 (.bin .neq XdR (.const (.int .i64 0)))]) (.cond Xed (.seq (.reg [oN (.store 1 τ2 (.const (.int .u32 0))),oN (.store 1 τ3 (.const (.int .u32 0))),oN (.store 1 τ4 (.const (.int .i64 (-1))))]) .ret) .skip))) (.seq (.seq (.reg [oM 17 τ0,oD 18 (.callF 120 [Xec])]) (.block 0 XQU)) XFv))
def fn91:VFn:=⟨46,XGD,[.cell 2 [(.int .u32)] false,.cell 3 [(.int .u32)] false,.cell 4 [(.int .i64)] false]⟩
def XTX:VC:=.regD [oM 34 τ1,oM 35 τ1,oD 36 (.fieldA 0 τ6),oD 37 (.load1 (.int .i64) XhH),oD 38 (.fieldA 1 τ6),oD 39 (.load1 (.int .i64) Xiu),oD 40 (.nilCheck Xhq),oD 41 (.fieldA 0 Xjb),oD 42 (.fieldA 7 XiD),oN (.store 1 XiK Xg0)] [(5,9)] [oD 43 (.nilCheck XhG),oD 44 (.fieldA 0 XiV),oD 45 (.fieldA 8 Xje),oN (.store 1 Xjf Xim)]
def XTE:VC:=.regD [oM 53 τ1,oM 54 τ1,oD 55 (.fieldA 0 τ9),oD 56 (.load1 .bool Xls),oD 57 (.fieldA 3 τ9),oD 58 (.load1 .str Xld),oD 59 (.nilCheck Xkq),oD 60 (.fieldA 13 XlO),oN (.store 1 Xnd Xlz)] [(5,8)] [oD 61 (.nilCheck Xlw),oD 62 (.fieldA 14 Xml),oN (.store 1 Xns XlC)]
def XHt:VC:=.seq (.reg [oD 2 (.box τ0),oD 4 (.mv (.const (.int .i64 0))),oD 5 (.mv (.const (.int .i64 0)))]) (.seq (.reg [oD 12 (.fieldA 7 τ2),oD 13 (.load1 .str XdH),oD 14 (.fieldA 0 τ2),oD 15 (.loadN [.bool,(.int .u64),(.int .u64)] Xd9),oD 16 (.fieldA 3 τ2),oD 17 (.loadN [.bool,(.int .u64),(.int .u64)] Xed),oD 18 (.callF 118 [XdG,XdR,Xec]),oM 11 XeX,oE 19 0 XcC,oE 20 1 XcC,oE 21 2 XcC,oD 6 (.alloc [(.int .i64 0),(.int .i64 0)]),oN (.store 2 τ6 Xe3),oM 7 Xfw,oM 8 Xfm]) (.seq (.block 0 (.seq (.reg [oM 23 τ8,oD 24 (.bin .neq XfN (.const (.int .i64 0))),oM 22 Xfl]) (.cond XfA (.seq (.reg [oM 25 τ8,oD 4 (.mv (.const (.int .i64 0))),oM 5 Xgp]) .ret) (.seq (.reg [oM 27 τ7,oD 28 (.lenS Xgd),oD 29 (.fieldA 7 τ2),oD 30 (.load1 .str Xgs),oD 31 (.lenS XgH),oD 32 (.bin .sub XgA (.const (.int .i64 8))),oD 33 (.bin .neq Xgt Xgz),oM 26 Xhp]) (.cond Xf2 (.seq (.reg [oD 4 (.mv (.const (.int .i64 0))),oD 5 (.mv (.const (.int .i64 5)))]) .ret) .skip))))) (.seq XTX (.seq (.seq (.reg [oM 47 τ7,oD 48 (.callF 68 [Xjc]),oM 46 XjG,oE 49 0 Xji,oE 50 1 Xji,oD 9 (.alloc [(.bool false),(.int .i64 0),(.int .u32 0),(.string ⟨⟨[]⟩⟩),(.string ⟨⟨[]⟩⟩),(.string ⟨⟨[]⟩⟩)]),oN (.store 6 τ9 Xjd),oM 10 XjO]) (.seq (.reg [oM 51 Xdg,oD 52 (.bin .eql XjR (.const (.int .i64 0)))]) (.cond Xj6 XTE .skip))) (.seq (.reg [oM 63 τ7,oD 64 (.lenS Xoa),oM 4 Xoy,oD 5 (.mv (.const (.int .i64 0)))]) .ret)))))
def fn90:VFn:=⟨65,XHt,[.tmp 4,.tmp 5]⟩
def XK0:VC:=.regD [oD 66 (.loadN [(.int .i64),(.int .i64)] Xdg),oM 67 τ0,oM 68 XcC,oD 69 (.sliceS Xpa (some (.const (.int .i64 8))) (some Xo9)),oN (.store 2 τ6 XpP)] [] [oM 7 XpO,oD 8 (.mv (.const (.int .i64 0)))]
def Xyb:VC:=.seq (.reg [oD 4 (.box τ1),oD 5 (.box τ2),oD 6 (.alloc [(.int .i64 0),(.int .i64 0)]),oD 7 (.mv (.const (.string ⟨⟨[]⟩⟩))),oD 8 (.mv (.const (.int .i64 0)))]) (.seq (.reg [oM 14 τ0,oD 15 (.callF 51 [Xd9]),oM 9 XdR]) (.seq (.reg [oM 16 τ9,oD 17 (.callF 52 [Xed,(.const (.int .i64 2))]),oM 18 τ9,oD 19 (.callF 52 [XeX,(.const (.int .i64 2))]),oD 20 (.build [(.int .i64 0),(.int .i64 0)] [(0,1,Xec),(1,1,Xe3)]),oD 10 (.alloc [(.int .i64 0),(.int .i64 0)]),oN (.store 2 Xdg Xfw)]) (.seq (.reg [oM 21 τ9,oD 22 (.callF 52 [Xfm,(.const (.int .i64 2))]),oM 23 τ9,oD 24 (.callF 52 [XfN,(.const (.int .i64 2))]),oM 11 XfA,oM 12 Xfl]) (.seq (.block 0 (.seq (.reg [oM 26 τ9,oD 27 (.callF 95 [Xf2]),oM 25 Xgd]) (.cond Xgp (.seq (.reg [oD 28 (.build [(.int .i64 0),(.int .i64 0)] []),oN (.store 2 τ6 Xgt),oD 7 (.mv (.const (.string ⟨⟨[]⟩⟩))),oD 8 (.mv (.const (.int .i64 2)))]) .ret) (.seq (.reg [oM 30 XcC,oD 31 (.bin .lss XgH (.const (.int .i64 8))),oM 29 XgA]) (.cond Xgs (.seq (.reg [oD 32 (.build [(.int .i64 0),(.int .i64 0)] []),oN (.store 2 τ6 Xgz),oD 7 (.mv (.const (.string ⟨⟨[]⟩⟩))),oD 8 (.mv (.const (.int .i64 3)))]) .ret) (.seq (.reg [oM 34 XcC,oM 35 τ0,oD 36 (.lenS XhG),oD 37 (.bin .gtr Xhq XhH),oM 33 Xg0]) (.cond Xhp (.seq (.reg [oD 38 (.build [(.int .i64 0),(.int .i64 0)] []),oN (.store 2 τ6 Xiu),oD 7 (.mv (.const (.string ⟨⟨[]⟩⟩))),oD 8 (.mv (.const (.int .i64 2)))]) .ret) .skip))))))) (.seq (.reg [oD 39 (.loadN [.bool,(.int .u64),(.int .u64)] τ4),oD 40 (.loadN [.bool,(.int .u64),(.int .u64)] τ5),oM 41 XcC,oD 42 (.callF 131 [Xim,Xjb,(.const (.int .i64 17)),XiD]),oM 13 XiK]) (.seq (.block 1 (.seq (.reg [oM 44 XdG,oD 45 (.bin .eql Xje (.const (.string ⟨⟨[]⟩⟩))),oM 43 Xjf]) (.cond XiV (.seq (.reg [oD 46 (.build [(.int .i64 0),(.int .i64 0)] []),oN (.store 2 τ6 Xji),oD 7 (.mv (.const (.string ⟨⟨[]⟩⟩))),oD 8 (.mv (.const (.int .i64 1)))]) .ret) (.seq (.seq (.reg [oM 48 XdH,oD 49 (.bin .eql XjG (.const (.int .i64 0))),oM 50 Xjd,oG 51 (.fieldA 0 τ4) 50 true,oG 52 (.load1 .bool XjR) 50 true,oD 53 (.pick XjO Xj6 (.const (.bool false))),oM 47 Xkq]) (.cond Xjc .skip (.reg [oM 54 XdH,oD 55 (.bin .neq Xlw (.const (.int .i64 0))),oM 56 Xls,oG 57 (.mv XdG) 56 true,oG 58 (.mv τ0) 56 true,oG 59 (.mv XcC) 56 true,oG 60 (.sliceS XlC none (some XlO)) 56 true,oG 61 (.bin .add Xld Xnd) 56 true,oG 62 (.callF 54 [Xml]) 56 true,oG 63 (.not Xns) 56 true,oD 64 (.pick Xlz Xoa (.const (.bool false))),oM 47 Xoy]))) (.cond Xjc (.seq (.reg [oD 65 (.build [(.int .i64 0),(.int .i64 0)] []),oN (.store 2 τ6 Xpi),oD 7 (.mv (.const (.string ⟨⟨[]⟩⟩))),oD 8 (.mv (.const (.int .i64 4)))]) .ret) .skip))))) (.seq XK0 .ret)))))))
def XQD:VFn:=⟨70,Xyb,[.cell 6 [(.int .i64),(.int .i64)] true,.tmp 7,.tmp 8]⟩
def XGU:VC:=.seq (.reg [oD 2 (.alloc [(.bool false),(.int .i64 0),(.int .u32 0),(.string ⟨⟨[]⟩⟩),(.string ⟨⟨[]⟩⟩),(.string ⟨⟨[]⟩⟩)]),oD 3 (.mv (.const (.int .i64 0)))]) (.seq (.reg [oM 9 τ0,oD 10 (.callF 51 [τ9]),oM 4 Xdg]) (.seq (.reg [oM 11 τ4,oD 12 (.callF 52 [XcC,(.const (.int .i64 1))]),oM 5 XdH]) (.seq (.block 0 (.seq (.reg [oM 14 τ4,oD 15 (.callF 95 [Xd9]),oM 13 XdR]) (.cond XdG (.seq (.reg [oD 16 (.build [(.bool false),(.int .i64 0),(.int .u32 0),(.string ⟨⟨[]⟩⟩),(.string ⟨⟨[]⟩⟩),(.string ⟨⟨[]⟩⟩)] []),oN (.store 6 τ2 Xed),oD 3 (.mv (.const (.int .i64 2)))]) .ret) (.seq (.reg [oM 18 τ5,oD 19 (.bin .and XeX (.const (.int .i64 64))),oD 20 (.bin .eql Xe3 (.const (.int .i64 0))),oM 17 Xfw]) (.cond Xec (.seq (.reg [oD 21 (.build [(.bool false),(.int .i64 0),(.int .u32 0),(.string ⟨⟨[]⟩⟩),(.string ⟨⟨[]⟩⟩),(.string ⟨⟨[]⟩⟩)] []),oN (.store 6 τ2 Xfm),oD 3 (.mv (.const (.int .i64 3)))]) .ret) .skip))))) (.seq (.reg [oM 22 τ5,oD 23 (.bin .and XfA (.const (.int .i64 128))),oD 24 (.bin .neq XfN (.const (.int .i64 0))),oM 25 τ5,oD 26 (.bin .and Xgp (.const (.int .i64 63))),oD 27 (.build [(.bool false),(.int .i64 0),(.int .u32 0),(.string ⟨⟨[]⟩⟩),(.string ⟨⟨[]⟩⟩),(.string ⟨⟨[]⟩⟩)] [(0,1,Xfl),(1,1,Xf2)]),oD 6 (.alloc [(.bool false),(.int .i64 0),(.int .u32 0),(.string ⟨⟨[]⟩⟩),(.string ⟨⟨[]⟩⟩),(.string ⟨⟨[]⟩⟩)]),oN (.store 6 τ6 Xgd)]) (.seq (.seq (.reg [oD 28 (.fieldA 0 τ6),oD 29 (.load1 .bool Xgt),oD 30 (.not Xgs)]) (.cond XgH (.seq (.reg [oM 31 τ4,oD 32 (.mkFunc 86 [XgA] []),oM 7 Xgz]) (.seq (.seq (.reg [oM 33 τ7,oD 34 (.callV Xhp [(.const (.int .i64 8))]),oD 35 (.fieldA 3 τ6),oN (.store 1 XhG Xhq)]) (.seq (.reg [oM 36 τ4,oD 37 (.callF 95 [XhH])]) (.cond Xg0 (.seq (.reg [oD 38 (.build [(.bool false),(.int .i64 0),(.int .u32 0),(.string ⟨⟨[]⟩⟩),(.string ⟨⟨[]⟩⟩),(.string ⟨⟨[]⟩⟩)] []),oN (.store 6 τ2 Xiu),oD 3 (.mv (.const (.int .i64 2)))]) .ret) .skip))) (.seq (.reg [oM 39 τ4,oD 40 (.callF 96 [Xim]),oD 41 (.fieldA 5 τ6),oN (.store 1 XiD Xjb)]) (.seq (.reg [oD 42 (.loadN [.bool,(.int .i64),(.int .u32),.str,.str,.str] τ6),oN (.store 6 τ2 XiK),oD 3 (.mv (.const (.int .i64 0)))]) .ret)))) .skip)) (.seq (.reg [oM 43 τ4,oD 44 (.callF 52 [XiV,(.const (.int .i64 4))]),oD 45 (.conv .u32 Xje),oD 46 (.fieldA 2 τ6),oN (.store 1 Xji Xjf)]) (.seq (.seq (.reg [oM 47 τ4,oD 48 (.fieldA 3 τ6),oD 49 (.fieldA 4 τ6),oD 50 (.buildSl 2 1 [(.pointer none),(.pointer none)] [(0,1,XjG),(1,1,Xjd)]),oD 51 (.callF 97 [(.func 98),Xjc,XjO]),oM 8 XjR]) (.seq (.reg [oM 52 τ8,oD 53 (.bin .neq Xj6 (.const (.int .i64 0)))]) (.cond Xkq (.seq (.reg [oD 54 (.build [(.bool false),(.int .i64 0),(.int .u32 0),(.string ⟨⟨[]⟩⟩),(.string ⟨⟨[]⟩⟩),(.string ⟨⟨[]⟩⟩)] []),oM 55 τ8,oN (.store 6 τ2 Xlw),oM 3 Xls]) .ret) .skip))) (.seq (.reg [oM 56 τ4,oD 57 (.callF 96 [Xlz]),oD 58 (.fieldA 5 τ6),oN (.store 1 XlC Xld)]) (.seq (.reg [oD 59 (.loadN [.bool,(.int .i64),(.int .u32),.str,.str,.str] τ6),oN (.store 6 τ2 XlO),oD 3 (.mv (.const (.int .i64 0)))]) .ret)))))))))
def fn68:VFn:=⟨60,XGU,[.cell 2 [.bool,(.int .i64),(.int .u32),.str,.str,.str] true,.tmp 3]⟩
def XOz:VC:=.seq (.reg [oD 2 (.mv (.const (.string ⟨⟨[]⟩⟩)))]) (.seq (.seq (.reg [oM 3 τ0,oD 4 (.callF 95 [τ3])]) (.cond τ4 (.seq (.reg [oD 2 (.mv (.const (.string ⟨⟨[]⟩⟩)))]) .ret) .skip)) (.seq (.reg [oM 5 τ0,oM 6 τ0,oD 7 (.nilCheck τ6),oD 8 (.fieldA 0 τ7),oD 9 (.load1 .str τ8),oD 10 (.lenS τ9),oD 11 (.callF 86 [τ5,Xdg]),oM 2 XcC]) .ret))
def fn96:VFn:=⟨12,XOz,[.tmp 2]⟩
def XQC:VC:=.seq (.reg [oD 6 (.mv (.const (.int .i64 0)))]) (.seq (.seq (.reg [oM 11 τ2,oD 12 (.lenL XcC),oD 13 (.mv (.const (.int .i64 0)))]) (.block 0 (.loop (.seq (.reg [oD 14 (.bin .lss XdG XdH)]) (.seq (.cond Xd9 .skip (.exit 0)) (.seq (.block 1 (.seq (.reg [oD 15 (.idxAL 1 XcC XdG),oD 16 (.load1 .oth XdR),oM 8 Xed]) (.seq (.reg [oM 18 τ0,oM 19 τ1,oD 20 (.callV XeX [Xe3]),oM 17 Xfw,oE 21 0 Xec,oE 22 1 Xec,oM 9 Xfm,oM 10 XfA]) (.seq (.seq (.reg [oM 23 Xdg,oD 24 (.bin .neq XfN (.const (.int .i64 0)))]) (.cond Xfl (.seq (.reg [oM 25 Xdg,oM 6 Xgp]) .ret) .skip)) (.reg [oM 26 τ8,oM 27 τ9,oD 28 (.nilCheck Xf2),oN (.store 1 Xgt Xgd)]))))) (.reg [oD 29 (.bin .add XdG (.const (.int .i64 1))),oM 13 Xgs]))))))) (.seq (.reg [oD 6 (.mv (.const (.int .i64 0)))]) .ret))
def fn97:VFn:=⟨30,XQC,[.tmp 6]⟩
def XGN:VC:=.seq (.reg [oD 2 (.mv (.const (.string ⟨⟨[]⟩⟩))),oD 3 (.mv (.const (.int .i64 0)))]) (.seq (.reg [oM 6 τ0,oD 7 (.callF 52 [τ6,(.const (.int .i64 1))]),oM 4 τ7]) (.seq (.seq (.reg [oM 8 τ0,oD 9 (.callF 95 [τ8]),oD 10 (.not τ9),oM 11 Xdg,oG 12 (.mv τ4) 11 true,oG 13 (.bin .gtr XdH (.const (.int .i64 20))) 11 true,oD 14 (.pick XcC XdG (.const (.bool false)))]) (.cond Xd9 (.seq (.reg [oD 2 (.mv (.const (.string ⟨⟨[]⟩⟩))),oD 3 (.mv (.const (.int .i64 3)))]) .ret) .skip)) (.seq (.reg [oM 15 τ0,oM 16 τ4,oD 17 (.callF 86 [XdR,Xed]),oM 5 Xec]) (.seq (.seq (.reg [oM 18 τ0,oD 19 (.callF 95 [XeX])]) (.cond Xe3 (.seq (.reg [oD 2 (.mv (.const (.string ⟨⟨[]⟩⟩))),oD 3 (.mv (.const (.int .i64 2)))]) .ret) .skip)) (.seq (.reg [oM 20 τ5,oM 2 Xfw,oD 3 (.mv (.const (.int .i64 0)))]) .ret)))))
def fn98:VFn:=⟨21,XGN,[.tmp 2,.tmp 3]⟩
def k31_1:VC:=.regD [oM 10 τ0,oD 11 (.nilCheck Xdg),oD 12 (.fieldA 2 XcC),oD 13 (.load1 .oth XdH),oD 14 (.loadN [(.int .i64),.bool,(.int .u64),(.int .u64),.bool,(.int .u64),(.int .u64),(.int .i64),(.int .i64)] τ4),oD 15 (.mget [(0,(.int .i64)),(1,.bool),(2,(.int .u64)),(3,(.int .u64)),(4,.bool),(5,(.int .u64)),(6,(.int .u64)),(7,(.int .i64)),(8,(.int .i64))] (.int .u64 0) true XdG Xd9),oM 9 XdR,oE 16 0 τ9,oE 17 1 τ9,oM 7 Xed] [] [oM 8 Xec]
def XTy:VC:=.regD [oM 36 τ0,oD 37 (.nilCheck XhH),oD 38 (.fieldA 2 Xg0),oD 39 (.load1 .oth Xiu),oD 40 (.loadN [(.int .i64),.bool,(.int .u64),(.int .u64),.bool,(.int .u64),(.int .u64),(.int .i64),(.int .i64)] τ4),oD 41 (.fieldA 2 τ5),oD 42 (.load1 (.int .u64) XiD)] [] [oN (.mput [(0,(.int .i64)),(1,.bool),(2,(.int .u64)),(3,(.int .u64)),(4,.bool),(5,(.int .u64)),(6,(.int .u64)),(7,(.int .i64)),(8,(.int .i64))] Xim Xjb XiK)]
def XGW:VC:=.seq (.reg [oD 4 (.box τ1),oD 5 (.box τ2),oD 6 (.mv (.const (.int .i64 0)))]) (.seq (.seq k31_1 (.block 0 (.seq (.reg [oM 19 τ8,oM 20 Xe3,oG 21 (.fieldA 3 τ5) 20 true,oG 22 (.load1 .bool Xfm) 20 true,oG 23 (.not XfA) 20 true,oD 24 (.pick Xfw XfN (.const (.bool false))),oM 18 Xfl]) (.cond XeX (.seq (.reg [oD 6 (.mv (.const (.int .i64 0)))]) .ret) (.seq (.reg [oM 26 τ8,oD 27 (.not Xf2),oM 28 Xgd,oG 29 (.mv τ0) 28 true,oG 30 (.nilCheck Xgs) 28 true,oG 31 (.fieldA 2 XgH) 28 true,oG 32 (.load1 .oth XgA) 28 true,oG 33 (.lenM Xgz) 28 true,oG 34 (.bin .eql Xhp (.const (.int .i64 64))) 28 true,oD 35 (.pick Xgt Xhq (.const (.bool false))),oM 25 XhG]) (.cond Xgp (.seq (.reg [oD 6 (.mv (.const (.int .i64 9)))]) .ret) .skip)))))) (.seq XTy (.seq (.reg [oD 6 (.mv (.const (.int .i64 0)))]) .ret)))
def fn31:VFn:=⟨43,XGW,[.tmp 6]⟩
def XPN:VC:=.seq (.reg [oD 3 (.box τ1),oD 4 (.mv (.const (.string ⟨⟨[]⟩⟩))),oD 5 (.mv (.const (.int .i64 0)))]) (.seq (.reg [oM 6 τ0,oD 7 (.mkFunc 57 [] [τ3]),oD 8 (.callF 56 [τ6,(.const (.int .i64 4)),τ7]),oE 9 0 τ8,oE 10 1 τ8,oM 4 τ9,oM 5 Xdg]) .ret)
def fn32:VFn:=⟨11,XPN,[.tmp 4,.tmp 5]⟩
def k57_1:VC:=.regD [oD 4 (.load1 (.int .u32) τ1),oD 5 (.fieldA 12 τ2),oD 6 (.load1 (.int .u32) τ5),oD 7 (.callF 59 [τ6])] [(0,3)] [oD 8 (.callF 58 [τ4,τ7]),oM 3 τ8]
def XNj:VC:=.seq (.reg [oD 2 (.box τ0),oD 3 (.mv (.const (.int .u32 0)))]) (.seq k57_1 .ret)
def fn57:VFn:=⟨9,XNj,[.tmp 3]⟩
def XNr:VC:=.seq (.reg [oD 2 (.mv (.const (.int .u16 0)))]) (.seq (.reg [oM 3 τ0,oD 4 (.conv .u16 τ3),oM 2 τ4]) .ret)
def fn59:VFn:=⟨5,XNr,[.tmp 2]⟩
def XOV:VC:=.seq (.reg [oD 4 (.mv (.const (.int .u32 0)))]) (.seq (.reg [oM 5 τ0,oM 6 τ0,oD 7 (.callF 59 [τ6]),oM 8 τ1,oD 9 (.bin .sub τ7 τ8),oD 10 (.conv .u32 τ9),oD 11 (.bin .sub τ5 Xdg),oM 4 XcC]) .ret)
def fn58:VFn:=⟨12,XOV,[.tmp 4]⟩
def XSG:VC:=.regD [oM 48 τ0,oM 49 Xdg,oD 50 (.sliceS XjG (some Xjd) none),oM 51 XdR,oD 52 (.bin .add (.const (.int .i64 20)) XjR),oM 53 τ1,oD 54 (.bin .add Xj6 Xkq),oM 55 τ2,oD 56 (.loadN [(.int .i64),.bool,(.int .u64),(.int .u64),.bool,(.int .u64),(.int .u64),(.int .i64),(.int .i64),(.int .i64),.bool,(.int .u32),(.int .u32),.bool,.str,(.int .i64)] τ8),oD 57 (.callV Xls [Xlz]),oD 58 (.conv .u64 Xld),oD 59 (.callF 71 [XlC,(.const (.int .i64 4))]),oD 60 (.callF 70 [XjO,Xlw,XlO,(.const (.int .i64 16))]),oM 47 Xnd,oE 61 0 Xjc,oE 62 1 Xjc,oM 16 Xml] [] [oM 17 Xns]
def XTi:VC:=.seq (.reg [oD 6 (.mv (.const (.string ⟨⟨[]⟩⟩))),oD 7 (.mv (.const (.int .i64 0)))]) (.seq (.reg [oM 19 τ0,oD 20 (.callF 30 [Xe3]),oM 18 Xfw,oE 21 0 XeX,oE 22 1 XeX,oD 8 (.alloc [(.int .i64 0),(.bool false),(.int .u64 0),(.int .u64 0),(.bool false),(.int .u64 0),(.int .u64 0),(.int .i64 0),(.int .i64 0),(.int .i64 0),(.bool false),(.int .u32 0),(.int .u32 0),(.bool false),(.string ⟨⟨[]⟩⟩),(.int .i64 0)]),oN (.store 16 τ8 Xfm),oM 9 XfA]) (.seq (.block 0 (.seq (.reg [oM 24 τ9,oD 25 (.bin .neq Xfl (.const (.int .i64 0))),oM 23 Xgp]) (.cond XfN (.seq (.reg [oM 26 τ9,oD 6 (.mv (.const (.string ⟨⟨[]⟩⟩))),oM 7 Xf2]) .ret) (.seq (.reg [oD 28 (.fieldA 10 τ8),oD 29 (.load1 .bool Xgt),oD 30 (.not Xgs),oM 27 XgH]) (.cond Xgd (.seq (.reg [oD 6 (.mv (.const (.string ⟨⟨[]⟩⟩))),oD 7 (.mv (.const (.int .i64 6)))]) .ret) .skip))))) (.seq (.reg [oM 32 τ0,oD 33 (.callF 67 [Xgz]),oM 31 Xhp,oE 34 0 XgA,oE 35 1 XgA,oE 36 2 XgA,oM 10 Xhq,oM 11 XhG,oM 12 XhH]) (.seq (.reg [oM 38 τ0,oM 39 Xdg,oD 40 (.bin .add Xim (.const (.int .i64 20))),oM 41 XcC,oD 42 (.sliceS Xiu (some Xjb) (some XiD)),oD 43 (.callF 91 [XiK]),oM 37 XiV,oE 44 0 Xg0,oE 45 1 Xg0,oE 46 2 Xg0,oM 13 Xje,oM 14 Xjf,oM 15 Xji]) (.seq XSG (.seq (.seq (.reg [oM 63 Xec,oD 64 (.not Xoa)]) (.cond Xoy (.seq (.reg [oD 6 (.mv (.const (.string ⟨⟨[]⟩⟩))),oD 7 (.mv (.const (.int .i64 3)))]) .ret) .skip)) (.seq (.reg [oM 65 τ0,oM 66 Xdg,oD 67 (.sliceS Xpi none (some XpP)),oM 68 Xed,oD 69 (.bin .add Xpa Xo9),oM 6 XpO,oD 7 (.mv (.const (.int .i64 0)))]) .ret)))))))
def fn56:VFn:=⟨70,XTi,[.tmp 6,.tmp 7]⟩
def XF6:VC:=.seq (.reg [oD 2 (.mv (.const (.int .i64 0))),oD 3 (.mv (.const (.int .i64 0))),oD 4 (.mv (.const (.int .i64 0)))]) (.seq (.reg [oM 10 τ0,oD 11 (.callF 55 [Xdg]),oM 9 XcC,oE 12 0 τ9,oE 13 1 τ9,oE 14 2 τ9,oE 15 3 τ9,oD 5 (.alloc [(.int .i64 0),(.bool false),(.int .u64 0),(.int .u64 0),(.bool false),(.int .u64 0),(.int .u64 0),(.int .i64 0),(.int .i64 0),(.int .i64 0),(.bool false),(.int .u32 0),(.int .u32 0),(.bool false),(.string ⟨⟨[]⟩⟩),(.int .i64 0)]),oN (.store 16 τ5 XdH),oM 6 XdG,oM 7 Xd9,oM 8 XdR]) (.seq (.seq (.reg [oM 16 τ8,oD 17 (.bin .neq Xed (.const (.int .i64 0)))]) (.cond Xec (.seq (.reg [oM 18 τ8,oD 2 (.mv (.const (.int .i64 0))),oD 3 (.mv (.const (.int .i64 0))),oM 4 XeX]) .ret) .skip)) (.seq (.reg [oM 19 τ0,oD 20 (.lenS Xe3),oM 21 τ6,oD 22 (.bin .sub Xfw Xfm),oM 23 τ0,oD 24 (.lenS XfN),oM 25 τ7,oD 26 (.bin .sub Xfl Xgp),oM 2 XfA,oM 3 Xf2,oD 4 (.mv (.const (.int .i64 0)))]) .ret)))
def fn67:VFn:=⟨27,XF6,[.tmp 2,.tmp 3,.tmp 4]⟩
def XOF:VC:=.regD [oM 63 τ0,oM 64 τ1,oD 65 (.sliceS Xoa none (some Xoy)),oM 66 τ2,oD 67 (.bin .add Xpi XpP),oM 68 τ0,oM 69 Xdg,oD 70 (.sliceS Xo9 (some XpO) none)] [] [oD 71 (.bin .add Xpa Xqm),oM 11 XqJ]
def XFL:VC:=.seq (.reg [oD 8 (.mv (.const (.string ⟨⟨[]⟩⟩))),oD 9 (.mv (.const (.bool false)))]) (.seq (.reg [oM 17 τ1,oM 18 τ2,oD 19 (.lenS XeX),oD 20 (.bin .add Xec Xe3),oM 10 Xfw]) (.seq (.block 0 (.seq (.reg [oM 22 τ1,oD 23 (.bin .lss XfA (.const (.int .i64 0))),oM 24 XfN,oG 25 (.mv τ0) 24 false,oG 26 (.lenS Xgp) 24 false,oG 27 (.mv τ2) 24 false,oG 28 (.lenS Xgd) 24 false,oG 29 (.bin .sub Xf2 Xgt) 24 false,oG 30 (.mv τ1) 24 false,oG 31 (.bin .lss Xgs XgH) 24 false,oD 32 (.pick Xfl (.const (.bool true)) XgA),oM 33 Xgz,oG 34 (.mv τ3) 33 false,oG 35 (.bin .lss Xhq (.const (.int .i64 0))) 33 false,oD 36 (.pick Xhp (.const (.bool true)) XhG),oM 37 XhH,oG 38 (.mv τ3) 37 false,oG 39 (.bin .rem Xiu (.const (.int .i64 2))) 37 false,oG 40 (.bin .eql Xim (.const (.int .i64 1))) 37 false,oD 41 (.pick Xg0 (.const (.bool true)) Xjb),oM 42 XiD,oG 43 (.mv τ0) 42 false,oG 44 (.lenS XiV) 42 false,oG 45 (.bin .sub Xje (.const (.int .i64 2))) 42 false,oG 46 (.mv τ3) 42 false,oG 47 (.bin .lss Xjf Xji) 42 false,oD 48 (.pick XiK (.const (.bool true)) Xjc),oM 21 XjG]) (.cond Xfm (.seq (.reg [oD 8 (.mv (.const (.string ⟨⟨[]⟩⟩))),oD 9 (.mv (.const (.bool false)))]) .ret) (.seq (.reg [oM 50 τ2,oD 51 (.bin .eql XjO (.const (.string ⟨⟨[]⟩⟩))),oM 49 XjR]) (.cond Xjd (.seq (.reg [oM 52 τ0,oM 8 Xj6,oD 9 (.mv (.const (.bool true)))]) .ret) (.seq (.reg [oM 54 τ1,oM 55 τ3,oD 56 (.bin .add Xls (.const (.int .i64 2))),oD 57 (.bin .lss Xlw Xlz),oM 58 Xld,oG 59 (.mv τ3) 58 true,oG 60 (.mv Xdg) 58 true,oG 61 (.bin .lss XlO Xnd) 58 true,oD 62 (.pick XlC Xml (.const (.bool false))),oM 53 Xns]) (.cond Xkq (.seq (.reg [oD 8 (.mv (.const (.string ⟨⟨[]⟩⟩))),oD 9 (.mv (.const (.bool false)))]) .ret) .skip))))))) (.seq XOF (.seq (.reg [oM 72 τ1,oD 73 (.bin .andNot Xqr (.const (.int .i64 1))),oM 74 Xdg,oD 75 (.bin .add XsO (.const (.int .i64 1))),oD 76 (.bin .andNot Xsv (.const (.int .i64 1))),oM 12 XqN,oM 13 Xtc]) (.seq (.reg [oM 78 τ0,oM 79 τ3,oD 80 (.callF 69 [Xta,Xtj,(.const (.int .i64 2))]),oM 77 Xtp,oE 81 0 Xr3,oE 82 1 Xr3,oM 14 Xwz,oM 15 Xv4]) (.seq (.reg [oM 83 Xd9,oD 84 (.conv .i64 XtY),oM 85 τ0,oM 86 XdH,oM 87 XdG,oD 88 (.callF 100 [XBf,XA9,XAQ]),oM 89 XcC,oM 90 XdH,oM 91 XdG,oD 92 (.callF 100 [XA7,XAT,Xxl]),oD 93 (.callF 99 [XyI,XAR,XA0]),oM 16 XAU]) (.seq (.reg [oM 94 XcC,oM 95 τ3,oM 96 Xed,oD 97 (.conv .u64 Xw9),oD 98 (.callF 72 [XAy,XAV,(.const (.int .i64 2)),XCJ]),oM 8 XGB,oD 9 (.mv (.const (.bool true)))]) .ret)))))))
def fn70:VFn:=⟨99,XFL,[.tmp 8,.tmp 9]⟩
def XFS:VC:=.seq (.reg [oD 6 (.mv (.const (.string ⟨⟨[]⟩⟩)))]) (.seq (.seq (.reg [oM 7 τ2,oM 8 τ0,oD 9 (.lenS τ8),oD 10 (.bin .gtr τ7 τ9)]) (.cond Xdg (.seq (.reg [oM 11 τ0,oM 12 τ1,oD 13 (.sliceS XcC (some XdH) none),oD 14 (.bin .add XdG (.const (.string ⟨⟨[0]⟩⟩))),oM 6 Xd9]) .ret) .skip)) (.seq (.reg [oM 15 τ0,oM 16 τ1,oM 17 τ2,oD 18 (.sliceS XdR (some Xed) (some Xec)),oM 6 XeX]) .ret))
def XS4:VFn:=⟨19,XFS,[.tmp 6]⟩
def XQo:VC:=.reg [oM 8 Xgp]
def XGg:VC:=.block 1 (.seq (.reg [oD 27 (.load1 .str τ5),oD 28 (.load1 (.int .i64) τ7),oD 29 (.callF 69 [Xgd,Xgt,(.const (.int .i64 2))]),oM 26 Xgs,oE 30 0 Xf2,oE 31 1 Xf2,oM 9 XgH,oM 10 XgA]) (.seq (.reg [oD 32 (.load1 (.int .i64) τ3),oM 33 τ8,oM 34 τ9,oD 35 (.conv .i64 Xhq),oD 36 (.callF 122 [Xgz,Xhp,XhG]),oN (.store 1 τ3 XhH)]) (.reg [oD 37 (.load1 (.int .i64) τ7),oD 38 (.bin .add Xg0 (.const (.int .i64 2))),oN (.store 1 τ7 Xiu)])))
def XPt:VC:=.rangeF Xfl [25] XQo XGg
def XFU:VC:=.seq (.reg [oD 39 (.load1 (.int .i64) τ3),oM 6 Xim]) .ret
def XGI:VC:=.seq (.reg [oD 3 (.box τ0),oD 5 (.box τ2),oD 6 (.mv (.const (.int .i64 0)))]) (.seq (.seq (.reg [oM 11 τ1,oD 12 (.lenS XcC),oD 13 (.load1 .str τ5),oD 14 (.lenS XdG),oD 15 (.bin .neq XdH Xd9),oM 16 XdR,oG 17 (.mv τ1) 16 false,oG 18 (.lenS Xec) 16 false,oG 19 (.bin .rem XeX (.const (.int .i64 2))) 16 false,oG 20 (.bin .gtr Xe3 (.const (.int .i64 0))) 16 false,oD 21 (.pick Xed (.const (.bool true)) Xfw)]) (.cond Xfm (.seq (.reg [oD 22 (.load1 (.int .i64) τ3),oM 6 XfA]) .ret) .skip)) (.seq (.reg [oD 7 (.alloc [(.int .i64 0)]),oN (.store 1 τ7 (.const (.int .i64 0)))]) (.seq (.seq (.reg [oM 23 τ1,oD 24 (.callF 114 [XfN])]) (.block 0 XPt)) XFU)))
def fn99:VFn:=⟨40,XGI,[.tmp 6]⟩
def XFH:VC:=.seq (.reg [oD 6 (.mv (.const (.int .i64 0)))]) (.seq (.seq (.reg [oM 7 τ0,oM 8 τ1,oM 9 τ2,oD 10 (.buildSl 3 1 [(.int .i64 0),(.int .i64 0),(.int .i64 0)] [(0,1,τ7),(1,1,τ8),(2,1,τ9)]),oD 11 (.callF 134 [Xdg]),oD 12 (.not XcC)]) (.cond XdH (.seq (.reg [oD 6 (.mv (.const (.int .i64 0)))]) .ret) .skip)) (.seq (.reg [oM 13 τ0,oD 14 (.bin .sub (.const (.int .i64 65535)) XdG),oD 15 (.bin .add Xd9 (.const (.int .i64 65535))),oM 16 τ1,oD 17 (.bin .sub XdR Xed),oM 18 τ2,oD 19 (.bin .add Xec XeX),oD 20 (.callF 115 [Xe3]),oD 21 (.bin .sub (.const (.int .i64 65535)) Xfw),oM 6 Xfm]) .ret))
def XP2:VFn:=⟨22,XFH,[.tmp 6]⟩
def Xtv:VC:=.seq (.reg [oD 8 (.bin .lss τ7 τ6)]) (.seq (.cond τ8 .skip (.exit 0)) (.seq (.block 1 (.seq (.reg [oD 9 (.idxAL 1 τ5 τ7),oD 10 (.load1 (.int .i64) τ9),oM 4 Xdg]) (.seq (.reg [oM 11 τ4,oD 12 (.bin .lss XcC (.const (.int .i64 0))),oM 13 XdH,oG 14 (.mv τ4) 13 false,oG 15 (.bin .gtr Xd9 (.const (.int .i64 65535))) 13 false,oD 16 (.pick XdG (.const (.bool true)) XdR)]) (.cond Xed (.seq (.reg [oD 2 (.mv (.const (.bool false)))]) .ret) .skip)))) (.reg [oD 17 (.bin .add τ7 (.const (.int .i64 1))),oM 7 Xec])))
def XAd:VC:=.seq (.reg [oD 2 (.mv (.const (.bool true)))]) .ret
def Xx2:VC:=.seq (.reg [oD 2 (.mv (.const (.bool false)))]) (.seq (.seq (.reg [oM 5 τ0,oD 6 (.lenL τ5),oD 7 (.mv (.const (.int .i64 0)))]) (.block 0 (.loop Xtv))) XAd)
def XSF:VFn:=⟨18,Xx2,[.tmp 2]⟩
def k72_7:VC:=.regD [oM 28 τ0,oM 29 τ1,oD 30 (.sliceS Xgt none (some Xgs)),oM 31 τ9,oD 32 (.bin .add XgH XgA),oM 33 τ0,oM 34 τ1,oM 35 τ2,oD 36 (.bin .add Xhq XhG),oD 37 (.sliceS Xhp (some XhH) none)] [] [oD 38 (.bin .add Xgz Xg0),oM 8 Xiu]
def XGL:VC:=.seq (.reg [oD 8 (.mv (.const (.string ⟨⟨[]⟩⟩)))]) (.seq (.reg [oM 10 τ3,oM 11 τ2,oD 12 (.callF 71 [Xdg,XcC]),oM 9 XdH]) (.seq (.seq (.reg [oM 13 τ9,oD 14 (.bin .eql XdG (.const (.string ⟨⟨[]⟩⟩))),oM 15 Xd9,oG 16 (.mv τ1) 15 false,oG 17 (.bin .lss Xed (.const (.int .i64 0))) 15 false,oD 18 (.pick XdR (.const (.bool true)) Xec),oM 19 XeX,oG 20 (.mv τ0) 19 false,oG 21 (.lenS Xfw) 19 false,oG 22 (.mv τ2) 19 false,oG 23 (.bin .sub Xfm XfA) 19 false,oG 24 (.mv τ1) 19 false,oG 25 (.bin .lss XfN Xfl) 19 false,oD 26 (.pick Xe3 (.const (.bool true)) Xgp)]) (.cond Xf2 (.seq (.reg [oM 27 τ0,oM 8 Xgd]) .ret) .skip)) (.seq k72_7 .ret)))
def fn72:VFn:=⟨39,XGL,[.tmp 8]⟩
def Xw4:VC:=.seq (.reg [oD 4 (.mv (.const (.string ⟨⟨[]⟩⟩))),oD 5 (.mv (.const (.int .i64 0)))]) (.seq (.seq (.reg [oM 12 τ0,oD 13 (.callF 28 [XdH]),oD 14 (.not XdG)]) (.cond Xd9 (.seq (.reg [oD 4 (.mv (.const (.string ⟨⟨[]⟩⟩))),oD 5 (.mv (.const (.int .i64 1)))]) .ret) .skip)) (.seq (.reg [oM 16 τ1,oD 17 (.callF 30 [Xed]),oM 15 Xec,oE 18 0 XdR,oE 19 1 XdR,oD 6 (.alloc [(.int .i64 0),(.bool false),(.int .u64 0),(.int .u64 0),(.bool false),(.int .u64 0),(.int .u64 0),(.int .i64 0),(.int .i64 0),(.int .i64 0),(.bool false),(.int .u32 0),(.int .u32 0),(.bool false),(.string ⟨⟨[]⟩⟩),(.int .i64 0)]),oN (.store 16 τ6 XeX),oM 7 Xe3]) (.seq (.seq (.reg [oM 20 τ7,oD 21 (.bin .neq Xfw (.const (.int .i64 0)))]) (.cond Xfm (.seq (.reg [oM 22 τ7,oD 4 (.mv (.const (.string ⟨⟨[]⟩⟩))),oM 5 XfA]) .ret) .skip)) (.seq (.reg [oM 24 τ0,oD 25 (.fieldA 0 τ6),oD 26 (.loadN [(.int .i64),.bool,(.int .u64),(.int .u64),.bool,(.int .u64),(.int .u64),(.int .i64),(.int .i64)] Xgp),oD 27 (.callF 36 [Xf2]),oD 28 (.callF 17 [Xfl,Xgd]),oM 23 Xgt,oE 29 0 XfN,oE 30 1 XfN,oM 8 Xgs,oM 9 XgH]) (.seq (.block 0 (.seq (.reg [oM 32 τ9,oD 33 (.not Xgz),oM 31 Xhp]) (.cond XgA (.seq (.reg [oD 4 (.mv (.const (.string ⟨⟨[]⟩⟩))),oD 5 (.mv (.const (.int .i64 13)))]) .ret) (.seq (.reg [oD 35 (.fieldA 10 τ6),oD 36 (.load1 .bool XhG),oM 34 XhH]) (.cond Xhq (.seq (.reg [oM 37 τ1,oM 38 τ8,oD 39 (.conv .u16 Xiu),oD 40 (.callF 37 [Xg0,Xim]),oE 41 0 Xjb,oE 42 1 Xjb,oM 4 XiD,oM 5 XiK]) .ret) .skip))))) (.seq (.seq (.reg [oM 44 τ1,oM 45 τ8,oD 46 (.callF 38 [Xje,Xjf]),oM 43 Xji,oE 47 0 XiV,oE 48 1 XiV,oM 10 Xjc,oM 11 XjG]) (.seq (.reg [oM 49 XcC,oD 50 (.bin .eql Xjd (.const (.int .i64 0)))]) (.cond XjO (.seq (.reg [oM 51 Xdg,oM 4 XjR,oD 5 (.mv (.const (.int .i64 0)))]) .ret) .skip))) (.seq (.reg [oM 52 τ1,oM 4 Xj6,oD 5 (.mv (.const (.int .i64 0)))]) .ret)))))))
def fn12:VFn:=⟨53,Xw4,[.tmp 4,.tmp 5]⟩
def XPx:VC:=.seq (.reg [oD 1 (.box τ0),oD 2 (.alloc [(.int .i64 0),(.bool false),(.int .u64 0),(.int .u64 0),(.bool false),(.int .u64 0),(.int .u64 0),(.int .i64 0),(.int .i64 0)])]) (.seq (.reg [oD 3 (.fieldA 4 τ1),oD 4 (.loadN [.bool,(.int .u64),(.int .u64)] τ3),oD 5 (.fieldA 1 τ1),oD 6 (.loadN [.bool,(.int .u64),(.int .u64)] τ5),oD 7 (.fieldA 8 τ1),oD 8 (.load1 (.int .i64) τ7),oD 9 (.fieldA 7 τ1),oD 10 (.load1 (.int .i64) τ9),oD 11 (.fieldA 1 τ1),oN (.store 3 XcC τ4),oD 12 (.fieldA 4 τ1),oN (.store 3 XdH τ6),oD 13 (.fieldA 7 τ1),oN (.store 1 XdG τ8),oD 14 (.fieldA 8 τ1),oN (.store 1 Xd9 Xdg)]) (.seq (.reg [oD 15 (.loadN [(.int .i64),.bool,(.int .u64),(.int .u64),.bool,(.int .u64),(.int .u64),(.int .i64),(.int .i64)] τ1),oN (.store 9 τ2 XdR)]) .ret))
def fn36:VFn:=⟨16,XPx,[.cell 2 [(.int .i64),.bool,(.int .u64),(.int .u64),.bool,(.int .u64),(.int .u64),(.int .i64),(.int .i64)] true]⟩
def k17_6:VC:=.regD [oM 12 τ0,oD 13 (.nilCheck XdH),oD 14 (.fieldA 2 XdG),oD 15 (.load1 .oth Xd9),oD 16 (.loadN [(.int .i64),.bool,(.int .u64),(.int .u64),.bool,(.int .u64),(.int .u64),(.int .i64),(.int .i64)] τ3),oD 17 (.mget [(0,(.int .i64)),(1,.bool),(2,(.int .u64)),(3,(.int .u64)),(4,.bool),(5,(.int .u64)),(6,(.int .u64)),(7,(.int .i64)),(8,(.int .i64))] (.int .u64 0) true XdR Xed),oM 11 Xec,oE 18 0 XcC,oE 19 1 XcC,oM 6 XeX] [] [oM 7 Xe3]
def XuR:VC:=.seq (.reg [oD 3 (.box τ1),oD 4 (.mv (.const (.int .u64 0))),oD 5 (.mv (.const (.bool false)))]) (.seq (.seq (.reg [oM 8 τ0,oD 9 (.callF 28 [τ8]),oD 10 (.not τ9)]) (.cond Xdg (.seq (.reg [oD 4 (.mv (.const (.int .u64 0))),oD 5 (.mv (.const (.bool false)))]) .ret) .skip)) (.seq k17_6 (.seq (.reg [oM 20 τ6,oM 21 τ7,oM 4 Xfw,oM 5 Xfm]) .ret)))
def fn17:VFn:=⟨22,XuR,[.tmp 4,.tmp 5]⟩
def XQc:VC:=.seq (.reg [oD 3 (.box τ1),oD 4 (.mv (.const (.string ⟨⟨[]⟩⟩))),oD 5 (.mv (.const (.int .i64 0)))]) (.seq (.reg [oM 6 τ0,oD 7 (.mkFunc 65 [] [τ3]),oD 8 (.callF 56 [τ6,(.const (.int .i64 0)),τ7]),oE 9 0 τ8,oE 10 1 τ8,oM 4 τ9,oM 5 Xdg]) .ret)
def fn37:VFn:=⟨11,XQc,[.tmp 4,.tmp 5]⟩
def XRg:VC:=.seq (.reg [oD 2 (.box τ0),oD 3 (.mv (.const (.int .u32 0)))]) (.seq (.reg [oD 4 (.fieldA 11 τ2),oD 5 (.load1 (.int .u32) τ4),oD 6 (.load1 (.int .u16) τ1),oD 7 (.callF 66 [τ5,τ6]),oM 3 τ7]) .ret)
def fn65:VFn:=⟨8,XRg,[.tmp 3]⟩
def XPJ:VC:=.seq (.reg [oD 4 (.mv (.const (.int .u32 0)))]) (.seq (.reg [oM 5 τ1,oD 6 (.conv .u32 τ5),oD 7 (.bin .shl τ6 (.const (.int .u64 16))),oM 8 τ0,oD 9 (.callF 59 [τ8]),oD 10 (.conv .u32 τ9),oD 11 (.bin .or τ7 Xdg),oM 4 XcC]) .ret)
def fn66:VFn:=⟨12,XPJ,[.tmp 4]⟩
def XTR:VC:=.regD [oM 66 τ0,oM 67 τ8,oD 68 (.sliceS XpP (some Xpa) none),oD 69 (.fieldA 3 XcC),oD 70 (.load1 .str XpO),oD 71 (.lenS Xqm),oD 72 (.bin .add (.const (.int .i64 15)) XqJ),oM 73 τ1,oD 74 (.callF 71 [XqN,(.const (.int .i64 8))]),oD 75 (.callF 70 [Xo9,Xqr,XsO,(.const (.int .i64 6))]),oM 65 Xsv,oE 76 0 Xpi,oE 77 1 Xpi,oM 14 Xtc] [(4,8)] [oM 15 Xr3]
def XTK:VC:=.regD [oM 91 τ0,oM 92 τ8,oD 93 (.sliceS Xxl none (some XA0)),oM 94 Xd9,oM 95 Xed,oD 96 (.callF 72 [XAy,(.const (.int .i64 6)),(.const (.int .i64 2)),XAV])] [] [oD 97 (.bin .add XAU Xw9),oM 4 XCJ,oD 5 (.mv (.const (.int .i64 0)))]
def XHw:VC:=.seq (.reg [oD 4 (.mv (.const (.string ⟨⟨[]⟩⟩))),oD 5 (.mv (.const (.int .i64 0)))]) (.seq (.reg [oM 19 τ0,oD 20 (.callF 30 [Xe3]),oM 18 Xfw,oE 21 0 XeX,oE 22 1 XeX,oD 6 (.alloc [(.int .i64 0),(.bool false),(.int .u64 0),(.int .u64 0),(.bool false),(.int .u64 0),(.int .u64 0),(.int .i64 0),(.int .i64 0),(.int .i64 0),(.bool false),(.int .u32 0),(.int .u32 0),(.bool false),(.string ⟨⟨[]⟩⟩),(.int .i64 0)]),oN (.store 16 τ6 Xfm),oM 7 XfA]) (.seq (.seq (.reg [oM 23 τ7,oD 24 (.bin .neq XfN (.const (.int .i64 0)))]) (.cond Xfl (.seq (.reg [oM 25 τ7,oD 4 (.mv (.const (.string ⟨⟨[]⟩⟩))),oM 5 Xgp]) .ret) .skip)) (.seq (.reg [oM 27 τ0,oD 28 (.callF 67 [Xgd]),oM 26 Xgt,oE 29 0 Xf2,oE 30 1 Xf2,oE 31 2 Xf2,oM 8 Xgs,oM 9 XgH,oM 10 XgA]) (.seq (.reg [oM 33 τ0,oM 34 τ9,oD 35 (.sliceS Xhp (some Xhq) none),oD 36 (.callF 68 [XhG]),oM 32 XhH,oE 37 0 Xgz,oE 38 1 Xgz,oD 11 (.alloc [(.bool false),(.int .i64 0),(.int .u32 0),(.string ⟨⟨[]⟩⟩),(.string ⟨⟨[]⟩⟩),(.string ⟨⟨[]⟩⟩)]),oN (.store 6 XcC Xg0),oM 7 Xiu]) (.seq (.block 0 (.seq (.reg [oD 40 (.fieldA 0 τ6),oD 41 (.fieldA 0 Xjb),oD 42 (.load1 (.int .i64) XiD),oD 43 (.bin .neq XiK (.const (.int .i64 17))),oM 44 XiV,oG 45 (.mv τ7) 44 false,oG 46 (.bin .neq Xjf (.const (.int .i64 0))) 44 false,oD 47 (.pick Xje (.const (.bool true)) Xji),oM 48 Xjc,oG 49 (.fieldA 0 XcC) 48 false,oG 50 (.load1 .bool Xjd) 48 false,oG 51 (.not XjO) 48 false,oD 52 (.pick XjG (.const (.bool true)) XjR),oM 39 Xj6]) (.cond Xim (.seq (.reg [oD 4 (.mv (.const (.string ⟨⟨[]⟩⟩))),oD 5 (.mv (.const (.int .i64 6)))]) .ret) (.seq (.reg [oD 54 (.fieldA 4 XcC),oD 55 (.load1 .str Xlw),oD 56 (.lenS Xls),oD 57 (.bin .neq Xlz (.const (.int .i64 8))),oM 53 Xld]) (.cond Xkq (.seq (.reg [oD 4 (.mv (.const (.string ⟨⟨[]⟩⟩))),oD 5 (.mv (.const (.int .i64 3)))]) .ret) .skip))))) (.seq (.reg [oM 59 τ0,oM 60 τ8,oD 61 (.bin .add Xnd (.const (.int .i64 6))),oD 62 (.callF 69 [XlO,Xml,(.const (.int .i64 2))]),oM 58 Xns,oE 63 0 XlC,oE 64 1 XlC,oM 12 Xoa,oM 13 Xoy]) (.seq XTR (.seq (.seq (.reg [oM 78 XdR,oD 79 (.not Xta)]) (.cond Xtj (.seq (.reg [oD 4 (.mv (.const (.string ⟨⟨[]⟩⟩))),oD 5 (.mv (.const (.int .i64 3)))]) .ret) .skip)) (.seq (.reg [oM 81 Xd9,oD 82 (.callF 69 [Xwz,(.const (.int .i64 6)),(.const (.int .i64 2))]),oM 80 Xv4,oE 83 0 Xtp,oE 84 1 Xtp,oM 16 XtY,oM 17 XyI]) (.seq (.block 1 (.seq (.reg [oM 86 XdH,oD 87 (.bin .eql XA9 (.const (.int .u64 0))),oM 85 XAQ]) (.cond XBf (.reg [oD 16 (.mv (.const (.int .u64 0)))]) (.seq (.reg [oM 89 Xed,oD 90 (.bin .eql XA7 (.const (.int .u64 0))),oM 88 XAT]) (.cond XAR (.reg [oD 16 (.mv (.const (.int .u64 65535)))]) .skip))))) (.seq XTK .ret)))))))))))
def fn38:VFn:=⟨98,XHw,[.tmp 4,.tmp 5]⟩
def XLJ:VC:=.seq (.reg [oM 4 τ0,oD 5 (.callF 28 [τ4])]) (.cond τ5 (.reg [oM 6 τ0,oM 7 τ1,oD 8 (.nilCheck τ6),oD 9 (.fieldA 1 τ8),oN (.store 1 τ9 τ7)]) .skip)
def fn16:VFn:=⟨10,XLJ,[]⟩
def k14_3:VC:=.regD [oM 14 τ0,oD 15 (.nilCheck Xd9),oD 16 (.fieldA 2 XdR),oD 17 (.load1 .oth Xed),oD 18 (.loadN [(.int .i64),.bool,(.int .u64),(.int .u64),.bool,(.int .u64),(.int .u64),(.int .i64),(.int .i64)] τ3)] [] [oN (.mdel [(0,(.int .i64)),(1,.bool),(2,(.int .u64)),(3,(.int .u64)),(4,.bool),(5,(.int .u64)),(6,(.int .u64)),(7,(.int .i64)),(8,(.int .i64))] Xec XeX)]
def Xz2:VC:=.seq (.reg [oD 3 (.box τ1),oD 4 (.mv (.const (.bool false)))]) (.seq (.reg [oM 8 τ0,oD 9 (.loadN [(.int .i64),.bool,(.int .u64),(.int .u64),.bool,(.int .u64),(.int .u64),(.int .i64),(.int .i64)] τ3),oD 10 (.callF 17 [τ8,τ9]),oM 7 Xdg,oE 11 0 τ7,oE 12 1 τ7,oM 5 XcC,oM 6 XdH]) (.seq (.seq (.reg [oM 13 τ6]) (.cond XdG k14_3 .skip)) (.seq (.reg [oM 19 τ6,oM 4 Xe3]) .ret)))
def fn14:VFn:=⟨20,Xz2,[.tmp 4]⟩
def XLp:VC:=.seq (.reg [oD 2 (.mv (.const (.int .i64 0)))]) (.seq (.seq (.reg [oM 3 τ0,oD 4 (.callF 28 [τ3]),oD 5 (.not τ4)]) (.cond τ5 (.seq (.reg [oD 2 (.mv (.const (.int .i64 0)))]) .ret) .skip)) (.seq (.reg [oM 6 τ0,oD 7 (.nilCheck τ6),oD 8 (.fieldA 2 τ7),oD 9 (.load1 .oth τ8),oD 10 (.lenM τ9),oM 2 Xdg]) .ret))
def fn19:VFn:=⟨11,XLp,[.tmp 2]⟩
def k9_9:VC:=.seq (.reg [oD 2 (.mv (.const (.pointer none)))]) (.seq (.seq (.reg [oM 3 τ0,oD 4 (.bin .lss τ3 (.const (.int .i64 1))),oM 5 τ4,oG 6 (.mv τ0) 5 false,oG 7 (.bin .gtr τ6 (.const (.int .i64 65535))) 5 false,oD 8 (.pick τ5 (.const (.bool true)) τ7)]) (.cond τ8 (.seq (.reg [oD 2 (.mv (.const (.pointer none)))]) .ret) .skip)) (.seq (.reg [oM 9 τ0,oD 10 (.build [(.int .i64 0),(.int .u32 0),(.slice none 0 0),(.slice none 0 0)] [(0,1,τ9)]),oD 11 (.box Xdg),oM 2 XcC]) .ret))
def fn9:VFn:=⟨12,k9_9,[.tmp 2]⟩
def k11_7:VC:=.regD [oD 20 (.fieldA 1 τ6),oD 21 (.load1 (.int .i64) Xfw),oM 22 τ0,oD 23 (.nilCheck XfA),oD 24 (.fieldA 0 XfN),oD 25 (.load1 (.int .i64) Xfl)] [] [oD 26 (.bin .neq Xfm Xgp)]
def XTw:VC:=.regD [oM 59 τ0,oM 60 τ0,oD 61 (.nilCheck Xnd),oD 62 (.fieldA 2 Xml),oD 63 (.load1 .oth Xns),oD 64 (.fieldA 0 τ9),oD 65 (.loadN [(.int .i64),.bool,(.int .u64),(.int .u64),.bool,(.int .u64),(.int .u64),(.int .i64),(.int .i64)] Xoy),oD 66 (.buildSl 1 9 [(.int .i64 0),(.bool false),(.int .u64 0),(.int .u64 0),(.bool false),(.int .u64 0),(.int .u64 0),(.int .i64 0),(.int .i64 0)] [(0,9,Xpi)]),oD 67 (.app 33 9 72 Xoa XpP)] [(4,7)] [oD 68 (.nilCheck XlO),oD 69 (.fieldA 2 Xo9),oN (.store 1 XpO Xpa)]
def XO8:VC:=.regD [oM 70 τ0,oM 71 τ0,oD 72 (.nilCheck XqJ),oD 73 (.fieldA 3 Xqr),oD 74 (.load1 .oth XqN),oD 75 (.fieldA 2 τ6),oD 76 (.load1 (.int .u64) Xsv),oD 77 (.buildSl 1 1 [(.int .u64 0)] [(0,1,Xtc)]),oD 78 (.app 29 1 8 XsO Xr3)] [(4,7)] [oD 79 (.nilCheck Xqm),oD 80 (.fieldA 3 Xtj),oN (.store 1 Xtp Xta)]
def XTa:VC:=.seq (.reg [oD 4 (.mv (.const (.string ⟨⟨[]⟩⟩))),oD 5 (.mv (.const (.int .i64 0)))]) (.seq (.reg [oM 12 τ1,oD 13 (.callF 33 [XdH]),oM 11 XdG,oE 14 0 XcC,oE 15 1 XcC,oE 16 2 XcC,oD 6 (.alloc [(.bool false),(.int .i64 0),(.int .u64 0),(.bool false),(.int .i64 0)]),oN (.store 5 τ6 Xd9),oM 7 XdR,oM 8 Xed]) (.seq (.seq (.reg [oM 17 τ8,oD 18 (.bin .neq Xec (.const (.int .i64 0)))]) (.cond XeX (.seq (.reg [oM 19 τ8,oD 4 (.mv (.const (.string ⟨⟨[]⟩⟩))),oM 5 Xe3]) .ret) .skip)) (.seq (.seq k11_7 (.cond Xf2 (.seq (.reg [oD 4 (.mv (.const (.string ⟨⟨[]⟩⟩))),oD 5 (.mv (.const (.int .i64 16)))]) .ret) .skip)) (.seq (.reg [oM 28 τ7,oD 29 (.callF 25 [Xgt]),oM 27 Xgs,oE 30 0 Xgd,oE 31 1 Xgd,oD 9 (.alloc [(.int .i64 0),(.bool false),(.int .u64 0),(.int .u64 0),(.bool false),(.int .u64 0),(.int .u64 0),(.int .i64 0),(.int .i64 0),(.int .i64 0),(.bool false),(.int .u32 0),(.int .u32 0),(.bool false),(.string ⟨⟨[]⟩⟩),(.int .i64 0)]),oN (.store 16 τ9 XgH),oM 8 XgA]) (.seq (.seq (.reg [oM 32 τ8,oD 33 (.bin .neq Xgz (.const (.int .i64 0)))]) (.cond Xhp (.seq (.reg [oM 34 τ8,oD 4 (.mv (.const (.string ⟨⟨[]⟩⟩))),oM 5 Xhq]) .ret) .skip)) (.seq (.reg [oM 35 τ0,oD 36 (.fieldA 0 τ9),oD 37 (.loadN [(.int .i64),.bool,(.int .u64),(.int .u64),.bool,(.int .u64),(.int .u64),(.int .i64),(.int .i64)] XhH),oD 38 (.callF 34 [XhG,Xg0]),oM 10 Xiu]) (.seq (.seq (.reg [oM 39 Xdg,oD 40 (.bin .lss Xim (.const (.int .i64 0))),oM 41 Xjb,oG 42 (.mv τ0) 41 true,oG 43 (.nilCheck XiK) 41 true,oG 44 (.fieldA 2 XiV) 41 true,oG 45 (.load1 .oth Xje) 41 true,oG 46 (.lenL Xjf) 41 true,oG 47 (.bin .geq Xji (.const (.int .i64 64))) 41 true,oD 48 (.pick XiD Xjc (.const (.bool false)))]) (.cond XjG (.seq (.reg [oD 4 (.mv (.const (.string ⟨⟨[]⟩⟩))),oD 5 (.mv (.const (.int .i64 9)))]) .ret) .skip)) (.seq (.seq (.reg [oM 49 Xdg,oD 50 (.bin .lss Xjd (.const (.int .i64 0))),oM 51 XjO,oG 52 (.fieldA 3 τ6) 51 false,oG 53 (.load1 .bool Xj6) 51 false,oD 54 (.pick XjR (.const (.bool true)) Xkq)]) (.cond Xlw (.seq (.reg [oM 55 τ0,oD 56 (.fieldA 0 τ9),oD 57 (.loadN [(.int .i64),.bool,(.int .u64),(.int .u64),.bool,(.int .u64),(.int .u64),(.int .i64),(.int .i64)] Xlz),oD 58 (.callF 15 [Xls,Xld])]) (.seq XTw XO8)) .skip)) (.seq (.seq (.reg [oD 81 (.fieldA 0 τ9),oD 82 (.fieldA 0 Xwz),oD 83 (.load1 (.int .i64) Xv4),oD 84 (.bin .neq XtY (.const (.int .i64 6))),oM 85 XyI,oG 86 (.fieldA 10 τ9) 85 false,oG 87 (.load1 .bool XA9) 85 false,oG 88 (.not XAQ) 85 false,oD 89 (.pick XBf (.const (.bool true)) XAR)]) (.cond XA7 (.seq (.reg [oM 90 τ7,oM 4 XAT,oD 5 (.mv (.const (.int .i64 0)))]) .ret) .skip)) (.seq (.reg [oM 91 τ7,oM 92 τ0,oD 93 (.nilCheck XA0),oD 94 (.fieldA 1 XAU),oD 95 (.load1 (.int .u32) XAy),oD 96 (.callF 35 [Xxl,XAV]),oE 97 0 Xw9,oE 98 1 Xw9,oM 4 XCJ,oM 5 XGB]) .ret))))))))))
def fn11:VFn:=⟨99,XTa,[.tmp 4,.tmp 5]⟩
def XOs:VC:=.regD [oM 44 τ0,oD 45 (.idxS Xje (.const (.int .i64 3))),oD 46 (.bin .eql Xjf (.const (.int .u8 41))),oM 47 τ0,oD 48 (.callF 62 [Xjc,(.const (.int .i64 4)),(.const (.int .i64 2))]),oM 49 τ5,oM 50 τ0,oD 51 (.idxS XjO (.const (.int .i64 6))),oD 52 (.bin .eql XjR (.const (.int .u8 1))),oM 53 τ0,oD 54 (.idxS Xkq (.const (.int .i64 7))),oD 55 (.conv .i64 Xlw),oD 56 (.build [(.bool false),(.int .i64 0),(.int .u64 0),(.bool false),(.int .i64 0)] [(0,1,Xji),(1,1,XjG),(2,1,Xjd),(3,1,Xj6),(4,1,Xls)]),oM 57 τ0,oD 58 (.sliceS Xld (some (.const (.int .i64 18))) none),oN (.store 5 τ2 Xlz)] [] [oM 3 XlC,oD 4 (.mv (.const (.int .i64 0)))]
def XNH:VC:=.seq (.reg [oD 2 (.alloc [(.bool false),(.int .i64 0),(.int .u64 0),(.bool false),(.int .i64 0)]),oD 3 (.mv (.const (.string ⟨⟨[]⟩⟩))),oD 4 (.mv (.const (.int .i64 0)))]) (.seq (.seq (.reg [oM 7 τ0,oD 8 (.lenS τ7),oD 9 (.bin .lss τ8 (.const (.int .i64 18)))]) (.cond τ9 (.seq (.reg [oD 10 (.build [(.bool false),(.int .i64 0),(.int .u64 0),(.bool false),(.int .i64 0)] []),oN (.store 5 τ2 Xdg),oD 3 (.mv (.const (.string ⟨⟨[]⟩⟩))),oD 4 (.mv (.const (.int .i64 2)))]) .ret) .skip)) (.seq (.seq (.reg [oM 11 τ0,oD 12 (.sliceS XcC none (some (.const (.int .i64 3)))),oD 13 (.bin .neq XdH (.const (.string ⟨⟨[71,85,1]⟩⟩))),oM 14 XdG,oG 15 (.mv τ0) 14 false,oG 16 (.idxS XdR (.const (.int .i64 3))) 14 false,oG 17 (.bin .neq Xed (.const (.int .u8 4))) 14 false,oG 18 (.mv Xec) 14 false,oG 19 (.mv τ0) 18 true,oG 20 (.idxS Xe3 (.const (.int .i64 3))) 18 true,oG 21 (.bin .neq Xfw (.const (.int .u8 41))) 18 true,oG 22 (.pick XeX Xfm (.const (.bool false))) 14 false,oD 23 (.pick Xd9 (.const (.bool true)) XfA),oM 24 XfN,oG 25 (.mv τ0) 24 false,oG 26 (.idxS Xgp (.const (.int .i64 6))) 24 false,oG 27 (.bin .gtr Xf2 (.const (.int .u8 1))) 24 false,oD 28 (.pick Xfl (.const (.bool true)) Xgd)]) (.cond Xgt (.seq (.reg [oD 29 (.build [(.bool false),(.int .i64 0),(.int .u64 0),(.bool false),(.int .i64 0)] []),oN (.store 5 τ2 Xgs),oD 3 (.mv (.const (.string ⟨⟨[]⟩⟩))),oD 4 (.mv (.const (.int .i64 3)))]) .ret) .skip)) (.seq (.seq (.reg [oM 30 τ0,oD 31 (.lenS XgH),oD 32 (.bin .gtr XgA (.const (.int .i64 9018)))]) (.cond Xgz (.seq (.reg [oD 33 (.build [(.bool false),(.int .i64 0),(.int .u64 0),(.bool false),(.int .i64 0)] []),oN (.store 5 τ2 Xhp),oD 3 (.mv (.const (.string ⟨⟨[]⟩⟩))),oD 4 (.mv (.const (.int .i64 5)))]) .ret) .skip)) (.seq (.seq (.reg [oM 34 τ0,oD 35 (.sliceS Xhq none (some (.const (.int .i64 18)))),oD 36 (.callF 60 [XhG]),oD 37 (.bin .neq XhH (.const (.int .i64 65535)))]) (.cond Xg0 (.seq (.reg [oD 38 (.build [(.bool false),(.int .i64 0),(.int .u64 0),(.bool false),(.int .i64 0)] []),oN (.store 5 τ2 Xiu),oD 3 (.mv (.const (.string ⟨⟨[]⟩⟩))),oD 4 (.mv (.const (.int .i64 4)))]) .ret) .skip)) (.seq (.reg [oM 40 τ0,oD 41 (.callF 61 [Xjb,(.const (.int .i64 10)),(.const (.int .i64 8))]),oM 39 XiD,oE 42 0 Xim,oE 43 1 Xim,oM 5 XiK,oM 6 XiV]) (.seq XOs .ret))))))
def fn33:VFn:=⟨59,XNH,[.cell 2 [.bool,(.int .i64),(.int .u64),.bool,(.int .i64)] true,.tmp 3,.tmp 4]⟩
def XPk:VC:=.seq (.reg [oD 2 (.mv (.const (.int .i64 0)))]) (.seq (.reg [oM 3 τ0,oD 4 (.callF 93 [τ3]),oD 5 (.callF 92 [τ4]),oM 2 τ5]) .ret)
def fn60:VFn:=⟨6,XPk,[.tmp 2]⟩
def XAi:VC:=.seq (.seq (.reg [oM 11 τ4,oM 12 τ0,oD 13 (.lenS XdH),oD 14 (.bin .lss XcC XdG)]) (.cond Xd9 .skip (.exit 0))) (.seq (.block 1 (.reg [oM 17 τ3,oM 18 τ0,oM 19 τ4,oD 20 (.callF 62 [XeX,Xe3,(.const (.int .i64 2))]),oD 21 (.buildSl 1 1 [(.int .i64 0)] [(0,1,Xfw)]),oD 22 (.app 3 1 8 Xec Xfm),oM 3 XfA])) (.reg [oM 15 τ4,oD 16 (.bin .add XdR (.const (.int .i64 2))),oM 4 Xed]))
def XG2:VC:=.seq (.reg [oM 23 τ3,oM 2 XfN]) .ret
def XGR:VC:=.seq (.reg [oD 2 (.mv (.const (.slice none 0 0)))]) (.seq (.seq (.reg [oM 5 τ0,oD 6 (.lenS τ5),oD 7 (.bin .rem τ6 (.const (.int .i64 2))),oD 8 (.bin .eql τ7 (.const (.int .i64 1)))]) (.cond τ8 (.reg [oM 9 τ0,oD 10 (.bin .add τ9 (.const (.string ⟨⟨[0]⟩⟩))),oM 0 Xdg]) .skip)) (.seq (.reg [oD 3 (.mv (.const (.slice none 0 0)))]) (.seq (.seq (.reg [oD 4 (.mv (.const (.int .i64 0)))]) (.block 0 (.loop XAi))) XG2)))
def fn93:VFn:=⟨24,XGR,[.tmp 2]⟩
def XQb:VC:=.seq (.reg [oD 6 (.mv (.const (.int .i64 0)))]) (.seq (.reg [oM 10 τ0,oM 11 τ1,oM 12 τ2,oD 13 (.callF 61 [Xdg,XcC,XdH]),oM 9 XdG,oE 14 0 τ9,oE 15 1 τ9,oM 7 Xd9,oM 8 XdR]) (.seq (.reg [oM 16 τ7,oD 17 (.conv .i64 Xed),oM 6 Xec]) .ret))
def fn62:VFn:=⟨18,XQb,[.tmp 6]⟩
def XyS:VC:=.seq (.seq (.reg [oM 34 τ9,oM 35 τ2,oD 36 (.bin .lss Xhq XhG)]) (.cond XhH .skip (.exit 0))) (.seq (.block 1 (.reg [oM 39 τ8,oD 40 (.bin .mul Xim (.const (.int .u64 256))),oM 41 τ0,oM 42 τ1,oM 43 τ9,oD 44 (.bin .add XiK XiV),oD 45 (.idxS XiD Xje),oD 46 (.conv .u64 Xjf),oD 47 (.bin .add Xjb Xji),oM 8 Xjc])) (.reg [oM 37 τ9,oD 38 (.bin .add Xg0 (.const (.int .i64 1))),oM 9 Xiu]))
def XFK:VC:=.seq (.reg [oM 48 τ8,oM 6 XjG,oD 7 (.mv (.const (.bool true)))]) .ret
def XGy:VC:=.seq (.reg [oD 6 (.mv (.const (.int .u64 0))),oD 7 (.mv (.const (.bool false)))]) (.seq (.seq (.reg [oM 10 τ2,oD 11 (.bin .lss Xdg (.const (.int .i64 1))),oM 12 XcC,oG 13 (.mv τ2) 12 false,oG 14 (.bin .gtr XdG (.const (.int .i64 8))) 12 false,oD 15 (.pick XdH (.const (.bool true)) Xd9),oM 16 XdR,oG 17 (.mv τ1) 16 false,oG 18 (.bin .lss Xec (.const (.int .i64 0))) 16 false,oD 19 (.pick Xed (.const (.bool true)) XeX),oM 20 Xe3,oG 21 (.mv τ1) 20 false,oG 22 (.mv τ0) 20 false,oG 23 (.lenS XfA) 20 false,oG 24 (.bin .gtr Xfm XfN) 20 false,oD 25 (.pick Xfw (.const (.bool true)) Xfl),oM 26 Xgp,oG 27 (.mv τ2) 26 false,oG 28 (.mv τ0) 26 false,oG 29 (.lenS Xgt) 26 false,oG 30 (.mv τ1) 26 false,oG 31 (.bin .sub Xgs XgH) 26 false,oG 32 (.bin .gtr Xgd XgA) 26 false,oD 33 (.pick Xf2 (.const (.bool true)) Xgz)]) (.cond Xhp (.seq (.reg [oD 6 (.mv (.const (.int .u64 0))),oD 7 (.mv (.const (.bool false)))]) .ret) .skip)) (.seq (.reg [oD 8 (.mv (.const (.int .u64 0)))]) (.seq (.seq (.reg [oD 9 (.mv (.const (.int .i64 0)))]) (.block 0 (.loop XyS))) XFK)))
def fn61:VFn:=⟨49,XGy,[.tmp 6,.tmp 7]⟩
def XxX:VC:=.seq (.seq (.reg [oM 5 τ4,oM 6 τ0,oD 7 (.lenL τ6),oD 8 (.bin .lss τ5 τ7)]) (.cond τ8 .skip (.exit 0))) (.seq (.block 1 (.reg [oM 11 τ3,oM 12 τ0,oM 13 τ4,oD 14 (.idxAL 1 XdH XdG),oD 15 (.load1 (.int .i64) Xd9),oD 16 (.bin .add XcC XdR),oM 3 Xed])) (.reg [oM 9 τ4,oD 10 (.bin .add τ9 (.const (.int .i64 1))),oM 4 Xdg]))
def Xxz:VC:=.seq (.seq (.reg [oM 17 τ3,oD 18 (.bin .gtr Xec (.const (.int .i64 65535)))]) (.cond XeX .skip (.exit 2))) (.block 3 (.reg [oM 19 τ3,oD 20 (.bin .rem Xe3 (.const (.int .i64 65536))),oM 21 τ3,oD 22 (.bin .quo Xfm (.const (.int .i64 65536))),oD 23 (.bin .add Xfw XfA),oM 3 XfN]))
def XG0:VC:=.seq (.reg [oM 24 τ3,oM 2 Xfl]) .ret
def XHk:VC:=.seq (.block 2 (.loop Xxz)) XG0
def XHA:VC:=.seq (.reg [oD 2 (.mv (.const (.int .i64 0)))]) (.seq (.reg [oD 3 (.mv (.const (.int .i64 0)))]) (.seq (.seq (.reg [oD 4 (.mv (.const (.int .i64 0)))]) (.block 0 (.loop XxX))) XHk))
def fn92:VFn:=⟨25,XHA,[.tmp 2]⟩
def k25_5:VC:=.seq (.reg [oD 2 (.alloc [(.int .i64 0),(.bool false),(.int .u64 0),(.int .u64 0),(.bool false),(.int .u64 0),(.int .u64 0),(.int .i64 0),(.int .i64 0),(.int .i64 0),(.bool false),(.int .u32 0),(.int .u32 0),(.bool false),(.string ⟨⟨[]⟩⟩),(.int .i64 0)]),oD 3 (.mv (.const (.int .i64 0)))]) (.seq (.reg [oM 9 τ0,oD 10 (.callF 49 [τ9]),oM 8 Xdg,oE 11 0 τ8,oE 12 1 τ8,oE 13 2 τ8,oE 14 3 τ8,oD 4 (.alloc [(.int .i64 0),(.bool false),(.int .u64 0),(.int .u64 0),(.bool false),(.int .u64 0),(.int .u64 0),(.int .i64 0),(.int .i64 0),(.int .i64 0),(.bool false),(.int .u32 0),(.int .u32 0),(.bool false),(.string ⟨⟨[]⟩⟩),(.int .i64 0)]),oN (.store 16 τ4 XcC),oM 5 XdH,oM 6 XdG,oM 7 Xd9]) (.seq (.reg [oD 15 (.loadN [(.int .i64),.bool,(.int .u64),(.int .u64),.bool,(.int .u64),(.int .u64),(.int .i64),(.int .i64),(.int .i64),.bool,(.int .u32),(.int .u32),.bool,.str,(.int .i64)] τ4),oM 16 τ7,oN (.store 16 τ2 XdR),oM 3 Xed]) .ret))
def fn25:VFn:=⟨17,k25_5,[.cell 2 [(.int .i64),.bool,(.int .u64),(.int .u64),.bool,(.int .u64),(.int .u64),(.int .i64),(.int .i64),(.int .i64),.bool,(.int .u32),(.int .u32),.bool,.str,(.int .i64)] true,.tmp 3]⟩
theorem XOB:(Tryz.prog.funcs[3]?).bind (XaG Tryz.prog)=some fn3:=by kernel_rfl
theorem XQS:(Tryz.prog.funcs[6]?).bind (XaG Tryz.prog)=some fn6:=by kernel_rfl
theorem XS9:(Tryz.prog.funcs[7]?).bind (XaG Tryz.prog)=some fn7:=by kernel_rfl
theorem XOb:(Tryz.prog.funcs[8]?).bind (XaG Tryz.prog)=some fn8:=by kernel_rfl
theorem XLG:(Tryz.prog.funcs[10]?).bind (XaG Tryz.prog)=some fn10:=by kernel_rfl
theorem XMe:(Tryz.prog.funcs[28]?).bind (XaG Tryz.prog)=some fn28:=by kernel_rfl
theorem XL9:(Tryz.prog.funcs[29]?).bind (XaG Tryz.prog)=some fn29:=by kernel_rfl
theorem XLP:(Tryz.prog.funcs[50]?).bind (XaG Tryz.prog)=some fn50:=by kernel_rfl
theorem XJ0:(Tryz.prog.funcs[85]?).bind (XaG Tryz.prog)=some fn85:=by kernel_rfl
theorem XD7:(Tryz.prog.funcs[113]?).bind (XaG Tryz.prog)=some XQZ:=by kernel_rfl
theorem XLq:(Tryz.prog.funcs[51]?).bind (XaG Tryz.prog)=some fn51:=by kernel_rfl
theorem XMK:(Tryz.prog.funcs[52]?).bind (XaG Tryz.prog)=some fn52:=by kernel_rfl
theorem XJW:(Tryz.prog.funcs[86]?).bind (XaG Tryz.prog)=some fn86:=by kernel_rfl
theorem XKE:(Tryz.prog.funcs[95]?).bind (XaG Tryz.prog)=some fn95:=by kernel_rfl
theorem XKJ:(Tryz.prog.funcs[69]?).bind (XaG Tryz.prog)=some fn69:=by kernel_rfl
theorem XHY:(Tryz.prog.funcs[53]?).bind (XaG Tryz.prog)=some fn53:=by kernel_rfl
theorem XJk:(Tryz.prog.funcs[54]?).bind (XaG Tryz.prog)=some fn54:=by kernel_rfl
theorem XJ3:(Tryz.prog.funcs[87]?).bind (XaG Tryz.prog)=some fn87:=by kernel_rfl
theorem XCK:(Tryz.prog.funcs[114]?).bind (XaG Tryz.prog)=some XT0:=by kernel_rfl
theorem XDB:(Tryz.prog.funcs[128]?).bind (XaG Tryz.prog)=some XQI:=by kernel_rfl
theorem XBE:(Tryz.prog.funcs[115]?).bind (XaG Tryz.prog)=some XRP:=by kernel_rfl
theorem XLo:(Tryz.prog.funcs[30]?).bind (XaG Tryz.prog)=some fn30:=by kernel_rfl
theorem XLH:(Tryz.prog.funcs[55]?).bind (XaG Tryz.prog)=some fn55:=by kernel_rfl
theorem XKz:(Tryz.prog.funcs[88]?).bind (XaG Tryz.prog)=some fn88:=by kernel_rfl
theorem XDx:(Tryz.prog.funcs[116]?).bind (XaG Tryz.prog)=some XQe:=by kernel_rfl
theorem XEl:(Tryz.prog.funcs[129]?).bind (XaG Tryz.prog)=some XQN:=by kernel_rfl
theorem XE1:(Tryz.prog.funcs[135]?).bind (XaG Tryz.prog)=some XP8:=by kernel_rfl
theorem XDu:(Tryz.prog.funcs[136]?).bind (XaG Tryz.prog)=some XSa:=by kernel_rfl
theorem XCS:(Tryz.prog.funcs[130]?).bind (XaG Tryz.prog)=some XPr:=by kernel_rfl
theorem XMZ:(Tryz.prog.funcs[89]?).bind (XaG Tryz.prog)=some fn89:=by kernel_rfl
theorem XC8:(Tryz.prog.funcs[117]?).bind (XaG Tryz.prog)=some XNg:=by kernel_rfl
theorem XFa:(Tryz.prog.funcs[131]?).bind (XaG Tryz.prog)=some XPq:=by kernel_rfl
theorem XB6:(Tryz.prog.funcs[137]?).bind (XaG Tryz.prog)=some XNP:=by kernel_rfl
theorem XE7:(Tryz.prog.funcs[138]?).bind (XaG Tryz.prog)=some XUe:=by kernel_rfl
theorem XHI:(Tryz.prog.funcs[71]?).bind (XaG Tryz.prog)=some fn71:=by kernel_rfl
theorem XDz:(Tryz.prog.funcs[139]?).bind (XaG Tryz.prog)=some XTj:=by kernel_rfl
theorem XBn:(Tryz.prog.funcs[140]?).bind (XaG Tryz.prog)=some XOE:=by kernel_rfl
theorem XEA:(Tryz.prog.funcs[142]?).bind (XaG Tryz.prog)=some XRw:=by kernel_rfl
theorem XEy:(Tryz.prog.funcs[141]?).bind (XaG Tryz.prog)=some XR9:=by kernel_rfl
theorem XBz:(Tryz.prog.funcs[132]?).bind (XaG Tryz.prog)=some XSd:=by kernel_rfl
theorem XFd:(Tryz.prog.funcs[119]?).bind (XaG Tryz.prog)=some XSs:=by kernel_rfl
theorem XDE:(Tryz.prog.funcs[120]?).bind (XaG Tryz.prog)=some XOw:=by kernel_rfl
theorem XEp:(Tryz.prog.funcs[133]?).bind (XaG Tryz.prog)=some XSr:=by kernel_rfl
theorem XI1:(Tryz.prog.funcs[91]?).bind (XaG Tryz.prog)=some fn91:=by kernel_rfl
theorem XL8:(Tryz.prog.funcs[90]?).bind (XaG Tryz.prog)=some fn90:=by kernel_rfl
theorem XEL:(Tryz.prog.funcs[118]?).bind (XaG Tryz.prog)=some XQD:=by kernel_rfl
theorem XMr:(Tryz.prog.funcs[68]?).bind (XaG Tryz.prog)=some fn68:=by kernel_rfl
theorem XJD:(Tryz.prog.funcs[96]?).bind (XaG Tryz.prog)=some fn96:=by kernel_rfl
theorem XKw:(Tryz.prog.funcs[97]?).bind (XaG Tryz.prog)=some fn97:=by kernel_rfl
theorem XIZ:(Tryz.prog.funcs[98]?).bind (XaG Tryz.prog)=some fn98:=by kernel_rfl
theorem XJo:(Tryz.prog.funcs[31]?).bind (XaG Tryz.prog)=some fn31:=by kernel_rfl
theorem XLd:(Tryz.prog.funcs[32]?).bind (XaG Tryz.prog)=some fn32:=by kernel_rfl
theorem XIM:(Tryz.prog.funcs[57]?).bind (XaG Tryz.prog)=some fn57:=by kernel_rfl
theorem XHN:(Tryz.prog.funcs[59]?).bind (XaG Tryz.prog)=some fn59:=by kernel_rfl
theorem XIf:(Tryz.prog.funcs[58]?).bind (XaG Tryz.prog)=some fn58:=by kernel_rfl
theorem XMV:(Tryz.prog.funcs[56]?).bind (XaG Tryz.prog)=some fn56:=by kernel_rfl
theorem XMs:(Tryz.prog.funcs[67]?).bind (XaG Tryz.prog)=some fn67:=by kernel_rfl
theorem XKF:(Tryz.prog.funcs[70]?).bind (XaG Tryz.prog)=some fn70:=by kernel_rfl
theorem XBr:(Tryz.prog.funcs[100]?).bind (XaG Tryz.prog)=some XS4:=by kernel_rfl
theorem XII:(Tryz.prog.funcs[99]?).bind (XaG Tryz.prog)=some fn99:=by kernel_rfl
theorem XFh:(Tryz.prog.funcs[122]?).bind (XaG Tryz.prog)=some XP2:=by kernel_rfl
theorem XDr:(Tryz.prog.funcs[134]?).bind (XaG Tryz.prog)=some XSF:=by kernel_rfl
theorem XMn:(Tryz.prog.funcs[72]?).bind (XaG Tryz.prog)=some fn72:=by kernel_rfl
theorem XK2:(Tryz.prog.funcs[12]?).bind (XaG Tryz.prog)=some fn12:=by kernel_rfl
theorem XMN:(Tryz.prog.funcs[36]?).bind (XaG Tryz.prog)=some fn36:=by kernel_rfl
theorem XJF:(Tryz.prog.funcs[17]?).bind (XaG Tryz.prog)=some fn17:=by kernel_rfl
theorem XIs:(Tryz.prog.funcs[37]?).bind (XaG Tryz.prog)=some fn37:=by kernel_rfl
theorem XKe:(Tryz.prog.funcs[65]?).bind (XaG Tryz.prog)=some fn65:=by kernel_rfl
theorem XIH:(Tryz.prog.funcs[66]?).bind (XaG Tryz.prog)=some fn66:=by kernel_rfl
theorem XIR:(Tryz.prog.funcs[38]?).bind (XaG Tryz.prog)=some fn38:=by kernel_rfl
theorem XMj:(Tryz.prog.funcs[16]?).bind (XaG Tryz.prog)=some fn16:=by kernel_rfl
theorem XI0:(Tryz.prog.funcs[14]?).bind (XaG Tryz.prog)=some fn14:=by kernel_rfl
theorem XLn:(Tryz.prog.funcs[19]?).bind (XaG Tryz.prog)=some fn19:=by kernel_rfl
theorem XPC:(Tryz.prog.funcs[9]?).bind (XaG Tryz.prog)=some fn9:=by kernel_rfl
theorem XIk:(Tryz.prog.funcs[11]?).bind (XaG Tryz.prog)=some fn11:=by kernel_rfl
theorem XJq:(Tryz.prog.funcs[33]?).bind (XaG Tryz.prog)=some fn33:=by kernel_rfl
theorem XLK:(Tryz.prog.funcs[60]?).bind (XaG Tryz.prog)=some fn60:=by kernel_rfl
theorem XLy:(Tryz.prog.funcs[93]?).bind (XaG Tryz.prog)=some fn93:=by kernel_rfl
theorem XKD:(Tryz.prog.funcs[62]?).bind (XaG Tryz.prog)=some fn62:=by kernel_rfl
theorem XLN:(Tryz.prog.funcs[61]?).bind (XaG Tryz.prog)=some fn61:=by kernel_rfl
theorem XI6:(Tryz.prog.funcs[92]?).bind (XaG Tryz.prog)=some fn92:=by kernel_rfl
theorem XJA:(Tryz.prog.funcs[25]?).bind (XaG Tryz.prog)=some fn25:=by kernel_rfl
end Go.Vm.Code
