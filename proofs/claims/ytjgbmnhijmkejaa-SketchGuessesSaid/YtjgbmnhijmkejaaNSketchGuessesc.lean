import Derived.Test.YtjgbmnhijmkejaaNSketchGuessesb
namespace Go.Vm
open Go Go.RowKit
def req (b:Bool) (p:Prop):Prop:=match b with|true=>p|false=>False
theorem req.intro {b:Bool} {p:Prop} (h:b=true) (k:p):req b p:=by subst h;exact k
theorem req.elim {b:Bool} {p:Prop} (h:req b p):b=true∧p:=by cases b;exact h.elim;exact ⟨rfl,h⟩
def br (b:Bool) (p q:Prop):Prop:=match b with|true=>p|false=>q
theorem br.intro {b:Bool} {p q:Prop} (h:b=true→p) (k:b=false→q):br b p q:=by cases b;exact k rfl;exact h rfl
theorem br.pos {b:Bool} {p q:Prop} (e:b=true) (h:p):br b p q:=by subst e;exact h
theorem br.neg {b:Bool} {p q:Prop} (e:b=false) (h:q):br b p q:=by subst e;exact h
def Xii (v:Value) (K:Value→Prop):Prop:=
 match v with
 | .bool b=>K (.bool b)
 | .int k n=>K (.int k n)
 | .float k n=>K (.float k n)
 | .string s=>K (.string s)
 | .pointer none=>K (.pointer none)
 | .pointer (some a)=>K (.pointer (some a))
 | .slice none n c=>K (.slice none n c)
 | .slice (some a) n c=>K (.slice (some a) n c)
 | .func f a b=>K (.func f a b)
 | .nilFunc=>K .nilFunc
 | .nilIface=>K .nilIface
 | .iface t v=>K (.iface t v)
 | .agg a=>K (.agg a)
 | .tuple a=>K (.tuple a)
 | .map none=>K (.map none)
 | .map (some b)=>K (.map (some b))
 | v=>K v
theorem XhN (v:Value) (K:Value→Prop):Xii v K=K v:=by
 unfold Xii;split<;>rfl
def Xmj (l:List Value) (K:List Value→Prop):Prop:=
 match l with
 | []=>K []
 | v::l=>Xmj l (fun l'=>K (v::l'))
theorem XjH:∀ (l:List Value) (K:List Value→Prop),Xmj l K=K l
 | [],_=>rfl
 | v::l,K=>by rw [Xmj,XjH l]
def XsX {α:Type} (l:List (Nat×α)) (j:Nat) (K:List (Nat×α)→Prop):Prop:=
 match l with
 | []=>K []
 | (i,x)::l=>cond (Nat.beq i j) (XsX l j K) (XsX l j (fun l'=>K ((i,x)::l')))
theorem Xme {α:Type}:∀ (l:List (Nat×α)) (j:Nat) (K:List (Nat×α)→Prop),XsX l j K=K (XnD l j)
 | [],_,_=>rfl
 | (i,x)::l,j,K=>by
   simp only [XsX,Xn6]
   cases Nat.beq i j
   ·simp only [cond_false];rw [Xme l]
   ·simp only [cond_true];rw [Xme l]
def XpM {α:Type} (l:List (Nat×α)) (i:Nat) (x:α) (K:List (Nat×α)→Prop):Prop:=XsX l i (fun l'=>K ((i,x)::l'))
theorem Xjj {α:Type} (l:List (Nat×α)) (i:Nat) (x:α) (K:List (Nat×α)→Prop):XpM l i x K=K (XhF l i x):=Xme _ _ _
def rd (cs:List Value) (o:Nat) (K:Value→Prop):Prop:=match cs[o]? with|some v=>Xii v K|none=>False
theorem rd.intro {cs:List Value} {o:Nat} {K:Value→Prop} {v:Value} (h:cs[o]?=some v) (k:Xii v K):rd cs o K:=by unfold rd;rw [h];exact k
theorem rd.elim {cs:List Value} {o:Nat} {K:Value→Prop} (h:rd cs o K):∃ v,cs[o]?=some v∧K v:=by
 unfold rd at h
 split at h
 ·rename_i v hv;rw [XhN] at h;exact ⟨v,hv,h⟩
 ·exact h.elim
def rdN (cs:List Value) (o:Nat) (n:Nat) (K:List Value→Prop):Prop:=
 match n with
 | 0=>K []
 | n+1=>rd cs o fun v=>rdN cs (o+1) n fun l=>K (v::l)
theorem rdN.elim:∀ {n:Nat} {cs:List Value} {o:Nat} {K:List Value→Prop},rdN cs o n K→(o+n≤cs.length∨n=0)∧K ((cs.drop o).take n)
 | 0,cs,o,K,h=>⟨.inr rfl,by simpa [rdN] using h⟩
 | n+1,cs,o,K,h=>by
   obtain ⟨v,hv,h2⟩:=rd.elim h
   obtain ⟨h3,h4⟩:=rdN.elim h2
   have hlt:o<cs.length:=by
    rcases Nat.lt_or_ge o cs.length with h|h
    ·exact h
    ·rw [List.getElem?_eq_none h] at hv;cases hv
   refine ⟨.inl (by omega),?_⟩
   have:(cs.drop o).take (n+1)=v::(cs.drop (o+1)).take n:=by
    rw [List.drop_eq_getElem_cons hlt,List.take_succ_cons]
    rw [List.getElem?_eq_getElem hlt,Option.some.injEq] at hv
    rw [hv]
   rw [this];exact h4
abbrev CK:=Option Value→List (Option Xbj)→Option Xbj→Prop
def XDa (r:Option Xdn) (K:CK):Prop:=
 match r with
 | some ⟨some v,os,fr⟩=>Xii v fun v=>K (some v) os fr
 | some ⟨none,os,fr⟩=>K none os fr
 | none=>False
def Good (r:Option Xdn) (K:CK):Prop:=∃ v os fr,r=some ⟨v,os,fr⟩∧K v os fr
theorem XDa.good {r:Option Xdn} {K:CK} (h:XDa r K):Good r K:=by
 unfold XDa at h
 split at h
 ·rw [XhN] at h;exact ⟨_,_,_,rfl,h⟩
 ·exact ⟨_,_,_,rfl,h⟩
 ·exact h.elim
def valK (v:Value) (K:CK):Prop:=Xii v fun v=>K (some v) [] none
def Xr5:List (Nat×Nat×Value)→List Value→(List Value→Prop)→Prop
 | [],cs,K=>K cs
 | (off,size,v)::rest,cs,K=>cond (Nat.beq (Xa2 v).length size&&Nat.ble (off+size) cs.length) (Xmj (setAt cs off (Xa2 v)) fun cs'=>Xr5 rest cs' K) False
theorem Xr5.elim:∀ {l:List (Nat×Nat×Value)} {cs:List Value} {K:List Value→Prop},Xr5 l cs K→∃ cs',XnS cs l=some cs'∧K cs'
 | [],cs,K,h=>⟨cs,rfl,h⟩
 | (off,size,v)::rest,cs,K,h=>by
   rw [Xr5] at h
   cases hb:(Nat.beq (Xa2 v).length size&&Nat.ble (off+size) cs.length)
   ·rw [hb] at h;exact h.elim
   ·rw [hb,cond_true,XjH] at h
    obtain ⟨cs',h1,h2⟩:=Xr5.elim h
    rw [Bool.and_eq_true] at hb
    exact ⟨cs',by rw [XnS,if_pos ⟨Nat.eq_of_beq_eq_true hb.1,Nat.le_of_ble_eq_true hb.2⟩,h1],h2⟩
def Xs4 (z:List Value) (ps:List (Nat×Nat×Operand)) (vals:List Value) (objs:List Xbj) (K:CK):Prop:=
 match objs with
 | []=>cond (Nat.beq vals.length ps.length) (Xr5 (XDU ps vals) z fun cs=>K (some (.agg ⟨cs⟩)) [] none) False
 | _=>False
def XnN (len sz:Nat) (z:List Value) (ps:List (Nat×Nat×Operand)) (vals:List Value) (objs:List Xbj) (top:Nat) (K:CK):Prop:=
 match objs with
 | []=>cond (Nat.beq vals.length ps.length) (Xr5 (XDU ps vals) z fun cs=>K (some (.slice (some ⟨top,0,none⟩) len sz)) [] (some (.row true cs))) False
 | _=>False
theorem XqT {z:List Value} {ps:List (Nat×Nat×Operand)} {vals:List Value} {objs:List Xbj} {K:CK} (h:Xs4 z ps vals objs K):Good (Xkf z ps vals objs) K:=by
 unfold Xs4 at h
 split at h
 ·cases hb:Nat.beq vals.length ps.length
  ·rw [hb] at h;exact h.elim
  ·rw [hb,cond_true] at h
   obtain ⟨cs,h1,h2⟩:=h.elim
   exact ⟨_,_,_,by simp only [Xkf,if_pos (Nat.eq_of_beq_eq_true hb),h1];rfl,h2⟩
 ·exact h.elim
theorem XoD {len sz:Nat} {z:List Value} {ps:List (Nat×Nat×Operand)} {vals:List Value} {objs:List Xbj} {top:Nat} {K:CK} (h:XnN len sz z ps vals objs top K):Good (XkJ len sz z ps vals objs top) K:=by
 unfold XnN at h
 split at h
 ·cases hb:Nat.beq vals.length ps.length
  ·rw [hb] at h;exact h.elim
  ·rw [hb,cond_true] at h
   obtain ⟨cs,h1,h2⟩:=h.elim
   exact ⟨_,_,_,by simp only [XkJ,if_pos (Nat.eq_of_beq_eq_true hb),h1],h2⟩
 ·exact h.elim
def Xyx (vals:List Value) (objs:List Xbj) (K:CK):Prop:=
 match vals,objs with
 | [.bool c,a,b],[]=>br c (valK a K) (valK b K)
 | _,_=>False
def XrW (vals:List Value) (objs:List Xbj) (K:CK):Prop:=
 match vals,objs with
 | [.pointer (some ⟨_,o,none⟩)],[.cells cs]=>rd cs o fun v=>K (some v) [some (.cells cs)] none
 | [.pointer (some ⟨_,o,none⟩)],[.row w cs]=>rd cs o fun v=>K (some v) [some (.row w cs)] none
 | [.pointer (some ⟨_,o,none⟩)],[.ty t cs]=>rd cs o fun v=>K (some v) [some (.ty t cs)] none
 | _,_=>False
def XsA (n:Nat) (vals:List Value) (objs:List Xbj) (K:CK):Prop:=
 match vals,objs with
 | [.pointer (some ⟨_,o,none⟩)],[.cells cs]=>req (decide (o+n≤cs.length)) (rdN cs o n fun l=>K (some (.agg ⟨l⟩)) [some (.cells cs)] none)
 | [.pointer (some ⟨_,o,none⟩)],[.row w cs]=>req (decide (o+n≤cs.length)) (rdN cs o n fun l=>K (some (.agg ⟨l⟩)) [some (.row w cs)] none)
 | [.pointer (some ⟨_,o,none⟩)],[.ty t cs]=>req (decide (o+n≤cs.length)) (rdN cs o n fun l=>K (some (.agg ⟨l⟩)) [some (.ty t cs)] none)
 | _,_=>False
def XrD (n:Nat) (vals:List Value) (objs:List Xbj) (K:CK):Prop:=
 match vals,objs with
 | [.pointer (some ⟨_,o,none⟩),v],[.cells cs]=>req (decide ((Xa2 v).length=n∧o+n≤cs.length)&&(Xa2 v).all Xjf) (Xmj (setAt cs o (Xa2 v)) fun cs'=>K none [some (.cells cs')] none)
 | [.pointer (some ⟨_,o,none⟩),v],[.ty t cs]=>req (decide ((Xa2 v).length=n∧o+n≤cs.length)&&(Xa2 v).all Xjf) (Xmj (setAt cs o (Xa2 v)) fun cs'=>K none [some (.ty t cs')] none)
 | [.pointer (some ⟨_,o,none⟩),v],[.row true cs]=>req (decide ((Xa2 v).length=n∧o+n≤cs.length)&&(Xa2 v).all Xjf) (∃ cs',setAt cs o (Xa2 v)=cs'∧K none [some (.row true cs')] none)
 | _,_=>False
def binK (op:BinOp) (x y:Value) (K:CK):Prop:=
 match x,y with
 | .int k a,.int k' b=>match op with
   | .shl=>req (decide (0≤b)) (K (some (.int k (k.wrap (a*2^(min b.toNat k.bits))))) [] none)
   | .shr=>req (decide (0≤b)) (K (some (.int k (a.fdiv (2^(min b.toNat k.bits))))) [] none)
   | .quo=>req (decide (k=k')&&!(decide (b=0))) (K (some (.int k (k.wrap (a.tdiv b)))) [] none)
   | .rem=>req (decide (k=k')&&!(decide (b=0))) (K (some (.int k (a.tmod b))) [] none)
   | op=>XDa (match Xvw op (.int k a) (.int k' b) with|some v=>val v|none=>none) K
 | .string a,.string b=>match op with
   | .add=>req (decide (a.data.toList.length+b.data.toList.length<2^63)) (K (some (.string ⟨⟨a.data.toList++b.data.toList⟩⟩)) [] none)
   | op=>XDa (match Xvw op (.string a) (.string b) with|some v=>val v|none=>none) K
 | _,_=>False
def XEN (op:BinOp) (vals:List Value) (objs:List Xbj) (K:CK):Prop:=
 match vals,objs with
 | [x,y],[]=>binK op x y K
 | _,_=>False
def Xr0 (k:Nat) (neg:Bool) (vals:List Value) (objs:List Xbj) (K:CK):Prop:=
 match k,vals,objs with
 | 1,[.slice (some _) n _],[]=>req (Nat.blt 0 n) (K (some (.bool neg)) [] none)
 | k,vals,objs=>XDa (XlJ k neg vals objs) K
def XEO (vals:List Value) (objs:List Xbj) (K:CK):Prop:=
 match vals,objs with
 | [.slice none 0 _],[]=>K (some (.string ⟨⟨[]⟩⟩)) [] none
 | [.slice (some ⟨_,o,none⟩) n 1],[ob]=>match ob.cs with
    | some cs=>req (decide (o+n≤cs.length)) (∃ bs,Xj6 ((cs.drop o).take n)=some bs∧K (some (.string ⟨⟨bs⟩⟩)) [some ob] none)
    | none=>False
 | _,_=>False
def XEC (vals:List Value) (objs:List Xbj) (top:Nat) (K:CK):Prop:=
 match vals,objs with
 | [.string s],[]=>∃ cs',ofBytes s.data.toList=cs'∧K (some (.slice (some ⟨top,0,none⟩) s.data.toList.length 1)) [] (some (.row true cs'))
 | _,_=>False
def XyF (sz bytes:Nat) (z:List Value) (vals:List Value) (objs:List Xbj) (top:Nat) (K:CK):Prop:=
 match vals,objs with
 | [.int _ l,.int _ c],[]=>req (decide (0≤l∧l≤c∧c<2^63∧(bytes:Int)*c≤2^48))
    (∃ cs',(List.replicate c.toNat z).flatten=cs'∧K (some (.slice (some ⟨top,0,none⟩) l.toNat sz)) [] (some (.row true cs')))
 | _,_=>False
def Xoe (n:Nat) (hasLo hasHi:Bool) (bs:List Value) (K:Nat→Nat→Prop):Prop:=
 match hasLo,hasHi,bs with
 | false,false,[]=>K 0 n
 | true,false,[.int _ l]=>req (decide (0≤l∧l≤n)) (K l.toNat n)
 | false,true,[.int _ h]=>req (decide (0≤h∧h≤n)) (K 0 h.toNat)
 | true,true,[.int _ l,.int _ h]=>req (decide (0≤h∧h≤n∧0≤l∧l≤h.toNat)) (K l.toNat h.toNat)
 | _,_,_=>False
theorem Xoe.elim {n:Nat} {hl hh:Bool} {bs:List Value} {K:Nat→Nat→Prop} (h:Xoe n hl hh bs K):∃ l u,XAb n hl hh bs=some (l,u)∧K l u:=by
 unfold Xoe at h
 split at h
 ·exact ⟨_,_,rfl,h⟩
 ·obtain ⟨h1,h2⟩:=h.elim;exact ⟨_,_,by simp only [XAb];rw [if_pos (of_decide_eq_true h1)],h2⟩
 ·obtain ⟨h1,h2⟩:=h.elim;exact ⟨_,_,by simp only [XAb];rw [if_pos (of_decide_eq_true h1)],h2⟩
 ·obtain ⟨h1,h2⟩:=h.elim;exact ⟨_,_,by simp only [XAb];rw [if_pos (of_decide_eq_true h1)],h2⟩
 ·exact h.elim
def Xp6 (bl bh:Bool) (vals:List Value) (objs:List Xbj) (K:CK):Prop:=
 match vals,objs with
 | .string s::bs,[]=>Xoe s.data.toList.length bl bh bs fun l h=>K (some (.string ⟨⟨(s.data.toList.drop l).take (h - l)⟩⟩)) [] none
 | _,_=>False
def XpU (sz:Nat) (bl bh:Bool) (vals:List Value) (objs:List Xbj) (K:CK):Prop:=
 match vals,objs with
 | .slice none 0 c::bs,[]=>Xoe 0 bl bh bs fun _ _=>K (some (.slice none 0 c)) [] none
 | .slice (some ⟨b,o,none⟩) n sz'::bs,[]=>req (Nat.beq sz sz') (Xoe n bl bh bs fun l h=>K (some (.slice (some ⟨b,o+l*sz,none⟩) (h - l) sz)) [] none)
 | _,_=>False
def Xpo (n sz:Nat) (bl bh:Bool) (vals:List Value) (objs:List Xbj) (K:CK):Prop:=
 match vals,objs with
 | .pointer (some ⟨b,o,none⟩)::bs,[ob]=>match ob.cs with
   | some cs=>req (decide (o+n*sz≤cs.length)) (Xoe n bl bh bs fun l h=>K (some (.slice (some ⟨b,o+l*sz,none⟩) (h - l) sz)) [some ob] none)
   | none=>False
 | _,_=>False
def XrS (n sz:Nat) (vals:List Value) (objs:List Xbj) (K:CK):Prop:=
 match vals,objs with
 | [.pointer (some ⟨b,o,none⟩),.int _ i],[]=>req (decide (0≤i∧i<n)) (K (some (.pointer (some ⟨b,o+i.toNat*sz,none⟩))) [] none)
 | _,_=>False
def XrA (sz:Nat) (vals:List Value) (objs:List Xbj) (K:CK):Prop:=
 match vals,objs with
 | [.slice (some ⟨b,o,none⟩) n _,.int _ i],[]=>req (decide (0≤i∧i<n)) (K (some (.pointer (some ⟨b,o+i.toNat*sz,none⟩))) [] none)
 | _,_=>False
def Xtk (n:Nat) (vals:List Value) (objs:List Xbj) (K:CK):Prop:=
 match vals,objs with
 | [.agg ⟨cs⟩,.int _ i],[]=>req (decide (0≤i∧i<n)) (rd cs i.toNat fun v=>K (some v) [] none)
 | _,_=>False
def XrK (n sz:Nat) (vals:List Value) (objs:List Xbj) (K:CK):Prop:=
 match vals,objs with
 | [.agg ⟨cs⟩,.int _ i],[]=>req (decide (0≤i∧i<n∧i.toNat*sz+sz≤cs.length)) (rdN cs (i.toNat*sz) sz fun l=>K (some (.agg ⟨l⟩)) [] none)
 | _,_=>False
def rdS (s:List UInt8) (i:Nat) (K:UInt8→Prop):Prop:=match s[i]? with|some b=>K b|none=>False
theorem rdS.intro {s:List UInt8} {i:Nat} {K:UInt8→Prop} {b:UInt8} (h:s[i]?=some b) (k:K b):rdS s i K:=by unfold rdS;rw [h];exact k
theorem rdS.elim {s:List UInt8} {i:Nat} {K:UInt8→Prop} (h:rdS s i K):∃ b,s[i]?=some b∧K b:=by
 unfold rdS at h;split at h
 ·exact ⟨_,by assumption,h⟩
 ·exact h.elim
def XxN (vals:List Value) (objs:List Xbj) (K:CK):Prop:=
 match vals,objs with
 | [.string s,.int _ i],[]=>req (decide (0≤i)) (rdS s.data.toList i.toNat fun b=>K (some (.int .u8 b.toNat)) [] none)
 | _,_=>False
def XFN (vals:List Value) (objs:List Xbj) (K:CK):Prop:=
 match vals,objs with
 | [.string s,.int .u8 c],[]=>K (some (.int .i64 (ixB s.data.toList c))) [] none
 | _,_=>False
def Xz3 (sz:Nat) (y:Value) (objs:List Xbj) (K:List Value→Nat→Prop):Prop:=
 match y,objs with
 | .string s,_=>K (ofBytes s.data.toList) s.data.toList.length
 | .slice none 0 _,_=>K [] 0
 | .slice (some a) n _,[o]=>match o.cs with
   | some cs=>req (decide (a.off+n*sz≤cs.length)) (K ((cs.drop a.off).take (n*sz)) n)
   | none=>False
 | _,_=>False
theorem Xz3.elim {sz:Nat} {y:Value} {objs:List Xbj} {K:List Value→Nat→Prop} (h:Xz3 sz y objs K):∃ c n,Xjq sz y objs=some c∧Xmu y=some n∧K c n:=by
 unfold Xz3 at h
 split at h
 ·exact ⟨_,_,rfl,rfl,h⟩
 ·exact ⟨_,_,rfl,rfl,h⟩
 ·split at h
  ·rename_i cs hcs
   obtain ⟨h1,h2⟩:=h.elim
   exact ⟨_,_,by simp only [Xjq,hcs];rw [if_pos (of_decide_eq_true h1)],rfl,h2⟩
  ·exact h.elim
 ·exact h.elim
def XEd (t sz bytes:Nat) (vals:List Value) (objs:List Xbj) (top:Nat) (K:CK):Prop:=
 match vals,objs with
 | [.slice none 0 _,y],objs=>Xz3 sz y objs fun new m=>req (decide (m*bytes≤2^47∧new.length=m*sz)) (∃ cs' n',new=cs'∧m=n'∧K (some (.slice (some ⟨top,0,none⟩) n' sz)) (objs.map some) (some (.row true cs')))
 | [.slice (some ⟨b,o,none⟩) n sz',y],.row true cs::objs=>Xz3 sz y objs fun new m=>
    req (decide ((n+m)*bytes≤2^47∧o+n*sz≤cs.length∧sz=sz'∧new.length=m*sz)&&new.all Xjf&&(Xgw y).all (fun c=>!Nat.beq b c))
     (∃ cs' n',(cs.drop o).take (n*sz)++new=cs'∧n+m=n'∧K (some (.slice (some ⟨top,0,none⟩) n' sz)) (none::objs.map some) (some (.row true cs')))
 | [.func (.method _) ⟨[.slice none 0 e]⟩ ⟨[]⟩, y], objs => Xz3 sz y objs fun new m => req (decide (m * bytes ≤ 2 ^ 47 ∧ new.length = m * sz ∧ sz = 1 ∧ e = t)) (∃ cs' n', new = cs' ∧ m = n' ∧ K (some (.func (.method "") ⟨[.slice (some ⟨top, 0, none⟩) n' 1]⟩ ⟨[]⟩)) (objs.map some) (some (.ty t cs')))
 | [.func (.method _) ⟨[.slice (some ⟨b,0,none⟩) n 1]⟩ ⟨[]⟩,y],.ty e cs::objs=>Xz3 sz y objs fun new m=>
    req (decide ((n+m)*bytes≤2^47∧n≤cs.length∧sz=1∧e=t∧new.length=m)&&new.all Xjf&&(Xgw y).all (fun c=>!Nat.beq b c))
     (∃ cs' n', cs.take n ++ new = cs' ∧ n + m = n' ∧ K (some (.func (.method "") ⟨[.slice (some ⟨top, 0, none⟩) n' 1]⟩ ⟨[]⟩)) (none :: objs.map some) (some (.ty t cs')))
 | _,_=>False
def XwM (t:Nat) (vals:List Value) (objs:List Xbj) (K:CK):Prop:=
 match vals,objs with
 | [.pointer none,.int .i64 0],[]=>K (some (.string ⟨⟨[]⟩⟩)) [] none
 | [.func (.method _) ⟨[.slice (some ⟨_,0,none⟩) n 1]⟩ ⟨[.bool true]⟩,.int .i64 m],[.ty e cs]=>req (decide (e=t∧m=n∧n≤cs.length∧n<2^63))
    (∃ bs,Xj6 (cs.take n)=some bs∧K (some (.string ⟨⟨bs⟩⟩)) [some (.row false cs)] none)
 | _,_=>False
def XEn (sz:Nat) (vals:List Value) (objs:List Xbj) (K:CK):Prop:=
 match vals,objs with
 | [.slice none 0 _],[]=>K (some (.tuple ⟨[]⟩)) [] none
 | [.slice (some ⟨_,o,none⟩) n sz'],[.row true cs]=>req (decide (sz=sz'∧o+n*sz=cs.length)) (∃ cs',cs.take o=cs'∧K (some (.tuple ⟨[]⟩)) [some (.row true cs')] none)
 | _,_=>False
def XrG (vals:List Value) (objs:List Xbj) (K:CK):Prop:=
 match vals,objs with
 | [.pointer (some ⟨_,0,none⟩)],[.siter s pos]=>
    br (decide (pos<s.size)) (K (some (.tuple #[.bool true,.int .i64 pos,.int .i32 (Utf8.decode s pos).1])) [some (.siter s (pos+(Utf8.decode s pos).2))] none)
     (K (some (.tuple #[.bool false])) [some (.siter s pos)] none)
 | _,_=>False
def Xzg (os:List (Nat×SK)) (z:Value) (ok:Bool) (vals:List Value) (objs:List Xbj) (K:CK):Prop:=
 match vals,objs with
 | [.map none,.agg ⟨k⟩],[]=>req (Xbv k k os).isSome (K (some (cond ok (.tuple ⟨[z,.bool false]⟩) z)) [] none)
 | [.map (some _),.agg ⟨k⟩],[.mp cs]=>∃ v b,XvA os z k cs=some (v,b)∧K (some (cond ok (.tuple ⟨[v,.bool b]⟩) v)) [some (.mp cs)] none
 | _,_=>False
def Xwp (os:List (Nat×SK)) (vals:List Value) (objs:List Xbj) (K:CK):Prop:=
 match vals,objs with
 | [.map (some _),.agg ⟨k⟩,x],[.mp cs]=>∃ cs',Xvp os k x cs=some cs'∧K none [some (.mp cs')] none
 | _,_=>False
def XxS (os:List (Nat×SK)) (vals:List Value) (objs:List Xbj) (K:CK):Prop:=
 match vals,objs with
 | [.map none,.agg ⟨k⟩],[]=>req (Xbv k k os).isSome (K (some (.tuple ⟨[]⟩)) [] none)
 | [.map (some _),.agg ⟨k⟩],[.mp cs]=>∃ cs',Xvk os k cs=some cs'∧K (some (.tuple ⟨[]⟩)) [some (.mp cs')] none
 | _,_=>False
def XyD (vals:List Value) (objs:List Xbj) (K:CK):Prop:=
 match vals,objs with
 | [.map none],[]=>K (some (.int .i64 0)) [] none
 | [.map (some _)],[.mp cs]=>∃ n:Nat,cs.length=2*n∧K (some (.int .i64 n)) [some (.mp cs)] none
 | _,_=>False
def XGc (op:VOp) (vals:List Value) (objs:List Xbj) (top:Nat) (K:CK):Prop:=
 match op with
 | .pick _ _ _=>Xyx vals objs K
 | .load1 _ _=>XrW vals objs K
 | .loadN ks _=>XsA ks.length vals objs K
 | .store n _ _=>XrD n vals objs K
 | .bin op _ _=>XEN op vals objs K
 | .isNil k neg _=>Xr0 k neg vals objs K
 | .b2s _=>XEO vals objs K
 | .s2b _=>XEC vals objs top K
 | .mkSl sz bytes z _ _=>XyF sz bytes z vals objs top K
 | .sliceS _ lo hi=>Xp6 lo.isSome hi.isSome vals objs K
 | .sliceL sz _ lo hi=>XpU sz lo.isSome hi.isSome vals objs K
 | .sliceA n sz _ lo hi=>Xpo n sz lo.isSome hi.isSome vals objs K
 | .idxAA n sz _ _=>XrS n sz vals objs K
 | .idxAL sz _ _=>XrA sz vals objs K
 | .idxV1 n _ _=>Xtk n vals objs K
 | .idxVN n sz _ _=>XrK n sz vals objs K
 | .idxS _ _=>XxN vals objs K
 | .ixb _ _=>XFN vals objs K
 | .app t sz bytes _ _=>XEd t sz bytes vals objs top K
 | .ustr t _ _=>XwM t vals objs K
 | .clr sz _=>XEn sz vals objs K
 | .build z ps=>Xs4 z ps vals objs K
 | .buildSl len sz z ps=>XnN len sz z ps vals objs top K
 | .nextS _=>XrG vals objs K
 | .mget os z ok _ _=>Xzg os z ok vals objs K
 | .mput os _ _ _=>Xwp os vals objs K
 | .mdel os _ _=>XxS os vals objs K
 | .lenM _=>XyD vals objs K
 | op=>XDa (core op vals objs top) K
theorem Xsy {vals:List Value} {objs:List Xbj} {K:CK} (h:Xyx vals objs K):Good (Xqi vals objs) K:=by
 unfold Xyx at h
 split at h
 ·rename_i c _ _
  cases c
  ·simp only [br,valK,XhN] at h;exact ⟨_,_,_,rfl,h⟩
  ·simp only [br,valK,XhN] at h;exact ⟨_,_,_,rfl,h⟩
 ·exact h.elim
theorem Xq0 {vals:List Value} {objs:List Xbj} {K:CK} (h:XrW vals objs K):Good (Xju vals objs) K:=by
 unfold XrW at h
 split at h
 ·obtain ⟨v,h1,h2⟩:=rd.elim h;exact ⟨_,_,_,by simp only [Xju,Xbj.cs,h1],h2⟩
 ·obtain ⟨v,h1,h2⟩:=rd.elim h;exact ⟨_,_,_,by simp only [Xju,Xbj.cs,h1],h2⟩
 ·obtain ⟨v,h1,h2⟩:=rd.elim h;exact ⟨_,_,_,by simp only [Xju,Xbj.cs,h1],h2⟩
 ·exact h.elim
theorem XqI {n:Nat} {vals:List Value} {objs:List Xbj} {K:CK} (h:XsA n vals objs K):Good (Xjv n vals objs) K:=by
 unfold XsA at h
 split at h
 ·obtain ⟨h1,h2⟩:=req.elim h
  obtain ⟨_,h3⟩:=rdN.elim h2
  exact ⟨_,_,_,by simp only [Xjv,Xbj.cs,if_pos (of_decide_eq_true h1)],h3⟩
 ·obtain ⟨h1,h2⟩:=req.elim h
  obtain ⟨_,h3⟩:=rdN.elim h2
  exact ⟨_,_,_,by simp only [Xjv,Xbj.cs,if_pos (of_decide_eq_true h1)],h3⟩
 ·obtain ⟨h1,h2⟩:=req.elim h
  obtain ⟨_,h3⟩:=rdN.elim h2
  exact ⟨_,_,_,by simp only [Xjv,Xbj.cs,if_pos (of_decide_eq_true h1)],h3⟩
 ·exact h.elim
theorem Xqm {n:Nat} {vals:List Value} {objs:List Xbj} {K:CK} (h:XrD n vals objs K):Good (Xkz n vals objs) K:=by
 unfold XrD at h
 split at h
 ·obtain ⟨h1,h2⟩:=req.elim h
  rw [XjH] at h2
  simp only [Bool.and_eq_true,decide_eq_true_eq] at h1
  exact ⟨_,_,_,by simp only [Xkz,Xbj.cs,Xbj.wr];rw [if_pos ⟨h1.1.1,h1.1.2,h1.2⟩],h2⟩
 ·obtain ⟨h1,h2⟩:=req.elim h
  rw [XjH] at h2
  simp only [Bool.and_eq_true,decide_eq_true_eq] at h1
  exact ⟨_,_,_,by simp only [Xkz,Xbj.cs,Xbj.wr];rw [if_pos ⟨h1.1.1,h1.1.2,h1.2⟩],h2⟩
 ·obtain ⟨h1,cs',rfl,h2⟩:=req.elim h
  simp only [Bool.and_eq_true,decide_eq_true_eq] at h1
  exact ⟨_,_,_,by simp only [Xkz,Xbj.cs,Xbj.wr];rw [if_pos ⟨h1.1.1,h1.1.2,h1.2⟩],h2⟩
 ·exact h.elim
theorem XvX {op:BinOp} {vals:List Value} {objs:List Xbj} {K:CK} (h:XEN op vals objs K):Good (Xse op vals objs) K:=by
 unfold XEN at h
 split at h
 ·rename_i x y
  have key:∀ v,Xvw op x y=some v→K (some v) [] none→Good (Xse op [x,y] []) K:=fun v h1 h2=>⟨_,_,_,by simp only [Xse,h1,val],h2⟩
  unfold binK at h
  split at h
  ·split at h
   ·obtain ⟨h1,h2⟩:=req.elim h
    exact key _ (by simp only [Xvw];rw [if_pos (of_decide_eq_true h1)]) h2
   ·obtain ⟨h1,h2⟩:=req.elim h
    exact key _ (by simp only [Xvw];rw [if_pos (of_decide_eq_true h1)]) h2
   ·obtain ⟨h1,h2⟩:=req.elim h
    simp only [Bool.and_eq_true,decide_eq_true_eq,Bool.not_eq_true',decide_eq_false_iff_not] at h1
    exact key _ (by simp only [Xvw];rw [if_pos h1.1,if_neg h1.2]) h2
   ·obtain ⟨h1,h2⟩:=req.elim h
    simp only [Bool.and_eq_true,decide_eq_true_eq,Bool.not_eq_true',decide_eq_false_iff_not] at h1
    exact key _ (by simp only [Xvw];rw [if_pos h1.1,if_neg h1.2]) h2
   ·exact h.good
  ·split at h
   ·obtain ⟨h1,h2⟩:=req.elim h
    exact key _ (by simp only [Xvw];rw [if_pos (of_decide_eq_true h1)]) h2
   ·exact h.good
  ·exact h.elim
 ·exact h.elim
theorem Xri {k:Nat} {neg:Bool} {vals:List Value} {objs:List Xbj} {K:CK} (h:Xr0 k neg vals objs K):Good (XlJ k neg vals objs) K:=by
 unfold Xr0 at h
 split at h
 ·rename_i n _
  obtain ⟨h1,h2⟩:=req.elim h
  cases n with
  | zero=>simp at h1
  | succ n=>exact ⟨_,_,_,by simp only [XlJ,XDd,val];cases neg<;>rfl,h2⟩
 ·exact h.good
theorem XvM {vals:List Value} {objs:List Xbj} {K:CK} (h:XEO vals objs K):Good (Xp2 vals objs) K:=by
 unfold XEO at h
 split at h
 ·exact ⟨_,_,_,rfl,h⟩
 ·split at h
  ·rename_i cs hcs
   obtain ⟨h1,bs,h2,h3⟩:=req.elim h
   exact ⟨_,_,_,by simp only [Xp2,hcs];rw [if_pos (of_decide_eq_true h1)];simp only [h2],h3⟩
  ·exact h.elim
 ·exact h.elim
theorem Xv5 {vals:List Value} {objs:List Xbj} {top:Nat} {K:CK} (h:XEC vals objs top K):Good (XBE vals objs top) K:=by
 unfold XEC at h
 split at h
 ·obtain ⟨cs',rfl,h⟩:=h;exact ⟨_,_,_,rfl,h⟩
 ·exact h.elim
theorem XsI {sz bytes:Nat} {z:List Value} {vals:List Value} {objs:List Xbj} {top:Nat} {K:CK} (h:XyF sz bytes z vals objs top K):Good (Xq1 sz bytes z vals objs top) K:=by
 unfold XyF at h
 split at h
 ·obtain ⟨h1,cs',rfl,h2⟩:=req.elim h
  exact ⟨_,_,_,by simp only [Xq1];rw [if_pos (of_decide_eq_true h1)],h2⟩
 ·exact h.elim
theorem Xpp {bl bh:Bool} {vals:List Value} {objs:List Xbj} {K:CK} (h:Xp6 bl bh vals objs K):Good (Xld bl bh vals objs) K:=by
 unfold Xp6 at h
 split at h
 ·obtain ⟨l,u,h1,h2⟩:=Xoe.elim h
  exact ⟨_,_,_,by simp only [Xld,h1,val],h2⟩
 ·exact h.elim
theorem XpG {sz:Nat} {bl bh:Bool} {vals:List Value} {objs:List Xbj} {K:CK} (h:XpU sz bl bh vals objs K):Good (XjK sz bl bh vals objs) K:=by
 unfold XpU at h
 split at h
 ·obtain ⟨l,u,h1,h2⟩:=Xoe.elim h
  exact ⟨_,_,_,by simp only [XjK,h1,val],h2⟩
 ·obtain ⟨h0,h⟩:=req.elim h
  obtain ⟨l,u,h1,h2⟩:=Xoe.elim h
  exact ⟨_,_,_,by simp only [XjK];rw [if_pos (Nat.eq_of_beq_eq_true h0)];simp only [h1,val],h2⟩
 ·exact h.elim
theorem Xp5 {n sz:Nat} {bl bh:Bool} {vals:List Value} {objs:List Xbj} {K:CK} (h:Xpo n sz bl bh vals objs K):Good (Xjl n sz bl bh vals objs) K:=by
 unfold Xpo at h
 split at h
 ·split at h
  ·rename_i cs hcs
   obtain ⟨h0,h⟩:=req.elim h
   obtain ⟨l,u,h1,h2⟩:=Xoe.elim h
   exact ⟨_,_,_,by simp only [Xjl,hcs];rw [if_pos (of_decide_eq_true h0)];simp only [h1],h2⟩
  ·exact h.elim
 ·exact h.elim
theorem Xqp {n sz:Nat} {vals:List Value} {objs:List Xbj} {K:CK} (h:XrS n sz vals objs K):Good (Xm0 n sz vals objs) K:=by
 unfold XrS at h
 split at h
 ·obtain ⟨h1,h2⟩:=req.elim h
  exact ⟨_,_,_,by simp only [Xm0,val];rw [if_pos (of_decide_eq_true h1)],h2⟩
 ·exact h.elim
theorem XqU {sz:Nat} {vals:List Value} {objs:List Xbj} {K:CK} (h:XrA sz vals objs K):Good (XmR sz vals objs) K:=by
 unfold XrA at h
 split at h
 ·obtain ⟨h1,h2⟩:=req.elim h
  exact ⟨_,_,_,by simp only [XmR,val];rw [if_pos (of_decide_eq_true h1)],h2⟩
 ·exact h.elim
theorem XqC {n:Nat} {vals:List Value} {objs:List Xbj} {K:CK} (h:Xtk n vals objs K):Good (XmW n vals objs) K:=by
 unfold Xtk at h
 split at h
 ·obtain ⟨h1,h2⟩:=req.elim h
  obtain ⟨v,h3,h4⟩:=rd.elim h2
  exact ⟨_,_,_,by simp only [XmW];rw [if_pos (of_decide_eq_true h1)];simp only [h3,val],h4⟩
 ·exact h.elim
theorem Xqn {n sz:Nat} {vals:List Value} {objs:List Xbj} {K:CK} (h:XrK n sz vals objs K):Good (Xm1 n sz vals objs) K:=by
 unfold XrK at h
 split at h
 ·obtain ⟨h1,h2⟩:=req.elim h
  obtain ⟨_,h3⟩:=rdN.elim h2
  exact ⟨_,_,_,by simp only [Xm1,val];rw [if_pos (of_decide_eq_true h1)],h3⟩
 ·exact h.elim
theorem Xs8 {vals:List Value} {objs:List Xbj} {K:CK} (h:XxN vals objs K):Good (XoP vals objs) K:=by
 unfold XxN at h
 split at h
 ·obtain ⟨h1,h2⟩:=req.elim h
  obtain ⟨v,h3,h4⟩:=rdS.elim h2
  exact ⟨_,_,_,by simp only [XoP];rw [if_pos (of_decide_eq_true h1)];simp only [h3,val],h4⟩
 ·exact h.elim
theorem Xv3 {vals:List Value} {objs:List Xbj} {K:CK} (h:XFN vals objs K):Good (Xy5 vals objs) K:=by
 unfold XFN at h
 split at h
 ·exact ⟨_,_,_,rfl,h⟩
 ·exact h.elim
theorem Xtm {t:Nat} {vals:List Value} {objs:List Xbj} {K:CK} (h:XwM t vals objs K):Good (Xpf t vals objs) K:=by
 unfold XwM at h
 split at h
 ·exact ⟨_,_,_,rfl,h⟩
 ·obtain ⟨h1,bs,h2,h3⟩:=req.elim h
  exact ⟨_,_,_,by simp only [Xpf];rw [if_pos (of_decide_eq_true h1)];simp only [h2],h3⟩
 ·exact h.elim
theorem Xvj {sz:Nat} {vals:List Value} {objs:List Xbj} {K:CK} (h:XEn sz vals objs K):Good (Xvo sz vals objs) K:=by
 unfold XEn at h
 split at h
 ·exact ⟨_,_,_,rfl,h⟩
 ·obtain ⟨h1,cs',rfl,h3⟩:=req.elim h
  exact ⟨_,_,_,by simp only [Xvo];rw [if_pos (of_decide_eq_true h1)],h3⟩
 ·exact h.elim
theorem Xvz {t sz bytes:Nat} {vals:List Value} {objs:List Xbj} {top:Nat} {K:CK} (h:XEd t sz bytes vals objs top K):Good (XsO t sz bytes vals objs top) K:=by
 unfold XEd at h
 split at h
 ·obtain ⟨c,m,h1,h2,h3⟩:=Xz3.elim h
  obtain ⟨h4,cs',n',rfl,rfl,h5⟩:=req.elim h3
  exact ⟨_,_,_,by simp only [XsO,h1,h2];rw [if_pos (of_decide_eq_true h4)],h5⟩
 ·obtain ⟨c,m,h1,h2,h3⟩:=Xz3.elim h
  obtain ⟨h4,cs',n',rfl,rfl,h5⟩:=req.elim h3
  simp only [Bool.and_eq_true,decide_eq_true_eq] at h4
  exact ⟨_,_,_,by simp only [XsO,h1,h2];rw [if_pos ⟨h4.1.1.1,h4.1.1.2.1,h4.1.1.2.2.1,h4.1.1.2.2.2,h4.1.2,h4.2⟩],h5⟩
 ·obtain ⟨c,m,h1,h2,h3⟩:=Xz3.elim h
  obtain ⟨h4,cs',n',rfl,rfl,h5⟩:=req.elim h3
  exact ⟨_,_,_,by simp only [XsO,h1,h2,bSl];rw [if_pos (of_decide_eq_true h4)],h5⟩
 ·obtain ⟨c,m,h1,h2,h3⟩:=Xz3.elim h
  obtain ⟨h4,cs',n',rfl,rfl,h5⟩:=req.elim h3
  simp only [Bool.and_eq_true,decide_eq_true_eq] at h4
  exact ⟨_,_,_,by simp only [XsO,h1,h2,bSl];rw [if_pos ⟨h4.1.1.1,h4.1.1.2.1,h4.1.1.2.2.1,h4.1.1.2.2.2.1,h4.1.1.2.2.2.2,h4.1.2,h4.2⟩],h5⟩
 ·exact h.elim
theorem Xrf {vals:List Value} {objs:List Xbj} {K:CK} (h:XrG vals objs K):Good (XlO vals objs) K:=by
 unfold XrG at h
 split at h
 ·rename_i s pos
  cases hb:decide (pos<s.size) with
  | true=>rw [hb] at h;exact ⟨_,_,_,by simp only [XlO];rw [if_pos (of_decide_eq_true hb)],h⟩
  | false=>rw [hb] at h;exact ⟨_,_,_,by simp only [XlO];rw [if_neg (of_decide_eq_false hb)],h⟩
 ·exact h.elim
theorem Xsv {os:List (Nat×SK)} {z:Value} {ok:Bool} {vals:List Value} {objs:List Xbj} {K:CK} (h:Xzg os z ok vals objs K):Good (XmJ os z ok vals objs) K:=by
 unfold Xzg at h
 split at h
 ·obtain ⟨h1,h2⟩:=h.elim
  exact ⟨_,_,_,by simp only [XmJ];rw [if_pos h1];cases ok<;>rfl,h2⟩
 ·obtain ⟨v,b,h1,h2⟩:=h
  exact ⟨_,_,_,by simp only [XmJ,h1];cases ok<;>rfl,h2⟩
 ·exact h.elim
theorem XrE {os:List (Nat×SK)} {vals:List Value} {objs:List Xbj} {K:CK} (h:Xwp os vals objs K):Good (XoL os vals objs) K:=by
 unfold Xwp at h
 split at h
 ·obtain ⟨cs',h1,h2⟩:=h
  exact ⟨_,_,_,by simp only [XoL,h1],h2⟩
 ·exact h.elim
theorem Xty {os:List (Nat×SK)} {vals:List Value} {objs:List Xbj} {K:CK} (h:XxS os vals objs K):Good (XnT os vals objs) K:=by
 unfold XxS at h
 split at h
 ·obtain ⟨h1,h2⟩:=h.elim
  exact ⟨_,_,_,by simp only [XnT];rw [if_pos h1];rfl,h2⟩
 ·obtain ⟨cs',h1,h2⟩:=h
  exact ⟨_,_,_,by simp only [XnT,h1],h2⟩
 ·exact h.elim
theorem Xs3 {vals:List Value} {objs:List Xbj} {K:CK} (h:XyD vals objs K):Good (Xne vals objs) K:=by
 unfold XyD at h
 split at h
 ·exact ⟨_,_,_,rfl,h⟩
 ·obtain ⟨n,h1,h2⟩:=h
  exact ⟨_,_,_,by simp only [Xne,h1];rw [show 2*n/2=n by omega],h2⟩
 ·exact h.elim
theorem XGc.good {op:VOp} {vals:List Value} {objs:List Xbj} {top:Nat} {K:CK} (h:XGc op vals objs top K):Good (core op vals objs top) K:=by
 cases op with
 | pick=>exact Xsy h
 | load1=>exact Xq0 h
 | loadN=>exact XqI h
 | store=>exact Xqm h
 | bin=>exact XvX h
 | isNil=>exact Xri h
 | b2s=>exact XvM h
 | s2b=>exact Xv5 h
 | mkSl=>exact XsI h
 | sliceS=>exact Xpp h
 | sliceL=>exact XpG h
 | sliceA=>exact Xp5 h
 | idxAA=>exact Xqp h
 | idxAL=>exact XqU h
 | idxV1=>exact XqC h
 | idxVN=>exact Xqn h
 | idxS=>exact Xs8 h
 | ixb=>exact Xv3 h
 | app=>exact Xvz h
 | ustr=>exact Xtm h
 | clr=>exact Xvj h
 | build=>exact XqT h
 | buildSl=>exact XoD h
 | nextS=>exact Xrf h
 | mget=>exact Xsv h
 | mput=>exact XrE h
 | mdel=>exact Xty h
 | lenM=>exact Xs3 h
 | _=>exact XDa.good h
def Xni (h:Hp) (is:List Nat) (os:List (Option Xbj)) (K:Hp→Prop):Prop:=
 match is,os with
 | i::is,some o::os=>XpM h i o fun h'=>Xni h' is os K
 | i::is,none::os=>XsX h i fun h'=>Xni h' is os K
 | _,_=>K h
theorem Xoc:∀ (is:List Nat) (os:List (Option Xbj)) (h:Hp) (K:Hp→Prop),Xni h is os K=K (Xhe h is os)
 | [],_,h,K=>by simp [Xni,Xhe]
 | i::is,[],h,K=>by simp [Xni,Xhe]
 | i::is,some o::os,h,K=>by rw [Xni,Xjj,Xoc is os];simp [Xhe]
 | i::is,none::os,h,K=>by rw [Xni,Xme,Xoc is os];simp [Xhe]
def opK (op:VOp) (vals:List Value) (h:Hp) (top:Nat) (K:Option Value→Hp→Nat→Prop):Prop:=
 match XiX h (needs op vals) with
 | none=>False
 | some objs=>XGc op vals objs top fun v os fr=>Xni h (needs op vals) os fun h'=>match fr with
   | none=>K v h' top
   | some o=>XpM h' top o fun h''=>K v h'' (top+1)
theorem opK.elim {op:VOp} {vals:List Value} {h:Hp} {top:Nat} {K:Option Value→Hp→Nat→Prop} (hk:opK op vals h top K):∃ v h' top',Xca op vals h top=some (v,h',top')∧K v h' top':=by
 unfold opK at hk
 split at hk
 ·exact hk.elim
 ·rename_i objs hobjs
  obtain ⟨v,os,fr,hc,hk⟩:=hk.good
  rw [Xoc] at hk
  cases fr with
  | none=>exact ⟨v,_,_,by simp only [Xca,hobjs,hc],hk⟩
  | some o=>simp only [Xjj] at hk;exact ⟨v,_,_,by simp only [Xca,hobjs,hc],hk⟩
def Xqg (n:Nat) (e:Env) (d:Option Nat) (v:Value) (K:Env→Prop):Prop:=
 match d with
 | some i=>cond (Nat.blt i n) (XpM e i v K) (K e)
 | none=>K e
theorem Xim (n:Nat) (e:Env) (d:Option Nat) (v:Value) (K:Env→Prop):Xqg n e d v K=K (Xoh n e d v):=by
 cases d with
 | none=>rfl
 | some i=>simp only [Xqg,Xoh];cases Nat.blt i n<;>simp [Xjj]
def XCF (i:Nat) (vs:List Value) (K:Env→Prop):Prop:=
 match vs with
 | []=>K []
 | v::vs=>XCF (i+1) vs fun e=>K ((i,v)::e)
theorem Xt3:∀ (vs:List Value) (i:Nat) (K:Env→Prop),XCF i vs K=K (XmO i vs)
 | [],_,_=>rfl
 | v::vs,i,K=>by rw [XCF,Xt3 vs];rfl
def Xok (F:Fns) (f:Nat) (args:List Value) (K:Xbr→Prop):Prop:=
 match F f with
 | some ⟨nt,body,_⟩=>cond (Nat.ble args.length nt) (XCF 0 args fun e=>K ⟨f,nt,e,[.code body],[],false,none⟩) False
 | none=>False
theorem Xok.elim {F:Fns} {f:Nat} {args:List Value} {K:Xbr→Prop} (h:Xok F f args K):∃ c,Xjp F f args=some c∧K c:=by
 unfold Xok at h
 split at h
 ·rename_i nt body rs hf
  cases hb:Nat.ble args.length nt with
  | false=>rw [hb] at h;exact h.elim
  | true=>
    rw [hb,cond_true,Xt3] at h
    exact ⟨_,by simp only [Xjp,hf];rw [if_pos (Nat.le_of_ble_eq_true hb)],h⟩
 ·exact h.elim
def Xp4 (u:Xbr) (v:Value) (K:Xbr→Prop):Prop:=
 match u with
 | ⟨fn,nt,env,.inReg (⟨dst,_,_⟩::rest)::k,defers,ret,round⟩=>Xqg nt env dst v fun e=>K ⟨fn,nt,e,.inReg rest::k,defers,ret,round⟩
 | ⟨fn,nt,env,.inRangeFunc l::k,defers,ret,round⟩=>K ⟨fn,nt,env,.endRangeFunc l::k,defers,ret,round⟩
 | _=>False
theorem Xp4.elim {u:Xbr} {v:Value} {K:Xbr→Prop} (h:Xp4 u v K):∃ u',finish u v=some u'∧K u':=by
 unfold Xp4 at h
 split at h
 ·rw [Xim] at h;exact ⟨_,rfl,h⟩
 ·exact ⟨_,rfl,h⟩
 ·exact h.elim
def XxT (e:Env) (h:Hp) (rs:List XAc) (K:List Value→Prop):Prop:=
 match rs with
 | []=>K []
 | .tmp t::rs=>match XaP e t with
   | some v=>XxT e h rs fun vs=>K (v::vs)
   | none=>False
 | .cell t ks agg::rs=>match XaP e t with
   | some (.pointer (some ⟨b,o,none⟩))=>match XaP h b with
     | some ob=>match ob.cs with
       | some cs=>cond agg (req (decide (o+ks.length≤cs.length)) (rdN cs o ks.length fun l=>XxT e h rs fun vs=>K (.agg ⟨l⟩::vs))) (rd cs o fun v=>XxT e h rs fun vs=>K (v::vs))
       | none=>False
     | none=>False
   | _=>False
theorem XxT.elim {e:Env} {h:Hp}:∀ {rs:List XAc} {K:List Value→Prop},XxT e h rs K→∃ vs,Xn0 e h rs=some vs∧K vs
 | [],K,hk=>⟨[],rfl,hk⟩
 | .tmp t::rs,K,hk=>by
   simp only [XxT] at hk
   split at hk
   ·rename_i v hv
    obtain ⟨vs,h1,h2⟩:=XxT.elim hk
    exact ⟨v::vs,by simp only [Xn0,resV,hv,h1],h2⟩
   ·exact hk.elim
 | .cell t ks agg::rs,K,hk=>by
   simp only [XxT] at hk
   split at hk
   ·rename_i b o hp
    split at hk
    ·rename_i ob hob
     split at hk
     ·rename_i cs hcs
      cases agg with
      | true=>
        obtain ⟨h1,h2⟩:=req.elim hk
        obtain ⟨_,h3⟩:=rdN.elim h2
        obtain ⟨vs,h4,h5⟩:=XxT.elim h3
        exact ⟨_,by simp only [Xn0,resV,hp,hob,hcs,↓reduceIte,if_pos (of_decide_eq_true h1),h4],h5⟩
      | false=>
        obtain ⟨v,h1,h2⟩:=rd.elim hk
        obtain ⟨vs,h4,h5⟩:=XxT.elim h2
        exact ⟨_,by simp only [Xn0,resV,hp,hob,hcs,Bool.false_eq_true,↓reduceIte,h1,h4],h5⟩
     ·exact hk.elim
    ·exact hk.elim
   ·exact hk.elim
def Xx0 (o:Xbj) (K:Xbj→Prop):Prop:=
 match o with
 | .cells cs=>K (.cells cs)
 | .row own cs=>K (.row own cs)
 | .ty t cs=>K (.ty t cs)
 | .siter s p=>K (.siter s p)
 | .mp cs=>K (.mp cs)
 | .loop l=>K (.loop l)
 | .marks=>K .marks
theorem XqP (o:Xbj) (K:Xbj→Prop):Xx0 o K=K o:=by cases o<;>rfl
def Xut (h:Hp) (K:Hp→Prop):Prop:=
 match h with
 | []=>K []
 | (i,o)::l=>Xx0 o fun o=>Xut l fun l=>K ((i,o)::l)
theorem Xol:∀ (h:Hp) (K:Hp→Prop),Xut h K=K h
 | [],K=>rfl
 | (i,o)::l,K=>by rw [Xut,XqP,Xol l]
structure XdI (s:XcS) (vals:List Value) (h:Hp) (top:Nat) (K:Value→Hp→Nat→Prop):Prop where
 out:match XiT s vals h top with
 | some (v,h',top')=>Xii v fun v=>Xut h' fun h'=>K v h' top'
 | none=>False
theorem XdI.elim {s:XcS} {vals:List Value} {h:Hp} {top:Nat} {K:Value→Hp→Nat→Prop} (hk:XdI s vals h top K):∃ v h' top',XiT s vals h top=some (v,h',top')∧K v h' top':=by
 replace hk:=hk.out
 split at hk
 ·rw [XhN,Xol] at hk;exact ⟨_,_,_,by assumption,hk⟩
 ·exact hk.elim
def XjU (F:Fns) (S:XlK) (o:Xdf) (rest:List Xdf) (k:List XgR) (fn nt:Nat) (env:Env) (defers:List Nat) (round:Option Nat) (up:List Xbr) (h:Hp) (top:Nat) (K:VM→Prop):Prop:=
 match o with
 | ⟨dst,op,g⟩=>match XmI env op.ops with
   | none=>False
   | some vals=>match op with
     | .callF f _=>match S f with
       | some s=>XdI s vals h top fun v h' top'=>Xqg nt env dst v fun e=>K ⟨⟨fn,nt,e,.inReg rest::k,defers,false,round⟩,up,h',top'⟩
       | none=>Xok F f vals fun c=>K ⟨c,⟨fn,nt,env,.inReg (⟨dst,op,g⟩::rest)::k,defers,false,round⟩::up,h,top⟩
     | .callV _ _=>match vals with
       | .func (.func f) ⟨first⟩ ⟨caps⟩::args=>match S f with
         | some s=>XdI s (first++args++caps) h top fun v h' top'=>Xqg nt env dst v fun e=>K ⟨⟨fn,nt,e,.inReg rest::k,defers,false,round⟩,up,h',top'⟩
         | none=>Xok F f (first++args++caps) fun c=>K ⟨c,⟨fn,nt,env,.inReg (⟨dst,op,g⟩::rest)::k,defers,false,round⟩::up,h,top⟩
       | .func (.yield l) ⟨[]⟩ ⟨[]⟩::args=>match XmA l args h with
         | some c=>K ⟨c,⟨fn,nt,env,.inReg (⟨dst,op,g⟩::rest)::k,defers,false,round⟩::up,h,top⟩
         | none=>False
       | _=>False
     | op=>opK op vals h top fun v h' top'=>match v with
       | some v=>Xqg nt env dst v fun e=>K ⟨⟨fn,nt,e,.inReg rest::k,defers,false,round⟩,up,h',top'⟩
       | none=>Xqg nt env dst Xid fun e=>K ⟨⟨fn,nt,e,.inReg rest::k,defers,false,round⟩,up,h',top'⟩
theorem XjU.elim {F:Fns} {S:XlK} {o:Xdf} {rest:List Xdf} {k:List XgR} {fn nt:Nat} {env:Env} {todo:List XgR} {defers:List Nat} {round:Option Nat} {up:List Xbr} {h:Hp} {top:Nat} {K:VM→Prop}
 (hk:XjU F S o rest k fn nt env defers round up h top K):∃ vm',Xrb F S o rest k ⟨fn,nt,env,todo,defers,false,round⟩ up h top=some vm'∧K vm':=by
 obtain ⟨dst,op,g⟩:=o
 unfold XjU at hk
 unfold Xrb
 simp only at hk ⊢
 split at hk
 ·exact hk.elim
 ·rename_i vals hv
  simp only [hv]
  split at hk
  ·rename_i f xs
   split at hk
   ·rename_i s hs
    obtain ⟨v,h',top',h1,h2⟩:=hk.elim
    rw [Xim] at h2
    exact ⟨_,by simp only [hs,h1],h2⟩
   ·rename_i hs
    obtain ⟨c,h1,h2⟩:=hk.elim
    exact ⟨_,by simp only [hs,h1],h2⟩
  ·split at hk
   ·split at hk
    ·rename_i s hs
     obtain ⟨v,h',top',h1,h2⟩:=hk.elim
     rw [Xim] at h2
     exact ⟨_,by simp only [hs,h1],h2⟩
    ·rename_i hs
     obtain ⟨c,h1,h2⟩:=hk.elim
     exact ⟨_,by simp only [hs,h1],h2⟩
   ·split at hk
    ·rename_i c hc
     exact ⟨_,by simp only [hc],hk⟩
    ·exact hk.elim
   ·exact hk.elim
  ·rename_i hne1 hne2
   obtain ⟨v,h',top',h1,h2⟩:=hk.elim
   refine ⟨⟨⟨fn,nt,Xoh nt env dst (v.getD Xid),.inReg rest::k,defers,false,round⟩,up,h',top'⟩,?_,?_⟩
   ·split
    ·exact absurd rfl (hne1 _ _)
    ·exact absurd rfl (hne2 _ _)
    ·simp only [h1]
   ·cases v with
    | none=>simp only [Xim] at h2;exact h2
    | some v=>simp only [Xim] at h2;exact h2
def XnP (e:Env) (d:Nat) (x:Bool) (K:Env→Prop):Prop:=
 match e with
 | []=>K []
 | (i,v)::l=>cond (Nat.beq i d) (K ((i,.bool x)::l)) (XnP l d x fun l'=>K ((i,v)::l'))
theorem Xmx:∀ {e:Env} {d:Nat} {x:Bool} {K:Env→Prop},XaP e d=some (.bool x)→XnP e d x K=K e
 | [],d,x,K,h=>rfl
 | (i,v)::l,d,x,K,h=>by
   simp only [XaP] at h
   simp only [XnP]
   cases hb:Nat.beq i d with
   | true=>rw [hb,cond_true,Option.some.injEq] at h;subst h;rfl
   | false=>rw [hb,cond_false] at h;simp only [cond_false];rw [Xmx h]
def Xil (l:Nat) (jump:Option VC) (up:List Xbr) (h:Hp) (top:Nat) (K:VM→Prop):Prop:=
 match Xio l jump up h top with
 | some ⟨u,us,h',top'⟩=>K ⟨u,us,h',top'⟩
 | none=>False
theorem Xil.elim {l:Nat} {jump:Option VC} {up:List Xbr} {h:Hp} {top:Nat} {K:VM→Prop} (hk:Xil l jump up h top K):∃ vm',Xio l jump up h top=some vm'∧K vm':=by
 unfold Xil at hk
 split at hk
 ·exact ⟨_,by assumption,hk⟩
 ·exact hk.elim
def XlN (l:List Nat) (K:List Nat→Prop):Prop:=
 match l with
 | []=>K []
 | n::l=>XlN l (fun l'=>K (n::l'))
theorem XjA:∀ (l:List Nat) (K:List Nat→Prop),XlN l K=K l
 | [],_=>rfl
 | v::l,K=>by rw [XlN,XjA l]
def Xwm (x:PR) (K:PR→Prop):Prop:=
 match x with
 | .no=>K .no
 | .nil s=>K (.nil s)
 | .hit b=>K (.hit b)
theorem XvK (x:PR) (K:PR→Prop):Xwm x K=K x:=by cases x<;>rfl
def apK {α:Type} (l:List α) (x:α) (K:List α→Prop):Prop:=
 match l with
 | []=>K [x]
 | y::l=>apK l x fun l=>K (y::l)
theorem XDv {α:Type} (x:α):∀ (l:List α) (K:List α→Prop),apK l x K=K (l++[x])
 | [],_=>rfl
 | y::l,K=>by rw [apK,XDv x l];rfl
def XAU (h:Hp) (v:Value) (ps:List Path) (bs:List PR) (K:List PR→Prop):Prop:=
 match ps with
 | []=>K bs
 | p::ps=>Xwm (XmZ h v bs p) fun x=>apK bs x fun bs=>XAU h v ps bs K
theorem Xt9 (h:Hp) (v:Value):∀ (ps:List Path) (bs:List PR) (K:List PR→Prop),XAU h v ps bs K=K (Xgp h v ps bs)
 | [],_,_=>rfl
 | p::ps,bs,K=>by rw [XAU,XvK,XDv,Xt9];rfl
def XIG (h:Hp) (m:Md) (v:Value) (K:List Wd→Prop):Prop:=
 match m with
 | .tr ps=>XAU h v ps [] fun bs=>K (Xo9 ps bs)
 | m=>K (Xns h m v)
theorem XCx (h:Hp) (m:Md) (v:Value) (K:List Wd→Prop):XIG h m v K=K (Xns h m v):=by
 cases m<;>first|rfl|exact Xt9 ..
def Xxv (h:Hp) (ms:List Md) (vs:List Value) (K:List Wd→Prop):Prop:=
 match ms,vs with
 | m::ms,v::vs=>XIG h m v fun l=>Xxv h ms vs fun l2=>K (l++l2)
 | _,_=>K []
theorem Xpj (h:Hp):∀ (ms:List Md) (vs:List Value) (K:List Wd→Prop),Xxv h ms vs K=K (Xj7 h ms vs)
 | m::ms,v::vs,K=>by rw [Xxv,XCx,Xpj];rfl
 | [],[],_=>rfl
 | [],_::_,_=>rfl
 | _::_,[],_=>rfl
def Xky (S:XlK) (nt:Nat) (o:Xdf) (e:Env) (h:Hp) (m:Nat) (K:Env→Hp→Nat→List Nat→List Nat→Prop):Prop:=
 match o with
 | ⟨dst,op,_⟩=>match XmI e op.ops with
   | none=>False
   | some vals=>match op with
     | .callF f _=>match S f with
       | some s=>XdI s vals h m fun v h' m'=>Xqg nt e dst v fun e=>Xxv h s.modes vals fun ws=>XlN (Xdz ws) fun r=>XlN (XlF ws) fun w=>K e h' m' r w
       | none=>False
     | .callV _ _=>match vals with
       | .func (.func f) ⟨first⟩ ⟨caps⟩::args=>match S f with
         | some s=>XdI s (first++args++caps) h m fun v h' m'=>Xqg nt e dst v fun e=>Xxv h s.modes (first++args++caps) fun ws=>XlN (Xdz ws) fun r=>XlN (XlF ws) fun w=>K e h' m' r w
         | none=>False
       | _=>False
     | op=>opK op vals h m fun v h' m'=>match v with
       | some v=>Xqg nt e dst v fun e=>K e h' m' (needs op vals) (cond (XxK op) (needs op vals) [])
       | none=>Xqg nt e dst Xid fun e=>K e h' m' (needs op vals) (cond (XxK op) (needs op vals) [])
theorem Xky.elim {S:XlK} {nt:Nat} {o:Xdf} {e:Env} {h:Hp} {m:Nat} {K:Env→Hp→Nat→List Nat→List Nat→Prop} (hk:Xky S nt o e h m K) (hw:Xep e o.g=some true) :
 ∃ e' h' m' r w,stepD S nt o e h m=some (e',h',m',r,w)∧K e' h' m' r w:=by
 obtain ⟨dst,op,g⟩:=o
 unfold Xky at hk
 simp only at hk hw
 unfold stepD
 simp only [hw]
 split at hk
 ·exact hk.elim
 ·rename_i vals hv
  simp only [hv]
  split at hk
  ·split at hk
   ·rename_i s hs
    obtain ⟨v,h',m',h1,h2⟩:=hk.elim
    rw [Xim,Xpj,XjA,XjA] at h2
    exact ⟨_,_,_,_,_,by simp only [hs,h1],h2⟩
   ·exact hk.elim
  ·split at hk
   ·split at hk
    ·rename_i s hs
     obtain ⟨v,h',m',h1,h2⟩:=hk.elim
     rw [Xim,Xpj,XjA,XjA] at h2
     exact ⟨_,_,_,_,_,by simp only [hs,h1],h2⟩
    ·exact hk.elim
   ·exact hk.elim
  ·rename_i hne1 hne2
   obtain ⟨v,h',m',h1,h2⟩:=hk.elim
   refine ⟨Xoh nt e dst (v.getD Xid),h',m',needs op vals,cond (XxK op) (needs op vals) [],?_,?_⟩
   ·split
    ·exact absurd rfl (hne1 _ _)
    ·exact absurd rfl (hne2 _ _)
    ·simp only [h1]
   ·cases v with
    | none=>simp only [Xim] at h2;exact h2
    | some v=>simp only [Xim] at h2;exact h2
def XuU (S:XlK) (nt:Nat) (o:Xdf) (e:Env) (h:Hp) (m:Nat) (K:Env→Hp→Nat→List Nat→List Nat→Prop):Prop:=
 match o with
 | ⟨dst,op,none⟩=>Xky S nt ⟨dst,op,none⟩ e h m K
 | ⟨dst,op,some (d,x)⟩=>match XaP e d with
   | some (.bool b)=>cond x
      (br b (XnP e d true fun e=>Xky S nt ⟨dst,op,some (d,x)⟩ e h m K) (XnP e d false fun e=>Xqg nt e dst Xid fun e=>K e h m [] []))
      (br b (XnP e d true fun e=>Xqg nt e dst Xid fun e=>K e h m [] []) (XnP e d false fun e=>Xky S nt ⟨dst,op,some (d,x)⟩ e h m K))
   | some (.tuple ⟨[]⟩)=>Xqg nt e dst Xid fun e=>K e h m [] []
   | _=>False
def Xu7 (S:XlK) (nt:Nat) (os:List Xdf) (e:Env) (h:Hp) (m:Nat) (K:List Fp→Env→Hp→Nat→Prop):Prop:=
 match os with
 | []=>K [] e h m
 | o::os=>XuU S nt o e h m fun e1 h1 m1 r w=>Xu7 S nt os e1 h1 (m1+1) fun fps e h m'=>K ((r,w++List.range' m (m1 - m))::fps) e h m'
theorem br.cases {b:Bool} {p q:Prop} (h:br b p q):(b=true∧p)∨(b=false∧q):=by cases b;exact .inr ⟨rfl,h⟩;exact .inl ⟨rfl,h⟩
theorem XuU.elim {S:XlK} {nt:Nat} {o:Xdf} {e:Env} {h:Hp} {m:Nat} {K:Env→Hp→Nat→List Nat→List Nat→Prop} (hk:XuU S nt o e h m K) :
 ∃ e' h' m' r w,stepD S nt o e h m=some (e',h',m',r,w)∧K e' h' m' r w:=by
 obtain ⟨dst,op,g⟩:=o
 cases g with
 | none=>exact Xky.elim (o:=⟨dst,op,none⟩) hk rfl
 | some p=>
   obtain ⟨d,x⟩:=p
   simp only [XuU] at hk
   have skip:Xep e (some (d,x))=some false→(Xqg nt e dst Xid fun e=>K e h m [] [])→∃ e' h' m' r w,stepD S nt ⟨dst,op,some (d,x)⟩ e h m=some (e',h',m',r,w)∧K e' h' m' r w:=fun hw hk=>by
    rw [Xim] at hk
    exact ⟨_,_,_,_,_,by simp only [stepD,hw],hk⟩
   split at hk
   ·rename_i b hb
    cases x with
    | true=>
      rw [cond_true] at hk
      rcases hk.cases with ⟨rfl,hk⟩|⟨rfl,hk⟩<;>rw [Xmx hb] at hk
      ·exact Xky.elim (show Xky S nt ⟨dst,op,some (d,true)⟩ e h m K from hk) (by simp [Xep,hb])
      ·exact skip (by simp [Xep,hb]) hk
    | false=>
      rw [cond_false] at hk
      rcases hk.cases with ⟨rfl,hk⟩|⟨rfl,hk⟩<;>rw [Xmx hb] at hk
      ·exact skip (by simp [Xep,hb]) hk
      ·exact Xky.elim (show Xky S nt ⟨dst,op,some (d,false)⟩ e h m K from hk) (by simp [Xep,hb])
   ·rename_i hb
    exact skip (by simp [Xep,hb]) hk
   ·exact hk.elim
theorem Xu7.elim {S:XlK} {nt:Nat}:∀ {os:List Xdf} {e:Env} {h:Hp} {m:Nat} {K:List Fp→Env→Hp→Nat→Prop},Xu7 S nt os e h m K→∃ fps e' h' m',XDF S nt os e h m=some (fps,e',h',m')∧K fps e' h' m'
 | [],e,h,m,K,hk=>⟨_,_,_,_,rfl,hk⟩
 | o::os,e,h,m,K,hk=>by
   simp only [Xu7] at hk
   obtain ⟨e1,h1,m1,r,w,g1,g2⟩:=hk.elim
   obtain ⟨fps,e',h',m',k1,k2⟩:=Xu7.elim g2
   exact ⟨_,_,_,_,by simp only [XDF,g1,k1],k2⟩
def XyH (F:Fns) (S:XlK) (f:Nat) (lp:Bool) (L:VM→Prop) (E:Value→Hp→Nat→Prop) (K:VM→Prop):VM→Prop
 | ⟨⟨fn,nt,env,todo,defers,ret,round⟩,up,h,top⟩=>
   match ret with
   | true=>match defers with
     | r::ds=>match XaP h r with
       | some .marks=>XsX h r fun h'=>K ⟨⟨fn,nt,env,todo,ds,true,round⟩,up,h',top⟩
       | _=>False
     | []=>match F fn with
       | some ⟨_,_,rs⟩=>XxT env h rs fun vs=>match up with
         | u::us=>Xii (XDg vs) fun v=>Xp4 u v fun u'=>K ⟨u',us,h,top⟩
         | []=>cond (Nat.beq fn f) (Xii (XDg vs) fun v=>E v h top) False
       | none=>False
   | false=>match todo with
     | []=>match round with
       | none=>K ⟨⟨fn,nt,env,[],defers,true,none⟩,up,h,top⟩
       | some l=>Xil l none up h top K
     | .code .ret::k=>match round with
       | none=>K ⟨⟨fn,nt,env,.code .ret::k,defers,true,none⟩,up,h,top⟩
       | some l=>Xil l (some .ret) up h top K
     | .code .skip::k=>K ⟨⟨fn,nt,env,k,defers,false,round⟩,up,h,top⟩
     | .inScope::k=>K ⟨⟨fn,nt,env,k,defers,false,round⟩,up,h,top⟩
     | .code (.scope b)::k=>K ⟨⟨fn,nt,env,.code b::.inScope::k,defers,false,round⟩,up,h,top⟩
     | .inBlock _::k=>K ⟨⟨fn,nt,env,k,defers,false,round⟩,up,h,top⟩
     | .code (.seq a b)::k=>K ⟨⟨fn,nt,env,.code a::.code b::k,defers,false,round⟩,up,h,top⟩
     | .code (.cond c a b)::k=>match XmV env c with
       | some (.bool x)=>br x (K ⟨⟨fn,nt,env,.code a::k,defers,false,round⟩,up,h,top⟩) (K ⟨⟨fn,nt,env,.code b::k,defers,false,round⟩,up,h,top⟩)
       | _=>False
     | .code (.block id b)::k=>K ⟨⟨fn,nt,env,.code b::.inBlock id::k,defers,false,round⟩,up,h,top⟩
     | .code (.loop b)::k=>cond lp (L ⟨⟨fn,nt,env,.code b::.inLoop b::k,defers,false,round⟩,up,h,top⟩) (K ⟨⟨fn,nt,env,.code b::.inLoop b::k,defers,false,round⟩,up,h,top⟩)
     | .inLoop b::k=>cond lp (L ⟨⟨fn,nt,env,.code b::.inLoop b::k,defers,false,round⟩,up,h,top⟩) (K ⟨⟨fn,nt,env,.code b::.inLoop b::k,defers,false,round⟩,up,h,top⟩)
     | .code (.exit id)::k=>match exitTo id k with
       | some k'=>K ⟨⟨fn,nt,env,k',defers,false,round⟩,up,h,top⟩
       | none=>match round with
         | none=>False
         | some l=>Xil l (some (.exit id)) up h top K
     | .code (.reg ops)::k=>K ⟨⟨fn,nt,env,.inReg ops::k,defers,false,round⟩,up,h,top⟩
     | .code .stuck::_=>False
     | .code (.regD ops ord post)::k=>Xu7 S nt ops env h top fun fps e h m=>req (XmQ fps ord) (K ⟨⟨fn,nt,e,.inReg post::k,defers,false,round⟩,up,h,m⟩)
     | .inReg []::k=>K ⟨⟨fn,nt,env,k,defers,false,round⟩,up,h,top⟩
     | .inReg (⟨dst,op,none⟩::rest)::k=>XjU F S ⟨dst,op,none⟩ rest k fn nt env defers round up h top K
     | .inReg (⟨dst,op,some (d,w)⟩::rest)::k=>match XaP env d with
       | some (.bool b)=>cond w
          (br b (XnP env d true fun env=>XjU F S ⟨dst,op,some (d,w)⟩ rest k fn nt env defers round up h top K) (XnP env d false fun env=>Xqg nt env dst Xid fun e=>K ⟨⟨fn,nt,e,.inReg rest::k,defers,false,round⟩,up,h,top⟩))
          (br b (XnP env d true fun env=>Xqg nt env dst Xid fun e=>K ⟨⟨fn,nt,e,.inReg rest::k,defers,false,round⟩,up,h,top⟩) (XnP env d false fun env=>XjU F S ⟨dst,op,some (d,w)⟩ rest k fn nt env defers round up h top K))
       | some (.tuple ⟨[]⟩)=>Xqg nt env dst Xid fun e=>K ⟨⟨fn,nt,e,.inReg rest::k,defers,false,round⟩,up,h,top⟩
       | _=>False
     | .code (.rangeF f ps asg body)::k=>match XmV env f,round with
       | some (.func (.func g) ⟨first⟩ ⟨caps⟩),none=>
         Xok F g (first++[.func (.yield (top+1)) #[] #[]]++caps) fun c=>XpM h top .marks fun h1=>XpM h1 (top+1) (.loop ⟨.ready,none,fn,nt,env,ps,asg,body,top⟩) fun h2=>
          K ⟨c,⟨fn,nt,env,.inRangeFunc (top+1)::k,top::defers,false,none⟩::up,h2,top+2⟩
       | some (.func (.func g) ⟨first⟩ ⟨caps⟩),some l0=>match XaP h l0 with
         | some (.loop r0)=>Xok F g (first++[.func (.yield top) #[] #[]]++caps) fun c=>XpM h top (.loop ⟨.ready,none,fn,nt,env,ps,asg,body,r0.defers⟩) fun h2=>
            K ⟨c,⟨fn,nt,env,.inRangeFunc top::k,defers,false,some l0⟩::up,h2,top+1⟩
         | _=>False
       | _,_=>False
     | .inRangeFunc _::_=>False
     | .endRangeFunc l::k=>match XaP h l with
       | some (.loop ⟨st,pend,fn',nt',env',ps,asg,body,ds⟩)=>match st with
         | .busy=>False
         | _=>XpM h l (.loop ⟨.exhausted,pend,fn',nt',env',ps,asg,body,ds⟩) fun h'=>match pend with
           | some c=>K ⟨⟨fn,nt,env,.code c::k,defers,false,round⟩,up,h',top⟩
           | none=>K ⟨⟨fn,nt,env,k,defers,false,round⟩,up,h',top⟩
       | _=>False
     | .beginRound::k=>match round with
       | some l=>match XaP h l with
         | some (.loop ⟨st,pend,fn',nt',env',ps,asg,body,ds⟩)=>match st with
           | .ready=>XpM h l (.loop ⟨.busy,pend,fn',nt',env',ps,asg,body,ds⟩) fun h'=>K ⟨⟨fn,nt,env,k,defers,false,some l⟩,up,h',top⟩
           | _=>False
         | _=>False
       | none=>False
section
variable {P:Program} {F:Fns} {S:XlK}
theorem XwW (hF:XkP P F) (hS:XaF P S) {f base:Nat} {lp:Bool} {R:Value→Hp→Nat→Prop} {K:VM→Prop} (hK:∀ vm,K vm→XaU P f base vm R) {vm:VM}
 (h:XyH F S f lp (fun vm=>XaU P f base vm R) R K vm):XaU P f base vm R:=by
 obtain ⟨⟨fn,nt,env,todo,defers,ret,round⟩,up,H,top⟩:=vm
 unfold XyH at h
 simp only at h
 have go:∀ vm',Xdv F S ⟨⟨fn,nt,env,todo,defers,ret,round⟩,up,H,top⟩=some vm'→K vm'→XaU P f base ⟨⟨fn,nt,env,todo,defers,ret,round⟩,up,H,top⟩ R:=
  fun vm' h1 h2=>XaU.next hF hS h1 (hK _ h2)
 split at h
 ·split at h
  ·split at h
   ·rename_i hm
    rw [Xme] at h
    exact go _ (by simp only [Xdv,hm]) h
   ·exact h.elim
  ·split at h
   ·rename_i nt' b' rs hf
    obtain ⟨vs,h1,h2⟩:=h.elim
    split at h2
    ·rw [XhN] at h2
     obtain ⟨u',h3,h4⟩:=h2.elim
     exact go _ (by simp only [Xdv,hf,h1,h3]) h4
    ·cases hb:Nat.beq fn f with
     | false=>rw [hb] at h2;exact h2.elim
     | true=>
       rw [hb,cond_true,XhN] at h2
       have:=Nat.eq_of_beq_eq_true hb
       subst this
       exact XaU.stop hF hf h1 h2
   ·exact h.elim
 ·split at h
  ·split at h
   ·exact go _ (by simp only [Xdv]) h
   ·obtain ⟨vm',h1,h2⟩:=h.elim
    exact go _ (by simp only [Xdv,h1]) h2
  ·split at h
   ·exact go _ (by simp only [Xdv]) h
   ·obtain ⟨vm',h1,h2⟩:=h.elim
    exact go _ (by simp only [Xdv,h1]) h2
  ·exact go _ (by simp only [Xdv]) h
  ·exact go _ (by simp only [Xdv]) h
  ·exact go _ (by simp only [Xdv]) h
  ·exact go _ (by simp only [Xdv]) h
  ·exact go _ (by simp only [Xdv]) h
  ·split at h
   ·rename_i x hx
    rcases h.cases with ⟨rfl,h⟩|⟨rfl,h⟩
    ·exact go _ (by simp only [Xdv,hx];rfl) h
    ·exact go _ (by simp only [Xdv,hx];rfl) h
   ·exact h.elim
  ·exact go _ (by simp only [Xdv]) h
  ·cases lp
   ·exact go _ (by simp only [Xdv]) h
   ·exact XaU.next hF hS (vm':=_) (by simp only [Xdv]) h
  ·cases lp
   ·exact go _ (by simp only [Xdv]) h
   ·exact XaU.next hF hS (vm':=_) (by simp only [Xdv]) h
  ·split at h
   ·rename_i k' hk'
    exact go _ (by simp only [Xdv,hk']) h
   ·rename_i hk'
    split at h
    ·exact h.elim
    ·obtain ⟨vm',h1,h2⟩:=h.elim
     exact go _ (by simp only [Xdv,hk',h1]) h2
  ·exact go _ (by simp only [Xdv]) h
  ·exact h.elim
  ·obtain ⟨fps,e',h',m',g1,g2⟩:=h.elim
   obtain ⟨g3,g4⟩:=g2.elim
   exact go _ (by simp only [Xdv,g1,g3]) g4
  ·exact go _ (by simp only [Xdv]) h
  ·obtain ⟨vm',h1,h2⟩:=XjU.elim (todo:=_) h
   exact go _ (by simp only [Xdv,Xep];exact h1) h2
  ·split at h
   ·rename_i b hb
    rename_i w _ _ _
    cases w
    ·rcases h.cases with ⟨rfl,h'⟩|⟨rfl,h'⟩<;>rw [Xmx hb] at h'
     ·rw [Xim] at h'
      replace h:=h'
      exact go _ (by simp only [Xdv,Xep,hb];rfl) h
     ·obtain ⟨vm',h1,h2⟩:=XjU.elim (todo:=_) h'
      exact go _ (by simp only [Xdv,Xep,hb];exact h1) h2
    ·rcases h.cases with ⟨rfl,h'⟩|⟨rfl,h'⟩<;>rw [Xmx hb] at h'
     ·obtain ⟨vm',h1,h2⟩:=XjU.elim (todo:=_) h'
      exact go _ (by simp only [Xdv,Xep,hb];exact h1) h2
     ·rw [Xim] at h'
      replace h:=h'
      exact go _ (by simp only [Xdv,Xep,hb];rfl) h
   ·rename_i hb
    rw [Xim] at h
    exact go _ (by simp only [Xdv,Xep,hb]) h
   ·exact h.elim
  ·split at h
   ·rename_i hfv
    obtain ⟨c,h1,h2⟩:=h.elim
    rw [Xjj,Xjj] at h2
    exact go _ (by simp only [Xdv,hfv,h1]) h2
   ·rename_i hfv
    split at h
    ·rename_i r0 hr0
     obtain ⟨c,h1,h2⟩:=h.elim
     rw [Xjj] at h2
     exact go _ (by simp only [Xdv,hfv,hr0,h1]) h2
    ·exact h.elim
   ·exact h.elim
  ·exact h.elim
  ·split at h
   ·rename_i hl
    split at h
    ·exact h.elim
    ·rename_i hb
     rw [Xjj] at h
     split at h
     ·rename_i st _ _ _ _ _ _ _ _ _ _
      exact go _ (by simp only [Xdv,hl];cases st<;>first|exact absurd rfl hb|rfl) h
     ·rename_i st _ _ _ _ _ _ _ _ _
      exact go _ (by simp only [Xdv,hl];cases st<;>first|exact absurd rfl hb|rfl) h
   ·exact h.elim
  ·split at h
   ·split at h
    ·rename_i hl
     split at h
     ·rw [Xjj] at h
      exact go _ (by simp only [Xdv,hl]) h
     ·exact h.elim
    ·exact h.elim
   ·exact h.elim
def ev (F:Fns) (S:XlK) (f:Nat) (lp:Bool) (L:VM→Prop) (E:Value→Hp→Nat→Prop):Nat→VM→Prop
 | 0,vm=>L vm
 | n+1,vm=>XyH F S f lp L E (ev F S f lp L E n) vm
theorem Xa4 (hF:XkP P F) (hS:XaF P S) {f base:Nat} (lp:Bool) {R:Value→Hp→Nat→Prop}:∀ (n:Nat) {vm:VM},ev F S f lp (fun vm=>XaU P f base vm R) R n vm→XaU P f base vm R
 | 0,_,h=>h
 | n+1,_,h=>XwW hF hS (fun _ h=>Xa4 hF hS lp n h) h
end
end Go.Vm
namespace Go.Vm
open Go
def XIy (P:Program):List (Nat×VFn)→Prop
 | []=>True
 | (i,vf)::l=>(P.funcs[i]?).bind (Xc4 P)=some vf∧XIy P l
theorem XkP.Xba {P:Program}:∀ {l:List (Nat×VFn)},XIy P l→XkP P (XaP l)
 | [],_,f,vf,h=>by simp [XaP] at h
 | (i,v)::l,hl,f,vf,h=>by
   obtain ⟨h1,h2⟩:=hl
   simp only [XaP] at h
   cases hb:Nat.beq i f with
   | true=>
     rw [hb,cond_true,Option.some.injEq] at h
     subst h
     have:=Nat.eq_of_beq_eq_true hb
     subst this
     cases hf:P.funcs[i]? with
     | none=>simp [hf] at h1
     | some fn=>rw [hf,Option.bind_some] at h1;exact ⟨fn,rfl,h1⟩
   | false=>
     rw [hb,cond_false] at h
     exact XkP.Xba h2 f vf h
theorem XaF.none {P:Program}:XaF P (fun _=>none):=fun _ _ h=>by cases h
end Go.Vm
namespace Go.Vm
open Go
def subE (e:Env):Env→Prop
 | []=>True
 | (i,v)::l=>XaP e i=some v∧subE e l
theorem Xug {e:Env}:∀ {l:Env},subE e l→∀ i v,XaP l i=some v→XaP e i=some v
 | [],_,i,v,h=>by simp [XaP] at h
 | (j,u)::l,h,i,v,hv=>by
   obtain ⟨h1,h2⟩:=h
   simp only [XaP] at hv
   cases hb:Nat.beq j i with
   | true=>
     rw [hb,cond_true,Option.some.injEq] at hv
     subst hv
     have:=Nat.eq_of_beq_eq_true hb;subst this
     exact h1
   | false=>
     rw [hb,cond_false] at hv
     exact Xug h2 i v hv
theorem XaU.env {P:Program} {f base fn nt:Nat} {e e':Env} {todo:List XgR} {defers:List Nat} {ret:Bool} {round:Option Nat} {up:List Xbr} {H:Hp} {top:Nat} {R:Value→Hp→Nat→Prop}
 (h:XaU P f base ⟨⟨fn,nt,e',todo,defers,ret,round⟩,up,H,top⟩ R) (hs:subE e e'):XaU P f base ⟨⟨fn,nt,e,todo,defers,ret,round⟩,up,H,top⟩ R:=by
 refine ⟨fun w0 U ρ rf rfs w cs hr=>?_⟩
 exact h.get w0 U ρ rf rfs w cs ⟨{ hr.cur with env:=fun i v hv=>hr.cur.env i v (Xug hs i v hv) },hr.up,hr.heap⟩
end Go.Vm
namespace Go.Vm
open Go Go.RowKit
inductive XFR where
 | v (x:Value)
 | sl (n:Nat) (cs:List Value)
def entry (k:Nat):List Md→List XFR→List Value
 | .v::ms,.v x::aqs=>x::entry k ms aqs
 | .sl sz::ms,.sl n _::aqs=>.slice (some ⟨k,0,none⟩) n sz::entry (k+1) ms aqs
 | _,_=>[]
def rowsOf (k:Nat):List XFR→Hp
 | .sl _ cs::aqs=>(k,.row false cs)::rowsOf (k+1) aqs
 | .v _::aqs=>rowsOf k aqs
 | []=>[]
def wins:List XFR→Nat
 | .sl _ _::aqs=>wins aqs+1
 | .v _::aqs=>wins aqs
 | []=>0
def XJH (w:World):Md→XFR→Value→Prop
 | .v,.v x,rv=>Xa8 x=true∧rv=x
 | .sl sz,.sl n cs,rv=>((∃ a,rv=.slice a 0 0)∧n=0∧cs=[])∨∃ b o c,rv=.slice (some ⟨b,o,none⟩) n c∧n≤c∧∀ ρ,Xbh ρ w ⟨b,o,c*sz⟩ false cs
 | _,_,_=>False
inductive XwG (w:World):List Md→List XFR→List Value→Prop
 | nil:XwG w [] [] []
 | cons {m ms a aqs v vs} (h:XJH w m a v) (t:XwG w ms aqs vs):XwG w (m::ms) (a::aqs) (v::vs)
theorem Xyf {k n:Nat} {ρc:Ren} {vs rvs:List Value} {Hr:Hp} {w:World} (c1:∀ i l,ρc i=some l→k+1≤i∧i<k+1+n) (c2:VRL ρc vs rvs)
 (c3:∀ i o,XaP Hr i=some o→∃ cs l,o=.row false cs∧ρc i=some l∧∀ ρ',Xbh ρ' w l false cs) (l:Loc) (cs:List Value) (hc:∀ ρ',Xbh ρ' w l false cs) :
 (∀ i l',upd ρc k l i=some l'→k≤i∧i<k+1+n)∧VRL (upd ρc k l) vs rvs ∧
   (∀ i o,XaP ((k,.row false cs)::Hr) i=some o→∃ cs l',o=.row false cs∧upd ρc k l i=some l'∧∀ ρ',Xbh ρ' w l' false cs)∧upd ρc k l k=some l:=by
 have hoff:ρc k=none:=by
  cases e:ρc k with
  | none=>rfl
  | some l=>have:=(c1 k l e).1;omega
 refine ⟨fun i l' e=>?_,c2.mono (Ext.upd hoff),fun i o e=>?_,upd_same _ _ _⟩
 ·by_cases hi:k=i
  ·subst hi;omega
  ·rw [upd_ne _ _ hi] at e;have:=c1 i l' e;omega
 ·rw [Xk3] at e
  split at e
  ·rename_i hk
   cases e;subst hk
   exact ⟨cs,l,rfl,upd_same _ _ _,hc⟩
  ·rename_i hk
   obtain ⟨cs',l',a,b,c⟩:=c3 i o e
   exact ⟨cs',l',a,by rw [upd_ne _ _ hk];exact b,c⟩
theorem XnV {w:World}:∀ {ms:List Md} {aqs:List XFR} {rvals:List Value} (k:Nat),XwG w ms aqs rvals →
 ∃ ρc:Ren,(∀ i l,ρc i=some l→k≤i∧i<k+wins aqs)∧VRL ρc (entry k ms aqs) rvals ∧
  (∀ i o,XaP (rowsOf k aqs) i=some o→∃ cs l,o=.row false cs∧ρc i=some l∧∀ ρ',Xbh ρ' w l false cs)
 | _,_,_,k,.nil=>⟨fun _=>none,fun i l e=>by simp at e,.nil,fun i o e=>by simp [rowsOf,XaP] at e⟩
 | _,_,_,k,.cons (m:=m) (a:=a) (v:=v) h t=>by
   cases m with
   | v=>
     cases a with
     | v x=>
       obtain ⟨hf,rfl⟩:=h
       obtain ⟨ρc,c1,c2,c3⟩:=XnV k t
       exact ⟨ρc,c1,.cons (VR.flat _ _ hf) c2,c3⟩
     | _=>exact h.elim
   | sl sz=>
     cases a with
     | sl n cs=>
       obtain ⟨ρc,c1,c2,c3⟩:=XnV (k+1) t
       rcases h with ⟨⟨a,rfl⟩,rfl,rfl⟩|⟨b,o,c,rfl,hn,hc⟩
       ·obtain ⟨d1,d2,d3,d4⟩:=Xyf c1 c2 c3 ⟨0,0,0⟩ [] (fun ρ'=>⟨Nat.zero_le _,fun i v e=>by simp at e,fun i hi=>absurd hi (Nat.not_lt_zero _)⟩)
        exact ⟨_,by simpa [wins,Nat.add_assoc,Nat.add_comm 1] using d1,.cons (.slice0 _) d2,d3⟩
       ·obtain ⟨d1,d2,d3,d4⟩:=Xyf c1 c2 c3 ⟨b,o,c*sz⟩ cs hc
        exact ⟨_,by simpa [wins,Nat.add_assoc,Nat.add_comm 1] using d1,.cons (.slice d4 hn (by simp)) d2,d3⟩
     | _=>exact h.elim
   | pt n=>cases a<;>exact h.elim
   | tr ps=>cases a<;>exact h.elim
theorem XAj {P:Program} {F:Fns} (hF:XkP P F) {f:Nat} {ms:List Md} {aqs:List XFR} {rvals:List Value} {w:World} {c:Xbr} {r:Bool}
 (ha:XwG w ms aqs rvals) (hc:Xjp F f (entry 0 ms aqs)=some c) (hl:XaU P f (wins aqs) ⟨c,[],rowsOf 0 aqs,wins aqs⟩ (fun v _ _=>v=.bool r)) :
 Calls P f ⟨rvals⟩ w fun e w'=>e=.returned (.bool r)∧Below w.heap.size w w':=by
 intro cs
 obtain ⟨ρc,c1,c2,c3⟩:=XnV 0 ha
 have hpc:HpR P w UG.no ρc (rowsOf 0 aqs) (wins aqs) w:=
  { obj:=fun i o e=>by obtain ⟨cs',l,rfl,a,b⟩:=c3 i o e;exact ⟨l,a,b ρc,fun e=>by cases e⟩
    dis:=fun i j oi oj li lj _ hi _ _ _ hw=>by obtain ⟨cs',l,rfl,a,b⟩:=c3 i oi hi;cases hw
    lt:=fun i l e=>by have:=c1 i l e;exact .inr ⟨Nat.zero_le _,by omega⟩
    keep:=Keep.refl _ _ }
 obtain ⟨ρ',rv,fr',w',v',Hc,tc,g1,g2,g3,g4,g5,g6,g7⟩:=hl.get w _ ρc _ [] w cs ⟨(XjV hF hc c2).1,.nil,hpc⟩
 subst g7
 obtain rfl:=g4.XyR
 exact ⟨.returned (.bool r),w',fr',⟨rfl,g5.keep.toBelow⟩,g1,g2,g3⟩
end Go.Vm
namespace Go.Vm
open Go
def XCQ (P:Program):List (Nat×XcS)→Prop
 | []=>True
 | (i,s)::l=>XeH P i s∧XCQ P l
theorem XaF.Xba {P:Program}:∀ {l:List (Nat×XcS)},XCQ P l→XaF P (XaP l)
 | [],_,f,s,h=>by simp [XaP] at h
 | (i,v)::l,hl,f,s,h=>by
   obtain ⟨h1,h2⟩:=hl
   simp only [XaP] at h
   cases hb:Nat.beq i f with
   | true=>
     rw [hb,cond_true,Option.some.injEq] at h
     subst h
     have:=Nat.eq_of_beq_eq_true hb
     subst this
     exact h1
   | false=>
     rw [hb,cond_false] at h
     exact XaF.Xba h2 f s h
theorem XdI.intro {s:XcS} {vals:List Value} {h:Hp} {top:Nat} {K:Value→Hp→Nat→Prop} {v:Value} {h':Hp} {top':Nat} (e:XiT s vals h top=some (v,h',top')) (k:Xii v fun v=>K v h' top'):XdI s vals h top K:=by
 refine ⟨?_⟩;rw [e];simp only [XhN,Xol] at *;exact k
def unL {α:Type} (f:Value→Option α):List Value→Option (List α)
 | []=>some []
 | v::l=>match f v with
   | some x=>match unL f l with
     | some xs=>some (x::xs)
     | none=>none
   | none=>none
theorem Xzu {α:Type} {f:Value→Option α} {g:α→Value} (h:∀ x,f (g x)=some x):∀ (xs:List α),unL f (xs.map g)=some xs
 | []=>rfl
 | x::xs=>by rw [List.map_cons,unL,h,Xzu h xs]
theorem Xup {α:Type} {f:Value→Option α} {g:α→Value} (h:∀ v x,f v=some x→v=g x):∀ {cs:List Value} {xs:List α},unL f cs=some xs→cs=xs.map g
 | [],xs,e=>by simp only [unL,Option.some.injEq] at e;subst e;rfl
 | v::cs,xs,e=>by
   simp only [unL] at e
   split at e<;>try (cases e;done)
   rename_i x hx
   split at e<;>cases e
   rename_i ys hys
   rw [List.map_cons,←h v x hx,←Xup h hys]
theorem Xma {α:Type} {g:α→Value} (h:∀ x,Xa8 (g x)=true):∀ (xs:List α),Xa8.flatL (xs.map g)=true
 | []=>rfl
 | x::xs=>by rw [List.map_cons,Xa8.flatL,h,Xma h xs];rfl
def asB:Value→Option Bool|.bool b=>some b|_=>none
theorem Xqv (v:Value) (x:Bool) (h:asB v=some x):v=.bool x:=by cases v<;>simp [asB] at h;subst h;rfl
def asI (k:IntKind):Value→Option Int|.int k' n=>if k'=k then some n else none|_=>none
theorem Xrd (k:IntKind) (v:Value) (x:Int) (h:asI k v=some x):v=.int k x:=by
 cases v<;>simp [asI] at h
 obtain ⟨rfl,rfl⟩:=h;rfl
def reE (m:Nat→Option Nat) (e:Env):Env→Prop
 | []=>True
 | (i,v)::l=>(∃ v',Xe5 m v=some v'∧XaP e i=some v')∧reE m e l
theorem XrM {m:Nat→Option Nat} {e:Env}:∀ {l:Env},reE m e l→XGY m e l
 | [],_=>trivial
 | (i,v)::l,⟨⟨v',h1,h2⟩,h3⟩=>⟨by rw [h1];exact h2,XrM h3⟩
def reH (m:Nat→Option Nat) (H:Hp):Hp→Prop
 | []=>True
 | (i,o')::l=>(∃ j o,m i=some j∧XaP H j=some o∧Xo5 m o o')∧reH m H l
theorem XyJ {m:Nat→Option Nat} {H:Hp}:∀ {l:Hp},reH m H l→HSub m H l
 | [],_,i,o,h=>by simp [XaP] at h
 | (k,x)::l,⟨h1,h2⟩,i,o,h=>by
   rw [Xk3] at h
   split at h
   ·rename_i e;cases h;subst e;exact h1
   ·exact XyJ h2 i o h
def reU (m:Nat→Option Nat):List Xbr→List Xbr→Prop
 | [],[]=>True
 | ⟨fn,nt,e,td,ds,ret,rd⟩::l,⟨fn',nt',e',td',ds',ret',rd'⟩::l'=>(fn'=fn∧nt'=nt∧ret'=ret∧rd=none∧rd'=none∧reE m e e'∧XAf m td'=some td∧XAh m ds'=some ds)∧reU m l l'
 | _,_=>False
theorem Xwf {m:Nat→Option Nat}:∀ {l l':List Xbr},reU m l l'→Xk5 (FSub m) l l'
 | [],[],_=>.nil
 | ⟨_,_,_,_,_,_,_⟩::l,⟨_,_,_,_,_,_,_⟩::l',⟨⟨h1,h2,h3,h4,h5,h6,h7,h8⟩,h9⟩=>.cons ⟨h1,h2,XrM h6,h7,h8,h3,by simp only;rw [h4,h5];trivial⟩ (Xwf h9)
 | [],_::_,h=>h.elim
 | _::_,[],h=>h.elim
def Xpz (j:Nat):List (Nat×Nat)→Bool
 | []=>true
 | (_,k)::l=>cond (Nat.beq j k) false (Xpz j l)
def XzA (base top':Nat):List (Nat×Nat)→Bool
 | m=>injM m&&ltM m&&fixM m base
where
 injM:List (Nat×Nat)→Bool
  | []=>true
  | (_,j)::l=>Xpz j l&&injM l
 ltM:List (Nat×Nat)→Bool
  | []=>true
  | (i,_)::l=>Nat.blt i top'&&ltM l
 fixM (m:List (Nat×Nat)):Nat→Bool
  | 0=>true
  | n+1=>(match XaP m n with|some j=>Nat.beq j n|none=>false)&&fixM m n
theorem XkX {j:Nat}:∀ {l:List (Nat×Nat)},Xpz j l=true→∀ i,XaP l i≠some j
 | [],_,i,h=>by simp [XaP] at h
 | (a,k)::l,hv,i,h=>by
   simp only [Xpz] at hv
   cases hb:Nat.beq j k with
   | true=>rw [hb] at hv;cases hv
   | false=>
     rw [hb,cond_false] at hv
     rw [Xk3] at h
     split at h
     ·cases h;simp at hb
     ·exact XkX hv i h
theorem XqQ {top':Nat}:∀ {l:List (Nat×Nat)},XzA.injM l=true→∀ i j k,XaP l i=some k→XaP l j=some k→i=j
 | [],_,i,j,k,h,_=>by simp [XaP] at h
 | (a,b)::l,hv,i,j,k,h1,h2=>by
   simp only [XzA.injM,Bool.and_eq_true] at hv
   rw [Xk3] at h1 h2
   split at h1<;>split at h2
   ·omega
   ·cases h1;exact absurd h2 (XkX hv.1 j)
   ·cases h2;exact absurd h1 (XkX hv.1 i)
   ·exact XqQ (top':=top') hv.2 i j k h1 h2
theorem Xuh {top':Nat}:∀ {l:List (Nat×Nat)},XzA.ltM top' l=true→∀ i j,XaP l i=some j→i<top'
 | [],_,i,j,h=>by simp [XaP] at h
 | (a,b)::l,hv,i,j,h=>by
   simp only [XzA.ltM,Bool.and_eq_true] at hv
   rw [Xk3] at h
   split at h
   ·rename_i e;subst e;exact Nat.blt_eq.mp hv.1
   ·exact Xuh hv.2 i j h
theorem XqM {m:List (Nat×Nat)}:∀ {n:Nat},XzA.fixM m n=true→∀ i,i<n→XaP m i=some i
 | 0,_,i,h=>absurd h (Nat.not_lt_zero _)
 | n+1,hv,i,h=>by
   simp only [XzA.fixM,Bool.and_eq_true] at hv
   by_cases hi:i=n
   ·subst hi
    have:=hv.1
    split at this
    ·rename_i j hj;rw [hj,Nat.eq_of_beq_eq_true this]
    ·cases this
   ·exact XqM hv.2 i (by omega)
theorem XaU.re {P:Program} {f base fn nt:Nat} {e e':Env} {todo todo':List XgR} {ds ds':List Nat} {ret:Bool} {up up':List Xbr} {H H':Hp} {top top':Nat} {R:Value→Hp→Nat→Prop}
 (h:XaU P f base ⟨⟨fn,nt,e',todo',ds',ret,none⟩,up',H',top'⟩ R) (m:List (Nat×Nat)) (hc:XzA base top' m=true) (he:reE (XaP m) e e') (hH:reH (XaP m) H H')
 (ht:XAf (XaP m) todo'=some todo:=by rfl) (hd:XAh (XaP m) ds'=some ds:=by rfl) (hu:reU (XaP m) up up':=by trivial) :
 XaU P f base ⟨⟨fn,nt,e,todo,ds,ret,none⟩,up,H,top⟩ R:=by
 simp only [XzA,Bool.and_eq_true] at hc
 refine XaU.sub (s:=XaP m) ?_ h
 exact ⟨⟨rfl,rfl,XrM he,ht,hd,rfl,trivial⟩,Xwf hu,XyJ hH,XqQ (top':=top') hc.1.1,Xuh hc.1.2,XqM hc.2⟩
end Go.Vm
namespace Go.Vm
open Go Go.RowKit Go.WideShapes
def XnZ (g:TypeId→Option (List SK)) (P:Program) (o:Nat):List Field→Option (List SK)
 | []=>some []
 | f::fs=>if f.offset=o then match g f.type with
   | some a=>if a.length=P.cellsOf f.type then match XnZ g P (o+a.length) fs with
     | some b=>some (a++b)
     | none=>none
     else none
   | none=>none
   else none
def Xvt (P:Program):Nat→TypeId→Option (List SK)
 | 0,_=>none
 | n+1,t=>match P.underlying t with
   | some .bool=>some [.bool]
   | some (.int k)=>some [.int k]
   | some .string=>some [.str]
   | some (.struct fs)=>match XnZ (Xvt P n) P 0 fs.toList with
     | some ks=>if ks.length=P.cellsOf t then some ks else none
     | none=>none
   | _=>none
def Xnt:SK→Value→Prop
 | .bool,v=>∃ b,v=.bool b
 | .int k,v=>∃ n,v=.int k n∧(Lit.int k n).wf=true
 | .str,v=>∃ s,v=.string s∧s.size≤maxLen
 | .oth,_=>False
def XdE:List SK→List Value→Prop
 | [],[]=>True
 | k::ks,v::vs=>Xnt k v∧XdE ks vs
 | _,_=>False
theorem XdE.append:∀ {a b:List SK} {x y:List Value},XdE a x→XdE b y→XdE (a++b) (x++y)
 | [],_,[],_,_,k=>k
 | [],_,_::_,_,h,_=>h.elim
 | _::_,_,[],_,h,_=>h.elim
 | _::_,_,_::_,_,h,k=>⟨h.1,XdE.append h.2 k⟩
theorem XdE.length:∀ {a:List SK} {x:List Value},XdE a x→x.length=a.length
 | [],[],_=>rfl
 | [],_::_,h=>h.elim
 | _::_,[],h=>h.elim
 | _::_,_::_,h=>by simp [XdE.length h.2]
theorem XdE.inv {k:SK} {ks:List SK} {cs:List Value} (h:XdE (k::ks) cs):∃ v vs,cs=v::vs∧Xnt k v∧XdE ks vs:=by
 cases cs with
 | nil=>exact h.elim
 | cons v vs=>exact ⟨v,vs,rfl,h⟩
theorem XdE.inv0 {cs:List Value} (h:XdE [] cs):cs=[]:=by
 cases cs with
 | nil=>rfl
 | cons=>exact h.elim
section
variable {H:Type} {enc:TypeId×Value→H} {P:Program} {w:World} {base:Nat} {spare:Nat→Bool} {held:Bool}
theorem XoS {g:TypeId→Option (List SK)} {F:TypeId→List Value→Prop} (hg:∀ t ks cs,g t=some ks→F t cs→XdE ks cs) {cs:List Value} :
 ∀ {fs:List Field} {o:Nat} {ks:List SK},XnZ g P o fs=some ks→(∀ f∈fs,F f.type ((cs.drop f.offset).take (P.cellsOf f.type)))→XdE ks ((cs.drop o).take ks.length)
 | [],o,ks,h,_=>by simp only [XnZ,Option.some.injEq] at h;subst h;simp [XdE]
 | f::fs,o,ks,h,hm=>by
   simp only [XnZ] at h
   split at h<;>try (cases h;done)
   rename_i ho
   split at h<;>try (cases h;done)
   rename_i a ha
   split at h<;>try (cases h;done)
   rename_i hl
   split at h<;>cases h
   rename_i b hb
   have h1:=hg f.type a _ ha (hm f (by simp))
   have h2:=XoS hg hb (fun f' hf=>hm f' (by simp [hf]))
   have h3:=h1.append h2
   rw [ho,←hl] at h3
   rw [List.length_append,List.take_add,List.drop_drop]
   exact h3
theorem Xob:∀ {n:Nat} {t:TypeId} {ks:List SK} {fuel:Nat} {cs:List Value} {x:DataW H×List MemPlace},Xvt P n t=some ks→DataW.trod enc P w base spare held fuel t cs=some x→XdE ks cs
 | 0,t,ks,fuel,cs,x,h,_=>by simp [Xvt] at h
 | n+1,t,ks,fuel,cs,x,h,hd=>by
   simp only [Xvt] at h
   split at h
   ·rename_i ht
    cases h
    obtain ⟨b,rfl,_⟩:=DataW.trod_bool ht hd
    exact ⟨⟨_,rfl⟩,trivial⟩
   ·rename_i k ht
    cases h
    obtain ⟨b,rfl,_,hw⟩:=DataW.trod_int ht hd
    exact ⟨⟨_,rfl,hw⟩,trivial⟩
   ·rename_i ht
    cases h
    obtain ⟨b,rfl,_,hw⟩:=DataW.trod_string ht hd
    exact ⟨⟨_,rfl,hw⟩,trivial⟩
   ·rename_i fs ht
    split at h<;>try (cases h;done)
    rename_i ks' hks
    split at h<;>cases h
    rename_i hlen
    obtain ⟨xs,m,_,_,hcl,hxl,hf⟩:=DataW.trod_struct ht hd
    have:=XoS (P:=P) (cs:=cs) (F:=fun t cs=>∃ x,DataW.trod enc P w base spare held m t cs=some x) (fun t ks cs h1 ⟨x,h2⟩=>Xob h1 h2) hks (fun f hfm=>by
     obtain ⟨i,hi⟩:=List.getElem?_of_mem hfm
     rw [Array.getElem?_toList] at hi
     have hlt:i<xs.length:=by rw [hxl];exact (Array.getElem?_eq_some_iff.1 hi).1
     exact ⟨xs[i],by rw [hf i f hi,List.getElem?_eq_getElem hlt]⟩)
    rw [List.drop_zero,List.take_of_length_le (by omega)] at this
    exact this
   ·cases h
theorem XI3 {r:Reach} {b0 n:Nat} {t:TypeId} {ks:List SK} {v:Value} {d:DataW H} {ps:List MemPlace} (hk:Xvt P n t=some ks) (hval:Value.okWide P w r b0 t v) (hd:DataW.Trod enc P w base spare held t v d ps) :
 XdE ks (Xa2 v)∧((XeM P t=true∧v=.agg ⟨Xa2 v⟩)∨XeM P t=false):=by
 obtain ⟨fuel,hf⟩:=hd
 refine ⟨Xob hk hf,?_⟩
 unfold Value.okWide at hval
 unfold XeM
 split at hval
 ·rename_i hu;rw [hu]
  obtain ⟨cs,rfl,_⟩:=hval
  exact .inl ⟨rfl,rfl⟩
 ·rename_i hu;rw [hu]
  obtain ⟨cs,rfl,_⟩:=hval
  exact .inl ⟨rfl,rfl⟩
 ·rename_i h1 h2
  right
  split
  ·rename_i hu;exact absurd hu (h1 _)
  ·rename_i hu;exact absurd hu (h2 _ _)
  ·rfl
def RowR (w:World) (k:SK) (a:Option Addr) (len cap:Nat) (zs:List Value):Prop:=
 (a=none∧len=0∧cap=0∧zs=[])∨∃ x,a=some x∧len≤cap∧cap≤maxLen∧zs.length=cap∧∀ (i:Nat) v,zs[i]?=some v→w.cell? (x.add i)=some v∧Xnt k v
theorem Xnt.flat {k:SK} {v:Value} (h:Xnt k v):Xa8 v=true:=by
 cases k with
 | bool=>obtain ⟨b,rfl⟩:=h;rfl
 | int k=>obtain ⟨b,rfl,_⟩:=h;rfl
 | str=>obtain ⟨b,rfl,_⟩:=h;rfl
 | oth=>exact h.elim
theorem XJH.row {k:SK} {w:World} {a:Option Addr} {len cap:Nat} {zs:List Value} (h:RowR w k a len cap zs):XJH w (.sl 1) (.sl len (zs.take len)) (.slice a len cap)∧(zs.take len).length=len∧(∀ v∈zs.take len,Xnt k v)∧len≤maxLen:=by
 rcases h with ⟨rfl,rfl,rfl,rfl⟩|⟨x,rfl,hl,hm,hz,hc⟩
 ·exact ⟨.inl ⟨⟨_,rfl⟩,rfl,rfl⟩,rfl,fun v hv=>by simp at hv,by simp [maxLen]⟩
 ·have hleaf:∀ v∈zs.take len,Xnt k v:=fun v hv=>by
   obtain ⟨i,hi⟩:=List.getElem?_of_mem (List.mem_of_mem_take hv)
   exact (hc i v hi).2
  refine ⟨?_,by simp;omega,hleaf,by omega⟩
  rcases Nat.eq_zero_or_pos cap with h0|h0
  ·subst h0
   obtain rfl:len=0:=by omega
   exact .inl ⟨⟨_,rfl⟩,rfl,by simp⟩
  ·have hs:x.spot=none:=by
    have:=(hc 0 zs[0] (List.getElem?_eq_getElem (by omega))).1
    cases hx:x.spot with
    | none=>rfl
    | some q=>
      simp only [Addr.add,↓reduceIte,World.cell?] at this
      split at this
      ·simp [hx] at this
      ·cases this
   obtain ⟨b,o,q⟩:=x
   simp only at hs
   subst hs
   have hadd:∀ i,(⟨b,o,none⟩:Addr).add i=⟨b,o+i,none⟩:=fun i=>by
    unfold Addr.add;split
    ·rename_i e;subst e;rfl
    ·rfl
   refine .inr ⟨b,o,cap,rfl,hl,fun ρ=>⟨by simp;omega,fun i v e=>?_,fun i hi=>?_⟩⟩
   ·have hi:i<len:=by
     rcases Nat.lt_or_ge i len with h|h
     ·exact h
     ·rw [List.getElem?_eq_none (by simp;omega)] at e;cases e
    rw [List.getElem?_take_of_lt hi] at e
    obtain ⟨h1,h2⟩:=hc i v e
    rw [hadd] at h1
    exact ⟨v,h1,VR.flat ρ v h2.flat⟩
   ·have hi':i<zs.length:=by simp at hi;omega
    obtain ⟨h1,_⟩:=hc i zs[i] (List.getElem?_eq_getElem hi')
    rw [hadd] at h1
    exact ⟨by simp [h1],fun e=>by cases e⟩
end
theorem wf_u64 {n:Int} (h:(Lit.int .u64 n).wf=true):0≤n∧n<18446744073709551616:=by simp [Lit.wf,IntKind.min,IntKind.max,IntKind.signed,IntKind.bits] at h;omega
end Go.Vm
namespace Go.Vm
open Go Go.RowKit
abbrev wI (k:IntKind) (n:Int):Int:=IntKind.wrap k n
abbrev Xwb (k:IntKind) (a b:Int):Int:=IntKind.wrap k (BitVec.ofInt k.bits a &&& BitVec.ofInt k.bits b).toNat
abbrev Xrn (k:IntKind) (a b:Int):Int:=IntKind.wrap k (BitVec.ofInt k.bits a ||| BitVec.ofInt k.bits b).toNat
abbrev XdH (k:IntKind) (a b:Int):Int:=IntKind.wrap k (BitVec.ofInt k.bits a ^^^ BitVec.ofInt k.bits b).toNat
def XaQ {α:Type} (b:Bool) (x:Option α):Option α:=match b with|true=>x|false=>none
theorem XaQ.elim {α:Type} {b:Bool} {x:Option α} {r:α} (h:XaQ b x=some r):b=true∧x=some r:=by cases b;cases h;exact ⟨rfl,h⟩
theorem XaQ.mk {α:Type} {b:Bool} {x:Option α} (h:b=true):XaQ b x=x:=by subst h;rfl
theorem Xbu.elim {α β:Type} {x:Option α} {F:α→Option β} {r:β} (h:x.bind F=some r):∃ a,x=some a∧F a=some r:=by cases x with|none=>cases h|some a=>exact ⟨a,rfl,h⟩
def FUEL:Nat:=2^64
def iter {σ ρ:Type} (f:σ→Option (Sum σ ρ)):Nat→σ→Option ρ
 | 0,_=>none
 | n+1,s=>match f s with
   | none=>none
   | some (.inl s')=>iter f n s'
   | some (.inr r)=>some r
theorem XaO {σ ρ:Type} {P:Program} {f base:Nat} {R:Value→Hp→Nat→Prop} {step:σ→Option (Sum σ ρ)} {head:σ→VM} {C:ρ→Prop}
 (h:∀ s o,step s=some o→Sum.elim (fun s'=>XaU P f base (head s') R) C o→XaU P f base (head s) R) :
 ∀ {n:Nat} {s:σ} {r:ρ},iter step n s=some r→C r→XaU P f base (head s) R:=by
 intro n
 induction n with
 | zero=>intro _ _ e;cases e
 | succ n ih=>
   intro s r e hc
   rw [iter] at e
   split at e
   ·cases e
   ·rename_i s' hs
    exact h s _ hs (ih e hc)
   ·rename_i r' hs
    cases e
    exact h s _ hs hc
def vI (k:IntKind) (xs:List Int):List Value:=xs.map (Value.int k)
def vB (xs:List Bool):List Value:=xs.map Value.bool
def vS (xs:List (List UInt8)):List Value:=xs.map fun s=>Value.string ⟨⟨s⟩⟩
def bI (l:List UInt8):List Int:=l.map fun b=>(b.toNat:Int)
@[simp] theorem vI_len (k:IntKind) (xs:List Int):(vI k xs).length=xs.length:=List.length_map _
@[simp] theorem vB_len (xs:List Bool):(vB xs).length=xs.length:=List.length_map _
@[simp] theorem vS_len (xs:List (List UInt8)):(vS xs).length=xs.length:=List.length_map _
@[simp] theorem bI_len (l:List UInt8):(bI l).length=l.length:=List.length_map _
theorem Xih (k:IntKind) (xs:List Int):Xa8.flatL (vI k xs)=true:=Xma (fun _=>rfl) xs
theorem Xkg (xs:List Bool):Xa8.flatL (vB xs)=true:=Xma (fun _=>rfl) xs
theorem Xkm (xs:List (List UInt8)):Xa8.flatL (vS xs)=true:=Xma (fun _=>rfl) xs
theorem Xgz (k:IntKind):∀ (xs:List Int),(vI k xs).all Xjf=true
 | []=>rfl
 | _::xs=>by simp only [vI,List.map_cons,List.all_cons,Xjf,Bool.true_and];exact Xgz k xs
theorem XiI:∀ (xs:List Bool),(vB xs).all Xjf=true
 | []=>rfl
 | _::xs=>by simp only [vB,List.map_cons,List.all_cons,Xjf,Bool.true_and];exact XiI xs
theorem XiM:∀ (xs:List (List UInt8)),(vS xs).all Xjf=true
 | []=>rfl
 | _::xs=>by simp only [vS,List.map_cons,List.all_cons,Xjf,Bool.true_and];exact XiM xs
theorem XhA (l:List UInt8):ofBytes l=vI .u8 (bI l):=by simp [ofBytes,vI,bI,List.map_map]
theorem XJz (k:IntKind) (xs:List Int) (i:Nat) (x:Int):(vI k xs).set i (.int k x)=vI k (xs.set i x):=by simp [vI,List.map_set]
theorem XHs (xs:List Bool) (i:Nat) (x:Bool):(vB xs).set i (.bool x)=vB (xs.set i x):=by simp [vB,List.map_set]
theorem XG6 (xs:List (List UInt8)) (i:Nat) (x:List UInt8):(vS xs).set i (.string ⟨⟨x⟩⟩)=vS (xs.set i x):=by simp [vS,List.map_set]
theorem XjJ (k:IntKind) (xs:List Int) (n:Nat):(vI k xs).drop n=vI k (xs.drop n):=by simp [vI,List.map_drop]
theorem XjZ (k:IntKind) (xs:List Int) (n:Nat):(vI k xs).take n=vI k (xs.take n):=by simp [vI,List.map_take]
theorem XDW (xs:List Bool) (n:Nat):(vB xs).drop n=vB (xs.drop n):=by simp [vB,List.map_drop]
theorem XFM (xs:List Bool) (n:Nat):(vB xs).take n=vB (xs.take n):=by simp [vB,List.map_take]
theorem XjX (xs:List (List UInt8)) (n:Nat):(vS xs).drop n=vS (xs.drop n):=by simp [vS,List.map_drop]
theorem XjO (xs:List (List UInt8)) (n:Nat):(vS xs).take n=vS (xs.take n):=by simp [vS,List.map_take]
theorem br.h {α:Type} {b b':Bool} {X Y:Option α} {r:α} {p q:Prop} (h:cond b' X Y=some r) (e:b=b') (k1:b'=true→X=some r→p) (k2:b'=false→Y=some r→q):br b p q:=by
 subst e;cases b;exact k2 rfl h;exact k1 rfl h
theorem rd.I {k:IntKind} {xs:List Int} {o i:Nat} {x:Int} {K:Value→Prop} (hx:xs[i]?=some x) (e:o=i) (h:Xii (.int k x) K):rd (vI k xs) o K:=by
 subst e;exact rd.intro (v:=.int k x) (by simp [vI,hx]) h
theorem rd.B {xs:List Bool} {o i:Nat} {x:Bool} {K:Value→Prop} (hx:xs[i]?=some x) (e:o=i) (h:Xii (.bool x) K):rd (vB xs) o K:=by
 subst e;exact rd.intro (v:=.bool x) (by simp [vB,hx]) h
theorem rd.S {xs:List (List UInt8)} {o i:Nat} {x:List UInt8} {K:Value→Prop} (hx:xs[i]?=some x) (e:o=i) (h:Xii (.string ⟨⟨x⟩⟩) K):rd (vS xs) o K:=by
 subst e;exact rd.intro (v:=.string ⟨⟨x⟩⟩) (by simp [vS,hx]) h
theorem XFs {k:IntKind} {xs:List Int} {o i:Nat} {x:Int} (hb:decide (i<xs.length)=true) (e:o=i):(decide ((Xa2 (.int k x)).length=1∧o+1≤(vI k xs).length)&&(Xa2 (.int k x)).all Xjf)=true:=by
 subst e;have:=of_decide_eq_true hb;simp [Xa2,Value.cells,Xjf];omega
theorem XGH {xs:List Bool} {o i:Nat} {x:Bool} (hb:decide (i<xs.length)=true) (e:o=i):(decide ((Xa2 (.bool x)).length=1∧o+1≤(vB xs).length)&&(Xa2 (.bool x)).all Xjf)=true:=by
 subst e;have:=of_decide_eq_true hb;simp [Xa2,Value.cells,Xjf];omega
theorem XFz {xs:List (List UInt8)} {o i:Nat} {x:List UInt8} (hb:decide (i<xs.length)=true) (e:o=i):(decide ((Xa2 (.string ⟨⟨x⟩⟩)).length=1∧o+1≤(vS xs).length)&&(Xa2 (.string ⟨⟨x⟩⟩)).all Xjf)=true:=by
 subst e;have:=of_decide_eq_true hb;simp [Xa2,Value.cells,Xjf];omega
theorem XIj {k:IntKind} {xs:List Int} {o i:Nat} {x:Int} {K:List Value→Prop} (e:o=i) (h:K (vI k (xs.set i x))):∃ cs',setAt (vI k xs) o (Xa2 (.int k x))=cs'∧K cs':=
 ⟨_,by subst e;exact XJz k xs o x,h⟩
theorem XJx {xs:List Bool} {o i:Nat} {x:Bool} {K:List Value→Prop} (e:o=i) (h:K (vB (xs.set i x))):∃ cs',setAt (vB xs) o (Xa2 (.bool x))=cs'∧K cs':=
 ⟨_,by subst e;exact XHs xs o x,h⟩
theorem XJh {xs:List (List UInt8)} {o i:Nat} {x:List UInt8} {K:List Value→Prop} (e:o=i) (h:K (vS (xs.set i x))):∃ cs',setAt (vS xs) o (Xa2 (.string ⟨⟨x⟩⟩))=cs'∧K cs':=
 ⟨_,by subst e;exact XG6 xs o x,h⟩
theorem XmE {k:IntKind} {n:Nat} {z:Int} {K:List Value→Prop} (h:K (vI k (List.replicate n z))):∃ cs',(List.replicate n [Value.int k z]).flatten=cs'∧K cs':=
 ⟨_,by simp [vI,List.flatten_replicate_singleton],h⟩
theorem XIs {l:List UInt8} {K:List Value→Prop} (h:K (vI .u8 (bI l))):∃ cs',ofBytes l=cs'∧K cs':=⟨_,XhA l,h⟩
def vT {α:Type} (f:α→List Value) (xs:List α):List Value:=xs.flatMap f
section
variable {α:Type} {f:α→List Value} {c:Nat}
theorem Xm8 (hf:∀ x,(f x).length=c) (xs:List α):(vT f xs).length=xs.length*c:=by
 induction xs with
 | nil=>simp [vT]
 | cons x xs ih=>
   have:vT f (x::xs)=f x++vT f xs:=rfl
   rw [this,List.length_append,hf,ih,List.length_cons,Nat.succ_mul];omega
theorem Xkd (hf:∀ x,Xa8.flatL (f x)=true) (xs:List α):Xa8.flatL (vT f xs)=true:=by
 have app:∀ a b:List Value,Xa8.flatL a=true→Xa8.flatL b=true→Xa8.flatL (a++b)=true:=by
  intro a b ha hb
  induction a with
  | nil=>exact hb
  | cons v a ih=>simp only [Xa8.flatL,Bool.and_eq_true,List.cons_append] at ha ⊢;exact ⟨ha.1,ih ha.2⟩
 induction xs with
 | nil=>rfl
 | cons x xs ih=>exact app _ _ (hf x) ih
theorem XiU (hf:∀ x,(f x).all Xjf=true) (xs:List α):(vT f xs).all Xjf=true:=by
 induction xs with
 | nil=>rfl
 | cons x xs ih=>have:vT f (x::xs)=f x++vT f xs:=rfl;rw [this,List.all_append,hf,ih];rfl
theorem XCX (xs ys:List α):vT f xs++vT f ys=vT f (xs++ys):=by simp [vT]
theorem XsD (hf:∀ x,(f x).length=c) (xs:List α) (n:Nat):(vT f xs).drop (n*c)=vT f (xs.drop n):=by
 induction xs generalizing n with
 | nil=>simp [vT]
 | cons x xs ih=>
   cases n with
   | zero=>simp
   | succ n=>
     have:vT f (x::xs)=f x++vT f xs:=rfl
     rw [this,List.drop_succ_cons,Nat.succ_mul,Nat.add_comm,List.drop_append,hf,List.drop_eq_nil_of_le (by rw [hf];omega),List.nil_append,show c+n*c - c=n*c by omega,ih]
theorem Xtu (hf:∀ x,(f x).length=c) (xs:List α) (n:Nat):(vT f xs).take (n*c)=vT f (xs.take n):=by
 induction xs generalizing n with
 | nil=>simp [vT]
 | cons x xs ih=>
   cases n with
   | zero=>simp [vT]
   | succ n=>
     have:vT f (x::xs)=f x++vT f xs:=rfl
     have h2:vT f ((x::xs).take (n+1))=f x++vT f (xs.take n):=rfl
     rw [this,h2,Nat.succ_mul,Nat.add_comm,List.take_append,hf,List.take_of_length_le (by rw [hf];omega),show c+n*c - c=n*c by omega,ih]
theorem Xw0 (hf:∀ x,(f x).length=c) {xs:List α} {i j:Nat} {x:α} (hx:xs[i]?=some x) (hj:j<c):(vT f xs)[i*c+j]?=(f x)[j]?:=by
 induction xs generalizing i with
 | nil=>simp at hx
 | cons y xs ih=>
   have:vT f (y::xs)=f y++vT f xs:=rfl
   rw [this]
   cases i with
   | zero=>
     simp at hx;subst hx
     rw [Nat.zero_mul,Nat.zero_add,List.getElem?_append_left (by rw [hf];exact hj)]
   | succ i=>
     rw [List.getElem?_append_right (by rw [hf,Nat.succ_mul];omega),hf,show (i+1)*c+j - c=i*c+j by rw [Nat.succ_mul];omega]
     exact ih (by simpa using hx)
theorem rd.T (hf:∀ x,(f x).length=c) {xs:List α} {o i j:Nat} {x:α} {v:Value} {K:Value→Prop} (hx:xs[i]?=some x) (e:o=i*c+j) (hj:j<c) (hv:(f x)[j]?=some v) (h:Xii v K):rd (vT f xs) o K:=by
 subst e;exact rd.intro (by rw [Xw0 hf hx hj];exact hv) h
theorem rd.U (hf:∀ x,(f x).length=c) {xs:List α} {o i j:Nat} {x:α} {v:Value} {K:Value→Prop} (hx:xs[i]?=some x) (h:Xii v K) (e:o=i*c+j:=by first|omega|exact Nat.zero_add _|exact congrArg (·+_) (Nat.zero_add _)) (hj:j<c:=by decide) (hv:(f x)[j]?=some v:=by exact rfl):rd (vT f xs) o K:=rd.T hf hx e hj hv h
theorem XDr {cs:List Value}:∀ {l:List Value} {o:Nat} {K:List Value→Prop},(∀ (j:Nat) v,l[j]?=some v→cs[o+j]?=some v)→K l→rdN cs o l.length K
 | [],o,K,_,h=>h
 | v::l,o,K,hc,h=>by
   rw [List.length_cons,rdN]
   refine rd.intro (by simpa using hc 0 v rfl) ?_
   rw [XhN]
   exact XDr (l:=l) (fun j u hj=>by rw [show o+1+j=o+(j+1) by omega];exact hc (j+1) u (by simpa using hj)) h
theorem XAi (hf:∀ x,(f x).length=c) {xs:List α} {o i n:Nat} {x:α} {K:List Value→Prop} (hx:xs[i]?=some x) (e:o=i*c) (hn:n=c) (h:Xmj (f x) K):req (decide (o+n≤(vT f xs).length)) (rdN (vT f xs) o n K):=by
 subst e hn
 have hlt:i<xs.length:=(List.getElem?_eq_some_iff.1 hx).1
 refine req.intro ?_ ?_
 ·rw [Xm8 hf,decide_eq_true_eq]
  have:=Nat.mul_le_mul_right n (show i+1≤xs.length by omega)
  rw [Nat.succ_mul] at this;exact this
 ·rw [XjH] at h
  have:=XDr (cs:=vT f xs) (l:=f x) (o:=i*n) (K:=K) (fun j v hj=>by
   have hj':j<n:=by rw [←hf x];exact (List.getElem?_eq_some_iff.1 hj).1
   rw [Xw0 hf hx hj'];exact hj) h
  rwa [hf] at this
theorem Xk4 {new:List Value} {m:Nat} {ys:List α} {K:List Value→Nat→Prop} (e:new=vT f ys) (em:m=ys.length) (h:K (vT f ys) ys.length):∃ cs' n',new=cs'∧m=n'∧K cs' n':=⟨_,_,e,em,h⟩
theorem Xnd (hf:∀ x,(f x).length=c) {new:List Value} {xs:List α} {o k n m:Nat} {ys:List α} {K:List Value→Nat→Prop} (e:new=vT f ys) (h0:o=0) (hc:k=xs.length*c) (hn:n+m=(xs++ys).length) (h:K (vT f (xs++ys)) (xs++ys).length) :
 ∃ cs' n',((vT f xs).drop o).take k++new=cs'∧n+m=n'∧K cs' n':=
 ⟨_,_,by subst h0;rw [List.drop_zero,List.take_of_length_le (by rw [Xm8 hf,hc];omega),e,XCX],hn,h⟩
def unT (sz:Nat) (un:List Value→Option α):Nat→List Value→Option (List α)
 | 0,[]=>some []
 | 0,_::_=>none
 | _+1,[]=>some []
 | n+1,v::cs=>match un ((v::cs).take sz) with
   | some x=>match unT sz un n ((v::cs).drop sz) with
     | some xs=>some (x::xs)
     | none=>none
   | none=>none
theorem XCZ {un:List Value→Option α} (hf:∀ x,(f x).length=c) (h0:0<c) (hu:∀ x,un (f x)=some x):∀ (xs:List α) (n:Nat),xs.length≤n→unT c un n (vT f xs)=some xs
 | [],0,_=>rfl
 | [],n+1,_=>rfl
 | x::xs,0,h=>by simp at h
 | x::xs,n+1,h=>by
   have e:vT f (x::xs)=f x++vT f xs:=rfl
   obtain ⟨v,l,hv⟩:∃ v l,vT f (x::xs)=v::l:=by
    cases hx:f x with
    | nil=>have:=hf x;rw [hx] at this;simp at this;omega
    | cons v l=>exact ⟨v,l++vT f xs,by rw [e,hx];rfl⟩
   rw [hv,unT,←hv,e,List.take_append_of_le_length (by rw [hf];exact Nat.le_refl _),List.take_of_length_le (by rw [hf];exact Nat.le_refl _),hu,List.drop_append,hf,List.drop_eq_nil_of_le (by rw [hf];exact Nat.le_refl _),Nat.sub_self,List.drop_zero,List.nil_append,XCZ hf h0 hu xs n (by simpa using h)]
theorem Xwe {un:List Value→Option α} (hu:∀ cs x,un cs=some x→cs=f x):∀ {n:Nat} {cs:List Value} {xs:List α},unT c un n cs=some xs→cs=vT f xs
 | 0,[],xs,h=>by simp only [unT,Option.some.injEq] at h;subst h;rfl
 | 0,_::_,xs,h=>by simp [unT] at h
 | n+1,[],xs,h=>by simp only [unT,Option.some.injEq] at h;subst h;rfl
 | n+1,v::cs,xs,h=>by
   simp only [unT] at h
   split at h<;>try (cases h;done)
   rename_i x hx
   split at h<;>cases h
   rename_i ys hys
   have e1:=hu _ _ hx
   have e2:=Xwe hu hys
   have:vT f (x::ys)=f x++vT f ys:=rfl
   rw [this,←e1,←e2,List.take_append_drop]
def unR (sz:Nat) (un:List Value→Option α) (cs:List Value):Option (List α):=unT sz un cs.length cs
theorem Xw7 {un:List Value→Option α} (hf:∀ x,(f x).length=c) (h0:0<c) (hu:∀ x,un (f x)=some x) (xs:List α):unR c un (vT f xs)=some xs:=
 XCZ hf h0 hu xs _ (by rw [Xm8 hf];exact Nat.le_mul_of_pos_right _ h0)
end
theorem XnX {s:XcS} {vals aqs:List Value} {os:List (Option Xbj)} {h h1 h2:Hp} {top n m t':Nat} {ws:List Wd} {r:Xdu} {v':Value} (e1:XdB h 0 s.modes vals=some (aqs,os)) (ew:Xj7 h s.modes vals=ws) {cw:List (Option (List Value))} (ec:XiR os=cw) (e2:s.run aqs cw=some r) (e3:apartB ws=true)
 (hn:r.new.length=n) (hm:Xle ws=m) (ht:top+n+m=t') (e4:Xdt h (Xto top n ws) ws r.wr=some h1) (e5:Xjb h1 (Xto top n ws) top r.new=some h2) (e6:Xe5 (Xto top n ws) r.v=some v'):XiT s vals h top=some (v',Xjh h2 (top+n) m,t'):=by
 subst hn hm ht ec
 simp only [XiT,e1,e2,ew,e3,e4,e5,e6]
theorem XDR {h:Hp} {k:Nat}:XdB h k [] []=some ([],[]):=rfl
theorem XrQ {h:Hp} {k k':Nat} {m:Md} {ms:List Md} {v a:Value} {vs aqs:List Value} {os os':List (Option Xbj)} (e:Xde h k m v=some (a,os)) (hk:k+os.length=k') (t:XdB h k' ms vs=some (aqs,os')):XdB h k (m::ms) (v::vs)=some (a::aqs,os++os'):=by
 subst hk
 simp only [XdB,e,t]
theorem XCy {h:Hp} {k b o n m sz sz':Nat} {ob:Xbj} {cs cs':List Value} (ho:XaP h b=some ob) (hc:ob.cs=some cs) (hs:sz=sz') (en:n=m) (hle:o+n*sz≤cs.length) (e:(cs.drop o).take (n*sz)=cs') (hf:Xa8.flatL cs'=true) :
 Xde h k (.sl sz) (.slice (some ⟨b,o,none⟩) n sz')=some (.slice (some ⟨k,0,none⟩) m sz,[some (.row false cs')]):=by
 subst hs en e
 simp only [Xde,ho,hc,hle,hf,↓reduceIte]
theorem Xzb {h:Hp} {b o n i m sz kk:Nat} {k:IntKind} {own:Bool} {xs:List Int} (ho:XaP h b=some (.row own (vI k xs))) (hs:sz=1) (e0:o=i) (en:n=m) (hle:i+m≤xs.length):Xde h kk (.sl 1) (.slice (some ⟨b,o,none⟩) n sz)=some (.slice (some ⟨kk,0,none⟩) m 1,[some (.row false (vI k ((xs.drop i).take m)))]):=by
 subst hs e0 en
 exact XCy ho rfl rfl rfl (by simp;omega) (by rw [XjJ,XjZ,Nat.mul_one]) (Xih _ _)
theorem XDl {h:Hp} {b o n i m sz kk:Nat} {own:Bool} {xs:List (List UInt8)} (ho:XaP h b=some (.row own (vS xs))) (hs:sz=1) (e0:o=i) (en:n=m) (hle:i+m≤xs.length):Xde h kk (.sl 1) (.slice (some ⟨b,o,none⟩) n sz)=some (.slice (some ⟨kk,0,none⟩) m 1,[some (.row false (vS ((xs.drop i).take m)))]):=by
 subst hs e0 en
 exact XCy ho rfl rfl rfl (by simp;omega) (by rw [XjX,XjO,Nat.mul_one]) (Xkm _)
theorem XDD {h:Hp} {b o n i m sz kk:Nat} {own:Bool} {xs:List Bool} (ho:XaP h b=some (.row own (vB xs))) (hs:sz=1) (e0:o=i) (en:n=m) (hle:i+m≤xs.length):Xde h kk (.sl 1) (.slice (some ⟨b,o,none⟩) n sz)=some (.slice (some ⟨kk,0,none⟩) m 1,[some (.row false (vB ((xs.drop i).take m)))]):=by
 subst hs e0 en
 exact XCy ho rfl rfl rfl (by simp;omega) (by rw [XDW,XFM,Nat.mul_one]) (Xkg _)
theorem XEb {h:Hp} {b o n sz kk:Nat} {k:IntKind} {own:Bool} {xs:List Int} (ho:XaP h b=some (.row own (vI k xs))) (hs:sz=1) (e0:o=0) (en:n=xs.length):Xde h kk (.sl 1) (.slice (some ⟨b,o,none⟩) n sz)=some (.slice (some ⟨kk,0,none⟩) xs.length 1,[some (.row false (vI k xs))]):=by
 have:=Xzb (kk:=kk) (i:=0) (m:=xs.length) ho hs e0 en (by omega)
 simpa using this
theorem XFS {h:Hp} {b o n sz kk:Nat} {own:Bool} {xs:List (List UInt8)} (ho:XaP h b=some (.row own (vS xs))) (hs:sz=1) (e0:o=0) (en:n=xs.length):Xde h kk (.sl 1) (.slice (some ⟨b,o,none⟩) n sz)=some (.slice (some ⟨kk,0,none⟩) xs.length 1,[some (.row false (vS xs))]):=by
 have:=XDl (kk:=kk) (i:=0) (m:=xs.length) ho hs e0 en (by omega)
 simpa using this
theorem XD5 {h:Hp} {b o n sz kk:Nat} {own:Bool} {xs:List Bool} (ho:XaP h b=some (.row own (vB xs))) (hs:sz=1) (e0:o=0) (en:n=xs.length):Xde h kk (.sl 1) (.slice (some ⟨b,o,none⟩) n sz)=some (.slice (some ⟨kk,0,none⟩) xs.length 1,[some (.row false (vB xs))]):=by
 have:=XDD (kk:=kk) (i:=0) (m:=xs.length) ho hs e0 en (by omega)
 simpa using this
theorem XDA {α:Type} {f:α→List Value} {c:Nat} (hf:∀ x,(f x).length=c) (hfl:∀ x,Xa8.flatL (f x)=true) {h:Hp} {b o n i m sz kk:Nat} {own:Bool} {xs:List α} (ho:XaP h b=some (.row own (vT f xs))) (hs:sz=c) (e0:o=i*c) (en:n=m) (hle:i+m≤xs.length):Xde h kk (.sl c) (.slice (some ⟨b,o,none⟩) n sz)=some (.slice (some ⟨kk,0,none⟩) m c,[some (.row false (vT f ((xs.drop i).take m)))]):=by
 subst hs e0 en
 refine XCy ho rfl rfl rfl ?_ (by rw [XsD hf,Xtu hf]) (Xkd hfl _)
 rw [Xm8 hf,←Nat.add_mul];exact Nat.mul_le_mul_right _ hle
theorem XFa {α:Type} {f:α→List Value} {c:Nat} (hf:∀ x,(f x).length=c) (hfl:∀ x,Xa8.flatL (f x)=true) {h:Hp} {b o n sz kk:Nat} {own:Bool} {xs:List α} (ho:XaP h b=some (.row own (vT f xs))) (hs:sz=c) (e0:o=0) (en:n=xs.length):Xde h kk (.sl c) (.slice (some ⟨b,o,none⟩) n sz)=some (.slice (some ⟨kk,0,none⟩) xs.length c,[some (.row false (vT f xs))]):=by
 have:=XDA hf hfl (kk:=kk) (i:=0) (m:=xs.length) ho hs (by simpa using e0) en (by omega)
 simpa using this
theorem ra_tr {h:Hp} {k:Nat} {ps:List Path} {bs:List PR} {v v' w:Value} {l:List (Option Xbj)} (e0:Xgp h v ps []=bs) (e1:Xe5 (Xv9 k bs) v=some v') (e2:XgA h (Xv9 k bs) (fun s=>XlR k s ps bs) 0 ps bs=some l) (e3:Xua v' (XlR k none ps bs)=w):Xde h k (.tr ps) v=some (w,l):=by
 subst e0 e3
 simp only [Xde,e1,e2]
theorem XIt {h:Hp} {s:Nat→Option Nat} {pat:Option Nat→List (Nat×Value)} {i:Nat}:XgA h s pat i [] []=some []:=rfl
theorem vp_no {h:Hp} {s:Nat→Option Nat} {pat:Option Nat→List (Nat×Value)} {i:Nat} {p:Path} {ps:List Path} {bs:List PR} {l:List (Option Xbj)} (t:XgA h s pat (i+1) ps bs=some l):XgA h s pat i (p::ps) (.no::bs)=some (none::l):=by
 simp only [XgA,t]
theorem XHD {h:Hp} {s:Nat→Option Nat} {pat:Option Nat→List (Nat×Value)} {i z:Nat} {p:Path} {ps:List Path} {bs:List PR} {l:List (Option Xbj)} (t:XgA h s pat (i+1) ps bs=some l) (hk:Nat.beq p.kind 3=false:=by rfl):XgA h s pat i (p::ps) (.nil z::bs)=some (some (mkObj p.kind [])::l):=by
 simp only [XgA,t,hk,cond_false]
theorem vp_at {h:Hp} {s:Nat→Option Nat} {pat:Option Nat→List (Nat×Value)} {i b:Nat} {p:Path} {ps:List Path} {bs:List PR} {l:List (Option Xbj)} {ob:Xbj} {cs cs' cs'':List Value} (e1:XaP h b=some ob) (e2:(cond (isW p.kind) ob.wcs ob.cs)=some cs) (e3:Xe5.renL s cs=some cs') (e4:XqB cs' (pat (some i))=cs'')
 (t:XgA h s pat (i+1) ps bs=some l) (hk:Nat.beq p.kind 3=false:=by rfl):XgA h s pat i (p::ps) (.hit b::bs)=some (some (mkObj p.kind cs'')::l):=by
 subst e4
 simp only [XgA,XqR,e1,e2,e3,t,hk,cond_false]
theorem XI8 {h:Hp} {s:Nat→Option Nat} {pat:Option Nat→List (Nat×Value)} {i b:Nat} {p:Path} {ps:List Path} {bs:List PR} {l:List (Option Xbj)} {cs:List Value} (e1:XaP h b=some (.mp cs)) (hk:Nat.beq p.kind 3=true)
 (t:XgA h s pat (i+1) ps bs=some l):XgA h s pat i (p::ps) (.hit b::bs)=some (some (.mp cs)::l):=by
 simp only [XgA,XqR,e1,t,hk,cond_true,mapB]
def skipW:Wd→Bool
 | .no|.emp _|.win _ _ _ false|.blk _ false=>true
 | _=>false
theorem Xuq {h:Hp} {s:Nat→Option Nat}:Xdt h s [] []=some h:=rfl
theorem XEL {h h':Hp} {s:Nat→Option Nat} {x:Wd} {ws:List Wd} {c:Option (List Value)} {cs:List (Option (List Value))} (hx:skipW x=true) (t:Xdt h s ws cs=some h'):Xdt h s (x::ws) (c::cs)=some h':=by
 cases x with
 | win b o n w=>cases w<;>first|(simp only [Xdt];exact t)|cases hx
 | blk b w=>cases w<;>first|(simp only [Xdt];exact t)|cases hx
 | _=>simp only [Xdt];exact t
theorem Xwg {h h':Hp} {s:Nat→Option Nat} {b off n:Nat} {ws:List Wd} {c c' x y:List Value} {cs:List (Option (List Value))} {ob ob':Xbj} (e1:XaP h b=some ob) (e2:ob.wcs=some x) (e3:Xe5.renL s c=some c') (e4:c'.length=n∧off+n≤x.length) (e5:setAt x off c'=y) (e6:ob.wr y=some ob') (t:Xdt (XhF h b ob') s ws cs=some h') (hm:mk3 c=none:=by rfl) :
 Xdt h s (.win b off n true::ws) (some c::cs)=some h':=by
 subst e5
 have e4':c'.length=n∧off+n≤x.length∧mk3 c=none:=⟨e4.1,e4.2,hm⟩
 simp only [Xdt,e1,e2,e3,e6,if_pos e4'];exact t
theorem XIF {h h':Hp} {s:Nat→Option Nat} {b:Nat} {ws:List Wd} {c c' x:List Value} {cs:List (Option (List Value))} {ob ob':Xbj} (e1:XaP h b=some ob) (e2:ob.wcs=some x) (e3:Xe5.renL s c=some c') (e6:ob.wr c'=some ob') (t:Xdt (XhF h b ob') s ws cs=some h') (hm:mk3 c=none:=by rfl) :
 Xdt h s (.blk b true::ws) (some c::cs)=some h':=by
 have:XDQ s ob c=some ob':=by
  unfold XDQ
  rw [hm]
  cases ob<;>first|(simp only [e2,e3];exact e6)|cases e2
 simp only [Xdt,e1,this];exact t
theorem XHw {h h':Hp} {s:Nat→Option Nat} {b:Nat} {ws:List Wd} {c0 c:List Value} {cs:List (Option (List Value))} (e1:XaP h b=some (.mp c0)) (t:Xdt (XhF h b (.mp c)) s ws cs=some h') :
 Xdt h s (.blk b true::ws) (some (.float .f64 0::c)::cs)=some h':=by
 simp only [Xdt,e1,XDQ,mk3];exact t
theorem XJw {h h':Hp} {s:Nat→Option Nat} {b:Nat} {ws:List Wd} {cs:List (Option (List Value))} (t:Xdt (XnD h b) s ws cs=some h'):Xdt h s (.blk b true::ws) (none::cs)=some h':=by
 simp only [Xdt];exact t
theorem Xuo {h:Hp} {s:Nat→Option Nat} {top:Nat}:Xjb h s top []=some h:=rfl
theorem XEB {h h':Hp} {s:Nat→Option Nat} {top:Nat} {c c':List Value} {cs:List (List Value)} (e:Xe5.renL s c=some c') (t:Xjb (XhF h top (.row true c')) s (top+1) cs=some h'):Xjb h s top (c::cs)=some h':=by
 simp only [Xjb,e];exact t
theorem Xjg {s:Nat→Option Nat} {k:IntKind} {xs:List Int}:Xe5.renL s (vI k xs)=some (vI k xs):=Xdm _ _ (Xih _ _)
theorem XAq {s:Nat→Option Nat} {xs:List Bool}:Xe5.renL s (vB xs)=some (vB xs):=Xdm _ _ (Xkg _)
theorem XBZ {s:Nat→Option Nat} {xs:List (List UInt8)}:Xe5.renL s (vS xs)=some (vS xs):=Xdm _ _ (Xkm _)
theorem XBJ {s:Nat→Option Nat} {α:Type} {f:α→List Value} (hfl:∀ x,Xa8.flatL (f x)=true) {xs:List α}:Xe5.renL s (vT f xs)=some (vT f xs):=Xdm _ _ (Xkd hfl _)
def XAe (n:Nat) (wr:List (Option (List Value))):List Nat→Prop
 | []=>True
 | j::js=>(n≤j∨wr[j]?=some none)∧XAe n wr js
theorem Xui {n:Nat} {wr:List (Option (List Value))}:∀ {js:List Nat},XAe n wr js→∀ j∈js,n≤j∨wr[j]?=some none
 | [],_,j,h=>by cases h
 | k::js,h,j,hj=>by
   rcases List.mem_cons.1 hj with rfl|hj
   ·exact h.1
   ·exact Xui h.2 j hj
theorem Res.of {n:Nat} {r:Xdu} {v':Value} {H':Hp} (js:List Nat) (e1:Xe5 (Xp9 js n) r.v=some v') (e2:XpV H' (Xp9 js n) js r.new) (e3:js.Nodup) (e4:XAe n r.wr js) (e5:Xuf H' (Xp9 js n) 0 r.wr):Res n r v' H':=
 ⟨⟨js,e1,e2,e3,Xui e4,e5⟩⟩
theorem XcV {H:Hp} {j:Nat} {c:List Value} (h:XaP H j=some (.row true c)):Has H j c:=.inl h
theorem Xhc {H:Hp} {j:Nat} {c:List Value} (h:XaP H j=some (.cells c)):Has H j c:=.inr (.inl h)
abbrev Dec:=List Value→List (Option (List Value))→Option Xdu
def dV {α:Type} (un:Value→Option α) (K:α→Dec):Dec:=fun vs cs=>match vs with
 | v::vs'=>match un v with
   | some x=>K x vs' cs
   | none=>none
 | []=>none
theorem Xbz {α:Type} {un:Value→Option α} {K:α→Dec} {v:Value} {vs:List Value} {cs:List (Option (List Value))} {x:α} (h:un v=some x):dV un K (v::vs) cs=K x vs cs:=by simp only [dV,h]
theorem dV.elim {α:Type} {un:Value→Option α} {K:α→Dec} {vs:List Value} {cs:List (Option (List Value))} {r:Xdu} (h:dV un K vs cs=some r):∃ v vs' x,vs=v::vs'∧un v=some x∧K x vs' cs=some r:=by
 unfold dV at h
 split at h<;>try (cases h;done)
 split at h<;>try (cases h;done)
 exact ⟨_,_,_,rfl,by assumption,h⟩
def dSl {α:Type} (k sz:Nat) (un:List Value→Option (List α)) (K:List α→Dec):Dec:=fun vs cs=>match vs,cs with
 | .slice (some ⟨k',0,none⟩) n sz'::vs',some c::cs'=>match un c with
   | some xs=>if k'=k∧sz'=sz∧n=xs.length then K xs vs' cs' else none
   | none=>none
 | _,_=>none
theorem XqO {α:Type} {k sz:Nat} {un:List Value→Option (List α)} {K:List α→Dec} {vs:List Value} {c:List Value} {cs:List (Option (List Value))} {xs:List α} (h:un c=some xs):dSl k sz un K (.slice (some ⟨k,0,none⟩) xs.length sz::vs) (some c::cs)=K xs vs cs:=by simp [dSl,h]
theorem dSl.elim {α:Type} {k sz:Nat} {un:List Value→Option (List α)} {K:List α→Dec} {vs:List Value} {cs:List (Option (List Value))} {r:Xdu} (h:dSl k sz un K vs cs=some r):∃ c vs' cs' xs,vs=.slice (some ⟨k,0,none⟩) xs.length sz::vs'∧cs=some c::cs'∧un c=some xs∧K xs vs' cs'=some r:=by
 unfold dSl at h
 split at h<;>try (cases h;done)
 split at h<;>try (cases h;done)
 split at h<;>try (cases h;done)
 rename_i hc
 obtain ⟨rfl,rfl,rfl⟩:=hc
 exact ⟨_,_,_,_,rfl,rfl,by assumption,h⟩
def dTr {α:Type} (n:Nat) (un:Value→List (Option (List Value))→Option α) (K:α→Dec):Dec:=fun vs cs=>match vs with
 | v::vs'=>match un v (cs.take n) with
   | some x=>K x vs' (cs.drop n)
   | none=>none
 | []=>none
theorem Xbn {α:Type} {n:Nat} {un:Value→List (Option (List Value))→Option α} {K:α→Dec} {v:Value} {vs:List Value} {cs cs1 cs2:List (Option (List Value))} {x:α} (h1:cs.take n=cs1) (h2:cs.drop n=cs2) (h:un v cs1=some x):dTr n un K (v::vs) cs=K x vs cs2:=by
 subst h1 h2;simp only [dTr,h]
theorem dTr.elim {α:Type} {n:Nat} {un:Value→List (Option (List Value))→Option α} {K:α→Dec} {vs:List Value} {cs:List (Option (List Value))} {r:Xdu} (h:dTr n un K vs cs=some r):∃ v vs' cs1 cs2 x,vs=v::vs'∧cs=cs1++cs2∧un v cs1=some x∧K x vs' cs2=some r:=by
 unfold dTr at h
 split at h<;>try (cases h;done)
 split at h<;>try (cases h;done)
 exact ⟨_,_,_,_,_,rfl,(List.take_append_drop n cs).symm,by assumption,h⟩
def dPt {α:Type} (k:Nat) (un:List Value→Option α) (K:α→Dec):Dec:=fun vs cs=>match vs,cs with
 | .pointer (some ⟨k',0,none⟩)::vs',some c::cs'=>match un c with
   | some x=>if k'=k then K x vs' cs' else none
   | none=>none
 | _,_=>none
theorem Xq9 {α:Type} {k:Nat} {un:List Value→Option α} {K:α→Dec} {vs:List Value} {c:List Value} {cs:List (Option (List Value))} {x:α} (h:un c=some x):dPt k un K (.pointer (some ⟨k,0,none⟩)::vs) (some c::cs)=K x vs cs:=by simp [dPt,h]
theorem dPt.elim {α:Type} {k:Nat} {un:List Value→Option α} {K:α→Dec} {vs:List Value} {cs:List (Option (List Value))} {r:Xdu} (h:dPt k un K vs cs=some r):∃ c vs' cs' x,vs=.pointer (some ⟨k,0,none⟩)::vs'∧cs=some c::cs'∧un c=some x∧K x vs' cs'=some r:=by
 unfold dPt at h
 split at h<;>try (cases h;done)
 split at h<;>try (cases h;done)
 split at h<;>try (cases h;done)
 rename_i hc
 subst hc
 exact ⟨_,_,_,_,rfl,rfl,by assumption,h⟩
def dNo:Nat→Dec→Dec
 | 0,K=>K
 | n+1,K=>fun vs cs=>match cs with
   | none::cs'=>dNo n K vs cs'
   | _=>none
theorem dNo.elim {K:Dec} {vs:List Value} {r:Xdu}:∀ {n:Nat} {cs:List (Option (List Value))},dNo n K vs cs=some r→∃ cs',cs=List.replicate n none++cs'∧K vs cs'=some r
 | 0,cs,h=>⟨cs,rfl,h⟩
 | n+1,cs,h=>by
   simp only [dNo] at h
   split at h<;>try (cases h;done)
   obtain ⟨cs',rfl,h2⟩:=dNo.elim h
   exact ⟨cs',rfl,h2⟩
def dNl (n:Nat) (K:Dec):Dec:=fun vs cs=>match vs with
 | .pointer none::vs'=>dNo n K vs' cs
 | _=>none
theorem dNl.elim {n:Nat} {K:Dec} {vs:List Value} {cs:List (Option (List Value))} {r:Xdu} (h:dNl n K vs cs=some r):∃ vs' cs',vs=.pointer none::vs'∧cs=List.replicate n none++cs'∧K vs' cs'=some r:=by
 unfold dNl at h
 split at h<;>try (cases h;done)
 obtain ⟨cs',rfl,h2⟩:=dNo.elim h
 exact ⟨_,cs',rfl,rfl,h2⟩
def XeC (r:Option Xdu):Dec:=fun vs cs=>match vs,cs with
 | [],[]=>r
 | _,_=>none
theorem XeC.elim {o:Option Xdu} {vs:List Value} {cs:List (Option (List Value))} {r:Xdu} (h:XeC o vs cs=some r):vs=[]∧cs=[]∧o=some r:=by
 unfold XeC at h
 split at h<;>try (cases h;done)
 exact ⟨rfl,rfl,h⟩
def orD (a b:Dec):Dec:=fun vs cs=>match a vs cs with
 | some r=>some r
 | none=>b vs cs
theorem orD.elim {a b:Dec} {vs:List Value} {cs:List (Option (List Value))} {r:Xdu} (h:orD a b vs cs=some r):a vs cs=some r∨b vs cs=some r:=by
 unfold orD at h
 split at h
 ·cases h;left;assumption
 ·exact .inr h
def ofG {α:Type} (o:Option α) (f:α→Xdu):Option Xdu:=match o with
 | some x=>some (f x)
 | none=>none
theorem Xbc {α:Type} {o:Option α} {f:α→Xdu} {x:α} (h:o=some x):ofG o f=some (f x):=by subst h;rfl
theorem ofG.elim {α:Type} {o:Option α} {f:α→Xdu} {r:Xdu} (h:ofG o f=some r):∃ x,o=some x∧f x=r:=by
 cases o with
 | none=>cases h
 | some x=>exact ⟨x,rfl,by cases h;rfl⟩
def asS:Value→Option (List UInt8)|.string s=>some s.data.toList|_=>none
theorem Xqw (v:Value) (x:List UInt8) (h:asS v=some x):v=.string ⟨⟨x⟩⟩:=by cases v<;>simp [asS] at h;subst h;rfl
theorem XdL (k:IntKind) (xs:List Int):unL (asI k) (vI k xs)=some xs:=Xzu (fun x=>by simp [asI]) xs
theorem XdK {k:IntKind} {cs:List Value} {xs:List Int} (h:unL (asI k) cs=some xs):cs=vI k xs:=Xup (Xrd k) h
theorem XDI {cs:List Value} {xs:List Bool} (h:unL asB cs=some xs):cs=vB xs:=Xup Xqv h
theorem XC0 {cs:List Value} {xs:List (List UInt8)} (h:unL asS cs=some xs):cs=vS xs:=Xup (g:=fun s=>Value.string ⟨⟨s⟩⟩) Xqw h
end Go.Vm
namespace Go.Vm
open Go Go.RowKit
def opsD (c:VC) (n:Nat):List Xdf:=match c with|.reg ops=>ops.drop n|.regD _ _ post=>post.drop n|_=>[]
end Go.Vm
namespace Go.Vm
open Go Go.RowKit
theorem st_I {k:IntKind} {xs:List Int} {o i:Nat} {x:Int} {K:List Value→Prop} (hb:decide (i<xs.length)=true) (e:o=i) (h:K (vI k (xs.set i x))) :
 req (decide ((Xa2 (.int k x)).length=1∧o+1≤(vI k xs).length)&&(Xa2 (.int k x)).all Xjf) (∃ cs',setAt (vI k xs) o (Xa2 (.int k x))=cs'∧K cs'):=req.intro (XFs hb e) (XIj e h)
theorem st_B {xs:List Bool} {o i:Nat} {x:Bool} {K:List Value→Prop} (hb:decide (i<xs.length)=true) (e:o=i) (h:K (vB (xs.set i x))) :
 req (decide ((Xa2 (.bool x)).length=1∧o+1≤(vB xs).length)&&(Xa2 (.bool x)).all Xjf) (∃ cs',setAt (vB xs) o (Xa2 (.bool x))=cs'∧K cs'):=req.intro (XGH hb e) (XJx e h)
theorem st_S {xs:List (List UInt8)} {o i:Nat} {x:List UInt8} {K:List Value→Prop} (hb:decide (i<xs.length)=true) (e:o=i) (h:K (vS (xs.set i x))) :
 req (decide ((Xa2 (.string ⟨⟨x⟩⟩)).length=1∧o+1≤(vS xs).length)&&(Xa2 (.string ⟨⟨x⟩⟩)).all Xjf) (∃ cs',setAt (vS xs) o (Xa2 (.string ⟨⟨x⟩⟩))=cs'∧K cs'):=req.intro (XFz hb e) (XJh e h)
end Go.Vm
namespace Go.Vm
theorem br.h2 {α:Type} {b b':Bool} {X Y:Option α} {r:α} {p q:Prop} (h:cond b' X Y=some r) (e:b=b') (k2:b'=false→Y=some r→q) (k1:b'=true→X=some r→p):br b p q:=br.h h e k1 k2
end Go.Vm
namespace Go.Vm
open Go Go.RowKit
theorem VR.ofNil {ρ:Ren} {s:Nat} {rv:Value} (h:VR ρ (.slice none 0 s) rv) (j sz:Nat):VR ρ (.slice (some ⟨j,0,none⟩) 0 sz) rv:=by
 cases h;exact .slice0 none
mutual
inductive Nv (j:Nat):Value→Value→Prop
 | same (v):Nv j v v
 | nil (s sz):Nv j (.slice none 0 s) (.slice (some ⟨j,0,none⟩) 0 sz)
 | tup {a b:List Value} (h:NvL j a b):Nv j (.tuple ⟨a⟩) (.tuple ⟨b⟩)
 | agg {a b:List Value} (h:NvL j a b):Nv j (.agg ⟨a⟩) (.agg ⟨b⟩)
inductive NvL (j:Nat):List Value→List Value→Prop
 | nil:NvL j [] []
 | cons {v v':Value} {l l':List Value} (h:Nv j v v') (t:NvL j l l'):NvL j (v::l) (v'::l')
end
mutual
theorem Nv.vr {j:Nat} {ρ:Ren}:∀ {v v':Value},Nv j v v'→∀ {rv:Value},VR ρ v rv→VR ρ v' rv
 | _,_,.same v,_,h=>h
 | _,_,.nil s sz,_,h=>VR.ofNil h _ _
 | _,_,.tup hl,_,h=>by cases h with|tuple ht=>exact .tuple (NvL.vr hl ht)
 | _,_,.agg hl,_,h=>by cases h with|agg ht=>exact .agg (NvL.vr hl ht)
theorem NvL.vr {j:Nat} {ρ:Ren}:∀ {l l':List Value},NvL j l l'→∀ {rl:List Value},VRL ρ l rl→VRL ρ l' rl
 | _,_,.nil,_,h=>h
 | _,_,.cons hv ht,_,h=>by cases h with|cons a b=>exact .cons (Nv.vr hv a) (NvL.vr ht b)
end
end Go.Vm
namespace Go.Vm
theorem Xnh {A B C D:Prop} [Decidable (A∧B∧C∧D)] {p q:Bool} (a:A) (b:B) (c:C) (d:D) (e:p=true) (g:q=true):(decide (A∧B∧C∧D)&&p&&q)=true:=by
 rw [decide_eq_true ⟨a,b,c,d⟩,e,g];rfl
theorem Xkc {A D:Prop} [Decidable (A∧D)] (a:A) (d:D):decide (A∧D)=true:=decide_eq_true ⟨a,d⟩
end Go.Vm
namespace Go.Vm
open Go Go.RowKit
def XsM (o:Xbj) (K:Xbj→Prop):Prop:=
 match o with
 | .cells cs=>Xmj cs fun cs=>K (.cells cs)
 | .row own cs=>Xmj cs fun cs=>K (.row own cs)
 | .ty t cs=>K (.ty t cs)
 | .siter s p=>K (.siter s p)
 | .mp cs=>K (.mp cs)
 | .loop l=>K (.loop l)
 | .marks=>K .marks
theorem Xu5 (o:Xbj) (K:Xbj→Prop):XsM o K=K o:=by
 cases o<;>simp only [XsM,XjH]
def XkY (bs:List Nat) (h:Hp) (K:Hp→Prop):Prop:=
 match h with
 | []=>K []
 | (i,o)::l=>cond (XDT i bs) (XsM o fun o=>XkY bs l fun l=>K ((i,o)::l)) (Xx0 o fun o=>XkY bs l fun l=>K ((i,o)::l))
theorem XmT (bs:List Nat):∀ (h:Hp) (K:Hp→Prop),XkY bs h K=K h
 | [],K=>rfl
 | (i,o)::l,K=>by
   rw [XkY]
   cases XDT i bs
   ·rw [cond_false,XqP,XmT bs l]
   ·rw [cond_true,Xu5,XmT bs l]
theorem XdI.Xx2 {s:XcS} {vals:List Value} {h:Hp} {top:Nat} {K:Value→Hp→Nat→Prop} {v:Value} {h':Hp} {top':Nat} (bs:List Nat) (e:XiT s vals h top=some (v,h',top')) (k:Xii v fun v=>XkY bs h' fun h'=>K v h' top'):XdI s vals h top K:=
 XdI.intro e (by simpa only [XhN,XmT] using k)
end Go.Vm
namespace Go.Vm
open Go Go.RowKit
inductive XFv:Value→Hp→Nat→Value→Hp→Nat→Prop
 | refl (v:Value) (H:Hp) (t:Nat):XFv v H t v H t
 | val {v v' v2:Value} {H H2:Hp} {t t2:Nat} (h:Nv t v v') (k:XFv v' (XhF H t (.row true [])) (t+1) v2 H2 t2):XFv v H t v2 H2 t2
 | cell {v v2:Value} {H H2:Hp} {t t2 s:Nat} (b i sz:Nat) {cs:List Value} (hb:XaP H b=some (.cells cs)) (hi:cs[i]?=some (.slice none 0 s)) (k:XFv v (XhF (XhF H b (.cells (cs.set i (.slice (some ⟨t,0,none⟩) 0 sz)))) t (.row true [])) (t+1) v2 H2 t2):XFv v H t v2 H2 t2
theorem XEV {P:Program} {w0:World} {U:UG} {ρ:Ren} {H:Hp} {top s:Nat} {w:World} (h:HpR P w0 U ρ H top w) {b i:Nat} (sz:Nat) {cs:List Value} (hb:XaP H b=some (.cells cs)) (hi:cs[i]?=some (.slice none 0 s)):HpR P w0 U ρ (XhF H b (.cells (cs.set i (.slice (some ⟨top,0,none⟩) 0 sz)))) top w:=
 { h with
   obj:=fun j o ho=>by
    rw [Xbb] at ho
    split at ho
    ·rename_i hj;subst hj;cases ho
     obtain ⟨l,hl,hc,hw⟩:=h.obj b _ hb
     refine ⟨l,hl,?_,fun _=>hw rfl⟩
     obtain ⟨g1,g2,g3⟩:=(hc:Xbh ρ w l true cs)
     refine ⟨by simpa using g1,fun k v hv=>?_,g3⟩
     rw [List.getElem?_set] at hv
     split at hv
     ·rename_i hk;subst hk
      split at hv
      ·cases hv
       obtain ⟨v',a,b'⟩:=g2 i _ hi
       exact ⟨v',a,VR.ofNil b' _ _⟩
      ·cases hv
     ·exact g2 k v hv
    ·exact h.obj j o ho
   dis:=fun j k oj ok lj lk hjk hj hk hlj hlk hw=>by
    have key:∀ j o,XaP (XhF H b (.cells (cs.set i (.slice (some ⟨top,0,none⟩) 0 sz)))) j=some o→∃ o',XaP H j=some o'∧(writable o=true→writable o'=true):=fun j o ho=>by
     rw [Xbb] at ho
     split at ho
     ·rename_i hj;subst hj;exact ⟨_,hb,fun _=>rfl⟩
     ·exact ⟨o,ho,id⟩
    obtain ⟨oj',a1,a2⟩:=key j oj hj
    obtain ⟨ok',b1,_⟩:=key k ok hk
    exact h.dis j k oj' ok' lj lk hjk a1 b1 hlj hlk (a2 hw) }
theorem XFv.ok {P:Program} {w0:World} {U:Nat→Nat→Prop} {v v2 rv:Value} {H H2:Hp} {t t2:Nat} (k:XFv v H t v2 H2 t2):∀ {ρ:Ren} {w:World},VR ρ v rv→HpR P w0 (.of U) ρ H t w→∃ ρ',Ext ρ ρ'∧VR ρ' v2 rv∧HpR P w0 (.of U) ρ' H2 t2 w:=by
 induction k with
 | refl=>intro ρ w h1 h2;exact ⟨ρ,Ext.refl ρ,h1,h2⟩
 | val h k ih=>
   intro ρ w h1 h2
   have hx:=Ext.upd (l:=⟨0,0,0⟩) h2.XnF
   obtain ⟨ρ',e1,e2,e3⟩:=ih ((h.vr h1).mono hx) (Xmf h2)
   exact ⟨ρ',hx.trans e1,e2,e3⟩
 | cell b i sz hb hi k ih=>
   intro ρ w h1 h2
   have hx:=Ext.upd (l:=⟨0,0,0⟩) h2.XnF
   obtain ⟨ρ',e1,e2,e3⟩:=ih (h1.mono hx) (Xmf (XEV h2 sz hb hi))
   exact ⟨ρ',hx.trans e1,e2,e3⟩
end Go.Vm
namespace Go.Vm
end Go.Vm
namespace Go.Vm
open Go Go.RowKit
@[simp] theorem XEt (l:List UInt8):(ofBytes l).length=l.length:=by simp [ofBytes]
def un1 {α:Type} (un:Value→Option α):List Value→Option α
 | [v]=>un v
 | _=>none
theorem Xpd {α:Type} {un:Value→Option α} {g:α→Value} (h:∀ v x,un v=some x→v=g x) {cs:List Value} {x:α} (e:un1 un cs=some x):cs=[g x]:=by
 unfold un1 at e
 split at e
 ·rw [h _ _ e]
 ·cases e
theorem Xd1 (k:IntKind) {n:Int}:asI k (.int k n)=some n:=by simp [asI]
theorem XhC {s:List UInt8}:asS (.string ⟨⟨s⟩⟩)=some s:=rfl
def fvV:Option Nat→Value
 | none=>.nilFunc
 | some n=>.func (.func n) ⟨[]⟩ ⟨[]⟩
theorem XhP (x:Option Nat):Xa8 (fvV x)=true:=by cases x<;>rfl
theorem XDk {h:Hp} {k b o n:Nat} {ob:Xbj} {cs cs':List Value} (ho:XaP h b=some ob) (hc:ob.wcs=some cs) (hle:o+n≤cs.length) (e:(cs.drop o).take n=cs') (hf:Xa8.flatL cs'=true) :
 Xde h k (.pt n) (.pointer (some ⟨b,o,none⟩))=some (.pointer (some ⟨k,0,none⟩),[some (.cells cs')]):=by
 subst e
 simp only [Xde,ho,hc,hle,hf,↓reduceIte]
theorem fsp {α:Type} {x:Option Nat} {A:Option α} {B:Nat→Option α} {res:α} {G:Prop} (h:x.elim A B=some res) (t:x=none→A=some res→G) (f:∀ n,x=some n→B n=some res→G):G:=by
 cases x with
 | none=>exact t rfl h
 | some n=>exact f n rfl h
theorem fcase {α:Type} {x c:Nat} {A B:Option α} {res:α} {G:Prop} (h:cond (x==c) A B=some res) (t:x=c→A=some res→G) (f:B=some res→G):G:=by
 cases hx:(x==c)
 ·rw [hx] at h;exact f h
 ·rw [hx] at h;exact t (eq_of_beq hx) h
def XBG (i:Nat) (a b:Dec):Dec:=fun vs cs=>match vs[i]? with
 | some (.pointer none)=>b vs cs
 | _=>a vs cs
theorem XBG.elim {i:Nat} {a b:Dec} {vs:List Value} {cs:List (Option (List Value))} {r:Xdu} (h:XBG i a b vs cs=some r):a vs cs=some r∨b vs cs=some r:=by
 unfold XBG at h
 split at h
 ·exact .inr h
 ·exact .inl h
theorem Xt8 {H:Hp} {s:Nat→Option Nat}:XpV H s [] []:=trivial
theorem Xiv {H:Hp} {s:Nat→Option Nat} {j:Nat} {js:List Nat} {c c':List Value} {cs:List (List Value)} (e:Xe5.renL s c=some c') (h:Has H j c') (t:XpV H s js cs):XpV H s (j::js) (c::cs):=⟨⟨_,e,h⟩,t⟩
theorem Xuy {n:Nat} {wr:List (Option (List Value))}:XAe n wr []:=trivial
theorem Xiw {n j:Nat} {wr:List (Option (List Value))} {js:List Nat} (h:n≤j) (t:XAe n wr js):XAe n wr (j::js):=⟨.inl h,t⟩
theorem js_r {n j:Nat} {wr:List (Option (List Value))} {js:List Nat} (h:wr[j]?=some none) (t:XAe n wr js):XAe n wr (j::js):=⟨.inr h,t⟩
theorem Xuu {H:Hp} {s:Nat→Option Nat} {k:Nat}:Xuf H s k []:=trivial
theorem wr_n {H:Hp} {s:Nat→Option Nat} {k:Nat} {l:List (Option (List Value))} (t:Xuf H s (k+1) l):Xuf H s k (none::l):=t
theorem wr_s {H:Hp} {s:Nat→Option Nat} {k:Nat} {c c':List Value} {l:List (Option (List Value))} (e:Xe5.renL s c=some c') (h:Has H k c') (t:Xuf H s (k+1) l) (hm:mk3 c=none:=by rfl):Xuf H s k (some c::l):=⟨by unfold HasW;rw [hm];exact ⟨_,e,h⟩,t⟩
theorem wr_m {H:Hp} {s:Nat→Option Nat} {k:Nat} {c:List Value} {l:List (Option (List Value))} (h:XaP H k=some (.mp c)) (t:Xuf H s (k+1) l):Xuf H s k (some (.float .f64 0::c)::l):=⟨h,t⟩
theorem Res.flat {n:Nat} {r:Xdu} {v':Value} {H':Hp} {b:Bool} (e:r.v=.bool b) (_:r.new=[]) (h:Res n r v' H'):v'=.bool b:=by
 obtain ⟨js,h1,h2,-⟩:=h.ex
 rw [e] at h1
 cases h1;rfl
theorem XdI.q {s:XcS} {vals:List Value} {h:Hp} {top:Nat} {K:Value→Hp→Nat→Prop} {r:Xdu} {v':Value} (e1:XdB h 0 s.modes vals=some (vals,[])) (ew:Xj7 h s.modes vals=[]) (e2:s.run vals []=some r) (hn:r.new=[]) (hw:r.wr=[]) (e6:Xe5 (Xto top 0 []) r.v=some v')
 (k:Xii v' fun v=>XkY [] h fun h'=>K v h' top):XdI s vals h top K:=by
 refine XdI.Xx2 [] (XnX (n:=0) (m:=0) (t':=top) e1 ew rfl e2 rfl (by rw [hn];rfl) rfl rfl (by rw [hw];exact Xuq) (by rw [hn];exact Xuo) e6) k
theorem dFin {α:Type} {o:Option α} {f:α→Xdu} {vs:List Value} {cs:List (Option (List Value))} {r:Xdu} (h:XeC (ofG o f) vs cs=some r):vs=[]∧cs=[]∧∃ x,o=some x∧f x=r:=by
 obtain ⟨a,b,c⟩:=XeC.elim h
 exact ⟨a,b,ofG.elim c⟩
theorem Res.z {n:Nat} {r:Xdu} {v':Value} {H':Hp} (e1:Xe5 (Xp9 [] n) r.v=some v') (e2:r.new=[]) (e3:r.wr=[]):Res n r v' H':=
 Res.of [] e1 (by rw [e2];exact Xt8) (by decide) Xuy (by rw [e3];exact Xuu)
theorem XdI.p {s:XcS} {vals:List Value} {h:Hp} {top:Nat} {K:Value→Hp→Nat→Prop} {r:Xdu} {v':Value} (e2:s.run vals []=some r)
 (k:Xii v' fun v=>XkY [] h fun h'=>K v h' top) (e1:XdB h 0 s.modes vals=some (vals,[]):=by exact rfl) (ew:Xj7 h s.modes vals=[]:=by exact rfl) (hn:r.new=[]:=by exact rfl) (hw:r.wr=[]:=by exact rfl) (e6:Xe5 (Xto top 0 []) r.v=some v':=by exact rfl):XdI s vals h top K:=XdI.q e1 ew e2 hn hw e6 k
theorem Res.y {n:Nat} {r:Xdu} {v':Value} {H':Hp} (e1:Xe5 (Xp9 [] n) r.v=some v':=by exact rfl) (e2:r.new=[]:=by exact rfl) (e3:r.wr=[]:=by exact rfl):Res n r v' H':=Res.z e1 e2 e3
end Go.Vm
namespace Go.Vm
open Go Go.RowKit
section
variable {α:Type} {f:α→List Value} {c:Nat}
end
end Go.Vm
namespace Go.Vm
end Go.Vm
namespace Go.Vm
open Go Go.RowKit Go.WideShapes
section
variable {H:Type} {enc:TypeId×Value→H} {P:Program} {w:World} {base:Nat} {held:Bool}
theorem XdE.XG5:∀ {ks:List SK} {cs:List Value},XdE ks cs→∀ v∈cs,Xa8 v=true
 | [],[],_,v,hv=>by cases hv
 | [],_::_,h,_,_=>h.elim
 | _::_,[],h,_,_=>h.elim
 | k::ks,c::cs,h,v,hv=>by
   rcases List.mem_cons.1 hv with rfl|hv
   ·exact Xnt.flat h.1
   ·exact XdE.XG5 h.2 v hv
def RowN (w:World) (ks:List SK) (a:Option Addr) (len cap:Nat) (zs:List Value):Prop:=
 (a=none∧len=0∧cap=0∧zs=[])∨∃ x,a=some x∧len≤cap∧cap≤maxLen∧zs.length=cap*ks.length∧(∀ (i:Nat) v,zs[i]?=some v→w.cell? (x.add i)=some v)∧∀ i,i<cap→XdE ks ((zs.drop (i*ks.length)).take ks.length)
theorem XHJ {r:Reach} {b0 n:Nat} {t e:TypeId} {ks:List SK} {v:Value} {d:DataW H} {ps:List MemPlace} (ht:P.underlying t=some (.slice e)) (hc:P.cellsOf e=ks.length) (hk:Xvt P n e=some ks) (hval:Value.okWide P w r b0 t v)
 (hd:DataW.Trod enc P w base (fun _=>true) held t v d ps):∃ a len cap zs,v=.slice a len cap∧RowN w ks a len cap zs:=by
 obtain ⟨a,len,cap,rfl⟩:=okWide_slice ht hval
 obtain ⟨fuel,hf⟩:=hd
 rcases Go.Deep.open_slice ht hf with ⟨h0,_⟩|⟨x,l,c,m,n',D,Pl,hcs,hb,hl,hm,hmm,_,hx⟩
 ·simp [Value.cells] at h0
  obtain ⟨rfl,rfl,rfl⟩:=h0
  exact ⟨_,_,_,[],rfl,.inl ⟨rfl,rfl,rfl,rfl⟩⟩
 ·simp [Value.cells] at hcs
  obtain ⟨rfl,rfl,rfl⟩:=hcs
  simp only [if_true] at hmm
  subst hmm
  obtain ⟨CS,hCS⟩:=Go.Deep.choose_lt (α:=List Value) (p:=fun i cs=>w.cells? base (x.add (i*P.cellsOf e)) (P.cellsOf e)=some cs∧DataW.trod enc P w base (fun _=>true) held n' e cs=some (D i,Pl i)) hx
  rw [hc] at hCS
  have hlen:∀ i,i<m→(CS i).length=ks.length:=fun i hi=>(World.cells?_some (hCS i hi).1).2.1
  refine ⟨_,_,_,vT (fun i=>if i<m then CS i else List.replicate ks.length (.bool false)) (List.range m),rfl,.inr ⟨x,rfl,hl,hm,?_,?_,?_⟩⟩
  all_goals
   have hF:∀ i,(if i<m then CS i else List.replicate ks.length (.bool false)).length=ks.length:=fun i=>by
    split
    ·rename_i hi;exact hlen i hi
    ·simp
  ·rw [Xm8 hF,List.length_range]
  ·intro k v ev
   have hk0:k<m*ks.length:=by
    rcases Nat.lt_or_ge k (m*ks.length) with h|h
    ·exact h
    ·rw [List.getElem?_eq_none (by rw [Xm8 hF,List.length_range];exact h)] at ev;cases ev
   have hpos:0<ks.length:=by
    rcases Nat.eq_zero_or_pos ks.length with h|h
    ·rw [h] at hk0;omega
    ·exact h
   have hi:k/ks.length<m:=(Nat.div_lt_iff_lt_mul hpos).2 hk0
   have hj:k%ks.length<ks.length:=Nat.mod_lt _ hpos
   have e1:k/ks.length*ks.length+k%ks.length=k:=by rw [Nat.mul_comm];exact Nat.div_add_mod k ks.length
   have e2:=Xw0 hF (xs:=List.range m) (i:=k/ks.length) (j:=k%ks.length) (x:=k/ks.length) (List.getElem?_range hi) hj
   rw [e1,if_pos hi] at e2
   rw [e2] at ev
   have h3:=(World.cells?_some (hCS _ hi).1).2.2 (k%ks.length) hj
   rw [Go.Deep.add_add,e1] at h3
   rw [h3];exact ev
  ·intro i hi
   rw [XsD hF]
   have e1:=Xtu hF ((List.range m).drop i) 1
   rw [Nat.one_mul] at e1
   rw [e1]
   have e2:((List.range m).drop i).take 1=[i]:=by
    rw [List.drop_eq_getElem_cons (by simpa using hi)]
    simp
   rw [e2]
   show XdE ks ((if i<m then CS i else List.replicate ks.length (.bool false))++[])
   rw [List.append_nil,if_pos hi]
   exact Xob hk (hCS i hi).2
theorem XJH.rowN {ks:List SK} {w:World} {a:Option Addr} {len cap:Nat} {zs:List Value} (h:RowN w ks a len cap zs) (hpos:0<ks.length):XJH w (.sl ks.length) (.sl len (zs.take (len*ks.length))) (.slice a len cap)∧(zs.take (len*ks.length)).length=len*ks.length∧(∀ i,i<len→XdE ks (((zs.take (len*ks.length)).drop (i*ks.length)).take ks.length))∧len≤maxLen:=by
 rcases h with ⟨rfl,rfl,rfl,rfl⟩|⟨x,rfl,hl,hm,hz,hc,ho⟩
 ·exact ⟨.inl ⟨⟨_,rfl⟩,rfl,by simp⟩,by simp,fun i hi=>absurd hi (Nat.not_lt_zero _),by simp [maxLen]⟩
 ·have hmul:len*ks.length≤cap*ks.length:=Nat.mul_le_mul_right _ hl
  have hcell:∀ i,i<len→XdE ks (((zs.take (len*ks.length)).drop (i*ks.length)).take ks.length):=fun i hi=>by
   have h1:=ho i (by omega)
   have h2:(i+1)*ks.length≤len*ks.length:=Nat.mul_le_mul_right _ (by omega)
   rw [Nat.succ_mul] at h2
   rw [List.drop_take,List.take_take,Nat.min_eq_left (by omega)]
   exact h1
  refine ⟨?_,by rw [List.length_take];omega,hcell,by omega⟩
  rcases Nat.eq_zero_or_pos cap with h0|h0
  ·subst h0
   obtain rfl:len=0:=by omega
   exact .inl ⟨⟨_,rfl⟩,rfl,by simp⟩
  ·have hcap:0<cap*ks.length:=Nat.mul_pos h0 hpos
   have hs:x.spot=none:=by
    have:=hc 0 zs[0] (List.getElem?_eq_getElem (by omega))
    cases hx:x.spot with
    | none=>rfl
    | some q=>
      simp only [Addr.add,↓reduceIte,World.cell?] at this
      split at this
      ·simp [hx] at this
      ·cases this
   obtain ⟨b,o,q⟩:=x
   simp only at hs
   subst hs
   have hadd:∀ i,(⟨b,o,none⟩:Addr).add i=⟨b,o+i,none⟩:=fun i=>by
    unfold Addr.add;split
    ·rename_i e;subst e;rfl
    ·rfl
   have hflat:∀ (i:Nat) v,zs[i]?=some v→Xa8 v=true:=fun i v e=>by
    have hi:i<cap*ks.length:=by
     rcases Nat.lt_or_ge i (cap*ks.length) with h|h
     ·exact h
     ·rw [List.getElem?_eq_none (by omega)] at e;cases e
    have hq:i/ks.length<cap:=(Nat.div_lt_iff_lt_mul hpos).2 hi
    have hj:i%ks.length<ks.length:=Nat.mod_lt _ hpos
    have e1:i/ks.length*ks.length+i%ks.length=i:=by rw [Nat.mul_comm];exact Nat.div_add_mod i ks.length
    refine XdE.XG5 (ho _ hq) v (List.mem_of_getElem? (i:=i%ks.length) ?_)
    rw [List.getElem?_take_of_lt hj,List.getElem?_drop,e1];exact e
   refine .inr ⟨b,o,cap,rfl,hl,fun ρ=>⟨by rw [List.length_take];simp only;omega,fun i v e=>?_,fun i hi=>?_⟩⟩
   ·have hi:i<len*ks.length:=by
     rcases Nat.lt_or_ge i (len*ks.length) with h|h
     ·exact h
     ·rw [List.getElem?_eq_none (by rw [List.length_take];omega)] at e;cases e
    rw [List.getElem?_take_of_lt hi] at e
    have h1:=hc i v e
    rw [hadd] at h1
    exact ⟨v,h1,VR.flat ρ v (hflat i v e)⟩
   ·have hi':i<zs.length:=by simp only at hi;omega
    have h1:=hc i zs[i] (List.getElem?_eq_getElem hi')
    rw [hadd] at h1
    exact ⟨by simp [h1],fun e=>by cases e⟩
end
theorem XEg {α:Type} {ks:List SK} {c:α→List Value} {ok:α→Prop} (hc:∀ cs,XdE ks cs→∃ x,cs=c x∧ok x):∀ (len:Nat) (zs:List Value),zs.length=len*ks.length→(∀ i,i<len→XdE ks ((zs.drop (i*ks.length)).take ks.length))→∃ xs:List α,zs=vT c xs∧xs.length=len∧∀ x∈xs,ok x
 | 0,zs,hl,_=>⟨[],by rw [Nat.zero_mul] at hl;rw [List.eq_nil_of_length_eq_zero hl];rfl,rfl,fun _ h=>by cases h⟩
 | len+1,zs,hl,h=>by
   have h0:=h 0 (by omega)
   rw [Nat.zero_mul,List.drop_zero] at h0
   obtain ⟨x,hx,ox⟩:=hc _ h0
   obtain ⟨xs,h1,h2,h3⟩:=XEg hc len (zs.drop ks.length) (by rw [List.length_drop,hl,Nat.succ_mul];omega) (fun i hi=>by
    have:=h (i+1) (by omega)
    rw [List.drop_drop,show ks.length+i*ks.length=(i+1)*ks.length by rw [Nat.succ_mul,Nat.add_comm]];exact this)
   refine ⟨x::xs,?_,by simp [h2],fun y hy=>?_⟩
   ·have:vT c (x::xs)=c x++vT c xs:=rfl
    rw [this,←hx,←h1,List.take_append_drop]
   ·rcases List.mem_cons.1 hy with rfl|hy
    ·exact ox
    ·exact h3 y hy
end Go.Vm
namespace Go.Vm
open Go
theorem Xf1 {n:Int} (h1:-9223372036854775808≤n) (h2:n<9223372036854775808):wI .i64 n=n:=by
 show IntKind.wrap .i64 n=n;rw [IntKind.wrap_i64];omega
theorem Xoo {n:Int} (h1:0≤n) (h2:n<18446744073709551616):wI .u64 n=n:=by
 show IntKind.wrap .u64 n=n
 simp only [IntKind.wrap,IntKind.bits,IntKind.signed];simp;omega
theorem XqL (n:Int):wI .u64 n=n%18446744073709551616:=by
 show IntKind.wrap .u64 n=_
 simp only [IntKind.wrap,IntKind.bits,IntKind.signed];simp
theorem bv64 {n:Nat} (h:n<18446744073709551616):(BitVec.ofInt 64 (n:Int)).toNat=n:=by
 rw [BitVec.toNat_ofInt];omega
theorem XIC {a b:Nat} (ha:a<18446744073709551616) (hb:b<18446744073709551616):Xwb .u64 (a:Int) (b:Int)=((a &&& b:Nat):Int):=by
 have h:a &&& b≤a:=Nat.and_le_left
 show IntKind.wrap .u64 _=_
 rw [show IntKind.bits .u64=64 from rfl,BitVec.toNat_and,bv64 (by omega),bv64 (by omega)]
 exact Xoo (by omega) (by omega)
theorem XDJ {a b:Nat} (ha:a<18446744073709551616) (hb:b<18446744073709551616):Xrn .u64 (a:Int) (b:Int)=((a ||| b:Nat):Int):=by
 have h:a ||| b<2^64:=Nat.or_lt_two_pow (by omega) (by omega)
 show IntKind.wrap .u64 _=_
 rw [show IntKind.bits .u64=64 from rfl,BitVec.toNat_or,bv64 (by omega),bv64 (by omega)]
 exact Xoo (by omega) (by omega)
theorem XAM (a k:Nat):a &&& (2^k - 1)=a%2^k:=Nat.and_two_pow_sub_one_eq_mod a k
theorem XCY {a b k:Nat} (hb:b<2^k):(a*2^k) ||| b=a*2^k+b:=by
 rw [Nat.mul_comm];exact (Nat.two_pow_add_eq_or_of_lt hb a).symm
theorem Xj5 (k:Nat) {a m:Int} (hm:m=2^k - 1) (hk:k≤64) (h0:0≤a) (h1:a<18446744073709551616):Xwb .u64 a m=a%2^k:=by
 obtain ⟨n,rfl⟩:=Int.eq_ofNat_of_zero_le h0
 have hp:2^k≤2^64:=Nat.pow_le_pow_right (by decide) hk
 have hp1:1≤2^k:=Nat.one_le_two_pow
 have:m=((2^k - 1:Nat):Int):=by rw [hm];push_cast [hp1];rfl
 rw [this,XIC (by omega) (by omega),XAM];push_cast;rfl
theorem Xvm (k:Nat) {a b:Int} (h0:0≤a) (h1:a*2^k<18446744073709551616) (hb0:0≤b) (hb:b<2^k) (hb1:b<18446744073709551616):Xrn .u64 (a*2^k) b=a*2^k+b:=by
 obtain ⟨n,rfl⟩:=Int.eq_ofNat_of_zero_le h0
 obtain ⟨m,rfl⟩:=Int.eq_ofNat_of_zero_le hb0
 have e:((n:Int)*2^k)=((n*2^k:Nat):Int):=by push_cast;rfl
 rw [e] at h1 ⊢
 rw [XDJ (by omega) (by omega),XCY (by exact_mod_cast hb)];push_cast;rfl
theorem Xwo (a:Int) (k:Nat):a.fdiv (2^k)=a/2^k:=Int.fdiv_eq_ediv_of_nonneg a (Int.le_of_lt (Int.pow_pos (by decide)))
theorem XaH {α:Type} {p:Prop} [Decidable p] {x:Option α} (h:p):XaQ (decide p) x=x:=XaQ.mk (decide_eq_true h)
theorem Xbd {α:Type} {p:Prop} [Decidable p] {x y:α} (h:p):cond (decide p) x y=x:=by rw [decide_eq_true h,cond_true]
theorem Xa7 {α:Type} {p:Prop} [Decidable p] {x y:α} (h:¬ p):cond (decide p) x y=y:=by rw [decide_eq_false h,cond_false]
theorem XBF {α:Type} {p:Prop} [Decidable p] {x y:α}:cond (decide p) x y=if p then x else y:=by
 by_cases h:p<;>simp [h]
theorem iter_eq {σ ρ:Type} {step:σ→Option (Sum σ ρ)} (F:σ→ρ) (P:σ→Prop) (μ:σ→Nat)
 (h:∀ s,P s→step s=some (.inr (F s))∨∃ s',step s=some (.inl s')∧P s'∧μ s'<μ s∧F s'=F s):∀ n s,P s→μ s<n→iter step n s=some (F s)
 | 0,s,hp,hn=>by omega
 | n+1,s,hp,hn=>by
   rw [iter]
   rcases h s hp with e|⟨s',e,hp',hm,hf⟩
   ·rw [e]
   ·rw [e];exact hf▸iter_eq F P μ h n s' hp' (by omega)
theorem Xd0:FUEL=18446744073709551616:=rfl
end Go.Vm
namespace Go.Vm.Code
open Go Go.Vm Go.Proofs
def τ0:Operand:=.tmp 0
def τ1:Operand:=.tmp 1
def τ2:Operand:=.tmp 2
def τ3:Operand:=.tmp 3
def τ4:Operand:=.tmp 4
def τ5:Operand:=.tmp 5
def τ6:Operand:=.tmp 6
def τ7:Operand:=.tmp 7
def τ8:Operand:=.tmp 8
def τ9:Operand:=.tmp 9
def Xjz:Operand:=.tmp 10
def Xjo:Operand:=.tmp 11
def XjC:Operand:=.tmp 12
def XjB:Operand:=.tmp 13
def XkV:Operand:=.tmp 14
def XjN:Operand:=.tmp 15
def Xlo:Operand:=.tmp 16
def XkI:Operand:=.tmp 17
def XkO:Operand:=.tmp 18
def Xnl:Operand:=.tmp 19
def Xl1:Operand:=.tmp 20
def Xnc:Operand:=.tmp 21
def Xod:Operand:=.tmp 22
def XoC:Operand:=.tmp 23
def XoG:Operand:=.tmp 24
def Xos:Operand:=.tmp 25
def XoZ:Operand:=.tmp 26
def Xpl:Operand:=.tmp 27
def Xrl:Operand:=.tmp 28
def Xqr:Operand:=.tmp 29
def Xrm:Operand:=.tmp 30
def Xro:Operand:=.tmp 31
def Xtg:Operand:=.tmp 32
def XuK:Operand:=.tmp 33
def XsF:Operand:=.tmp 34
def XtA:Operand:=.tmp 35
def Xvy:Operand:=.tmp 36
def Xve:Operand:=.tmp 37
def XuI:Operand:=.tmp 38
def Xu3:Operand:=.tmp 39
def Xwa:Operand:=.tmp 40
def Xv7:Operand:=.tmp 41
def Xv6:Operand:=.tmp 42
def Xwc:Operand:=.tmp 43
def Xv8:Operand:=.tmp 44
def Xwu:Operand:=.tmp 45
def XyI:Operand:=.tmp 46
def XAa:Operand:=.tmp 47
def XAg:Operand:=.tmp 48
def XAd:Operand:=.tmp 49
def XDx:Operand:=.tmp 50
def XFA:Operand:=.tmp 51
def XGd:Operand:=.tmp 52
def XFY:Operand:=.tmp 53
def XFT:Operand:=.tmp 54
def XEa:Operand:=.tmp 55
def XGt:Operand:=.tmp 56
def XGE:Operand:=.tmp 57
def XGa:Operand:=.tmp 58
def XEQ:Operand:=.tmp 59
def XGP:Operand:=.tmp 60
def XG0:Operand:=.tmp 61
def XGO:Operand:=.tmp 62
def XIv:Operand:=.tmp 63
def XDH:Operand:=.tmp 64
def XG8:Operand:=.tmp 65
def XJG:Operand:=.tmp 66
def XH4:Operand:=.tmp 67
def XJJ:Operand:=.tmp 68
def XHY:Operand:=.tmp 69
def XH3:Operand:=.tmp 70
def τ71:Operand:=.tmp 71
def τ72:Operand:=.tmp 72
def τ73:Operand:=.tmp 73
def τ74:Operand:=.tmp 74
def τ75:Operand:=.tmp 75
def τ76:Operand:=.tmp 76
def τ77:Operand:=.tmp 77
def τ78:Operand:=.tmp 78
def τ79:Operand:=.tmp 79
def τ80:Operand:=.tmp 80
def τ81:Operand:=.tmp 81
def XI2:Operand:=.tmp 82
def τ83:Operand:=.tmp 83
def τ84:Operand:=.tmp 84
def τ85:Operand:=.tmp 85
def τ86:Operand:=.tmp 86
def τ87:Operand:=.tmp 87
def τ88:Operand:=.tmp 88
def τ89:Operand:=.tmp 89
def τ90:Operand:=.tmp 90
def τ91:Operand:=.tmp 91
def τ92:Operand:=.tmp 92
def τ93:Operand:=.tmp 93
def τ94:Operand:=.tmp 94
def τ95:Operand:=.tmp 95
def τ96:Operand:=.tmp 96
def τ97:Operand:=.tmp 97
def τ98:Operand:=.tmp 98
def τ99:Operand:=.tmp 99
def XGC:Operand:=.tmp 100
def XFx:Operand:=.tmp 101
def XFt:Operand:=.tmp 102
def XEx:Operand:=.tmp 103
def XEy:Operand:=.tmp 104
def XGn:Operand:=.tmp 105
def XEo:Operand:=.tmp 106
def XDY:Operand:=.tmp 107
def XFE:Operand:=.tmp 108
def XFg:Operand:=.tmp 109
def XFc:Operand:=.tmp 110
def XFn:Operand:=.tmp 111
def XGv:Operand:=.tmp 112
def XFZ:Operand:=.tmp 113
def XJM:Operand:=.tmp 114
def XHS:Operand:=.tmp 115
def τ116:Operand:=.tmp 116
def τ117:Operand:=.tmp 117
def τ118:Operand:=.tmp 118
def τ119:Operand:=.tmp 119
def τ120:Operand:=.tmp 120
def τ121:Operand:=.tmp 121
def τ122:Operand:=.tmp 122
def τ123:Operand:=.tmp 123
def τ124:Operand:=.tmp 124
def τ125:Operand:=.tmp 125
def τ126:Operand:=.tmp 126
def τ127:Operand:=.tmp 127
def τ128:Operand:=.tmp 128
def τ129:Operand:=.tmp 129
def τ130:Operand:=.tmp 130
def τ131:Operand:=.tmp 131
def τ132:Operand:=.tmp 132
def τ133:Operand:=.tmp 133
def τ134:Operand:=.tmp 134
def τ135:Operand:=.tmp 135
def τ136:Operand:=.tmp 136
def τ137:Operand:=.tmp 137
def τ138:Operand:=.tmp 138
def τ139:Operand:=.tmp 139
def τ140:Operand:=.tmp 140
def τ141:Operand:=.tmp 141
def τ142:Operand:=.tmp 142
def τ143:Operand:=.tmp 143
def τ144:Operand:=.tmp 144
def τ145:Operand:=.tmp 145
def τ146:Operand:=.tmp 146
def τ147:Operand:=.tmp 147
def τ148:Operand:=.tmp 148
def τ149:Operand:=.tmp 149
def τ150:Operand:=.tmp 150
def τ151:Operand:=.tmp 151
def τ152:Operand:=.tmp 152
def τ153:Operand:=.tmp 153
def τ154:Operand:=.tmp 154
def τ155:Operand:=.tmp 155
def τ156:Operand:=.tmp 156
def τ157:Operand:=.tmp 157
def τ158:Operand:=.tmp 158
def oD (n:Nat) (o:VOp):Xdf:=⟨some n,o,none⟩
def oN (o:VOp):Xdf:=⟨none,o,none⟩
def oM (n:Nat) (x:Operand):Xdf:=⟨some n,.mv x,none⟩
def oG (n:Nat) (o:VOp) (j:Nat) (b:Bool):Xdf:=⟨some n,o,some (j,b)⟩
def oE (n i:Nat) (x:Operand):Xdf:=⟨some n,.extract i x,none⟩
def k3_6:VC:=.regD [oM 36 τ0,oM 37 τ1,oD 38 (.loadN [(.int .u64),(.int .u64)] τ9),oD 39 (.callF 10 [Xvy,Xve,XuI]),oM 40 τ0,oM 41 τ1,oD 42 (.loadN [(.int .u64),(.int .u64)] τ9)] [(3,6)] [oD 43 (.callF 10 [Xwa,Xv7,Xv6]),oM 15 Xu3,oM 16 Xwc]
def k3_21:VC:=.regD [oM 59 XjN,oM 60 τ3,oM 61 XkI,oD 62 (.idxAL 2 XGP XG0),oD 63 (.fieldA 0 XGO),oD 64 (.load1 .str XIv),oM 65 τ3,oM 66 XkI,oD 67 (.idxAL 2 XG8 XJG),oD 68 (.fieldA 1 XH4),oD 69 (.load1 (.int .i64) XJJ),oD 70 (.callF 12 [XEQ,XDH,XHY]),oM 71 τ3,oM 72 XkI,oD 73 (.idxAL 2 τ71 τ72),oD 74 (.loadN [.str,(.int .i64)] τ73)] [(11,15)] [oD 75 (.callF 13 [τ74]),oD 76 (.eqB true XH3 τ75)]
def Xke:VC:=.seq (.seq (.reg [oM 53 XkI,oM 54 τ3,oD 55 (.lenL XFT),oD 56 (.bin .lss XFY XEa)]) (.cond XGt .skip (.exit 0))) (.seq (.block 1 (.seq k3_21 (.cond τ76 (.seq (.reg [oD 14 (.mv (.const (.bool false)))]) .ret) .skip))) (.reg [oM 57 XkI,oD 58 (.bin .add XGE (.const (.int .i64 1))),oM 17 XGa]))
def k3_37:VC:=.regD [oM 83 Xlo,oM 84 τ4,oM 85 XkO,oD 86 (.idxAL 2 τ84 τ85),oD 87 (.fieldA 0 τ86),oD 88 (.load1 .str τ87),oM 89 τ4,oM 90 XkO,oD 91 (.idxAL 2 τ89 τ90),oD 92 (.fieldA 1 τ91),oD 93 (.load1 (.int .i64) τ92)] [] [oD 94 (.callF 12 [τ83,τ88,τ93])]
def XkU:VC:=.seq (.seq (.reg [oM 77 XkO,oM 78 τ4,oD 79 (.lenL τ78),oD 80 (.bin .lss τ77 τ79)]) (.cond τ80 .skip (.exit 2))) (.seq (.block 3 k3_37) (.reg [oM 81 XkO,oD 82 (.bin .add τ81 (.const (.int .i64 1))),oM 18 XI2]))
def k3_59:VC:=.regD [oM 131 XjN,oM 132 τ5,oD 133 (.callF 16 [τ131,τ132]),oD 134 (.loadN [(.int .u64),(.int .u64)] τ9),oM 135 τ0,oM 136 τ1,oM 137 Xl1,oM 138 τ5,oD 139 (.callF 17 [τ134,τ135,τ136,τ137,τ138]),oD 140 (.bin .eql τ133 τ139),oM 141 τ140,oG 142 (.mv XjN) 141 true,oG 143 (.callF 18 [τ142]) 141 true,oG 144 (.mv Xl1) 141 true,oG 145 (.callF 19 [τ144]) 141 true,oG 146 (.bin .eql τ143 τ145) 141 true,oD 147 (.pick τ141 τ146 (.const (.bool false))),oM 148 τ147,oG 149 (.mv XjN) 148 true,oG 150 (.mv τ6) 148 true,oG 151 (.mv τ5) 148 true,oG 152 (.callF 20 [τ149,τ150,τ151]) 148 true,oG 153 (.mv Xnc) 148 true] [(2,3)] [oG 154 (.bin .eql τ152 τ153) 148 true,oD 155 (.pick τ148 τ154 (.const (.bool false))),oM 156 τ155,oG 157 (.callF 9 []) 156 true,oD 158 (.pick τ156 τ157 (.const (.bool false))),oM 14 τ158]
def XpJ:VC:=.seq (.reg [oM 95 τ0,oM 96 τ1,oD 97 (.fieldA 0 τ9),oD 98 (.load1 (.int .u64) τ97),oD 99 (.fieldA 1 τ9),oD 100 (.load1 (.int .u64) τ99),oD 101 (.bin .add XGC (.const (.int .u64 1))),oD 102 (.build [(.int .u64 0),(.int .u64 0)] [(0,1,τ98),(1,1,XFx)]),oD 103 (.callF 10 [τ95,τ96,XFt]),oM 19 XEx]) (.seq (.seq (.reg [oM 104 XjN,oM 105 Xlo,oD 106 (.callF 14 [XEy,XGn]),oD 107 (.not XEo),oM 108 XDY,oG 109 (.mv XjN) 108 false,oG 110 (.mv Xnl) 108 false,oG 111 (.callF 14 [XFg,XFc]) 108 false,oD 112 (.pick XFE (.const (.bool true)) XFn)]) (.cond XGv (.seq (.reg [oD 14 (.mv (.const (.bool false)))]) .ret) .skip)) (.seq (.reg [oD 20 (.mv (.const (.slice none 0 0)))]) (.seq (.reg [oM 113 Xl1,oM 114 τ3,oD 115 (.app 33 2 24 XFZ XJM),oM 20 XHS]) (.seq (.reg [oM 116 Xl1,oM 117 τ4,oD 118 (.app 33 2 24 τ116 τ117),oM 20 τ118]) (.seq (.reg [oD 21 (.mv (.const (.int .i64 (-1))))]) (.seq (.seq (.reg [oM 119 τ6,oD 120 (.bin .geq τ119 (.const (.int .i64 0))),oM 121 τ120,oG 122 (.mv τ6) 121 true,oG 123 (.mv τ0) 121 true,oG 124 (.bin .lss τ122 τ123) 121 true,oD 125 (.pick τ121 τ124 (.const (.bool false)))]) (.cond τ125 (.reg [oD 126 (.loadN [(.int .u64),(.int .u64)] τ9),oM 127 τ6,oM 128 τ1,oM 129 τ5,oD 130 (.callF 15 [τ126,τ127,τ128,τ129]),oM 21 τ130]) .skip)) (.seq k3_59 .ret)))))))
def XpL:VC:=.seq (.seq (.reg [oD 18 (.mv (.const (.int .i64 0)))]) (.block 2 (.loop XkU))) XpJ
def XH6:VC:=.seq (.reg [oD 9 (.box τ2),oD 14 (.mv (.const (.bool false)))]) (.seq (.seq (.reg [oM 22 τ3,oD 23 (.callF 8 [Xod]),oD 24 (.not XoC),oM 25 XoG,oG 26 (.mv τ4) 25 false,oG 27 (.callF 8 [XoZ]) 25 false,oG 28 (.not Xpl) 25 false,oD 29 (.pick Xos (.const (.bool true)) Xrl),oM 30 Xqr,oG 31 (.mv τ5) 30 false,oG 32 (.lenS Xro) 30 false,oG 33 (.bin .gtr Xtg (.const (.int .i64 20))) 30 false,oD 34 (.pick Xrm (.const (.bool true)) XuK)]) (.cond XsF (.seq (.reg [oD 35 (.callF 9 []),oM 14 XtA]) .ret) .skip)) (.seq k3_6 (.seq (.seq (.reg [oM 44 XjN,oD 45 (.isNil 0 false Xv8),oM 46 τ0,oM 47 τ1,oD 48 (.callF 11 [XyI,XAa]),oD 49 (.eqB false Xwu XAg)]) (.cond XAd (.seq (.reg [oD 14 (.mv (.const (.bool false)))]) .ret) .skip)) (.seq (.seq (.reg [oM 50 XjN,oD 51 (.isNil 0 false XDx)]) (.cond XFA (.seq (.reg [oD 52 (.callF 9 []),oM 14 XGd]) .ret) .skip)) (.seq (.seq (.reg [oD 17 (.mv (.const (.int .i64 0)))]) (.block 0 (.loop Xke))) XpL)))))
def fn3:VFn:=⟨159,XH6,[.tmp 14]⟩
def XD9:VC:=.seq (.seq (.reg [oM 4 τ3,oM 5 τ0,oD 6 (.lenL τ5),oD 7 (.bin .lss τ4 τ6),oM 8 τ7,oG 9 (.mv τ3) 8 true,oG 10 (.bin .lss τ9 (.const (.int .i64 30))) 8 true,oD 11 (.pick τ8 Xjz (.const (.bool false)))]) (.cond Xjo .skip (.exit 0))) (.seq (.block 1 (.seq (.reg [oM 14 τ0,oM 15 τ3,oD 16 (.idxAL 2 XkV XjN),oD 17 (.fieldA 0 Xlo),oD 18 (.load1 .str XkI),oD 19 (.lenS XkO),oD 20 (.bin .gtr Xnl (.const (.int .i64 20)))]) (.cond Xl1 (.seq (.reg [oD 2 (.mv (.const (.bool false)))]) .ret) .skip))) (.reg [oM 12 τ3,oD 13 (.bin .add XjC (.const (.int .i64 1))),oM 3 XjB]))
def XJe:VC:=.seq (.reg [oM 21 τ0,oD 22 (.lenL Xnc),oD 23 (.bin .leq Xod (.const (.int .i64 30))),oM 2 XoC]) .ret
def XG1:VC:=.seq (.reg [oD 2 (.mv (.const (.bool false)))]) (.seq (.seq (.reg [oD 3 (.mv (.const (.int .i64 0)))]) (.block 0 (.loop XD9))) XJe)
def fn8:VFn:=⟨24,XG1,[.tmp 2]⟩
def k9_6:VC:=.reg [oM 23 τ2,oM 24 XoC,oG 25 (.mv τ3) 24 true,oG 26 (.bin .eql Xos (.const (.int .i64 3))) 24 true,oG 27 (.mv XoZ) 24 true,oG 28 (.mv τ3) 27 false,oG 29 (.bin .eql Xrl (.const (.int .i64 7))) 27 false,oG 30 (.pick Xpl (.const (.bool true)) Xqr) 24 true,oD 31 (.pick XoG Xrm (.const (.bool false))),oM 32 Xro,oG 33 (.mv τ1) 32 true,oG 34 (.callF 18 [XuK]) 32 true,oG 35 (.bin .eql XsF (.const (.int .i64 7))) 32 true,oD 36 (.pick Xtg XtA (.const (.bool false))),oM 37 Xvy,oG 38 (.mv τ4) 37 true,oG 39 (.callF 12 [XuI,(.const (.string ⟨⟨[97]⟩⟩)),(.const (.int .i64 1))]) 37 true,oG 40 (.not Xu3) 37 true,oD 41 (.pick Xve Xwa (.const (.bool false))),oM 42 Xv7,oG 43 (.mv τ5) 42 true,oG 44 (.callF 12 [Xwc,(.const (.string ⟨⟨[97]⟩⟩)),(.const (.int .i64 1))]) 42 true,oG 45 (.not Xv8) 42 true,oD 46 (.pick Xv6 Xwu (.const (.bool false))),oM 47 XyI,oG 48 (.mv τ4) 47 true,oG 49 (.callF 16 [XAg,(.const (.string ⟨⟨[97]⟩⟩))]) 47 true,oG 50 (.mv τ5) 47 true,oG 51 (.callF 18 [XDx]) 47 true,oG 52 (.bin .add XAd XFA) 47 true,oG 53 (.bin .eql XGd (.const (.int .i64 0))) 47 true,oD 54 (.pick XAa XFY (.const (.bool false))),oM 55 XFT,oG 56 (.mv τ4) 55 true,oG 57 (.callF 20 [XGt,(.const (.int .i64 0)),(.const (.string ⟨⟨[97]⟩⟩))]) 55 true,oG 58 (.bin .eql XGE (.const (.int .i64 (-1)))) 55 true,oD 59 (.pick XEa XGa (.const (.bool false))),oM 60 XEQ,oG 61 (.mv τ5) 60 true,oG 62 (.mv τ5) 60 true,oG 63 (.callF 14 [XG0,XGO]) 60 true,oG 64 (.not XIv) 60 true,oD 65 (.pick XGP XDH (.const (.bool false))),oM 66 XG8,oG 67 (.build [(.int .u64 0),(.int .u64 0)] []) 66 true,oG 68 (.callF 10 [(.const (.int .i64 0)),(.const (.int .i64 1)),XH4]) 66 true,oG 69 (.isNil 0 false XJJ) 66 true,oD 70 (.pick XJG XHY (.const (.bool false))),oM 0 XH3]
def XHH:VC:=.seq (.reg [oD 0 (.mv (.const (.bool false)))]) (.seq (.reg [oD 6 (.build [(.int .u64 0),(.int .u64 0)] [(0,1,(.const (.int .u64 1)))]),oD 7 (.callF 10 [(.const (.int .i64 2)),(.const (.int .i64 10)),τ6]),oM 1 τ7]) (.seq (.reg [oM 8 τ1,oD 9 (.callF 12 [τ8,(.const (.string ⟨⟨[97]⟩⟩)),(.const (.int .i64 3))]),oM 10 τ9,oG 11 (.mv τ1) 10 true,oG 12 (.callF 12 [Xjo,(.const (.string ⟨⟨[98]⟩⟩)),(.const (.int .i64 4))]) 10 true,oD 13 (.pick Xjz XjC (.const (.bool false))),oM 14 XjB,oG 15 (.mv τ1) 14 true,oG 16 (.callF 12 [XjN,(.const (.string ⟨⟨[97]⟩⟩)),(.const (.int .i64 (-1)))]) 14 true,oG 17 (.not Xlo) 14 true,oD 18 (.pick XkV XkI (.const (.bool false))),oM 2 XkO]) (.seq (.reg [oM 19 τ1,oD 20 (.callF 16 [Xnl,(.const (.string ⟨⟨[97]⟩⟩))]),oM 3 Xl1]) (.seq (.reg [oD 4 (.mv (.const (.pointer none)))]) (.seq (.reg [oD 21 (.build [(.int .u64 0),(.int .u64 0),(.slice none 0 0),(.int .i64 0)] []),oD 22 (.box Xnc),oM 5 Xod]) (.seq k9_6 .ret))))))
def fn9:VFn:=⟨71,XHH,[.tmp 0]⟩
def XJC:VC:=.regD [oM 28 τ7,oM 29 τ7,oD 30 (.nilCheck Xqr),oD 31 (.fieldA 2 Xrm),oD 32 (.load1 .oth Xro),oM 33 τ1,oD 34 (.mkSl 1 8 [(.int .i64 0)] XuK XuK),oD 35 (.buildSl 1 1 [(.slice none 0 0)] [(0,1,XsF)]),oD 36 (.app 69 1 24 Xtg XtA)] [(4,6),(4,7)] [oD 37 (.nilCheck Xrl),oD 38 (.fieldA 2 Xve),oN (.store 1 XuI Xvy)]
def XDy:VC:=.seq (.reg [oD 5 (.box τ2),oD 6 (.mv (.const (.pointer none)))]) (.seq (.seq (.reg [oM 8 τ0,oD 9 (.bin .lss τ8 (.const (.int .i64 1))),oM 10 τ9,oG 11 (.mv τ0) 10 false,oG 12 (.bin .gtr Xjo (.const (.int .i64 8))) 10 false,oD 13 (.pick Xjz (.const (.bool true)) XjC),oM 14 XjB,oG 15 (.mv τ1) 14 false,oG 16 (.bin .lss XjN (.const (.int .i64 1))) 14 false,oD 17 (.pick XkV (.const (.bool true)) Xlo),oM 18 XkI,oG 19 (.mv τ1) 18 false,oG 20 (.bin .gtr Xnl (.const (.int .i64 4096))) 18 false,oD 21 (.pick XkO (.const (.bool true)) Xl1)]) (.cond Xnc (.seq (.reg [oD 6 (.mv (.const (.pointer none)))]) .ret) .skip)) (.seq (.reg [oD 22 (.loadN [(.int .u64),(.int .u64)] τ5),oD 23 (.build [(.int .u64 0),(.int .u64 0),(.slice none 0 0),(.int .i64 0)] [(0,2,Xod)]),oD 24 (.box XoC),oM 7 XoG]) (.seq (.seq (.reg [oM 25 τ0,oD 26 (.mv (.const (.int .i64 0)))]) (.block 0 (.loop (.seq (.reg [oD 27 (.bin .lss XoZ Xos)]) (.seq (.cond Xpl .skip (.exit 0)) (.seq (.block 1 XJC) (.reg [oD 39 (.bin .add XoZ (.const (.int .i64 1))),oM 26 Xu3]))))))) (.seq (.reg [oM 40 τ7,oM 6 Xwa]) .ret))))
def fn10:VFn:=⟨41,XDy,[.tmp 6]⟩
def XIN:VC:=.reg [oM 18 τ0,oM 19 τ1,oD 20 (.mkFunc 40 [] [τ5]),oD 21 (.callF 39 [XkO,Xnl,Xl1])]
def k12_7:VC:=.regD [oM 22 τ0,oD 23 (.nilCheck Xod),oD 24 (.fieldA 3 XoC),oD 25 (.load1 (.int .i64) τ5)] [] [oD 26 (.callF 41 [XoG,Xos])]
def XC9:VC:=.seq k12_7 (.seq (.reg [oD 6 (.mv (.const (.bool true)))]) .ret)
def XkW:VC:=.seq (.reg [oD 5 (.box τ2),oD 6 (.mv (.const (.bool false)))]) (.seq (.seq (.reg [oM 7 τ0,oD 8 (.callF 38 [τ7]),oD 9 (.not τ8),oM 10 τ9,oG 11 (.load1 (.int .i64) τ5) 10 false,oG 12 (.bin .lss Xjo (.const (.int .i64 0))) 10 false,oD 13 (.pick Xjz (.const (.bool true)) XjC),oM 14 XjB,oG 15 (.load1 (.int .i64) τ5) 14 false,oG 16 (.bin .gtr XjN (.const (.int .i64 1048576))) 14 false,oD 17 (.pick XkV (.const (.bool true)) Xlo)]) (.cond XkI (.seq (.reg [oD 6 (.mv (.const (.bool false)))]) .ret) .skip)) (.seq XIN XC9))
def fn12:VFn:=⟨27,XkW,[.tmp 6]⟩
def Xn1:VC:=.seq (.reg [oD 2 (.mv (.const (.bool false)))]) (.seq (.reg [oM 3 τ0,oD 4 (.isNil 0 true τ3),oM 5 τ4,oG 6 (.mv τ0) 5 true,oG 7 (.nilCheck τ6) 5 true,oG 8 (.fieldA 2 τ7) 5 true,oG 9 (.load1 .oth τ8) 5 true,oG 10 (.lenL τ9) 5 true,oG 11 (.bin .gtr Xjz (.const (.int .i64 0))) 5 true,oD 12 (.pick τ5 Xjo (.const (.bool false))),oM 2 XjC]) .ret)
def fn38:VFn:=⟨13,Xn1,[.tmp 2]⟩
def k40_0:VC:=.reg [oM 3 τ0,oD 4 (.load1 (.int .i64) τ1),oD 5 (.callF 41 [τ3,τ4])]
def fn40:VFn:=⟨6,k40_0,[]⟩
def k41_0:VC:=.reg [oM 4 τ0,oM 5 τ0,oD 6 (.nilCheck τ5),oD 7 (.load1 (.int .i64) τ6),oM 8 τ1,oD 9 (.bin .add τ7 τ8),oD 10 (.minmax false [(.const (.int .i64 1099511627776)),τ9]),oD 11 (.nilCheck τ4),oN (.store 1 Xjo Xjz)]
def fn41:VFn:=⟨12,k41_0,[]⟩
def k39_4:VC:=.regD [oM 15 τ2,oM 16 τ0,oD 17 (.nilCheck Xlo),oD 18 (.fieldA 2 XkI),oD 19 (.load1 .oth XkO),oM 20 τ6,oD 21 (.idxAL 1 Xnl Xl1),oD 22 (.load1 .oth Xnc),oM 23 τ0,oM 24 τ6,oM 25 τ1,oD 26 (.callF 20 [XoC,XoG,Xos]),oD 27 (.idxAL 1 Xod XoZ)] [(4,11),(7,11)] [oD 28 (.callV XjN [Xpl])]
def Xyj:VC:=.seq (.reg [oD 13 (.bin .lss XjC Xjo)]) (.seq (.cond XjB .skip (.exit 0)) (.seq (.block 1 (.seq (.reg [oM 14 XjC,oM 6 XkV]) k39_4)) (.reg [oD 29 (.bin .add XjC (.const (.int .i64 1))),oM 12 Xqr])))
def XHo:VC:=.seq (.reg [oM 7 τ0,oD 8 (.nilCheck τ7),oD 9 (.fieldA 2 τ8),oD 10 (.load1 .oth τ9),oD 11 (.lenL Xjz),oD 12 (.mv (.const (.int .i64 0)))]) (.block 0 (.loop Xyj))
def fn39:VFn:=⟨30,XHo,[]⟩
def k20_6:VC:=.regD [oM 24 τ0,oD 25 (.nilCheck XoG),oD 26 (.fieldA 0 Xos),oD 27 (.fieldA 0 XoZ),oD 28 (.load1 (.int .u64) Xpl),oM 29 τ1,oD 30 (.conv .u64 Xqr),oD 31 (.bin .add Xrl Xrm),oM 32 τ0,oD 33 (.nilCheck Xtg),oD 34 (.fieldA 0 XuK),oD 35 (.fieldA 1 XsF),oD 36 (.load1 (.int .u64) XtA),oD 37 (.build [(.int .u64 0),(.int .u64 0)] [(0,1,Xro),(1,1,Xvy)]),oD 7 (.alloc [(.int .u64 0),(.int .u64 0)])] [(4,14),(12,14)] [oN (.store 2 τ7 Xve)]
def k20_7:VC:=.regD [oD 38 (.loadN [(.int .u64),(.int .u64)] τ7),oM 39 τ2,oD 40 (.callF 47 [XuI,Xu3]),oM 41 τ0,oD 42 (.nilCheck Xv7),oD 43 (.fieldA 2 Xv6),oD 44 (.load1 .oth Xwc),oM 45 τ1,oD 46 (.idxAL 1 Xv8 Xwu),oD 47 (.load1 .oth XyI),oD 48 (.lenL XAa)] [(2,6),(2,9)] [oD 49 (.callF 46 [Xwa,XAg]),oM 6 XAd]
def Xlp:VC:=.seq (.reg [oD 6 (.mv (.const (.int .i64 0)))]) (.seq (.seq (.reg [oM 8 τ0,oD 9 (.callF 38 [τ8]),oD 10 (.not τ9),oM 11 Xjz,oG 12 (.mv τ1) 11 false,oG 13 (.bin .lss XjC (.const (.int .i64 0))) 11 false,oD 14 (.pick Xjo (.const (.bool true)) XjB),oM 15 XkV,oG 16 (.mv τ1) 15 false,oG 17 (.mv τ0) 15 false,oG 18 (.nilCheck XkI) 15 false,oG 19 (.fieldA 2 XkO) 15 false,oG 20 (.load1 .oth Xnl) 15 false,oG 21 (.lenL Xl1) 15 false,oG 22 (.bin .geq Xlo Xnc) 15 false,oD 23 (.pick XjN (.const (.bool true)) Xod)]) (.cond XoC (.seq (.reg [oD 6 (.mv (.const (.int .i64 (-1))))]) .ret) .skip)) (.seq k20_6 (.seq k20_7 .ret)))
def fn20:VFn:=⟨50,Xlp,[.tmp 6]⟩
def XJn:VC:=.seq (.reg [oD 2 (.box τ0),oD 4 (.mv (.const (.int .u64 0)))]) (.seq (.reg [oD 6 (.loadN [(.int .u64),(.int .u64)] τ2),oD 7 (.callF 61 [τ6]),oM 5 τ7]) (.seq (.reg [oM 8 τ5,oM 9 τ1,oD 10 (.callF 62 [τ8,τ9])]) (.seq (.reg [oM 11 τ5,oD 12 (.callF 63 [Xjo]),oM 4 XjC]) .ret)))
def fn47:VFn:=⟨13,XJn,[.tmp 4]⟩
def XIf:VC:=.seq (.reg [oD 1 (.box τ0),oD 2 (.mv (.const (.pointer none)))]) (.seq (.reg [oD 3 (.fieldA 0 τ1),oD 4 (.load1 (.int .u64) τ3),oD 5 (.bin .xor (.const (.int .u64 8317987319222330741)) τ4),oD 6 (.fieldA 1 τ1),oD 7 (.load1 (.int .u64) τ6),oD 8 (.bin .xor (.const (.int .u64 7237128888997146477)) τ7),oD 9 (.fieldA 0 τ1),oD 10 (.load1 (.int .u64) τ9),oD 11 (.bin .xor (.const (.int .u64 7816392313619706465)) Xjz),oD 12 (.fieldA 1 τ1),oD 13 (.load1 (.int .u64) XjC),oD 14 (.bin .xor (.const (.int .u64 8387220255154660723)) XjB),oD 15 (.build [(.int .u64 0),(.int .u64 0),(.int .u64 0),(.int .u64 0)] [(0,1,τ5),(1,1,τ8),(2,1,Xjo),(3,1,XkV)]),oD 16 (.build [(.bool false),(.int .u64 0),(.int .u64 0),(.int .u64 0),(.int .u64 0),(.int .u64 0),(.int .i64 0)] [(0,1,(.const (.bool true))),(1,4,XjN)]),oD 17 (.box Xlo),oM 2 XkI]) .ret)
def fn61:VFn:=⟨18,XIf,[.tmp 2]⟩
def k62_7:VC:=.regD [oM 22 τ0,oD 23 (.nilCheck Xod),oD 24 (.fieldA 5 XoC),oD 25 (.load1 (.int .u64) XoG),oM 26 τ5,oD 27 (.conv .u64 XoZ),oM 28 τ0,oD 29 (.nilCheck Xrl),oD 30 (.fieldA 6 Xqr),oD 31 (.load1 (.int .i64) Xrm),oD 32 (.bin .rem Xro (.const (.int .i64 8))),oD 33 (.bin .mul (.const (.int .i64 8)) Xtg),oD 34 (.bin .shl Xpl XuK)] [] [oD 35 (.bin .or Xos XsF),oD 36 (.nilCheck Xod),oD 37 (.fieldA 5 Xvy),oN (.store 1 Xve XtA)]
def XJg:VC:=.regD [oM 51 τ0,oD 52 (.nilCheck XFA),oD 53 (.fieldA 1 XGd),oM 54 τ0,oD 55 (.nilCheck XFT),oD 56 (.fieldA 5 XEa),oD 57 (.load1 (.int .u64) XGt)] [] [oD 58 (.callF 72 [XFY,XGE])]
def Xyo:VC:=.seq (.reg [oD 19 (.bin .lss XkO XkI)]) (.seq (.cond Xnl .skip (.exit 0)) (.seq (.block 1 (.seq (.reg [oD 20 (.idxAL 1 Xlo XkO),oD 21 (.load1 (.int .u8) Xl1),oM 5 Xnc]) (.seq k62_7 (.seq (.reg [oM 38 τ0,oD 39 (.nilCheck XuI),oD 40 (.fieldA 6 Xu3),oD 41 (.load1 (.int .i64) Xwa),oD 42 (.bin .add Xv7 (.const (.int .i64 1))),oD 43 (.nilCheck XuI),oD 44 (.fieldA 6 Xwc),oN (.store 1 Xv8 Xv6)]) (.seq (.reg [oM 45 τ0,oD 46 (.nilCheck Xwu),oD 47 (.fieldA 6 XyI),oD 48 (.load1 (.int .i64) XAa),oD 49 (.bin .rem XAg (.const (.int .i64 8))),oD 50 (.bin .eql XAd (.const (.int .i64 0)))]) (.cond XDx (.seq XJg (.reg [oM 59 τ0,oD 60 (.nilCheck XEQ),oD 61 (.fieldA 5 XGP),oN (.store 1 XG0 (.const (.int .u64 0)))])) .skip)))))) (.reg [oD 62 (.bin .add XkO (.const (.int .i64 1))),oM 18 XGO])))
def XC3:VC:=.seq (.seq (.reg [oM 6 τ0,oD 7 (.isNil 0 false τ6),oM 8 τ7,oG 9 (.mv τ0) 8 false,oG 10 (.nilCheck τ9) 8 false,oG 11 (.fieldA 0 Xjz) 8 false,oG 12 (.load1 .bool Xjo) 8 false,oG 13 (.not XjC) 8 false,oD 14 (.pick τ8 (.const (.bool true)) XjB)]) (.cond XkV .ret .skip)) (.seq (.reg [oM 15 τ1,oD 16 (.s2b XjN),oD 17 (.lenL Xlo),oD 18 (.mv (.const (.int .i64 0)))]) (.block 0 (.loop Xyo)))
def fn62:VFn:=⟨63,XC3,[]⟩
def k72_0:VC:=.regD [oM 4 τ0,oD 5 (.nilCheck τ4),oD 6 (.idxAA 4 1 τ5 (.const (.int .i64 3))),oD 7 (.load1 (.int .u64) τ6),oM 8 τ1,oD 9 (.bin .xor τ7 τ8),oD 10 (.nilCheck τ4)] [] [oD 11 (.idxAA 4 1 Xjz (.const (.int .i64 3))),oN (.store 1 Xjo τ9)]
def k72_2:VC:=.regD [oM 14 τ0,oD 15 (.nilCheck XkV),oD 16 (.idxAA 4 1 XjN (.const (.int .i64 0))),oD 17 (.load1 (.int .u64) Xlo),oM 18 τ1,oD 19 (.bin .xor XkI XkO),oD 20 (.nilCheck XkV)] [] [oD 21 (.idxAA 4 1 Xl1 (.const (.int .i64 0))),oN (.store 1 Xnc Xnl)]
def XI1:VC:=.seq k72_0 (.seq (.reg [oM 12 τ0,oD 13 (.callF 73 [XjC,(.const (.int .i64 2))])]) k72_2)
def fn72:VFn:=⟨22,XI1,[]⟩
def XFG:VC:=.seq (.reg [oD 8 (.bin .lss τ7 τ6)]) (.seq (.cond τ8 .skip (.exit 0)) (.seq (.block 1 (.reg [oM 9 τ0,oD 10 (.callF 76 [τ9])])) (.reg [oD 11 (.bin .add τ7 (.const (.int .i64 1))),oM 7 Xjo])))
def XC4:VC:=.seq (.reg [oM 4 τ1,oD 5 (.minmax false [τ4,(.const (.int .i64 64))]),oD 6 (.minmax true [(.const (.int .i64 0)),τ5]),oD 7 (.mv (.const (.int .i64 0)))]) (.block 0 (.loop XFG))
def fn73:VFn:=⟨12,XC4,[]⟩
def k76_0:VC:=.regD [oM 2 τ0,oD 3 (.nilCheck τ2),oD 4 (.idxAA 4 1 τ3 (.const (.int .i64 0))),oD 5 (.load1 (.int .u64) τ4),oM 6 τ0,oD 7 (.nilCheck τ6),oD 8 (.idxAA 4 1 τ7 (.const (.int .i64 1))),oD 9 (.load1 (.int .u64) τ8),oD 10 (.bin .add τ5 τ9),oD 11 (.nilCheck τ2)] [] [oD 12 (.idxAA 4 1 Xjo (.const (.int .i64 0))),oN (.store 1 XjC Xjz)]
def k76_1:VC:=.regD [oM 13 τ0,oM 14 τ0,oD 15 (.nilCheck XkV),oD 16 (.idxAA 4 1 XjN (.const (.int .i64 1))),oD 17 (.load1 (.int .u64) Xlo),oD 18 (.callF 78 [XkI,(.const (.int .i64 13))]),oM 19 τ0,oD 20 (.nilCheck Xnl),oD 21 (.idxAA 4 1 Xl1 (.const (.int .i64 0))),oD 22 (.load1 (.int .u64) Xnc),oD 23 (.bin .xor XkO Xod),oD 24 (.nilCheck XjB)] [(5,9)] [oD 25 (.idxAA 4 1 XoG (.const (.int .i64 1))),oN (.store 1 Xos XoC)]
def k76_2:VC:=.regD [oM 26 τ0,oM 27 τ0,oD 28 (.nilCheck Xpl),oD 29 (.idxAA 4 1 Xrl (.const (.int .i64 0))),oD 30 (.load1 (.int .u64) Xqr),oD 31 (.callF 78 [Xrm,(.const (.int .i64 32))]),oD 32 (.nilCheck XoZ)] [] [oD 33 (.idxAA 4 1 Xtg (.const (.int .i64 0))),oN (.store 1 XuK Xro)]
def k76_3:VC:=.regD [oM 34 τ0,oD 35 (.nilCheck XsF),oD 36 (.idxAA 4 1 XtA (.const (.int .i64 2))),oD 37 (.load1 (.int .u64) Xvy),oM 38 τ0,oD 39 (.nilCheck XuI),oD 40 (.idxAA 4 1 Xu3 (.const (.int .i64 3))),oD 41 (.load1 (.int .u64) Xwa),oD 42 (.bin .add Xve Xv7),oD 43 (.nilCheck XsF)] [] [oD 44 (.idxAA 4 1 Xwc (.const (.int .i64 2))),oN (.store 1 Xv8 Xv6)]
def k76_4:VC:=.regD [oM 45 τ0,oM 46 τ0,oD 47 (.nilCheck XyI),oD 48 (.idxAA 4 1 XAa (.const (.int .i64 3))),oD 49 (.load1 (.int .u64) XAg),oD 50 (.callF 78 [XAd,(.const (.int .i64 16))]),oM 51 τ0,oD 52 (.nilCheck XFA),oD 53 (.idxAA 4 1 XGd (.const (.int .i64 2))),oD 54 (.load1 (.int .u64) XFY),oD 55 (.bin .xor XDx XFT),oD 56 (.nilCheck Xwu)] [(5,9)] [oD 57 (.idxAA 4 1 XGt (.const (.int .i64 3))),oN (.store 1 XGE XEa)]
def k76_5:VC:=.regD [oM 58 τ0,oD 59 (.nilCheck XGa),oD 60 (.idxAA 4 1 XEQ (.const (.int .i64 0))),oD 61 (.load1 (.int .u64) XGP),oM 62 τ0,oD 63 (.nilCheck XGO),oD 64 (.idxAA 4 1 XIv (.const (.int .i64 3))),oD 65 (.load1 (.int .u64) XDH),oD 66 (.bin .add XG0 XG8),oD 67 (.nilCheck XGa)] [] [oD 68 (.idxAA 4 1 XH4 (.const (.int .i64 0))),oN (.store 1 XJJ XJG)]
def k76_6:VC:=.regD [oM 69 τ0,oM 70 τ0,oD 71 (.nilCheck XH3),oD 72 (.idxAA 4 1 τ71 (.const (.int .i64 3))),oD 73 (.load1 (.int .u64) τ72),oD 74 (.callF 78 [τ73,(.const (.int .i64 21))]),oM 75 τ0,oD 76 (.nilCheck τ75),oD 77 (.idxAA 4 1 τ76 (.const (.int .i64 0))),oD 78 (.load1 (.int .u64) τ77),oD 79 (.bin .xor τ74 τ78),oD 80 (.nilCheck XHY)] [(5,9)] [oD 81 (.idxAA 4 1 τ80 (.const (.int .i64 3))),oN (.store 1 τ81 τ79)]
def k76_7:VC:=.regD [oM 82 τ0,oD 83 (.nilCheck XI2),oD 84 (.idxAA 4 1 τ83 (.const (.int .i64 2))),oD 85 (.load1 (.int .u64) τ84),oM 86 τ0,oD 87 (.nilCheck τ86),oD 88 (.idxAA 4 1 τ87 (.const (.int .i64 1))),oD 89 (.load1 (.int .u64) τ88),oD 90 (.bin .add τ85 τ89),oD 91 (.nilCheck XI2)] [] [oD 92 (.idxAA 4 1 τ91 (.const (.int .i64 2))),oN (.store 1 τ92 τ90)]
def k76_8:VC:=.regD [oM 93 τ0,oM 94 τ0,oD 95 (.nilCheck τ94),oD 96 (.idxAA 4 1 τ95 (.const (.int .i64 1))),oD 97 (.load1 (.int .u64) τ96),oD 98 (.callF 78 [τ97,(.const (.int .i64 17))]),oM 99 τ0,oD 100 (.nilCheck τ99),oD 101 (.idxAA 4 1 XGC (.const (.int .i64 2))),oD 102 (.load1 (.int .u64) XFx),oD 103 (.bin .xor τ98 XFt),oD 104 (.nilCheck τ93)] [(5,9)] [oD 105 (.idxAA 4 1 XEy (.const (.int .i64 1))),oN (.store 1 XGn XEx)]
def k76_9:VC:=.regD [oM 106 τ0,oM 107 τ0,oD 108 (.nilCheck XDY),oD 109 (.idxAA 4 1 XFE (.const (.int .i64 2))),oD 110 (.load1 (.int .u64) XFg),oD 111 (.callF 78 [XFc,(.const (.int .i64 32))]),oD 112 (.nilCheck XEo)] [] [oD 113 (.idxAA 4 1 XGv (.const (.int .i64 2))),oN (.store 1 XFZ XFn)]
def XDO:VC:=.seq k76_0 (.seq k76_1 (.seq k76_2 (.seq k76_3 (.seq k76_4 (.seq k76_5 (.seq k76_6 (.seq k76_7 (.seq k76_8 k76_9))))))))
def fn76:VFn:=⟨114,XDO,[]⟩
def XH0:VC:=.seq (.reg [oD 4 (.mv (.const (.int .u64 0)))]) (.seq (.reg [oM 6 τ1,oD 7 (.conv .u64 τ6),oD 8 (.bin .and τ7 (.const (.int .u64 63))),oM 5 τ8]) (.seq (.reg [oM 9 τ0,oM 10 τ5,oD 11 (.bin .shl τ9 Xjz),oM 12 τ0,oM 13 τ5,oD 14 (.bin .sub (.const (.int .u64 64)) XjB),oD 15 (.bin .shr XjC XkV),oD 16 (.bin .or Xjo XjN),oM 4 Xlo]) .ret))
def fn78:VFn:=⟨17,XH0,[.tmp 4]⟩
def k63_7:VC:=.regD [oM 17 τ0,oD 18 (.nilCheck XkI),oD 19 (.fieldA 5 XkO),oD 20 (.load1 (.int .u64) Xnl),oM 21 τ0,oD 22 (.nilCheck Xnc),oD 23 (.fieldA 6 Xod),oD 24 (.load1 (.int .i64) XoC),oD 25 (.conv .u64 XoG),oD 26 (.bin .shl Xos (.const (.int .u64 56)))] [] [oD 27 (.bin .or Xl1 XoZ),oD 28 (.callF 72 [τ3,Xpl])]
def XDm:VC:=.seq (.reg [oD 2 (.mv (.const (.int .u64 0)))]) (.seq (.seq (.reg [oM 4 τ0,oD 5 (.isNil 0 false τ4),oM 6 τ5,oG 7 (.mv τ0) 6 false,oG 8 (.nilCheck τ7) 6 false,oG 9 (.fieldA 0 τ8) 6 false,oG 10 (.load1 .bool τ9) 6 false,oG 11 (.not Xjz) 6 false,oD 12 (.pick τ6 (.const (.bool true)) Xjo)]) (.cond XjC (.seq (.reg [oD 2 (.mv (.const (.int .u64 0)))]) .ret) .skip)) (.seq (.reg [oM 13 τ0,oD 14 (.nilCheck XjB),oD 15 (.fieldA 1 XkV),oD 16 (.loadN [(.int .u64),(.int .u64),(.int .u64),(.int .u64)] XjN),oD 3 (.alloc [(.int .u64 0),(.int .u64 0),(.int .u64 0),(.int .u64 0)]),oN (.store 4 τ3 Xlo)]) (.seq k63_7 (.seq (.reg [oD 29 (.idxAA 4 1 τ3 (.const (.int .i64 2))),oD 30 (.load1 (.int .u64) Xqr),oD 31 (.bin .xor Xrm (.const (.int .u64 255))),oD 32 (.idxAA 4 1 τ3 (.const (.int .i64 2))),oN (.store 1 Xtg Xro)]) (.seq (.reg [oD 33 (.callF 73 [τ3,(.const (.int .i64 4))])]) (.seq (.reg [oD 34 (.idxAA 4 1 τ3 (.const (.int .i64 0))),oD 35 (.load1 (.int .u64) XsF),oD 36 (.idxAA 4 1 τ3 (.const (.int .i64 1))),oD 37 (.load1 (.int .u64) Xvy),oD 38 (.bin .xor XtA Xve),oD 39 (.idxAA 4 1 τ3 (.const (.int .i64 2))),oD 40 (.load1 (.int .u64) Xu3),oD 41 (.bin .xor XuI Xwa),oD 42 (.idxAA 4 1 τ3 (.const (.int .i64 3))),oD 43 (.load1 (.int .u64) Xv6),oD 44 (.bin .xor Xv7 Xwc),oM 2 Xv8]) .ret))))))
def fn63:VFn:=⟨45,XDm,[.tmp 2]⟩
def XIo:VC:=.seq (.reg [oD 4 (.mv (.const (.int .i64 0)))]) (.seq (.seq (.reg [oM 5 τ1,oD 6 (.bin .lss τ5 (.const (.int .i64 1))),oM 7 τ6,oG 8 (.mv τ1) 7 false,oG 9 (.bin .gtr τ8 (.const (.int .i64 2147483648))) 7 false,oD 10 (.pick τ7 (.const (.bool true)) τ9)]) (.cond Xjz (.seq (.reg [oD 4 (.mv (.const (.int .i64 0)))]) .ret) .skip)) (.seq (.reg [oM 11 τ0,oM 12 τ1,oD 13 (.conv .u64 XjC),oD 14 (.callF 60 [Xjo,XjB]),oD 15 (.idxV1 2 XkV (.const (.int .i64 0))),oD 16 (.conv .i64 XjN),oM 4 Xlo]) .ret))
def fn46:VFn:=⟨17,XIo,[.tmp 4]⟩
def XJB:VC:=.seq (.reg [oD 4 (.alloc [(.int .u64 0),(.int .u64 0)])]) (.seq (.reg [oM 8 τ0,oM 9 τ1,oD 10 (.callF 71 [τ8,τ9]),oM 7 Xjz,oE 11 0 τ7,oE 12 1 τ7,oM 5 Xjo,oM 6 XjC]) (.seq (.reg [oM 13 τ5,oM 14 τ6,oD 15 (.build [(.int .u64 0),(.int .u64 0)] [(0,1,XjB),(1,1,XkV)]),oN (.store 2 τ4 XjN)]) .ret))
def fn60:VFn:=⟨16,XJB,[.cell 4 [(.int .u64),(.int .u64)] true]⟩
def XCK:VC:=.seq (.reg [oD 4 (.mv (.const (.int .u64 0))),oD 5 (.mv (.const (.int .u64 0)))]) (.seq (.reg [oM 14 τ0,oD 15 (.bin .and XkV (.const (.int .u64 4294967295))),oM 6 XjN]) (.seq (.reg [oM 16 τ0,oD 17 (.bin .shr Xlo (.const (.int .u64 32))),oM 7 XkI]) (.seq (.reg [oM 18 τ1,oD 19 (.bin .and XkO (.const (.int .u64 4294967295))),oM 8 Xnl]) (.seq (.reg [oM 20 τ1,oD 21 (.bin .shr Xl1 (.const (.int .u64 32))),oM 9 Xnc]) (.seq (.reg [oM 22 τ6,oM 23 τ8,oD 24 (.bin .mul Xod XoC),oM 10 XoG]) (.seq (.reg [oM 25 τ7,oM 26 τ8,oD 27 (.bin .mul Xos XoZ),oM 28 Xjz,oD 29 (.bin .shr Xrl (.const (.int .u64 32))),oD 30 (.bin .add Xpl Xqr),oM 11 Xrm]) (.seq (.reg [oM 31 Xjo,oD 32 (.bin .and Xro (.const (.int .u64 4294967295))),oM 12 Xtg]) (.seq (.reg [oM 33 Xjo,oD 34 (.bin .shr XuK (.const (.int .u64 32))),oM 13 XsF]) (.seq (.reg [oM 35 XjC,oM 36 τ6,oM 37 τ9,oD 38 (.bin .mul Xvy Xve),oD 39 (.bin .add XtA XuI),oM 12 Xu3]) (.seq (.reg [oM 40 τ7,oM 41 τ9,oD 42 (.bin .mul Xwa Xv7),oM 43 XjB,oD 44 (.bin .add Xv6 Xwc),oM 45 XjC,oD 46 (.bin .shr Xwu (.const (.int .u64 32))),oD 47 (.bin .add Xv8 XyI),oM 4 XAa]) (.seq (.reg [oM 48 τ0,oM 49 τ1,oD 50 (.bin .mul XAg XAd),oM 5 XDx]) .ret)))))))))))
def fn71:VFn:=⟨51,XCK,[.tmp 4,.tmp 5]⟩
def XlA:VC:=.seq (.reg [oD 4 (.mv (.const (.int .i64 0)))]) (.seq (.seq (.reg [oM 6 τ0,oD 7 (.callF 38 [τ6]),oD 8 (.not τ7)]) (.cond τ8 (.seq (.reg [oD 4 (.mv (.const (.int .i64 0)))]) .ret) .skip)) (.seq (.reg [oD 5 (.alloc [(.int .i64 0)]),oN (.store 1 τ5 (.const (.int .i64 1099511627776)))]) (.seq (.reg [oM 9 τ0,oM 10 τ1,oD 11 (.mkFunc 45 [] [τ5]),oD 12 (.callF 39 [τ9,Xjz,Xjo])]) (.seq (.reg [oD 13 (.load1 (.int .i64) τ5),oM 4 XjB]) .ret))))
def fn16:VFn:=⟨14,XlA,[.tmp 4]⟩
def k45_0:VC:=.regD [oD 3 (.load1 (.int .i64) τ1),oM 4 τ0,oD 5 (.nilCheck τ4),oD 6 (.load1 (.int .i64) τ5)] [] [oD 7 (.minmax false [τ3,τ6]),oN (.store 1 τ1 τ7)]
def fn45:VFn:=⟨8,k45_0,[]⟩
def XoH:VC:=.seq (.reg [oD 2 (.mv (.const (.int .i64 0)))]) (.seq (.seq (.reg [oM 3 τ0,oD 4 (.callF 38 [τ3]),oD 5 (.not τ4)]) (.cond τ5 (.seq (.reg [oD 2 (.mv (.const (.int .i64 0)))]) .ret) .skip)) (.seq (.reg [oM 6 τ0,oD 7 (.nilCheck τ6),oD 8 (.fieldA 3 τ7),oD 9 (.load1 (.int .i64) τ8),oM 2 τ9]) .ret))
def fn18:VFn:=⟨10,XoH,[.tmp 2]⟩
def Xbq:VC:=.seq (.reg [oD 26 (.bin .lss Xos XoG)]) (.seq (.cond XoZ .skip (.exit 2)) (.seq (.block 3 (.seq (.reg [oM 27 Xos,oD 28 (.idxAL 1 XoC Xos),oD 29 (.load1 (.int .i64) Xrl),oM 7 Xpl,oM 8 Xqr]) (.reg [oM 30 τ0,oD 31 (.nilCheck Xrm),oD 32 (.fieldA 2 Xro),oD 33 (.load1 .oth Xtg),oM 34 τ5,oD 35 (.idxAL 1 XuK XsF),oD 36 (.load1 .oth XtA),oM 37 τ7,oD 38 (.idxAL 1 Xvy Xve),oM 39 τ8,oD 40 (.callF 41 [XuI,Xu3])]))) (.reg [oD 41 (.bin .add Xos (.const (.int .i64 1))),oM 25 Xv7])))
def XdU:VC:=.reg [oD 42 (.bin .add XkO (.const (.int .i64 1))),oM 18 Xv6]
def Xdw:VC:=.seq (.reg [oD 19 (.bin .lss XkO XkI)]) (.seq (.cond Xnl .skip (.exit 0)) (.seq (.block 1 (.seq (.reg [oM 20 XkO,oD 21 (.idxAL 1 Xlo XkO),oD 22 (.load1 .oth Xnc),oM 5 Xl1,oM 6 Xod]) (.seq (.reg [oM 23 τ6,oD 24 (.lenL XoC),oD 25 (.mv (.const (.int .i64 0)))]) (.block 2 (.loop Xbq))))) XdU))
def XH7:VC:=.regD [oM 43 τ0,oD 44 (.nilCheck Xwc),oD 45 (.fieldA 3 Xv8),oM 46 τ1,oD 47 (.nilCheck XyI),oD 48 (.fieldA 3 XAa),oD 49 (.load1 (.int .i64) XAg)] [] [oD 50 (.callF 41 [Xwu,XAd])]
def XdF:VC:=.seq XH7 (.seq (.reg [oD 4 (.mv (.const (.bool true)))]) .ret)
def Xlr:VC:=.seq (.reg [oD 4 (.mv (.const (.bool false)))]) (.seq (.seq (.reg [oM 9 τ0,oM 10 τ1,oD 11 (.callF 42 [τ9,Xjz]),oD 12 (.not Xjo)]) (.cond XjC (.seq (.reg [oD 4 (.mv (.const (.bool false)))]) .ret) .skip)) (.seq (.seq (.reg [oM 13 τ1,oD 14 (.nilCheck XjB),oD 15 (.fieldA 2 XkV),oD 16 (.load1 .oth XjN),oD 17 (.lenL Xlo),oD 18 (.mv (.const (.int .i64 0)))]) (.block 0 (.loop Xdw))) XdF))
def fn14:VFn:=⟨51,Xlr,[.tmp 4]⟩
def k42_1:VC:=.regD [oM 5 τ0,oD 6 (.callF 38 [τ5]),oD 7 (.not τ6),oM 8 τ7,oG 9 (.mv τ1) 8 false,oG 10 (.callF 38 [τ9]) 8 false,oG 11 (.not Xjz) 8 false,oD 12 (.pick τ8 (.const (.bool true)) Xjo),oM 13 XjC,oG 14 (.mv τ0) 13 false,oG 15 (.nilCheck XkV) 13 false,oG 16 (.fieldA 0 XjN) 13 false,oG 17 (.loadN [(.int .u64),(.int .u64)] Xlo) 13 false,oG 18 (.mv τ1) 13 false,oG 19 (.nilCheck XkO) 13 false,oG 20 (.fieldA 0 Xnl) 13 false,oG 21 (.loadN [(.int .u64),(.int .u64)] Xl1) 13 false] [] [oG 22 (.eqAgg true [(0,(.int .u64)),(1,(.int .u64))] XkI Xnc) 13 false,oD 23 (.pick XjB (.const (.bool true)) Xod)]
def XHX:VC:=.regD [oM 24 τ0,oD 25 (.nilCheck XoG),oD 26 (.fieldA 2 Xos),oD 27 (.load1 .oth XoZ),oM 28 τ1,oD 29 (.nilCheck Xrl),oD 30 (.fieldA 2 Xqr),oD 31 (.load1 .oth Xrm)] [] [oD 32 (.callF 54 [Xpl,Xro,(.func 55)]),oM 4 Xtg]
def XoF:VC:=.seq (.reg [oD 4 (.mv (.const (.bool false)))]) (.seq (.seq k42_1 (.cond XoC (.seq (.reg [oD 4 (.mv (.const (.bool false)))]) .ret) .skip)) (.seq XHX .ret))
def fn42:VFn:=⟨33,XoF,[.tmp 4]⟩
def Xxl:VC:=.seq (.reg [oD 18 (.bin .lss XkI Xlo)]) (.seq (.cond XkO .skip (.exit 0)) (.seq (.block 1 (.seq (.reg [oM 19 XkI,oD 20 (.idxAL 1 XjN XkI),oD 21 (.load1 .oth Xl1),oM 7 Xnl,oM 8 Xnc]) (.seq (.reg [oM 22 τ1,oM 23 τ7,oD 24 (.idxAL 1 Xod XoC),oD 25 (.load1 .oth XoG),oM 9 Xos]) (.seq (.reg [oM 26 τ2,oM 27 τ8,oM 28 τ9,oD 29 (.callV XoZ [Xpl,Xrl]),oD 30 (.not Xqr)]) (.cond Xrm (.seq (.reg [oD 6 (.mv (.const (.bool false)))]) .ret) .skip))))) (.reg [oD 31 (.bin .add XkI (.const (.int .i64 1))),oM 17 Xro])))
def XDS:VC:=.seq (.reg [oD 6 (.mv (.const (.bool true)))]) .ret
def XHb:VC:=.seq (.reg [oD 6 (.mv (.const (.bool false)))]) (.seq (.seq (.reg [oM 10 τ0,oD 11 (.lenL Xjz),oM 12 τ1,oD 13 (.lenL XjC),oD 14 (.bin .neq Xjo XjB)]) (.cond XkV (.seq (.reg [oD 6 (.mv (.const (.bool false)))]) .ret) .skip)) (.seq (.seq (.reg [oM 15 τ0,oD 16 (.lenL XjN),oD 17 (.mv (.const (.int .i64 0)))]) (.block 0 (.loop Xxl))) XDS))
def fn54:VFn:=⟨32,XHb,[.tmp 6]⟩
def XJv:VC:=.seq (.reg [oD 4 (.mv (.const (.bool false)))]) (.seq (.reg [oM 5 τ0,oD 6 (.lenL τ5),oM 7 τ1,oD 8 (.lenL τ7),oD 9 (.bin .eql τ6 τ8),oM 4 τ9]) .ret)
def fn55:VFn:=⟨10,XJv,[.tmp 4]⟩
def XIH:VC:=.seq (.reg [oD 4 (.mv (.const (.bool false)))]) (.seq (.reg [oM 5 τ0,oD 6 (.bin .geq τ5 (.const (.int .i64 1))),oM 7 τ6,oG 8 (.mv τ0) 7 true,oG 9 (.bin .leq τ8 (.const (.int .i64 8))) 7 true,oD 10 (.pick τ7 τ9 (.const (.bool false))),oM 11 Xjz,oG 12 (.mv τ1) 11 true,oG 13 (.bin .geq XjC (.const (.int .i64 1))) 11 true,oD 14 (.pick Xjo XjB (.const (.bool false))),oM 15 XkV,oG 16 (.mv τ1) 15 true,oG 17 (.bin .leq Xlo (.const (.int .i64 4096))) 15 true,oD 18 (.pick XjN XkI (.const (.bool false))),oM 4 XkO]) .ret)
def fn11:VFn:=⟨19,XIH,[.tmp 4]⟩
def XIz:VC:=.seq (.reg [oD 1 (.box τ0),oD 2 (.mv (.const (.bool false)))]) (.seq (.reg [oD 3 (.fieldA 1 τ1),oD 4 (.load1 (.int .i64) τ3),oD 5 (.bin .geq τ4 (.const (.int .i64 0))),oM 6 τ5,oG 7 (.fieldA 1 τ1) 6 true,oG 8 (.load1 (.int .i64) τ7) 6 true,oG 9 (.bin .leq τ8 (.const (.int .i64 1048576))) 6 true,oD 10 (.pick τ6 τ9 (.const (.bool false))),oM 2 Xjz]) .ret)
def fn13:VFn:=⟨11,XIz,[.tmp 2]⟩
def XJF:VC:=.seq (.reg [oD 4 (.box τ0),oD 8 (.mv (.const (.int .i64 0)))]) (.seq (.reg [oD 9 (.fieldA 0 τ4),oD 10 (.load1 (.int .u64) τ9),oM 11 τ1,oD 12 (.conv .u64 Xjo),oD 13 (.bin .add Xjz XjC),oD 14 (.fieldA 1 τ4),oD 15 (.load1 (.int .u64) XkV),oD 16 (.build [(.int .u64 0),(.int .u64 0)] [(0,1,XjB),(1,1,XjN)]),oM 17 τ3,oD 18 (.callF 44 [Xlo,XkI]),oM 19 τ2,oD 20 (.callF 43 [XkO,Xnl]),oM 8 Xl1]) .ret)
def fn15:VFn:=⟨21,XJF,[.tmp 8]⟩
def k44_1:VC:=.regD [oD 14 (.fieldA 0 τ2),oD 15 (.load1 (.int .u64) XkV),oD 16 (.bin .xor (.const (.int .u64 8317987319222330741)) XjN),oD 17 (.fieldA 1 τ2),oD 18 (.load1 (.int .u64) XkI),oD 19 (.bin .xor (.const (.int .u64 7237128888997146477)) XkO),oM 5 Xlo] [] [oM 6 Xnl]
def k44_2:VC:=.regD [oD 20 (.fieldA 0 τ2),oD 21 (.load1 (.int .u64) Xl1),oD 22 (.bin .xor (.const (.int .u64 7816392313619706465)) Xnc),oD 23 (.fieldA 1 τ2),oD 24 (.load1 (.int .u64) XoC),oD 25 (.bin .xor (.const (.int .u64 8387220255154660723)) XoG),oM 7 Xod] [] [oM 8 Xos]
def XyA:VC:=.seq (.seq (.reg [oM 60 XjC,oD 61 (.bin .lss XGP (.const (.int .i64 2)))]) (.cond XG0 .skip (.exit 2))) (.seq (.block 3 (.reg [oM 65 τ5,oM 66 τ6,oM 67 τ7,oM 68 τ8,oD 69 (.callF 58 [XG8,XJG,XH4,XJJ]),oM 64 XHY,oE 70 0 XDH,oE 71 1 XDH,oE 72 2 XDH,oE 73 3 XDH,oM 5 XH3,oM 6 τ71,oM 7 τ72,oM 8 τ73])) (.reg [oM 62 XjC,oD 63 (.bin .add XGO (.const (.int .i64 1))),oM 12 XIv]))
def XDt:VC:=.reg [oM 74 τ5,oM 75 Xjo,oD 76 (.bin .xor τ74 τ75),oM 5 τ76]
def XC5:VC:=.reg [oM 33 Xjz,oD 34 (.bin .add XuK (.const (.int .i64 8))),oM 10 XsF]
def Xun:VC:=.seq (.seq (.reg [oM 30 Xjz,oM 31 τ9,oD 32 (.bin .leq Xrm Xro)]) (.cond Xtg .skip (.exit 0))) (.seq (.block 1 (.seq (.reg [oM 35 τ1,oM 36 Xjz,oM 37 Xjz,oD 38 (.bin .add Xve (.const (.int .i64 8))),oM 39 τ1,oD 40 (.lenS Xu3),oD 41 (.minmax false [XuI,Xwa]),oD 42 (.sliceS XtA (some Xvy) (some Xv7)),oD 43 (.callF 57 [Xv6]),oM 11 Xwc]) (.seq (.seq (.reg [oM 44 Xjz,oM 45 τ9,oD 46 (.bin .eql Xv8 Xwu)]) (.cond XyI (.reg [oM 47 τ1,oM 48 Xjz,oD 49 (.sliceS XAa (some XAg) none),oD 50 (.callF 57 [XAd]),oM 51 τ1,oD 52 (.lenS XFA),oD 53 (.bin .rem XGd (.const (.int .i64 256))),oD 54 (.conv .u64 XFY),oD 55 (.bin .shl XFT (.const (.int .u64 56))),oD 56 (.bin .add XDx XEa),oM 11 XGt]) .skip)) (.seq (.reg [oM 57 τ8,oM 58 Xjo,oD 59 (.bin .xor XGE XGa),oM 8 XEQ]) (.seq (.seq (.reg [oD 12 (.mv (.const (.int .i64 0)))]) (.block 2 (.loop XyA))) XDt))))) XC5)
def Xww:VC:=.seq (.reg [oM 77 τ7,oD 78 (.bin .xor τ77 (.const (.int .u64 255))),oM 7 τ78]) (.seq (.reg [oM 79 τ5,oM 80 τ6,oM 81 τ7,oM 82 τ8,oD 83 (.callF 59 [τ79,τ80,τ81,XI2,(.const (.int .i64 4))]),oD 13 (.alloc [(.int .u64 0),(.int .u64 0),(.int .u64 0),(.int .u64 0)]),oN (.store 4 XjB τ83)]) (.seq (.reg [oD 84 (.idxAA 4 1 XjB (.const (.int .i64 0))),oD 85 (.load1 (.int .u64) τ84),oD 86 (.idxAA 4 1 XjB (.const (.int .i64 1))),oD 87 (.load1 (.int .u64) τ86),oD 88 (.bin .xor τ85 τ87),oD 89 (.idxAA 4 1 XjB (.const (.int .i64 2))),oD 90 (.load1 (.int .u64) τ89),oD 91 (.bin .xor τ88 τ90),oD 92 (.idxAA 4 1 XjB (.const (.int .i64 3))),oD 93 (.load1 (.int .u64) τ92),oD 94 (.bin .xor τ91 τ93),oM 4 τ94]) .ret))
def XDK:VC:=.seq (.reg [oD 2 (.box τ0),oD 4 (.mv (.const (.int .u64 0)))]) (.seq k44_1 (.seq k44_2 (.seq (.reg [oM 26 τ1,oD 27 (.lenS XoZ),oD 28 (.bin .quo Xpl (.const (.int .i64 8))),oD 29 (.bin .mul Xrl (.const (.int .i64 8))),oM 9 Xqr]) (.seq (.seq (.reg [oD 10 (.mv (.const (.int .i64 0)))]) (.block 0 (.loop Xun))) Xww))))
def fn44:VFn:=⟨95,XDK,[.tmp 4]⟩
def Xwl:VC:=.seq (.seq (.reg [oM 8 τ4,oD 9 (.bin .geq τ8 (.const (.int .i64 0)))]) (.cond τ9 .skip (.exit 0))) (.seq (.block 1 (.reg [oM 12 τ3,oD 13 (.bin .shl XjC (.const (.int .u64 8))),oM 14 τ0,oM 15 τ4,oD 16 (.idxS XkV XjN),oD 17 (.conv .u64 Xlo),oD 18 (.bin .add XjB XkI),oM 3 XkO])) (.reg [oM 10 τ4,oD 11 (.bin .sub Xjz (.const (.int .i64 1))),oM 4 Xjo]))
def XCP:VC:=.seq (.reg [oM 19 τ3,oM 2 Xnl]) .ret
def XCN:VC:=.seq (.reg [oD 2 (.mv (.const (.int .u64 0)))]) (.seq (.reg [oD 3 (.mv (.const (.int .u64 0)))]) (.seq (.seq (.reg [oM 5 τ0,oD 6 (.lenS τ5),oD 7 (.bin .sub τ6 (.const (.int .i64 1))),oM 4 τ7]) (.block 0 (.loop Xwl))) XCP))
def fn57:VFn:=⟨20,XCN,[.tmp 2]⟩
def XDN:VC:=.seq (.reg [oD 8 (.mv (.const (.int .u64 0))),oD 9 (.mv (.const (.int .u64 0))),oD 10 (.mv (.const (.int .u64 0))),oD 11 (.mv (.const (.int .u64 0)))]) (.seq (.reg [oM 12 τ0,oM 13 τ1,oD 14 (.bin .add XjC XjB),oM 0 XkV]) (.seq (.reg [oM 15 τ1,oD 16 (.callF 70 [XjN,(.const (.int .i64 13))]),oM 17 τ0,oD 18 (.bin .xor Xlo XkI),oM 1 XkO]) (.seq (.reg [oM 19 τ0,oD 20 (.callF 70 [Xnl,(.const (.int .i64 32))]),oM 0 Xl1]) (.seq (.reg [oM 21 τ2,oM 22 τ3,oD 23 (.bin .add Xnc Xod),oM 2 XoC]) (.seq (.reg [oM 24 τ3,oD 25 (.callF 70 [XoG,(.const (.int .i64 16))]),oM 26 τ2,oD 27 (.bin .xor Xos XoZ),oM 3 Xpl]) (.seq (.reg [oM 28 τ0,oM 29 τ3,oD 30 (.bin .add Xrl Xqr),oM 0 Xrm]) (.seq (.reg [oM 31 τ3,oD 32 (.callF 70 [Xro,(.const (.int .i64 21))]),oM 33 τ0,oD 34 (.bin .xor Xtg XuK),oM 3 XsF]) (.seq (.reg [oM 35 τ2,oM 36 τ1,oD 37 (.bin .add XtA Xvy),oM 2 Xve]) (.seq (.reg [oM 38 τ1,oD 39 (.callF 70 [XuI,(.const (.int .i64 17))]),oM 40 τ2,oD 41 (.bin .xor Xu3 Xwa),oM 1 Xv7]) (.seq (.reg [oM 42 τ2,oD 43 (.callF 70 [Xv6,(.const (.int .i64 32))]),oM 2 Xwc]) (.seq (.reg [oM 44 τ0,oM 45 τ1,oM 46 τ2,oM 47 τ3,oM 8 Xv8,oM 9 Xwu,oM 10 XyI,oM 11 XAa]) .ret)))))))))))
def fn58:VFn:=⟨48,XDN,[.tmp 8,.tmp 9,.tmp 10,.tmp 11]⟩
def k70_1:VC:=.regD [oM 5 τ0,oM 6 τ1,oD 7 (.bin .shl τ5 τ6),oM 8 τ0,oM 9 τ1,oD 10 (.bin .sub (.const (.int .i64 64)) τ9),oD 11 (.bin .shr τ8 Xjz)] [] [oD 12 (.bin .or τ7 Xjo),oM 4 XjC]
def XHr:VC:=.seq (.reg [oD 4 (.mv (.const (.int .u64 0)))]) (.seq k70_1 .ret)
def fn70:VFn:=⟨13,XHr,[.tmp 4]⟩
def XF0:VC:=.seq (.seq (.reg [oM 12 Xjo,oM 13 τ4,oD 14 (.bin .lss XjC XjB),oM 15 XkV,oG 16 (.mv Xjo) 15 true,oG 17 (.bin .lss Xlo (.const (.int .i64 64))) 15 true,oD 18 (.pick XjN XkI (.const (.bool false)))]) (.cond XkO .skip (.exit 0))) (.seq (.block 1 (.reg [oM 22 τ0,oM 23 τ1,oM 24 τ2,oM 25 τ3,oD 26 (.callF 58 [Xod,XoC,XoG,Xos]),oM 21 XoZ,oE 27 0 Xnc,oE 28 1 Xnc,oE 29 2 Xnc,oE 30 3 Xnc,oM 0 Xpl,oM 1 Xrl,oM 2 Xqr,oM 3 Xrm])) (.reg [oM 19 Xjo,oD 20 (.bin .add Xnl (.const (.int .i64 1))),oM 11 Xl1]))
def XDo:VC:=.seq (.reg [oM 31 τ0,oM 32 τ1,oM 33 τ2,oM 34 τ3,oD 35 (.build [(.int .u64 0),(.int .u64 0),(.int .u64 0),(.int .u64 0)] [(0,1,Xro),(1,1,Xtg),(2,1,XuK),(3,1,XsF)]),oN (.store 4 Xjz XtA)]) .ret
def XDb:VC:=.seq (.reg [oD 10 (.alloc [(.int .u64 0),(.int .u64 0),(.int .u64 0),(.int .u64 0)])]) (.seq (.seq (.reg [oD 11 (.mv (.const (.int .i64 0)))]) (.block 0 (.loop XF0))) XDo)
def fn59:VFn:=⟨36,XDb,[.cell 10 [(.int .u64),(.int .u64),(.int .u64),(.int .u64)] true]⟩
def XC7:VC:=.seq (.reg [oD 4 (.mv (.const (.int .i64 0)))]) (.seq (.seq (.reg [oM 7 τ1,oD 8 (.bin .lss τ7 (.const (.int .i64 1))),oM 9 τ8,oG 10 (.mv τ1) 9 false,oG 11 (.bin .gtr Xjz (.const (.int .i64 2147483648))) 9 false,oD 12 (.pick τ9 (.const (.bool true)) Xjo)]) (.cond XjC (.seq (.reg [oD 4 (.mv (.const (.int .i64 0)))]) .ret) .skip)) (.seq (.reg [oM 14 τ0,oM 15 τ1,oD 16 (.conv .u64 XjN),oD 17 (.callF 56 [XkV,Xlo]),oM 13 XkI,oE 18 0 XjB,oE 19 1 XjB,oM 5 XkO,oM 6 Xnl]) (.seq (.reg [oM 20 τ5,oD 21 (.conv .i64 Xl1),oM 4 Xnc]) .ret)))
def fn43:VFn:=⟨22,XC7,[.tmp 4]⟩
def Xzm:VC:=.seq (.seq (.reg [oM 10 τ8,oD 11 (.bin .geq Xjz (.const (.int .i64 0)))]) (.cond Xjo .skip (.exit 0))) (.seq (.block 1 (.seq (.reg [oD 9 (.mv (.const (.int .u64 0)))]) (.seq (.seq (.reg [oM 14 τ0,oM 15 τ8,oD 16 (.bin .shr XkV XjN),oD 17 (.bin .and Xlo (.const (.int .u64 1))),oD 18 (.bin .eql XkI (.const (.int .u64 1)))]) (.cond XkO (.reg [oM 19 τ1,oM 9 Xnl]) .skip)) (.reg [oM 21 τ6,oM 22 τ7,oM 23 τ9,oD 24 (.callF 69 [Xnc,Xod,XoC]),oM 20 XoG,oE 25 0 Xl1,oE 26 1 Xl1,oM 6 Xos,oM 7 XoZ])))) (.reg [oM 12 τ8,oD 13 (.bin .sub XjC (.const (.int .i64 1))),oM 8 XjB]))
def XDs:VC:=.seq (.reg [oM 27 τ6,oM 28 τ7,oM 4 Xpl,oM 5 Xrl]) .ret
def XDn:VC:=.seq (.reg [oD 4 (.mv (.const (.int .u64 0))),oD 5 (.mv (.const (.int .u64 0)))]) (.seq (.reg [oD 6 (.mv (.const (.int .u64 0))),oD 7 (.mv (.const (.int .u64 0)))]) (.seq (.seq (.reg [oD 8 (.mv (.const (.int .i64 63)))]) (.block 0 (.loop Xzm))) XDs))
def fn56:VFn:=⟨29,XDn,[.tmp 4,.tmp 5]⟩
def XC2:VC:=.seq (.reg [oD 6 (.mv (.const (.int .u64 0))),oD 7 (.mv (.const (.int .u64 0)))]) (.seq (.reg [oM 11 τ0,oD 12 (.bin .shl Xjo (.const (.int .u64 1))),oM 13 τ1,oD 14 (.bin .shr XjB (.const (.int .u64 63))),oD 15 (.bin .or XjC XkV),oM 8 XjN]) (.seq (.reg [oM 16 τ1,oD 17 (.bin .shl Xlo (.const (.int .u64 1))),oM 9 XkI]) (.seq (.reg [oM 18 τ9,oM 19 τ2,oD 20 (.bin .add XkO Xnl),oM 10 Xl1]) (.seq (.seq (.reg [oM 21 Xjz,oM 22 τ9,oD 23 (.bin .lss Xnc Xod)]) (.cond XoC (.reg [oM 24 τ8,oD 25 (.bin .add XoG (.const (.int .u64 1))),oM 8 Xos]) .skip)) (.seq (.reg [oM 26 τ8,oM 27 Xjz,oM 6 XoZ,oM 7 Xpl]) .ret)))))
def fn69:VFn:=⟨28,XC2,[.tmp 6,.tmp 7]⟩
def XIb:VC:=.regD [oM 26 τ3,oM 27 XkV,oD 28 (.idxAL 2 XoZ Xpl),oD 29 (.loadN [.str,(.int .i64)] Xrl),oD 30 (.callF 13 [Xqr]),oM 31 Xrm,oG 32 (.loadN [(.int .u64),(.int .u64)] τ5) 31 true,oG 33 (.mv XjC) 31 true,oG 34 (.mv τ2) 31 true,oG 35 (.mv τ3) 31 true,oG 36 (.mv XkV) 31 true,oG 37 (.idxAL 2 XtA Xvy) 31 true,oG 38 (.fieldA 0 Xve) 31 true,oG 39 (.load1 .str XuI) 31 true,oG 40 (.callF 15 [Xtg,XuK,XsF,Xu3]) 31 true,oG 41 (.loadN [(.int .u64),(.int .u64)] τ5) 31 true,oG 42 (.mv XjC) 31 true,oG 43 (.mv τ2) 31 true,oG 44 (.mv τ4) 31 true] [(14,15)] [oG 45 (.callF 15 [Xv7,Xv6,Xwc,Xv8]) 31 true,oG 46 (.bin .eql Xwa Xwu) 31 true,oD 47 (.pick Xro XyI (.const (.bool false)))]
def Xzq:VC:=.seq (.seq (.reg [oM 20 XkV,oM 21 τ3,oD 22 (.lenL Xnc),oD 23 (.bin .lss Xl1 Xod)]) (.cond XoC .skip (.exit 2))) (.seq (.block 3 (.seq XIb (.cond XAa (.reg [oM 48 XjB,oM 49 τ3,oM 50 XkV,oD 51 (.idxAL 2 XAd XDx),oD 52 (.fieldA 1 XFA),oD 53 (.load1 (.int .i64) XGd),oD 54 (.bin .add XAg XFY),oD 55 (.minmax false [(.const (.int .i64 1099511627776)),XFT]),oM 13 XEa]) .skip))) (.reg [oM 24 XkV,oD 25 (.bin .add XoG (.const (.int .i64 1))),oM 14 Xos]))
def XCR:VC:=.reg [oM 56 Xjo,oM 57 XjB,oD 58 (.minmax false [XGt,XGE]),oM 11 XGa]
def XCT:VC:=.reg [oM 18 XjC,oD 19 (.bin .add XkO (.const (.int .i64 1))),oM 12 Xnl]
def XtP:VC:=.seq (.seq (.reg [oM 15 XjC,oM 16 τ1,oD 17 (.bin .lss XjN Xlo)]) (.cond XkI .skip (.exit 0))) (.seq (.block 1 (.seq (.reg [oD 13 (.mv (.const (.int .i64 0)))]) (.seq (.seq (.reg [oD 14 (.mv (.const (.int .i64 0)))]) (.block 2 (.loop Xzq))) XCR))) XCT)
def Xyv:VC:=.seq (.reg [oM 59 Xjo,oM 10 XEQ]) .ret
def XDP:VC:=.seq (.reg [oD 5 (.box τ0),oD 10 (.mv (.const (.int .i64 0)))]) (.seq (.reg [oD 11 (.mv (.const (.int .i64 1099511627776)))]) (.seq (.seq (.reg [oD 12 (.mv (.const (.int .i64 0)))]) (.block 0 (.loop XtP))) Xyv))
def fn17:VFn:=⟨60,XDP,[.tmp 10]⟩
def Xz7:VC:=.seq (.seq (.reg [oM 5 τ4,oM 6 τ0,oD 7 (.lenL τ6),oD 8 (.bin .lss τ5 τ7)]) (.cond τ8 .skip (.exit 0))) (.seq (.block 1 (.seq (.reg [oM 11 τ0,oM 12 τ4,oD 13 (.idxAL 2 Xjo XjC),oD 14 (.loadN [.str,(.int .i64)] XjB),oD 15 (.callF 13 [XkV])]) (.cond XjN (.reg [oM 16 τ3,oM 17 τ0,oM 18 τ4,oD 19 (.idxAL 2 XkI XkO),oD 20 (.fieldA 1 Xnl),oD 21 (.load1 (.int .i64) Xl1),oD 22 (.bin .add Xlo Xnc),oD 23 (.minmax false [(.const (.int .i64 1099511627776)),Xod]),oM 3 XoC]) .skip))) (.reg [oM 9 τ4,oD 10 (.bin .add τ9 (.const (.int .i64 1))),oM 4 Xjz]))
def XDL:VC:=.seq (.reg [oM 24 τ3,oM 2 XoG]) .ret
def XC1:VC:=.seq (.reg [oD 2 (.mv (.const (.int .i64 0)))]) (.seq (.reg [oD 3 (.mv (.const (.int .i64 0)))]) (.seq (.seq (.reg [oD 4 (.mv (.const (.int .i64 0)))]) (.block 0 (.loop Xz7))) XDL))
def fn19:VFn:=⟨25,XC1,[.tmp 2]⟩
def k4_16:VC:=.regD [oM 36 τ9,oM 37 τ3,oM 38 Xjz,oD 39 (.idxAL 2 Xve XuI),oD 40 (.fieldA 0 Xu3),oD 41 (.load1 .str Xwa),oM 42 τ3,oM 43 Xjz,oD 44 (.idxAL 2 Xv6 Xwc),oD 45 (.fieldA 1 Xv8),oD 46 (.load1 (.int .i64) Xwu)] [] [oD 47 (.callF 12 [Xvy,Xv7,XyI])]
def k4_33:VC:=.regD [oM 60 τ3,oM 61 XjB,oD 62 (.idxAL 2 XGP XG0),oD 63 (.fieldA 0 XGO),oD 64 (.load1 .str XIv),oM 65 τ3,oM 66 Xjo,oD 67 (.idxAL 2 XG8 XJG),oD 68 (.fieldA 0 XH4),oD 69 (.load1 .str XJJ),oD 70 (.bin .eql XDH XHY),oM 71 XH3,oG 72 (.mv τ3) 71 true,oG 73 (.mv XjB) 71 true,oG 74 (.idxAL 2 τ72 τ73) 71 true,oG 75 (.fieldA 1 τ74) 71 true,oG 76 (.load1 (.int .i64) τ75) 71 true,oG 77 (.bin .geq τ76 (.const (.int .i64 0))) 71 true,oD 78 (.pick τ71 τ77 (.const (.bool false))),oM 79 τ78,oG 80 (.mv τ3) 79 true,oG 81 (.mv XjB) 79 true] [] [oG 82 (.idxAL 2 τ80 τ81) 79 true,oG 83 (.fieldA 1 XI2) 79 true,oG 84 (.load1 (.int .i64) τ83) 79 true,oG 85 (.bin .leq τ84 (.const (.int .i64 1048576))) 79 true,oD 86 (.pick τ79 τ85 (.const (.bool false)))]
def k4_65:VC:=.seq (.reg [oD 6 (.box τ2),oD 8 (.mv (.const (.bool false)))]) (.seq (.seq (.reg [oM 14 τ3,oD 15 (.callF 8 [XkV]),oD 16 (.not XjN)]) (.cond Xlo (.seq (.reg [oD 17 (.callF 9 []),oM 8 XkI]) .ret) .skip)) (.seq (.reg [oM 18 τ0,oD 19 (.conv .i64 XkO),oD 20 (.bin .rem Xnl (.const (.int .i64 8))),oD 21 (.bin .add (.const (.int .i64 1)) Xl1),oM 22 τ1,oD 23 (.conv .i64 Xod),oD 24 (.bin .rem XoC (.const (.int .i64 64))),oD 25 (.bin .add (.const (.int .i64 1)) XoG),oD 26 (.loadN [(.int .u64),(.int .u64)] τ6),oD 27 (.callF 10 [Xnc,Xos,XoZ]),oM 9 Xpl]) (.seq (.seq (.reg [oM 28 τ9,oD 29 (.isNil 0 false Xrl)]) (.cond Xqr (.seq (.reg [oD 8 (.mv (.const (.bool false)))]) .ret) .skip)) (.seq (.seq (.reg [oD 10 (.mv (.const (.int .i64 0)))]) (.block 0 (.loop (.seq (.seq (.reg [oM 30 Xjz,oM 31 τ3,oD 32 (.lenL Xro),oD 33 (.bin .lss Xrm Xtg)]) (.cond XuK .skip (.exit 0))) (.seq (.block 1 k4_16) (.reg [oM 34 Xjz,oD 35 (.bin .add XsF (.const (.int .i64 1))),oM 10 XtA])))))) (.seq (.seq (.reg [oD 11 (.mv (.const (.int .i64 0)))]) (.block 2 (.loop (.seq (.seq (.reg [oM 48 Xjo,oM 49 τ3,oD 50 (.lenL XAd),oD 51 (.bin .lss XAg XDx)]) (.cond XFA .skip (.exit 2))) (.seq (.block 3 (.seq (.reg [oD 12 (.mv (.const (.int .i64 0)))]) (.seq (.seq (.reg [oD 13 (.mv (.const (.int .i64 0)))]) (.block 4 (.loop (.seq (.seq (.reg [oM 54 XjB,oM 55 τ3,oD 56 (.lenL XEa),oD 57 (.bin .lss XFT XGt)]) (.cond XGE .skip (.exit 4))) (.seq (.block 5 (.seq k4_33 (.cond τ86 (.reg [oM 87 XjC,oM 88 τ3,oM 89 XjB,oD 90 (.idxAL 2 τ88 τ89),oD 91 (.fieldA 1 τ90),oD 92 (.load1 (.int .i64) τ91),oD 93 (.bin .add τ87 τ92),oM 12 τ93]) .skip))) (.reg [oM 58 XjB,oD 59 (.bin .add XGa (.const (.int .i64 1))),oM 13 XEQ])))))) (.seq (.reg [oM 94 τ9,oM 95 τ3,oM 96 Xjo,oD 97 (.idxAL 2 τ95 τ96),oD 98 (.fieldA 0 τ97),oD 99 (.load1 .str τ98),oD 100 (.callF 16 [τ94,τ99]),oM 101 XjC,oD 102 (.bin .lss XGC XFx),oM 103 XFt,oG 104 (.mv τ9) 103 false,oG 105 (.mv τ3) 103 false,oG 106 (.mv Xjo) 103 false,oG 107 (.idxAL 2 XGn XEo) 103 false,oG 108 (.fieldA 0 XDY) 103 false,oG 109 (.load1 .str XFE) 103 false,oG 110 (.callF 16 [XEy,XFg]) 103 false,oG 111 (.mv τ9) 103 false,oG 112 (.callF 18 [XFn]) 103 false,oG 113 (.bin .gtr XFc XGv) 103 false,oD 114 (.pick XEx (.const (.bool true)) XFZ)]) (.cond XJM (.seq (.reg [oD 8 (.mv (.const (.bool false)))]) .ret) .skip))))) (.reg [oM 52 Xjo,oD 53 (.bin .add XGd (.const (.int .i64 1))),oM 11 XFY])))))) (.seq (.reg [oD 115 (.callF 9 []),oM 8 XHS]) .ret))))))
def fn4:VFn:=⟨116,k4_65,[.tmp 8]⟩
theorem XJE:(Try.prog.funcs[3]?).bind (Xc4 Try.prog)=some fn3:=by kernel_rfl
theorem XH2:(Try.prog.funcs[8]?).bind (Xc4 Try.prog)=some fn8:=by kernel_rfl
theorem XHO:(Try.prog.funcs[9]?).bind (Xc4 Try.prog)=some fn9:=by kernel_rfl
theorem XED:(Try.prog.funcs[10]?).bind (Xc4 Try.prog)=some fn10:=by kernel_rfl
theorem XEG:(Try.prog.funcs[12]?).bind (Xc4 Try.prog)=some fn12:=by kernel_rfl
theorem XGF:(Try.prog.funcs[38]?).bind (Xc4 Try.prog)=some fn38:=by kernel_rfl
theorem XE7:(Try.prog.funcs[40]?).bind (Xc4 Try.prog)=some fn40:=by kernel_rfl
theorem XGs:(Try.prog.funcs[41]?).bind (Xc4 Try.prog)=some fn41:=by kernel_rfl
theorem XGx:(Try.prog.funcs[39]?).bind (Xc4 Try.prog)=some fn39:=by kernel_rfl
theorem XFh:(Try.prog.funcs[20]?).bind (Xc4 Try.prog)=some fn20:=by kernel_rfl
theorem XGB:(Try.prog.funcs[47]?).bind (Xc4 Try.prog)=some fn47:=by kernel_rfl
theorem XF2:(Try.prog.funcs[61]?).bind (Xc4 Try.prog)=some fn61:=by kernel_rfl
theorem XEk:(Try.prog.funcs[62]?).bind (Xc4 Try.prog)=some fn62:=by kernel_rfl
theorem XGG:(Try.prog.funcs[72]?).bind (Xc4 Try.prog)=some fn72:=by kernel_rfl
theorem XFr:(Try.prog.funcs[73]?).bind (Xc4 Try.prog)=some fn73:=by kernel_rfl
theorem XFU:(Try.prog.funcs[76]?).bind (Xc4 Try.prog)=some fn76:=by kernel_rfl
theorem XEc:(Try.prog.funcs[78]?).bind (Xc4 Try.prog)=some fn78:=by kernel_rfl
theorem XFu:(Try.prog.funcs[63]?).bind (Xc4 Try.prog)=some fn63:=by kernel_rfl
theorem XF1:(Try.prog.funcs[46]?).bind (Xc4 Try.prog)=some fn46:=by kernel_rfl
theorem XGy:(Try.prog.funcs[60]?).bind (Xc4 Try.prog)=some fn60:=by kernel_rfl
theorem XGj:(Try.prog.funcs[71]?).bind (Xc4 Try.prog)=some fn71:=by kernel_rfl
theorem XF9:(Try.prog.funcs[16]?).bind (Xc4 Try.prog)=some fn16:=by kernel_rfl
theorem XD6:(Try.prog.funcs[45]?).bind (Xc4 Try.prog)=some fn45:=by kernel_rfl
theorem XE0:(Try.prog.funcs[18]?).bind (Xc4 Try.prog)=some fn18:=by kernel_rfl
theorem XDX:(Try.prog.funcs[14]?).bind (Xc4 Try.prog)=some fn14:=by kernel_rfl
theorem XFb:(Try.prog.funcs[42]?).bind (Xc4 Try.prog)=some fn42:=by kernel_rfl
theorem XF3:(Try.prog.funcs[54]?).bind (Xc4 Try.prog)=some fn54:=by kernel_rfl
theorem XGA:(Try.prog.funcs[55]?).bind (Xc4 Try.prog)=some fn55:=by kernel_rfl
theorem XEw:(Try.prog.funcs[11]?).bind (Xc4 Try.prog)=some fn11:=by kernel_rfl
theorem XGK:(Try.prog.funcs[13]?).bind (Xc4 Try.prog)=some fn13:=by kernel_rfl
theorem XER:(Try.prog.funcs[15]?).bind (Xc4 Try.prog)=some fn15:=by kernel_rfl
theorem XFq:(Try.prog.funcs[44]?).bind (Xc4 Try.prog)=some fn44:=by kernel_rfl
theorem XGq:(Try.prog.funcs[57]?).bind (Xc4 Try.prog)=some fn57:=by kernel_rfl
theorem XFl:(Try.prog.funcs[58]?).bind (Xc4 Try.prog)=some fn58:=by kernel_rfl
theorem XFQ:(Try.prog.funcs[70]?).bind (Xc4 Try.prog)=some fn70:=by kernel_rfl
theorem XFV:(Try.prog.funcs[59]?).bind (Xc4 Try.prog)=some fn59:=by kernel_rfl
theorem XEK:(Try.prog.funcs[43]?).bind (Xc4 Try.prog)=some fn43:=by kernel_rfl
theorem XEU:(Try.prog.funcs[56]?).bind (Xc4 Try.prog)=some fn56:=by kernel_rfl
theorem XGz:(Try.prog.funcs[69]?).bind (Xc4 Try.prog)=some fn69:=by kernel_rfl
theorem XGM:(Try.prog.funcs[17]?).bind (Xc4 Try.prog)=some fn17:=by kernel_rfl
theorem XFf:(Try.prog.funcs[19]?).bind (Xc4 Try.prog)=some fn19:=by kernel_rfl
theorem XHf:(Try.prog.funcs[4]?).bind (Xc4 Try.prog)=some fn4:=by kernel_rfl
def tab:List (Nat×VFn):=[(3,fn3),(8,fn8),(9,fn9),(10,fn10),(12,fn12),(38,fn38),(40,fn40),(41,fn41),(39,fn39),(20,fn20),(47,fn47),(61,fn61),(62,fn62),(72,fn72),(73,fn73),(76,fn76),(78,fn78),(63,fn63),(46,fn46),(60,fn60),(71,fn71),(16,fn16),(45,fn45),(18,fn18),(14,fn14),(42,fn42),(54,fn54),(55,fn55),(11,fn11),(13,fn13),(15,fn15),(44,fn44),(57,fn57),(58,fn58),(70,fn70),(59,fn59),(43,fn43),(56,fn56),(69,fn69),(17,fn17),(19,fn19),(4,fn4)]
theorem XaM:XkP Try.prog (XaP tab):=XkP.Xba ⟨XJE,XH2,XHO,XED,XEG,XGF,XE7,XGs,XGx,XFh,XGB,XF2,XEk,XGG,XFr,XFU,XEc,XFu,XF1,XGy,XGj,XF9,XD6,XE0,XDX,XFb,XF3,XGA,XEw,XGK,XER,XFq,XGq,XFl,XFQ,XFV,XEK,XEU,XGz,XGM,XFf,XHf,trivial⟩
end Go.Vm.Code
namespace Go.Vm
open Go Go.RowKit
theorem XIm {h h':Hp} {s:Nat→Option Nat} {b n:Nat} {ws:List Wd} {c c' x:List Value} {cs:List (Option (List Value))} {ob ob':Xbj} (e1:XaP h b=some ob) (e2:ob.wcs=some x) (e3:Xe5.renL s c=some c') (e4:Nat.beq c'.length n=true) (e5:Nat.beq x.length n=true) (e6:ob.wr c'=some ob') (t:Xdt (XhF h b ob') s ws cs=some h') (hm:mk3 c=none:=by rfl) :
 Xdt h s (.win b 0 n true::ws) (some c::cs)=some h':=by
 have h4:=Nat.eq_of_beq_eq_true e4
 have h5:=Nat.eq_of_beq_eq_true e5
 refine Xwg e1 e2 e3 ⟨h4,by omega⟩ ?_ e6 t hm
 apply List.ext_getElem?
 intro k
 rw [XjF _ _ _ _ (by omega)]
 by_cases hk:k<n
 ·rw [if_pos (by omega)];simp
 ·rw [if_neg (by omega),List.getElem?_eq_none (by omega),List.getElem?_eq_none (by omega)]
theorem XIi {h:Hp} {k b n:Nat} {ob:Xbj} {cs:List Value} (ho:XaP h b=some ob) (hc:ob.wcs=some cs) (hn:Nat.beq cs.length n=true) (hf:Xa8.flatL cs=true) :
 Xde h k (.pt n) (.pointer (some ⟨b,0,none⟩))=some (.pointer (some ⟨k,0,none⟩),[some (.cells cs)]):=
 XDk ho hc (by have:=Nat.eq_of_beq_eq_true hn;omega) (by have:=Nat.eq_of_beq_eq_true hn;rw [List.drop_zero];exact List.take_of_length_le (by omega)) hf
theorem XdM {a b:Dec} {vs:List Value} {cs:List (Option (List Value))} {r:Xdu} (h:a vs cs=some r):orD a b vs cs=some r:=by unfold orD;rw [h]
theorem XaL {a b:Dec} {vs:List Value} {cs:List (Option (List Value))} {r:Xdu} (h:a vs cs=none) (k:b vs cs=some r):orD a b vs cs=some r:=by unfold orD;rw [h];exact k
theorem Xuz {K:Dec} {vs:List Value} {cs:List (Option (List Value))}:dNl 10 K (.pointer none::vs) (none::none::none::none::none::none::none::none::none::none::cs)=K vs cs:=rfl
end Go.Vm
namespace Go.Vm
open Go Go.RowKit
section
variable {α κ ν:Type}
def XGX (key:α→κ) (eqk:κ→κ→Bool) (t:κ) (xs:List α):Bool:=xs.any fun e=>eqk t (key e)
def XFe (key:α→κ) (eqk:κ→κ→Bool) (val:α→ν) (z:ν) (t:κ):List α→ν
 | []=>z
 | e::l=>cond (eqk t (key e)) (val e) (XFe key eqk val z t l)
def XF7 (key:α→κ) (eqk:κ→κ→Bool) (mk:κ→ν→α) (t:κ) (v:ν):List α→List α
 | []=>[mk t v]
 | e::l=>cond (eqk t (key e)) (mk (key e) v::l) (e::XF7 key eqk mk t v l)
def XEq (key:α→κ) (eqk:κ→κ→Bool) (t:κ):List α→List α
 | []=>[]
 | e::l=>cond (eqk t (key e)) l (e::XEq key eqk t l)
structure Xrs (f:α→List Value) (kc:κ→List Value) (vc:ν→Value) (key:α→κ) (val:α→ν) (mk:κ→ν→α) (eqk:κ→κ→Bool) (os:List (Nat×SK)):Prop where
 cells:∀ e,f e=[.agg ⟨kc (key e)⟩,vc (val e)]
 eq:∀ a b,Xbv (kc a) (kc b) os=some (eqk a b)
 len:∀ a b,(kc a).length=(kc b).length
 offs:∀ a,os.map (·.1)=List.range (kc a).length
 fk:∀ a,Xa8.flatL (kc a)=true
 fv:∀ v,Xa8 (vc v)=true
 mkk:∀ k v,key (mk k v)=k
 mkv:∀ k v,val (mk k v)=v
variable {f:α→List Value} {kc:κ→List Value} {vc:ν→Value} {key:α→κ} {val:α→ν} {mk:κ→ν→α} {eqk:κ→κ→Bool} {os:List (Nat×SK)}
theorem Xrs.cons (h:Xrs f kc vc key val mk eqk os) (e:α) (l:List α):vT f (e::l)=.agg ⟨kc (key e)⟩::vc (val e)::vT f l:=by
 show f e++vT f l=_
 rw [h.cells];rfl
theorem Xrs.find (h:Xrs f kc vc key val mk eqk os) (t:κ):∀ xs:List α,∃ r,XiY os (kc t) (vT f xs)=some r ∧
 ((r=none∧XGX key eqk t xs=false∧(∀ z,XFe key eqk val z t xs=z)∧(∀ v,XF7 key eqk mk t v xs=xs++[mk t v])∧XEq key eqk t xs=xs) ∨
  ∃ i v,r=some (2*i,vc v)∧XGX key eqk t xs=true∧(∀ z,XFe key eqk val z t xs=v)∧(∀ v,(vT f xs).set (2*i+1) (vc v)=vT f (XF7 key eqk mk t v xs))∧(vT f xs).take (2*i)++(vT f xs).drop (2*i+2)=vT f (XEq key eqk t xs))
 | []=>⟨none,rfl,.inl ⟨rfl,rfl,fun _=>rfl,fun _=>rfl,rfl⟩⟩
 | e::l=>by
   obtain ⟨r,h1,h2⟩:=Xrs.find h t l
   rw [h.cons]
   cases he:eqk t (key e) with
   | true=>
     refine ⟨some (0,vc (val e)),?_,.inr ⟨0,val e,rfl,?_,fun z=>?_,fun v=>?_,?_⟩⟩
     ·simp only [XiY,h.eq,he,cond_true,if_pos (h.len (key e) t)]
     ·simp [XGX,he]
     ·simp [XFe,he]
     ·simp only [XF7,he,cond_true];rw [h.cons,h.mkk,h.mkv];rfl
     ·simp [XEq,he]
   | false=>
     have hm:XiY os (kc t) (.agg ⟨kc (key e)⟩::vc (val e)::vT f l)=some (r.map fun q=>(q.1+2,q.2)):=by
      simp only [XiY,h.eq,he,cond_false,h1];rfl
     rcases h2 with ⟨rfl,g1,g2,g3,g4⟩|⟨i,v,rfl,g1,g2,g3,g4⟩
     ·refine ⟨none,hm,.inl ⟨rfl,?_,fun z=>?_,fun v=>?_,?_⟩⟩
      ·simp only [XGX,List.any_cons,he,Bool.false_or];exact g1
      ·simp only [XFe,he,cond_false];exact g2 z
      ·simp only [XF7,he,cond_false,g3];rfl
      ·simp only [XEq,he,cond_false,g4]
     ·refine ⟨some (2*i+2,vc v),hm,.inr ⟨i+1,v,by congr 2,?_,fun z=>?_,fun v=>?_,?_⟩⟩
      ·simp only [XGX,List.any_cons,he,Bool.false_or];exact g1
      ·simp only [XFe,he,cond_false];exact g2 z
      ·simp only [XF7,he,cond_false];rw [h.cons,←g3,show 2*(i+1)+1=(2*i+1)+1+1 by omega];rfl
      ·simp only [XEq,he,cond_false];rw [h.cons,←g4,show 2*(i+1)=2*i+1+1 by omega];rfl
theorem Xrs.self (h:Xrs f kc vc key val mk eqk os) (t:κ):(Xbv (kc t) (kc t) os).isSome=true:=by rw [h.eq];rfl
theorem Xrs.get (h:Xrs f kc vc key val mk eqk os) (z:ν) (t:κ) (xs:List α):XvA os (vc z) (kc t) (vT f xs)=some (vc (XFe key eqk val z t xs),XGX key eqk t xs):=by
 obtain ⟨r,h1,⟨rfl,g1,g2,_⟩|⟨i,v,rfl,g1,g2,_⟩⟩:=h.find t xs
 ·simp only [XvA,if_pos (h.self t),h1,g1,g2]
 ·simp only [XvA,if_pos (h.self t),h1,g1,g2]
theorem Xrs.put (h:Xrs f kc vc key val mk eqk os) (t:κ) (v:ν) (xs:List α):Xvp os (kc t) (vc v) (vT f xs)=some (vT f (XF7 key eqk mk t v xs)):=by
 have hc:=And.intro (h.self t) (And.intro (h.offs t) (And.intro (h.fk t) (h.fv v)))
 obtain ⟨r,h1,⟨rfl,_,_,g3,_⟩|⟨i,u,rfl,_,_,g3,_⟩⟩:=h.find t xs
 ·simp only [Xvp,if_pos hc,h1,g3]
  rw [←XCX,show vT f [mk t v]=[.agg ⟨kc t⟩,vc v] by rw [h.cons,h.mkk,h.mkv];rfl]
 ·simp only [Xvp,if_pos hc,h1,g3]
theorem Xrs.del (h:Xrs f kc vc key val mk eqk os) (t:κ) (xs:List α):Xvk os (kc t) (vT f xs)=some (vT f (XEq key eqk t xs)):=by
 obtain ⟨r,h1,⟨rfl,_,_,_,g4⟩|⟨i,u,rfl,_,_,_,g4⟩⟩:=h.find t xs
 ·simp only [Xvk,if_pos (h.self t),h1,g4]
 ·simp only [Xvk,if_pos (h.self t),h1,g4]
theorem Xrs.length (h:Xrs f kc vc key val mk eqk os) (xs:List α):(vT f xs).length=2*xs.length:=by
 rw [Xm8 (c:=2) (fun e=>by rw [h.cells];rfl),Nat.mul_comm]
end
end Go.Vm
namespace Go.Vm.Code
open Go Go.Vm Go.Proofs
set_option maxRecDepth 100000
set_option maxHeartbeats 4000000
set_option linter.unusedVariables false
@[ext] structure Xau where
 A:Int
 B:Int
 deriving DecidableEq
@[ext] structure Xay where
 Text:List UInt8
 N:Int
 deriving DecidableEq
@[ext] structure Xd4 where
 e0:List Int
 m0:Nat
 deriving DecidableEq
@[ext] structure XaA where
 key:Xau
 rows:Xd4
 total:Int
 deriving DecidableEq
@[ext] structure XdA where
 e0:List Int
 e1:List Int
 m0:Nat
 m1:Nat
 deriving DecidableEq
@[ext] structure Xax where
 key:Xau
 rows:XdA
 total:Int
 deriving DecidableEq
@[ext] structure Xdr where
 e0:List Int
 e1:List Int
 e2:List Int
 m0:Nat
 m1:Nat
 m2:Nat
 deriving DecidableEq
@[ext] structure Xav where
 key:Xau
 rows:Xdr
 total:Int
 deriving DecidableEq
@[ext] structure Xc7 where
 e0:List Int
 e1:List Int
 e2:List Int
 e3:List Int
 m0:Nat
 m1:Nat
 m2:Nat
 m3:Nat
 deriving DecidableEq
@[ext] structure Xar where
 key:Xau
 rows:Xc7
 total:Int
 deriving DecidableEq
@[ext] structure XcH where
 e0:List Int
 e1:List Int
 e2:List Int
 e3:List Int
 e4:List Int
 m0:Nat
 m1:Nat
 m2:Nat
 m3:Nat
 m4:Nat
 deriving DecidableEq
@[ext] structure Xap where
 key:Xau
 rows:XcH
 total:Int
 deriving DecidableEq
@[ext] structure Xb8 where
 e0:List Int
 e1:List Int
 e2:List Int
 e3:List Int
 e4:List Int
 e5:List Int
 m0:Nat
 m1:Nat
 m2:Nat
 m3:Nat
 m4:Nat
 m5:Nat
 deriving DecidableEq
@[ext] structure Xan where
 key:Xau
 rows:Xb8
 total:Int
 deriving DecidableEq
@[ext] structure XbV where
 e0:List Int
 e1:List Int
 e2:List Int
 e3:List Int
 e4:List Int
 e5:List Int
 e6:List Int
 m0:Nat
 m1:Nat
 m2:Nat
 m3:Nat
 m4:Nat
 m5:Nat
 m6:Nat
 deriving DecidableEq
@[ext] structure Xal where
 key:Xau
 rows:XbV
 total:Int
 deriving DecidableEq
@[ext] structure XbC where
 e0:List Int
 e1:List Int
 e2:List Int
 e3:List Int
 e4:List Int
 e5:List Int
 e6:List Int
 e7:List Int
 m0:Nat
 m1:Nat
 m2:Nat
 m3:Nat
 m4:Nat
 m5:Nat
 m6:Nat
 m7:Nat
 deriving DecidableEq
@[ext] structure Xak where
 key:Xau
 rows:XbC
 total:Int
 deriving DecidableEq
@[ext] structure XaN where
 e0:Int
 e1:Int
 e2:Int
 e3:Int
 deriving DecidableEq
@[ext] structure XaR where
 made:Bool
 s:XaN
 last:Int
 count:Int
 deriving DecidableEq
@[ext] structure Xgx where
 e0:Int
 e1:Int
 deriving DecidableEq
structure Xbi where
 mk ::
 deriving DecidableEq
@[ext] structure Xaz where
 key:Xau
 rows:Xbi
 total:Int
 deriving DecidableEq
@[ext] structure XAC where
 key:Xau
 rows:List (List Int)
 total:Int
 deriving DecidableEq
inductive Xbt where
 | nil
 | v1 (x:XaA)
 | v2 (x:Xax)
 | v3 (x:Xav)
 | v4 (x:Xar)
 | v5 (x:Xap)
 | v6 (x:Xan)
 | v7 (x:Xal)
 | v8 (x:Xak)
 deriving DecidableEq
def Xmb (x:Xau):List Value:=[.int .u64 x.A,.int .u64 x.B]
theorem Xkn (x:Xau):(Xmb x).length=2:=rfl
theorem XcJ (x:Xau):(Xmb x).all Xjf=true:=rfl
def Xn3:List Value→Option Xau
 | [.int .u64 a1,.int .u64 a2]=>some (Xau.mk a1 a2)
 | _=>none
theorem Xko (cs:List Value) (x:Xau) (h:Xn3 cs=some x):cs=Xmb x:=by
 unfold Xn3 at h;split at h
 ·cases h;rfl
 ·cases h
def XhK:Value→Option Xau
 | .agg ⟨cs⟩=>Xn3 cs
 | _=>none
theorem Xnp (v:Value) (x:Xau) (h:XhK v=some x):v=.agg ⟨Xmb x⟩:=by
 unfold XhK at h;split at h
 ·rw [Xko _ _ h]
 ·cases h
theorem Xiq (x:Xau):XhK (.agg ⟨Xmb x⟩)=some x:=rfl
def Xa5 (x:Xay):List Value:=[.string ⟨⟨x.Text⟩⟩,.int .i64 x.N]
theorem XaK (x:Xay):(Xa5 x).length=2:=rfl
theorem XbP (x:Xay):Xa8.flatL (Xa5 x)=true:=rfl
theorem XcI (x:Xay):(Xa5 x).all Xjf=true:=rfl
@[simp] theorem XAI (xs:List Xay):(vT Xa5 xs).length=xs.length*2:=Xm8 XaK xs
@[simp] theorem XBh (xs:List Xay) (n:Nat):(vT Xa5 xs).take (n*2)=vT Xa5 (xs.take n):=Xtu XaK xs n
@[simp] theorem XAO (xs:List Xay) (n:Nat):(vT Xa5 xs).drop (n*2)=vT Xa5 (xs.drop n):=XsD XaK xs n
def Xig:List Value→Option Xay
 | [.string ⟨⟨a1⟩⟩,.int .i64 a2]=>some (Xay.mk a1 a2)
 | _=>none
theorem XiB (cs:List Value) (x:Xay) (h:Xig cs=some x):cs=Xa5 x:=by
 unfold Xig at h;split at h
 ·cases h;rfl
 ·cases h
theorem XlH (x:Xay):Xig (Xa5 x)=some x:=rfl
def Xmq:Value→Option Xay
 | .agg ⟨cs⟩=>Xig cs
 | _=>none
theorem Xnm (v:Value) (x:Xay) (h:Xmq v=some x):v=.agg ⟨Xa5 x⟩:=by
 unfold Xmq at h;split at h
 ·rw [XiB _ _ h]
 ·cases h
theorem Xsb (x:Xay):Xmq (.agg ⟨Xa5 x⟩)=some x:=rfl
def XkS (x:XaN):List Value:=[.int .u64 x.e0,.int .u64 x.e1,.int .u64 x.e2,.int .u64 x.e3]
theorem Xj2 (x:XaN):(XkS x).length=4:=rfl
theorem Xb5 (x:XaN):(XkS x).all Xjf=true:=rfl
def Xiu:List Value→Option XaN
 | [.int .u64 a1,.int .u64 a2,.int .u64 a3,.int .u64 a4]=>some (XaN.mk a1 a2 a3 a4)
 | _=>none
theorem Xj4 (cs:List Value) (x:XaN) (h:Xiu cs=some x):cs=XkS x:=by
 unfold Xiu at h;split at h
 ·cases h;rfl
 ·cases h
theorem XkM (x:XaN):Xiu (XkS x)=some x:=rfl
def Xo8:Value→Option XaN
 | .agg ⟨cs⟩=>Xiu cs
 | _=>none
theorem Xl7 (v:Value) (x:XaN) (h:Xo8 v=some x):v=.agg ⟨XkS x⟩:=by
 unfold Xo8 at h;split at h
 ·rw [Xj4 _ _ h]
 ·cases h
def Xi6 (x:XaR):List Value:=[.bool x.made,.int .u64 x.s.e0,.int .u64 x.s.e1,.int .u64 x.s.e2,.int .u64 x.s.e3,.int .u64 x.last,.int .i64 x.count]
theorem Xi8 (x:XaR):(Xi6 x).length=7:=rfl
theorem Xbw (x:XaR):(Xi6 x).all Xjf=true:=rfl
def Xh6:List Value→Option XaR
 | [.bool a1,.int .u64 a2,.int .u64 a3,.int .u64 a4,.int .u64 a5,.int .u64 a6,.int .i64 a7]=>some (XaR.mk a1 (XaN.mk a2 a3 a4 a5) a6 a7)
 | _=>none
theorem Xi3 (cs:List Value) (x:XaR) (h:Xh6 cs=some x):cs=Xi6 x:=by
 unfold Xh6 at h;split at h
 ·cases h;rfl
 ·cases h
theorem Xlv (x:XaR):Xh6 (Xi6 x)=some x:=rfl
def Xnb:Value→Option XaR
 | .agg ⟨cs⟩=>Xh6 cs
 | _=>none
theorem Xk0 (v:Value) (x:XaR) (h:Xnb v=some x):v=.agg ⟨Xi6 x⟩:=by
 unfold Xnb at h;split at h
 ·rw [Xi3 _ _ h]
 ·cases h
def Xl8 (x:Xgx):List Value:=[.int .u64 x.e0,.int .u64 x.e1]
theorem XjS (x:Xgx):(Xl8 x).length=2:=rfl
theorem Xb6 (x:Xgx):(Xl8 x).all Xjf=true:=rfl
def Xm4:List Value→Option Xgx
 | [.int .u64 a1,.int .u64 a2]=>some (Xgx.mk a1 a2)
 | _=>none
theorem Xj0 (cs:List Value) (x:Xgx) (h:Xm4 cs=some x):cs=Xl8 x:=by
 unfold Xm4 at h;split at h
 ·cases h;rfl
 ·cases h
def XoX:Value→Option Xgx
 | .agg ⟨cs⟩=>Xm4 cs
 | _=>none
theorem Xmh (v:Value) (x:Xgx) (h:XoX v=some x):v=.agg ⟨Xl8 x⟩:=by
 unfold XoX at h;split at h
 ·rw [Xj0 _ _ h]
 ·cases h
def XcF (k:Nat):Value→List (Option (List Value))→Option Xaz
 | .pointer (some ⟨k0,0,none⟩),[some [.int .u64 a1,.int .u64 a2,.slice none 0 0,.int .i64 a3],none,none,none,none,none,none,none,none,none]=>if k0=k+0 then some (Xaz.mk (Xau.mk a1 a2) Xbi.mk a3) else none
 | _,_=>none
theorem XdZ {k:Nat} {v:Value} {cs:List (Option (List Value))} {x:Xaz} (h:XcF k v cs=some x):v=.pointer (some ⟨k+0,0,none⟩)∧cs=[some [.int .u64 x.key.A,.int .u64 x.key.B,.slice none 0 0,.int .i64 x.total],none,none,none,none,none,none,none,none,none]:=by
 unfold XcF at h;split at h<;>try (cases h;done)
 split at h<;>cases h
 rename_i hk
 subst hk
 exact ⟨rfl,rfl⟩
theorem Xe8 (k:Nat) (x:Xaz):XcF k (.pointer (some ⟨k+0,0,none⟩)) [some [.int .u64 x.key.A,.int .u64 x.key.B,.slice none 0 0,.int .i64 x.total],none,none,none,none,none,none,none,none,none]=some x:=by
 simp only [XcF];simp
def XbE (k:Nat):Value→List (Option (List Value))→Option XaA
 | .pointer (some ⟨k0,0,none⟩),[some [.int .u64 a1,.int .u64 a2,.slice (some ⟨k1,0,none⟩) 1 1,.int .i64 a3],some [.slice (some ⟨k2,0,none⟩) n2 s2],some c2,none,none,none,none,none,none,none]=>match (unL (asI .i64)) c2 with|some x2=>(if k0=k+0∧k1=k+1∧k2=k+2∧s2=1 then some (XaA.mk (Xau.mk a1 a2) (Xd4.mk x2 n2) a3) else none)|none=>none
 | _,_=>none
theorem XcW {k:Nat} {v:Value} {cs:List (Option (List Value))} {x:XaA} (h:XbE k v cs=some x):v=.pointer (some ⟨k+0,0,none⟩)∧cs=[some [.int .u64 x.key.A,.int .u64 x.key.B,.slice (some ⟨k+1,0,none⟩) 1 1,.int .i64 x.total],some [.slice (some ⟨k+2,0,none⟩) x.rows.m0 1],some (vI .i64 x.rows.e0),none,none,none,none,none,none,none]:=by
 unfold XbE at h;split at h<;>try (cases h;done)
 split at h<;>try (cases h;done)
 rename_i x2 e2
 split at h<;>cases h
 rename_i hk
 obtain ⟨rfl,rfl,rfl,rfl⟩:=hk
 obtain rfl:=XdK e2
 exact ⟨rfl,rfl⟩
theorem XcK (k:Nat) (x:XaA):XbE k (.pointer (some ⟨k+0,0,none⟩)) [some [.int .u64 x.key.A,.int .u64 x.key.B,.slice (some ⟨k+1,0,none⟩) 1 1,.int .i64 x.total],some [.slice (some ⟨k+2,0,none⟩) x.rows.m0 1],some (vI .i64 x.rows.e0),none,none,none,none,none,none,none]=some x:=by
 simp only [XbE,XdL];simp
def XbL (k:Nat):Value→List (Option (List Value))→Option Xax
 | .pointer (some ⟨k0,0,none⟩),[some [.int .u64 a1,.int .u64 a2,.slice (some ⟨k1,0,none⟩) 2 1,.int .i64 a3],some [.slice (some ⟨k2,0,none⟩) n2 s2,.slice (some ⟨k3,0,none⟩) n3 s3],some c2,some c3,none,none,none,none,none,none]=>match (unL (asI .i64)) c2 with|some x2=>(match (unL (asI .i64)) c3 with|some x3=>(if k0=k+0∧k1=k+1∧k2=k+2∧s2=1∧k3=k+3∧s3=1 then some (Xax.mk (Xau.mk a1 a2) (XdA.mk x2 x3 n2 n3) a3) else none)|none=>none)|none=>none
 | _,_=>none
theorem XcZ {k:Nat} {v:Value} {cs:List (Option (List Value))} {x:Xax} (h:XbL k v cs=some x):v=.pointer (some ⟨k+0,0,none⟩)∧cs=[some [.int .u64 x.key.A,.int .u64 x.key.B,.slice (some ⟨k+1,0,none⟩) 2 1,.int .i64 x.total],some [.slice (some ⟨k+2,0,none⟩) x.rows.m0 1,.slice (some ⟨k+3,0,none⟩) x.rows.m1 1],some (vI .i64 x.rows.e0),some (vI .i64 x.rows.e1),none,none,none,none,none,none]:=by
 unfold XbL at h;split at h<;>try (cases h;done)
 split at h<;>try (cases h;done)
 rename_i x2 e2
 split at h<;>try (cases h;done)
 rename_i x3 e3
 split at h<;>cases h
 rename_i hk
 obtain ⟨rfl,rfl,rfl,rfl,rfl,rfl⟩:=hk
 obtain rfl:=XdK e2
 obtain rfl:=XdK e3
 exact ⟨rfl,rfl⟩
theorem XcM (k:Nat) (x:Xax):XbL k (.pointer (some ⟨k+0,0,none⟩)) [some [.int .u64 x.key.A,.int .u64 x.key.B,.slice (some ⟨k+1,0,none⟩) 2 1,.int .i64 x.total],some [.slice (some ⟨k+2,0,none⟩) x.rows.m0 1,.slice (some ⟨k+3,0,none⟩) x.rows.m1 1],some (vI .i64 x.rows.e0),some (vI .i64 x.rows.e1),none,none,none,none,none,none]=some x:=by
 simp only [XbL,XdL,XdL];simp
def XbM (k:Nat):Value→List (Option (List Value))→Option Xav
 | .pointer (some ⟨k0,0,none⟩),[some [.int .u64 a1,.int .u64 a2,.slice (some ⟨k1,0,none⟩) 3 1,.int .i64 a3],some [.slice (some ⟨k2,0,none⟩) n2 s2,.slice (some ⟨k3,0,none⟩) n3 s3,.slice (some ⟨k4,0,none⟩) n4 s4],some c2,some c3,some c4,none,none,none,none,none]=>match (unL (asI .i64)) c2 with|some x2=>(match (unL (asI .i64)) c3 with|some x3=>(match (unL (asI .i64)) c4 with|some x4=>(if k0=k+0∧k1=k+1∧k2=k+2∧s2=1∧k3=k+3∧s3=1∧k4=k+4∧s4=1 then some (Xav.mk (Xau.mk a1 a2) (Xdr.mk x2 x3 x4 n2 n3 n4) a3) else none)|none=>none)|none=>none)|none=>none
 | _,_=>none
theorem Xc2 {k:Nat} {v:Value} {cs:List (Option (List Value))} {x:Xav} (h:XbM k v cs=some x):v=.pointer (some ⟨k+0,0,none⟩)∧cs=[some [.int .u64 x.key.A,.int .u64 x.key.B,.slice (some ⟨k+1,0,none⟩) 3 1,.int .i64 x.total],some [.slice (some ⟨k+2,0,none⟩) x.rows.m0 1,.slice (some ⟨k+3,0,none⟩) x.rows.m1 1,.slice (some ⟨k+4,0,none⟩) x.rows.m2 1],some (vI .i64 x.rows.e0),some (vI .i64 x.rows.e1),some (vI .i64 x.rows.e2),none,none,none,none,none]:=by
 unfold XbM at h;split at h<;>try (cases h;done)
 split at h<;>try (cases h;done)
 rename_i x2 e2
 split at h<;>try (cases h;done)
 rename_i x3 e3
 split at h<;>try (cases h;done)
 rename_i x4 e4
 split at h<;>cases h
 rename_i hk
 obtain ⟨rfl,rfl,rfl,rfl,rfl,rfl,rfl,rfl⟩:=hk
 obtain rfl:=XdK e2
 obtain rfl:=XdK e3
 obtain rfl:=XdK e4
 exact ⟨rfl,rfl⟩
theorem XcO (k:Nat) (x:Xav):XbM k (.pointer (some ⟨k+0,0,none⟩)) [some [.int .u64 x.key.A,.int .u64 x.key.B,.slice (some ⟨k+1,0,none⟩) 3 1,.int .i64 x.total],some [.slice (some ⟨k+2,0,none⟩) x.rows.m0 1,.slice (some ⟨k+3,0,none⟩) x.rows.m1 1,.slice (some ⟨k+4,0,none⟩) x.rows.m2 1],some (vI .i64 x.rows.e0),some (vI .i64 x.rows.e1),some (vI .i64 x.rows.e2),none,none,none,none,none]=some x:=by
 simp only [XbM,XdL,XdL,XdL];simp
def XbG (k:Nat):Value→List (Option (List Value))→Option Xar
 | .pointer (some ⟨k0,0,none⟩),[some [.int .u64 a1,.int .u64 a2,.slice (some ⟨k1,0,none⟩) 4 1,.int .i64 a3],some [.slice (some ⟨k2,0,none⟩) n2 s2,.slice (some ⟨k3,0,none⟩) n3 s3,.slice (some ⟨k4,0,none⟩) n4 s4,.slice (some ⟨k5,0,none⟩) n5 s5],some c2,some c3,some c4,some c5,none,none,none,none]=>match (unL (asI .i64)) c2 with|some x2=>(match (unL (asI .i64)) c3 with|some x3=>(match (unL (asI .i64)) c4 with|some x4=>(match (unL (asI .i64)) c5 with|some x5=>(if k0=k+0∧k1=k+1∧k2=k+2∧s2=1∧k3=k+3∧s3=1∧k4=k+4∧s4=1∧k5=k+5∧s5=1 then some (Xar.mk (Xau.mk a1 a2) (Xc7.mk x2 x3 x4 x5 n2 n3 n4 n5) a3) else none)|none=>none)|none=>none)|none=>none)|none=>none
 | _,_=>none
theorem Xc0 {k:Nat} {v:Value} {cs:List (Option (List Value))} {x:Xar} (h:XbG k v cs=some x):v=.pointer (some ⟨k+0,0,none⟩)∧cs=[some [.int .u64 x.key.A,.int .u64 x.key.B,.slice (some ⟨k+1,0,none⟩) 4 1,.int .i64 x.total],some [.slice (some ⟨k+2,0,none⟩) x.rows.m0 1,.slice (some ⟨k+3,0,none⟩) x.rows.m1 1,.slice (some ⟨k+4,0,none⟩) x.rows.m2 1,.slice (some ⟨k+5,0,none⟩) x.rows.m3 1],some (vI .i64 x.rows.e0),some (vI .i64 x.rows.e1),some (vI .i64 x.rows.e2),some (vI .i64 x.rows.e3),none,none,none,none]:=by
 unfold XbG at h;split at h<;>try (cases h;done)
 split at h<;>try (cases h;done)
 rename_i x2 e2
 split at h<;>try (cases h;done)
 rename_i x3 e3
 split at h<;>try (cases h;done)
 rename_i x4 e4
 split at h<;>try (cases h;done)
 rename_i x5 e5
 split at h<;>cases h
 rename_i hk
 obtain ⟨rfl,rfl,rfl,rfl,rfl,rfl,rfl,rfl,rfl,rfl⟩:=hk
 obtain rfl:=XdK e2
 obtain rfl:=XdK e3
 obtain rfl:=XdK e4
 obtain rfl:=XdK e5
 exact ⟨rfl,rfl⟩
theorem XcR (k:Nat) (x:Xar):XbG k (.pointer (some ⟨k+0,0,none⟩)) [some [.int .u64 x.key.A,.int .u64 x.key.B,.slice (some ⟨k+1,0,none⟩) 4 1,.int .i64 x.total],some [.slice (some ⟨k+2,0,none⟩) x.rows.m0 1,.slice (some ⟨k+3,0,none⟩) x.rows.m1 1,.slice (some ⟨k+4,0,none⟩) x.rows.m2 1,.slice (some ⟨k+5,0,none⟩) x.rows.m3 1],some (vI .i64 x.rows.e0),some (vI .i64 x.rows.e1),some (vI .i64 x.rows.e2),some (vI .i64 x.rows.e3),none,none,none,none]=some x:=by
 simp only [XbG,XdL,XdL,XdL,XdL];simp
def XbK (k:Nat):Value→List (Option (List Value))→Option Xap
 | .pointer (some ⟨k0,0,none⟩),[some [.int .u64 a1,.int .u64 a2,.slice (some ⟨k1,0,none⟩) 5 1,.int .i64 a3],some [.slice (some ⟨k2,0,none⟩) n2 s2,.slice (some ⟨k3,0,none⟩) n3 s3,.slice (some ⟨k4,0,none⟩) n4 s4,.slice (some ⟨k5,0,none⟩) n5 s5,.slice (some ⟨k6,0,none⟩) n6 s6],some c2,some c3,some c4,some c5,some c6,none,none,none]=>match (unL (asI .i64)) c2 with|some x2=>(match (unL (asI .i64)) c3 with|some x3=>(match (unL (asI .i64)) c4 with|some x4=>(match (unL (asI .i64)) c5 with|some x5=>(match (unL (asI .i64)) c6 with|some x6=>(if k0=k+0∧k1=k+1∧k2=k+2∧s2=1∧k3=k+3∧s3=1∧k4=k+4∧s4=1∧k5=k+5∧s5=1∧k6=k+6∧s6=1 then some (Xap.mk (Xau.mk a1 a2) (XcH.mk x2 x3 x4 x5 x6 n2 n3 n4 n5 n6) a3) else none)|none=>none)|none=>none)|none=>none)|none=>none)|none=>none
 | _,_=>none
theorem XcY {k:Nat} {v:Value} {cs:List (Option (List Value))} {x:Xap} (h:XbK k v cs=some x):v=.pointer (some ⟨k+0,0,none⟩)∧cs=[some [.int .u64 x.key.A,.int .u64 x.key.B,.slice (some ⟨k+1,0,none⟩) 5 1,.int .i64 x.total],some [.slice (some ⟨k+2,0,none⟩) x.rows.m0 1,.slice (some ⟨k+3,0,none⟩) x.rows.m1 1,.slice (some ⟨k+4,0,none⟩) x.rows.m2 1,.slice (some ⟨k+5,0,none⟩) x.rows.m3 1,.slice (some ⟨k+6,0,none⟩) x.rows.m4 1],some (vI .i64 x.rows.e0),some (vI .i64 x.rows.e1),some (vI .i64 x.rows.e2),some (vI .i64 x.rows.e3),some (vI .i64 x.rows.e4),none,none,none]:=by
 unfold XbK at h;split at h<;>try (cases h;done)
 split at h<;>try (cases h;done)
 rename_i x2 e2
 split at h<;>try (cases h;done)
 rename_i x3 e3
 split at h<;>try (cases h;done)
 rename_i x4 e4
 split at h<;>try (cases h;done)
 rename_i x5 e5
 split at h<;>try (cases h;done)
 rename_i x6 e6
 split at h<;>cases h
 rename_i hk
 obtain ⟨rfl,rfl,rfl,rfl,rfl,rfl,rfl,rfl,rfl,rfl,rfl,rfl⟩:=hk
 obtain rfl:=XdK e2
 obtain rfl:=XdK e3
 obtain rfl:=XdK e4
 obtain rfl:=XdK e5
 obtain rfl:=XdK e6
 exact ⟨rfl,rfl⟩
theorem XcN (k:Nat) (x:Xap):XbK k (.pointer (some ⟨k+0,0,none⟩)) [some [.int .u64 x.key.A,.int .u64 x.key.B,.slice (some ⟨k+1,0,none⟩) 5 1,.int .i64 x.total],some [.slice (some ⟨k+2,0,none⟩) x.rows.m0 1,.slice (some ⟨k+3,0,none⟩) x.rows.m1 1,.slice (some ⟨k+4,0,none⟩) x.rows.m2 1,.slice (some ⟨k+5,0,none⟩) x.rows.m3 1,.slice (some ⟨k+6,0,none⟩) x.rows.m4 1],some (vI .i64 x.rows.e0),some (vI .i64 x.rows.e1),some (vI .i64 x.rows.e2),some (vI .i64 x.rows.e3),some (vI .i64 x.rows.e4),none,none,none]=some x:=by
 simp only [XbK,XdL,XdL,XdL,XdL,XdL];simp
def XbF (k:Nat):Value→List (Option (List Value))→Option Xan
 | .pointer (some ⟨k0,0,none⟩),[some [.int .u64 a1,.int .u64 a2,.slice (some ⟨k1,0,none⟩) 6 1,.int .i64 a3],some [.slice (some ⟨k2,0,none⟩) n2 s2,.slice (some ⟨k3,0,none⟩) n3 s3,.slice (some ⟨k4,0,none⟩) n4 s4,.slice (some ⟨k5,0,none⟩) n5 s5,.slice (some ⟨k6,0,none⟩) n6 s6,.slice (some ⟨k7,0,none⟩) n7 s7],some c2,some c3,some c4,some c5,some c6,some c7,none,none]=>match (unL (asI .i64)) c2 with|some x2=>(match (unL (asI .i64)) c3 with|some x3=>(match (unL (asI .i64)) c4 with|some x4=>(match (unL (asI .i64)) c5 with|some x5=>(match (unL (asI .i64)) c6 with|some x6=>(match (unL (asI .i64)) c7 with|some x7=>(if k0=k+0∧k1=k+1∧k2=k+2∧s2=1∧k3=k+3∧s3=1∧k4=k+4∧s4=1∧k5=k+5∧s5=1∧k6=k+6∧s6=1∧k7=k+7∧s7=1 then some (Xan.mk (Xau.mk a1 a2) (Xb8.mk x2 x3 x4 x5 x6 x7 n2 n3 n4 n5 n6 n7) a3) else none)|none=>none)|none=>none)|none=>none)|none=>none)|none=>none)|none=>none
 | _,_=>none
theorem Xc3 {k:Nat} {v:Value} {cs:List (Option (List Value))} {x:Xan} (h:XbF k v cs=some x):v=.pointer (some ⟨k+0,0,none⟩)∧cs=[some [.int .u64 x.key.A,.int .u64 x.key.B,.slice (some ⟨k+1,0,none⟩) 6 1,.int .i64 x.total],some [.slice (some ⟨k+2,0,none⟩) x.rows.m0 1,.slice (some ⟨k+3,0,none⟩) x.rows.m1 1,.slice (some ⟨k+4,0,none⟩) x.rows.m2 1,.slice (some ⟨k+5,0,none⟩) x.rows.m3 1,.slice (some ⟨k+6,0,none⟩) x.rows.m4 1,.slice (some ⟨k+7,0,none⟩) x.rows.m5 1],some (vI .i64 x.rows.e0),some (vI .i64 x.rows.e1),some (vI .i64 x.rows.e2),some (vI .i64 x.rows.e3),some (vI .i64 x.rows.e4),some (vI .i64 x.rows.e5),none,none]:=by
 unfold XbF at h;split at h<;>try (cases h;done)
 split at h<;>try (cases h;done)
 rename_i x2 e2
 split at h<;>try (cases h;done)
 rename_i x3 e3
 split at h<;>try (cases h;done)
 rename_i x4 e4
 split at h<;>try (cases h;done)
 rename_i x5 e5
 split at h<;>try (cases h;done)
 rename_i x6 e6
 split at h<;>try (cases h;done)
 rename_i x7 e7
 split at h<;>cases h
 rename_i hk
 obtain ⟨rfl,rfl,rfl,rfl,rfl,rfl,rfl,rfl,rfl,rfl,rfl,rfl,rfl,rfl⟩:=hk
 obtain rfl:=XdK e2
 obtain rfl:=XdK e3
 obtain rfl:=XdK e4
 obtain rfl:=XdK e5
 obtain rfl:=XdK e6
 obtain rfl:=XdK e7
 exact ⟨rfl,rfl⟩
theorem XcQ (k:Nat) (x:Xan):XbF k (.pointer (some ⟨k+0,0,none⟩)) [some [.int .u64 x.key.A,.int .u64 x.key.B,.slice (some ⟨k+1,0,none⟩) 6 1,.int .i64 x.total],some [.slice (some ⟨k+2,0,none⟩) x.rows.m0 1,.slice (some ⟨k+3,0,none⟩) x.rows.m1 1,.slice (some ⟨k+4,0,none⟩) x.rows.m2 1,.slice (some ⟨k+5,0,none⟩) x.rows.m3 1,.slice (some ⟨k+6,0,none⟩) x.rows.m4 1,.slice (some ⟨k+7,0,none⟩) x.rows.m5 1],some (vI .i64 x.rows.e0),some (vI .i64 x.rows.e1),some (vI .i64 x.rows.e2),some (vI .i64 x.rows.e3),some (vI .i64 x.rows.e4),some (vI .i64 x.rows.e5),none,none]=some x:=by
 simp only [XbF,XdL,XdL,XdL,XdL,XdL,XdL];simp
def XbJ (k:Nat):Value→List (Option (List Value))→Option Xal
 | .pointer (some ⟨k0,0,none⟩),[some [.int .u64 a1,.int .u64 a2,.slice (some ⟨k1,0,none⟩) 7 1,.int .i64 a3],some [.slice (some ⟨k2,0,none⟩) n2 s2,.slice (some ⟨k3,0,none⟩) n3 s3,.slice (some ⟨k4,0,none⟩) n4 s4,.slice (some ⟨k5,0,none⟩) n5 s5,.slice (some ⟨k6,0,none⟩) n6 s6,.slice (some ⟨k7,0,none⟩) n7 s7,.slice (some ⟨k8,0,none⟩) n8 s8],some c2,some c3,some c4,some c5,some c6,some c7,some c8,none]=>match (unL (asI .i64)) c2 with|some x2=>(match (unL (asI .i64)) c3 with|some x3=>(match (unL (asI .i64)) c4 with|some x4=>(match (unL (asI .i64)) c5 with|some x5=>(match (unL (asI .i64)) c6 with|some x6=>(match (unL (asI .i64)) c7 with|some x7=>(match (unL (asI .i64)) c8 with|some x8=>(if k0=k+0∧k1=k+1∧k2=k+2∧s2=1∧k3=k+3∧s3=1∧k4=k+4∧s4=1∧k5=k+5∧s5=1∧k6=k+6∧s6=1∧k7=k+7∧s7=1∧k8=k+8∧s8=1 then some (Xal.mk (Xau.mk a1 a2) (XbV.mk x2 x3 x4 x5 x6 x7 x8 n2 n3 n4 n5 n6 n7 n8) a3) else none)|none=>none)|none=>none)|none=>none)|none=>none)|none=>none)|none=>none)|none=>none
 | _,_=>none
theorem Xc6 {k:Nat} {v:Value} {cs:List (Option (List Value))} {x:Xal} (h:XbJ k v cs=some x):v=.pointer (some ⟨k+0,0,none⟩)∧cs=[some [.int .u64 x.key.A,.int .u64 x.key.B,.slice (some ⟨k+1,0,none⟩) 7 1,.int .i64 x.total],some [.slice (some ⟨k+2,0,none⟩) x.rows.m0 1,.slice (some ⟨k+3,0,none⟩) x.rows.m1 1,.slice (some ⟨k+4,0,none⟩) x.rows.m2 1,.slice (some ⟨k+5,0,none⟩) x.rows.m3 1,.slice (some ⟨k+6,0,none⟩) x.rows.m4 1,.slice (some ⟨k+7,0,none⟩) x.rows.m5 1,.slice (some ⟨k+8,0,none⟩) x.rows.m6 1],some (vI .i64 x.rows.e0),some (vI .i64 x.rows.e1),some (vI .i64 x.rows.e2),some (vI .i64 x.rows.e3),some (vI .i64 x.rows.e4),some (vI .i64 x.rows.e5),some (vI .i64 x.rows.e6),none]:=by
 unfold XbJ at h;split at h<;>try (cases h;done)
 split at h<;>try (cases h;done)
 rename_i x2 e2
 split at h<;>try (cases h;done)
 rename_i x3 e3
 split at h<;>try (cases h;done)
 rename_i x4 e4
 split at h<;>try (cases h;done)
 rename_i x5 e5
 split at h<;>try (cases h;done)
 rename_i x6 e6
 split at h<;>try (cases h;done)
 rename_i x7 e7
 split at h<;>try (cases h;done)
 rename_i x8 e8
 split at h<;>cases h
 rename_i hk
 obtain ⟨rfl,rfl,rfl,rfl,rfl,rfl,rfl,rfl,rfl,rfl,rfl,rfl,rfl,rfl,rfl,rfl⟩:=hk
 obtain rfl:=XdK e2
 obtain rfl:=XdK e3
 obtain rfl:=XdK e4
 obtain rfl:=XdK e5
 obtain rfl:=XdK e6
 obtain rfl:=XdK e7
 obtain rfl:=XdK e8
 exact ⟨rfl,rfl⟩
theorem XcL (k:Nat) (x:Xal):XbJ k (.pointer (some ⟨k+0,0,none⟩)) [some [.int .u64 x.key.A,.int .u64 x.key.B,.slice (some ⟨k+1,0,none⟩) 7 1,.int .i64 x.total],some [.slice (some ⟨k+2,0,none⟩) x.rows.m0 1,.slice (some ⟨k+3,0,none⟩) x.rows.m1 1,.slice (some ⟨k+4,0,none⟩) x.rows.m2 1,.slice (some ⟨k+5,0,none⟩) x.rows.m3 1,.slice (some ⟨k+6,0,none⟩) x.rows.m4 1,.slice (some ⟨k+7,0,none⟩) x.rows.m5 1,.slice (some ⟨k+8,0,none⟩) x.rows.m6 1],some (vI .i64 x.rows.e0),some (vI .i64 x.rows.e1),some (vI .i64 x.rows.e2),some (vI .i64 x.rows.e3),some (vI .i64 x.rows.e4),some (vI .i64 x.rows.e5),some (vI .i64 x.rows.e6),none]=some x:=by
 simp only [XbJ,XdL,XdL,XdL,XdL,XdL,XdL,XdL];simp
def XbI (k:Nat):Value→List (Option (List Value))→Option Xak
 | .pointer (some ⟨k0,0,none⟩),[some [.int .u64 a1,.int .u64 a2,.slice (some ⟨k1,0,none⟩) 8 1,.int .i64 a3],some [.slice (some ⟨k2,0,none⟩) n2 s2,.slice (some ⟨k3,0,none⟩) n3 s3,.slice (some ⟨k4,0,none⟩) n4 s4,.slice (some ⟨k5,0,none⟩) n5 s5,.slice (some ⟨k6,0,none⟩) n6 s6,.slice (some ⟨k7,0,none⟩) n7 s7,.slice (some ⟨k8,0,none⟩) n8 s8,.slice (some ⟨k9,0,none⟩) n9 s9],some c2,some c3,some c4,some c5,some c6,some c7,some c8,some c9]=>match (unL (asI .i64)) c2 with|some x2=>(match (unL (asI .i64)) c3 with|some x3=>(match (unL (asI .i64)) c4 with|some x4=>(match (unL (asI .i64)) c5 with|some x5=>(match (unL (asI .i64)) c6 with|some x6=>(match (unL (asI .i64)) c7 with|some x7=>(match (unL (asI .i64)) c8 with|some x8=>(match (unL (asI .i64)) c9 with|some x9=>(if k0=k+0∧k1=k+1∧k2=k+2∧s2=1∧k3=k+3∧s3=1∧k4=k+4∧s4=1∧k5=k+5∧s5=1∧k6=k+6∧s6=1∧k7=k+7∧s7=1∧k8=k+8∧s8=1∧k9=k+9∧s9=1 then some (Xak.mk (Xau.mk a1 a2) (XbC.mk x2 x3 x4 x5 x6 x7 x8 x9 n2 n3 n4 n5 n6 n7 n8 n9) a3) else none)|none=>none)|none=>none)|none=>none)|none=>none)|none=>none)|none=>none)|none=>none)|none=>none
 | _,_=>none
theorem Xc1 {k:Nat} {v:Value} {cs:List (Option (List Value))} {x:Xak} (h:XbI k v cs=some x):v=.pointer (some ⟨k+0,0,none⟩)∧cs=[some [.int .u64 x.key.A,.int .u64 x.key.B,.slice (some ⟨k+1,0,none⟩) 8 1,.int .i64 x.total],some [.slice (some ⟨k+2,0,none⟩) x.rows.m0 1,.slice (some ⟨k+3,0,none⟩) x.rows.m1 1,.slice (some ⟨k+4,0,none⟩) x.rows.m2 1,.slice (some ⟨k+5,0,none⟩) x.rows.m3 1,.slice (some ⟨k+6,0,none⟩) x.rows.m4 1,.slice (some ⟨k+7,0,none⟩) x.rows.m5 1,.slice (some ⟨k+8,0,none⟩) x.rows.m6 1,.slice (some ⟨k+9,0,none⟩) x.rows.m7 1],some (vI .i64 x.rows.e0),some (vI .i64 x.rows.e1),some (vI .i64 x.rows.e2),some (vI .i64 x.rows.e3),some (vI .i64 x.rows.e4),some (vI .i64 x.rows.e5),some (vI .i64 x.rows.e6),some (vI .i64 x.rows.e7)]:=by
 unfold XbI at h;split at h<;>try (cases h;done)
 split at h<;>try (cases h;done)
 rename_i x2 e2
 split at h<;>try (cases h;done)
 rename_i x3 e3
 split at h<;>try (cases h;done)
 rename_i x4 e4
 split at h<;>try (cases h;done)
 rename_i x5 e5
 split at h<;>try (cases h;done)
 rename_i x6 e6
 split at h<;>try (cases h;done)
 rename_i x7 e7
 split at h<;>try (cases h;done)
 rename_i x8 e8
 split at h<;>try (cases h;done)
 rename_i x9 e9
 split at h<;>cases h
 rename_i hk
 obtain ⟨rfl,rfl,rfl,rfl,rfl,rfl,rfl,rfl,rfl,rfl,rfl,rfl,rfl,rfl,rfl,rfl,rfl,rfl⟩:=hk
 obtain rfl:=XdK e2
 obtain rfl:=XdK e3
 obtain rfl:=XdK e4
 obtain rfl:=XdK e5
 obtain rfl:=XdK e6
 obtain rfl:=XdK e7
 obtain rfl:=XdK e8
 obtain rfl:=XdK e9
 exact ⟨rfl,rfl⟩
theorem XcP (k:Nat) (x:Xak):XbI k (.pointer (some ⟨k+0,0,none⟩)) [some [.int .u64 x.key.A,.int .u64 x.key.B,.slice (some ⟨k+1,0,none⟩) 8 1,.int .i64 x.total],some [.slice (some ⟨k+2,0,none⟩) x.rows.m0 1,.slice (some ⟨k+3,0,none⟩) x.rows.m1 1,.slice (some ⟨k+4,0,none⟩) x.rows.m2 1,.slice (some ⟨k+5,0,none⟩) x.rows.m3 1,.slice (some ⟨k+6,0,none⟩) x.rows.m4 1,.slice (some ⟨k+7,0,none⟩) x.rows.m5 1,.slice (some ⟨k+8,0,none⟩) x.rows.m6 1,.slice (some ⟨k+9,0,none⟩) x.rows.m7 1],some (vI .i64 x.rows.e0),some (vI .i64 x.rows.e1),some (vI .i64 x.rows.e2),some (vI .i64 x.rows.e3),some (vI .i64 x.rows.e4),some (vI .i64 x.rows.e5),some (vI .i64 x.rows.e6),some (vI .i64 x.rows.e7)]=some x:=by
 simp only [XbI,XdL,XdL,XdL,XdL,XdL,XdL,XdL,XdL];simp
theorem XHP {h:Hp} {b o n i sz kk:Nat} {k:IntKind} {own:Bool} {xs ys:List Int} (ho:XaP h b=some (.row own (vI k xs))) (hs:sz=1) (e0:o=i) (hle:i+n≤xs.length) (hy:(xs.drop i).take n=ys):Xde h kk (.sl 1) (.slice (some ⟨b,o,none⟩) n sz)=some (.slice (some ⟨kk,0,none⟩) ys.length 1,[some (.row false (vI k ys))]):=by
 have hl:n=ys.length:=by rw [←hy];simp;omega
 subst hy
 have:=Xzb (kk:=kk) ho hs e0 hl (by omega)
 rw [this,←hl]
theorem Xn5 {α:Type} {r:List α}:[]++r=r:=rfl
theorem XlS {α:Type} {a:α} {l r l2:List α} (t:l++r=l2):(a::l)++r=a::l2:=by subst t;rfl
theorem XDu {h:Hp} {v:Value} {bs:List PR}:Xgp h v [] bs=bs:=rfl
theorem XIE {h:Hp} {v:Value} {p:Path} {ps:List Path} {bs bs' r:List PR} (e:XmZ h v bs p=.no) (hb:bs++[.no]=bs') (t:Xgp h v ps bs'=r):Xgp h v (p::ps) bs=r:=by subst hb;rw [←e] at t;exact t
theorem XIS {h:Hp} {v:Value} {p:Path} {ps:List Path} {bs bs' r:List PR} {b:Nat} (e:XmZ h v bs p=.hit b) (hb:bs++[.hit b]=bs') (t:Xgp h v ps bs'=r):Xgp h v (p::ps) bs=r:=by subst hb;rw [←e] at t;exact t
theorem XHG {h:Hp} {v:Value} {p:Path} {ps:List Path} {bs bs' r:List PR} {b:Nat} (e:XmZ h v bs p=.nil b) (hb:bs++[.nil b]=bs') (t:Xgp h v ps bs'=r):Xgp h v (p::ps) bs=r:=by subst hb;rw [←e] at t;exact t
theorem XCV {h:Hp}:Xj7 h [] []=[]:=rfl
theorem XGr {h:Hp} {m:Md} {ms:List Md} {v:Value} {vs:List Value} {l l2 ws:List Wd} (e:Xns h m v=l) (t:Xj7 h ms vs=l2) (hb:l++l2=ws):Xj7 h (m::ms) (v::vs)=ws:=by subst e t hb;rfl
theorem wn_tr {h:Hp} {v:Value} {ps:List Path} {bs:List PR} {l:List Wd} (e0:Xgp h v ps []=bs) (e:Xo9 ps bs=l):Xns h (.tr ps) v=l:=by subst e0 e;rfl
theorem XdI.a {s:XcS} {vals aqs:List Value} {os:List (Option Xbj)} {h h1 h2:Hp} {top n m t':Nat} {ws:List Wd} {r:Xdu} {v':Value} {cw:List (Option (List Value))} {K:Value→Hp→Nat→Prop} (e2:s.run aqs cw=some r)
 (k:Xii v' fun v=>XkY [] (Xjh h2 (top+n) m) fun h'=>K v h' t')
 (e1:XdB h 0 s.modes vals=some (aqs,os):=by repeat' first|with_reducible exact XDR|((with_reducible apply ra_tr);(· repeat' first|with_reducible exact XDu|((with_reducible apply XIS);(· rfl);(· repeat' first|with_reducible exact Xn5|with_reducible apply XlS))|((with_reducible apply XIE);(· rfl);(· repeat' first|with_reducible exact Xn5|with_reducible apply XlS))|((with_reducible apply XHG);(· rfl);(· repeat' first|with_reducible exact Xn5|with_reducible apply XlS)));(· rfl);(· repeat' first|with_reducible exact XIt|with_reducible apply vp_no|apply vp_at rfl rfl (by first|rfl|exact Xjg|exact XBZ|exact XAq|exact XBJ XbP|exact Xdm _ _ (by simp only [Xa8.flatL,XhP];rfl)) rfl|apply XHD|apply XI8 rfl rfl);(· rfl))|apply XrQ|rfl|exact XIi rfl rfl rfl (by first|rfl|(simp only [Xa8.flatL,XhP];rfl))|exact XDk rfl rfl (Nat.le_of_ble_eq_true rfl) rfl (by first|rfl|(simp only [Xa8.flatL,XhP];rfl))|exact XEb rfl rfl (by first|rfl|omega) (by first|rfl|(simp;done))|exact XFS rfl rfl (by first|rfl|omega) (by first|rfl|(simp;done))|exact XD5 rfl rfl (by first|rfl|omega) (by first|rfl|(simp;done))|exact XFa XaK XbP rfl rfl (by first|rfl|omega) (by first|rfl|(simp;done))|exact XHP rfl rfl (by first|rfl|omega) (by simp at *;omega) rfl|exact Xzb rfl rfl (by first|rfl|omega) (by first|rfl|omega) (by first|omega|(simp at *;omega))|exact XDl rfl rfl (by first|rfl|omega) (by first|rfl|omega) (by first|omega|(simp at *;omega))|exact XDD rfl rfl (by first|rfl|omega) (by first|rfl|omega) (by first|omega|(simp at *;omega))|exact XDA XaK XbP rfl rfl (by first|rfl|omega) (by first|rfl|omega) (by first|omega|(simp at *;omega)))
 (ec:XiR os=cw:=by rfl)
 (ew:Xj7 h s.modes vals=ws:=by repeat' first|with_reducible exact XCV|(apply XGr;(· first|((with_reducible apply wn_tr);(· repeat' first|with_reducible exact XDu|((with_reducible apply XIS);(· rfl);(· repeat' first|with_reducible exact Xn5|with_reducible apply XlS))|((with_reducible apply XIE);(· rfl);(· repeat' first|with_reducible exact Xn5|with_reducible apply XlS))|((with_reducible apply XHG);(· rfl);(· repeat' first|with_reducible exact Xn5|with_reducible apply XlS)));(· first|exact (rfl:_=[_,_,_,_,_,_,_,_,_,_])|exact (rfl:_=[_])|exact (rfl:_=[_,_])|exact (rfl:_=[_,_,_])|exact (rfl:_=[_,_,_,_])|exact (rfl:_=[_,_,_,_,_])|exact (rfl:_=[_,_,_,_,_,_])|exact (rfl:_=[_,_,_,_,_,_,_])|exact (rfl:_=[_,_,_,_,_,_,_,_])))|first|exact (rfl:_=[])|exact (rfl:_=[_])|exact (rfl:_=[_,_])))|with_reducible exact Xn5|with_reducible apply XlS|exact XCV)
 (e3:apartB ws=true:=by first|decide +kernel|exact rfl)
 (hn:r.new.length=n:=by first|exact (rfl:_=0)|exact (rfl:_=1)|exact (rfl:_=2)|exact (rfl:_=3)|exact (rfl:_=4)|exact (rfl:_=5)|exact (rfl:_=6)|exact (rfl:_=7)|exact (rfl:_=8)|exact (rfl:_=9)|exact (rfl:_=10)|exact (rfl:_=11)|exact (rfl:_=12)|exact (rfl:_=13)|exact (rfl:_=14)|exact (rfl:_=15)|exact (rfl:_=16)|exact (rfl:_=17)|exact (rfl:_=18)|exact (rfl:_=19))
 (hm:Xle ws=m:=by first|exact (rfl:_=0)|exact (rfl:_=1)|exact (rfl:_=2)|exact (rfl:_=3)|exact (rfl:_=4))
 (ht:top+n+m=t':=by simp only [Nat.reduceAdd];rfl)
 (e4:Xdt h (Xto top n ws) ws r.wr=some h1:=by repeat' first|with_reducible exact Xuq|apply XEL rfl|apply XIm rfl rfl (by first|rfl|exact Xjg|exact XBZ|exact XAq|exact XBJ XbP|exact Xdm _ _ (by simp only [Xa8.flatL,XhP];rfl)) rfl rfl rfl|apply Xwg rfl rfl (by first|rfl|exact Xjg|exact XBZ|exact XAq|exact XBJ XbP|exact Xdm _ _ (by simp only [Xa8.flatL,XhP];rfl)) ⟨rfl,Nat.le_of_ble_eq_true rfl⟩ rfl rfl|apply XIF rfl rfl (by first|rfl|exact Xjg|exact XBZ|exact XAq|exact XBJ XbP|exact Xdm _ _ (by simp only [Xa8.flatL,XhP];rfl)) rfl|apply XJw|apply XHw rfl|exact Xuq)
 (e5:Xjb h1 (Xto top n ws) top r.new=some h2:=by repeat' first|with_reducible exact Xuo|apply XEB (by first|rfl|exact Xjg|exact XBZ|exact XAq|exact XBJ XbP|exact Xdm _ _ (by simp only [Xa8.flatL,XhP];rfl))|exact Xuo)
 (e6:Xe5 (Xto top n ws) r.v=some v':=by first|exact rfl|exact Xmz _ _ (by first|rfl|(simp only [Xa8,Xa8.flatL,XhP];rfl))):XdI s vals h top K:=XdI.Xx2 [] (XnX e1 ew ec e2 e3 hn hm ht e4 e5 e6) k
def XcT:List (Nat×Nat):=[(0,0),(1,1),(2,2),(3,3),(4,4),(5,5),(6,6),(7,7),(8,8),(9,9),(10,10),(11,11),(12,12),(13,13),(14,14),(15,15),(16,16),(17,17),(18,18),(19,19)]
def LMH (_:List (Nat×Nat)):Prop:=True
theorem lm (l:List (Nat×Nat)):LMH l:=trivial
theorem XaU.rA {P:Program} {f base fn nt:Nat} {e e':Env} {todo todo':List XgR} {ds ds':List Nat} {ret:Bool} {up up':List Xbr} {H H':Hp} {top top':Nat} {R:Value→Hp→Nat→Prop} {m:List (Nat×Nat)}
 (h:XaU P f base ⟨⟨fn,nt,e',todo',ds',ret,none⟩,up',H',top'⟩ R) (_:LMH m) (hc:XzA base top' m=true:=by rfl) (he:reE (XaP m) e e':=by (repeat' first|exact trivial|refine ⟨⟨_,rfl,rfl⟩,?_⟩|refine ⟨⟨_,_,rfl,rfl,.rowF (Xih _ _) id⟩,?_⟩|refine ⟨⟨_,_,rfl,rfl,.rowF (Xkm _) id⟩,?_⟩|refine ⟨⟨_,_,rfl,rfl,.rowF (Xkg _) id⟩,?_⟩|refine ⟨⟨_,_,rfl,rfl,.rowF (Xkd (by first|exact XbP) _) id⟩,?_⟩|refine ⟨⟨_,_,rfl,rfl,.tyF (Xih _ _)⟩,?_⟩|refine ⟨⟨_,_,rfl,rfl,.ty rfl⟩,?_⟩|refine ⟨⟨_,_,rfl,rfl,.cells rfl⟩,?_⟩|refine ⟨⟨_,_,rfl,rfl,.row rfl id⟩,?_⟩|refine ⟨⟨_,_,rfl,rfl,.cr rfl⟩,?_⟩|refine ⟨⟨_,_,rfl,rfl,.rc rfl⟩,?_⟩|refine ⟨⟨_,_,rfl,rfl,.marks⟩,?_⟩|refine ⟨⟨_,_,rfl,rfl,.mp _⟩,?_⟩|refine ⟨⟨_,_,rfl,rfl,.siter _ _⟩,?_⟩|refine ⟨⟨_,_,rfl,rfl,.loop rfl rfl rfl rfl (by repeat' first|exact trivial|refine ⟨rfl,?_⟩) rfl rfl rfl rfl⟩,?_⟩)) (hH:reH (XaP m) H H':=by (repeat' first|exact trivial|refine ⟨⟨_,rfl,rfl⟩,?_⟩|refine ⟨⟨_,_,rfl,rfl,.rowF (Xih _ _) id⟩,?_⟩|refine ⟨⟨_,_,rfl,rfl,.rowF (Xkm _) id⟩,?_⟩|refine ⟨⟨_,_,rfl,rfl,.rowF (Xkg _) id⟩,?_⟩|refine ⟨⟨_,_,rfl,rfl,.rowF (Xkd (by first|exact XbP) _) id⟩,?_⟩|refine ⟨⟨_,_,rfl,rfl,.tyF (Xih _ _)⟩,?_⟩|refine ⟨⟨_,_,rfl,rfl,.ty rfl⟩,?_⟩|refine ⟨⟨_,_,rfl,rfl,.cells rfl⟩,?_⟩|refine ⟨⟨_,_,rfl,rfl,.row rfl id⟩,?_⟩|refine ⟨⟨_,_,rfl,rfl,.cr rfl⟩,?_⟩|refine ⟨⟨_,_,rfl,rfl,.rc rfl⟩,?_⟩|refine ⟨⟨_,_,rfl,rfl,.marks⟩,?_⟩|refine ⟨⟨_,_,rfl,rfl,.mp _⟩,?_⟩|refine ⟨⟨_,_,rfl,rfl,.siter _ _⟩,?_⟩|refine ⟨⟨_,_,rfl,rfl,.loop rfl rfl rfl rfl (by repeat' first|exact trivial|refine ⟨rfl,?_⟩) rfl rfl rfl rfl⟩,?_⟩))
 (ht:XAf (XaP m) todo'=some todo:=by rfl) (hd:XAh (XaP m) ds'=some ds:=by rfl) (hu:reU (XaP m) up up':=by trivial):XaU P f base ⟨⟨fn,nt,e,todo,ds,ret,none⟩,up,H,top⟩ R:=XaU.re h m hc he hH ht hd hu
def JS (_:List Nat):Prop:=True
theorem js (l:List Nat):JS l:=trivial
theorem Res.J {n:Nat} {r:Xdu} {v':Value} {H':Hp} {js:List Nat} (_:JS js) (e1:Xe5 (Xp9 js n) r.v=some v':=by rfl) (e2:XpV H' (Xp9 js n) js r.new:=by (repeat' first|with_reducible exact Xt8|apply Xiv (by first|rfl|exact Xjg|exact XBZ|exact XAq|exact XBJ XbP|exact Xdm _ _ (by simp only [Xa8.flatL,XhP];rfl)) (by first|exact XcV rfl|exact Xhc rfl)|exact Xt8);first|done|fail) (e3:js.Nodup:=by decide) (e4:XAe n r.wr js:=by (repeat' first|with_reducible exact Xuy|apply Xiw (by decide)|apply js_r rfl|exact Xuy);first|done|fail) (e5:Xuf H' (Xp9 js n) 0 r.wr:=by (repeat' first|with_reducible exact Xuu|apply wr_n|apply wr_m rfl|apply wr_s (by first|rfl|exact Xjg|exact XBZ|exact XAq|exact XBJ XbP|exact Xdm _ _ (by simp only [Xa8.flatL,XhP];rfl)) (by first|exact Xhc rfl|exact XcV rfl)|exact Xuu);first|done|fail):Res n r v' H':=Res.of js e1 e2 e3 e4 e5
theorem Res.w {n:Nat} {r:Xdu} {v':Value} {H':Hp} (js:List Nat) (e1:Xe5 (Xp9 js n) r.v=some v') (e2:XpV H' (Xp9 js n) js r.new:=by (repeat' first|exact Xt8|apply Xiv (by first|rfl|exact Xjg|exact XBZ|exact XAq|exact XBJ XbP|exact Xdm _ _ (by simp only [Xa8.flatL,XhP];rfl)) (by first|exact XcV rfl|exact Xhc rfl));first|done|fail) (e3:js.Nodup:=by decide) (e4:XAe n r.wr js:=by (repeat' first|exact Xuy|apply Xiw (by decide)|apply js_r rfl);first|done|fail) (e5:Xuf H' (Xp9 js n) 0 r.wr:=by (repeat' first|exact Xuu|apply wr_n|apply wr_m rfl|apply wr_s (by first|rfl|exact Xjg|exact XBZ|exact XAq|exact XBJ XbP|exact Xdm _ _ (by simp only [Xa8.flatL,XhP];rfl)) (by first|exact Xhc rfl|exact XcV rfl));first|done|fail):Res n r v' H':=Res.of js e1 e2 e3 e4 e5
theorem W {G:Prop} (g:G:=by
 repeat' first
  | (obtain ⟨y,hy,h2⟩:=Xbu.elim h;cases h2;exact XaU.rA (LP hy hc) LQ)
  | exact XaU.rA (LP h (by first|exact hc|rfl)) LQ
  | (cases h;exact XaU.rA hc LM)
  | ((with_reducible refine Xa4 XaM hS true 3000 ?_);conv=>whnf)
  | (refine fsp h ?_ ?_<;>(clear h;intros;rename_i hx h;rw [hx];conv=>whnf))
  | (refine fcase h ?_ ?_<;>first|(clear h;intro hx h;(first|subst hx|rw [hx]);conv=>whnf)|(clear h;intro h))
  | (refine br.h h (by rfl) ?_ ?_<;>(clear h;intro hb h;conv=>whnf))
  | (replace h:=XaQ.elim h;obtain ⟨hb,h⟩:=h;first|(refine req.intro hb ?_;conv=>whnf)|(refine st_I hb (by first|rfl|(rw [Nat.zero_add,Nat.mul_one];try rfl;done)|omega) ?_;conv=>whnf)|(refine st_S hb (by first|rfl|(rw [Nat.zero_add,Nat.mul_one];try rfl;done)|omega) ?_;conv=>whnf)|(refine st_B hb (by first|rfl|(rw [Nat.zero_add,Nat.mul_one];try rfl;done)|omega) ?_;conv=>whnf)|skip)
  | (replace h:=Xbu.elim h;obtain ⟨x,hy,h⟩:=h;(first|refine rdS.intro hy ?_|refine rd.I hy (by first|rfl|(rw [Nat.zero_add,Nat.mul_one];try rfl;done)|omega) ?_|refine rd.S hy (by first|rfl|(rw [Nat.zero_add,Nat.mul_one];try rfl;done)|omega) ?_|refine rd.B hy (by first|rfl|(rw [Nat.zero_add,Nat.mul_one];try rfl;done)|omega) ?_|refine XdI.a (R1 hy) ?_|refine XdI.a (R2 hy) ?_|refine XdI.a (R3 hy) ?_|refine XdI.a (R4 hy) ?_|refine XdI.a (R5 hy) ?_|refine XdI.a (R6 hy) ?_|refine XdI.a (R7 hy) ?_|refine XdI.a (R8 hy) ?_|refine rd.U (j:=0) XaK hy ?_|refine rd.U (j:=1) XaK hy ?_);conv=>whnf)
  | (cases h;done)
  | (cases h;(try cases hc);first|exact Res.J J|exact Res.y|exact Res.w [] rfl|exact Res.w [_] rfl|exact Res.w [_,_] rfl|exact Res.w [_,_,_] rfl|exact Res.w [_,_,_,_] rfl)):G:=g
theorem okA {f : Nat} {s : XcS} (hfn : ∃ fn, Try.prog.funcs[f]? = some fn ∧ fn.name ≠ "runtime.NumGoroutine" ∧ fn.body.isSome = true)
 (H:∀ ar os r,Xh0 (XtQ s.modes) os→s.run ar (XiR os)=some r→∃ c,Xjp (XaP tab) f ar=some c∧XaU Try.prog f os.length ⟨c,[],XoI 0 os,os.length⟩ (fun v' H' _=>Res os.length r v' H'):=by
 intro ar os r ha hr
 generalize hc:XiR os=C at hr
 repeat' first
  | (replace hr:=XBG.elim hr;rcases hr with hr|hr)
  | (replace hr:=orD.elim hr;rcases hr with hr|hr)
  | (replace hr:=dV.elim hr;obtain ⟨v,l,y,rfl,e,hr⟩:=hr;first|obtain rfl:=Xrd _ _ _ e|obtain rfl:=Xqw _ _ e|obtain rfl:=Xqv _ _ e|obtain rfl:=Xnp _ _ e|obtain rfl:=Xnm _ _ e|obtain rfl:=Xl7 _ _ e|obtain rfl:=Xk0 _ _ e|obtain rfl:=Xmh _ _ e)
  | (have hq:=dSl.elim hr;clear hr;obtain ⟨c,l,C,y,rfl,rfl,e,hr⟩:=hq;first|obtain rfl:=XdK e|obtain rfl:=XC0 e|obtain rfl:=XDI e|obtain rfl:=Xwe XiB e)
  | (have hq:=dPt.elim hr;clear hr;obtain ⟨c,l,C,y,rfl,rfl,e,hr⟩:=hq;first|obtain rfl:=Xko _ _ e|obtain rfl:=XiB _ _ e|obtain rfl:=Xj4 _ _ e|obtain rfl:=Xi3 _ _ e|obtain rfl:=Xj0 _ _ e|obtain rfl:=Xpd (Xrd _) e|obtain rfl:=Xpd Xqw e|obtain rfl:=Xpd Xqv e)
  | (have hq:=dTr.elim hr;clear hr;obtain ⟨v,l,c,C,y,rfl,rfl,e,hr⟩:=hq;(first|obtain ⟨rfl,rfl⟩:=XdZ e|obtain ⟨rfl,rfl⟩:=XcW e|obtain ⟨rfl,rfl⟩:=XcZ e|obtain ⟨rfl,rfl⟩:=Xc2 e|obtain ⟨rfl,rfl⟩:=Xc0 e|obtain ⟨rfl,rfl⟩:=XcY e|obtain ⟨rfl,rfl⟩:=Xc3 e|obtain ⟨rfl,rfl⟩:=Xc6 e|obtain ⟨rfl,rfl⟩:=Xc1 e);simp only [List.nil_append,List.cons_append] at hc)
  | (have hq:=dNl.elim hr;clear hr;obtain ⟨l,C,rfl,rfl,hr⟩:=hq;simp only [List.replicate,List.nil_append,List.cons_append] at hc)
  | (replace hr:=dFin hr;obtain ⟨rfl,rfl,x,h,rfl⟩:=hr;(repeat (first|(replace ha:=XoN ha hc;obtain ⟨os,rfl,ha,hc⟩:=ha)|(replace ha:=Xo1 ha hc;obtain ⟨os,rfl,ha,hc⟩:=ha)));obtain rfl:=XqH hc;first|exact ⟨_,rfl,hL (h:=h) ..⟩|exact ⟨_,rfl,hN (h:=h) ..⟩|exact ⟨_,rfl,L0 (h:=h) ..⟩|exact ⟨_,rfl,L1 (h:=h) ..⟩|exact ⟨_,rfl,L2 (h:=h) ..⟩|exact ⟨_,rfl,L3 (h:=h) ..⟩|exact ⟨_,rfl,L4 (h:=h) ..⟩|exact ⟨_,rfl,L5 (h:=h) ..⟩|exact ⟨_,rfl,L6 (h:=h) ..⟩|exact ⟨_,rfl,L7 (h:=h) ..⟩|exact ⟨_,rfl,L8 (h:=h) ..⟩|exact ⟨_,rfl,L9 (h:=h) ..⟩)):XeH Try.prog f s:=XeH.Xjm XaM H hfn
theorem okB {G:Prop} (g:G:=by
 repeat' first
  | (replace hr:=dV.elim hr;obtain ⟨v,l,y,rfl,e,hr⟩:=hr;first|obtain rfl:=Xrd _ _ _ e|obtain rfl:=Xqw _ _ e|obtain rfl:=Xqv _ _ e|obtain rfl:=Xnp _ _ e|obtain rfl:=Xnm _ _ e|obtain rfl:=Xl7 _ _ e|obtain rfl:=Xk0 _ _ e|obtain rfl:=Xmh _ _ e)
  | (have hq:=dSl.elim hr;clear hr;obtain ⟨c,l,C,y,rfl,rfl,e,hr⟩:=hq;first|obtain rfl:=XdK e|obtain rfl:=XC0 e|obtain rfl:=XDI e|obtain rfl:=Xwe XiB e)
  | (have hq:=dPt.elim hr;clear hr;obtain ⟨c,l,C,y,rfl,rfl,e,hr⟩:=hq;first|obtain rfl:=Xko _ _ e|obtain rfl:=XiB _ _ e|obtain rfl:=Xj4 _ _ e|obtain rfl:=Xi3 _ _ e|obtain rfl:=Xj0 _ _ e|obtain rfl:=Xpd (Xrd _) e|obtain rfl:=Xpd Xqw e|obtain rfl:=Xpd Xqv e)
  | (have hq:=dTr.elim hr;clear hr;obtain ⟨v,l,c,C,y,rfl,rfl,e,hr⟩:=hq;(first|obtain ⟨rfl,rfl⟩:=U1 e|obtain ⟨rfl,rfl⟩:=U2 e|obtain ⟨rfl,rfl⟩:=U3 e);simp only [List.nil_append,List.cons_append] at hc)
  | (have hq:=dNl.elim hr;clear hr;obtain ⟨l,C,rfl,rfl,hr⟩:=hq;simp only [List.replicate,List.nil_append,List.cons_append] at hc)
  | (replace hr:=dFin hr;obtain ⟨rfl,rfl,x,h,rfl⟩:=hr;(repeat (first|(replace ha:=XoN ha hc;obtain ⟨os,rfl,ha,hc⟩:=ha)|(replace ha:=Xo1 ha hc;obtain ⟨os,rfl,ha,hc⟩:=ha)));obtain rfl:=XqH hc;exact ⟨_,rfl,LL (h:=h) ..⟩)):G:=g
def XlX (n:Int) (k:Int):Option Int:=
 XaQ (decide (0≤k)) <|
 XaQ (decide (0≤(wI .i64 (64 - k)))) <|
 let t:=n.fdiv (2^(min (wI .i64 (64 - k)).toNat 64))
 let t1:=Xrn .u64 (wI .u64 (n*2^(min k.toNat 64))) t
 some (t1)
def rx70 (x:Int):Xdu:=⟨.int .u64 x,[],[]⟩
abbrev Xhu:=Int→Int→Option Int
def r70 (g:Xhu):Dec:=dV (asI .u64) fun (y0:Int)=>dV (asI .i64) fun (y1:Int)=>XeC (ofG (g y0 y1) rx70)
theorem r70_c {g:Xhu} {y0:Int} {y1:Int} {x:Int} (hx:g y0 y1=some x):r70 g [.int .u64 y0,.int .i64 y1] []=some (rx70 x):=(Xbz (Xd1 _)).trans ((Xbz (Xd1 _)).trans (Xbc hx))
def s70 (g:Xhu):XcS:=⟨[.v,.v],r70 g⟩
theorem XHj {g:Xhu} {y0:Int} {y1:Int} {x:Int} (hx:g y0 y1=some x):(s70 g).run [.int .u64 y0,.int .i64 y1] []=some (rx70 x):=r70_c hx
abbrev XIR:List (Nat×XcS):=[]
theorem XFK (hS:XaF Try.prog (XaP (XIR))) (n:Int) (k:Int) (res:Int) (h:XlX n k=some res) :
 XaU Try.prog 70 0 ⟨⟨70,13,[(0,.int .u64 n),(1,.int .i64 k)],[.code XHr],[],false,none⟩,[],[],0⟩ (fun v H _=>Res 0 (rx70 res) v H):=by
 unfold XlX at h
 refine Xa4 XaM hS true 3000 ?_
 conv=>whnf
 exact W
def Xe0:Xhu:=XlX
theorem XIV:XeH Try.prog 70 (s70 Xe0):=by
 have hL:=XFK (XaF.Xba trivial)
 exact okA ⟨Try.f70,rfl,by decide,rfl⟩
def Xk8 (Xe0:Xhu) (a:Int) (b:Int) (c:Int) (d:Int):Option (Int×Int×Int×Int):=
 (Xe0 b 13).bind fun t=>
 (Xe0 (wI .u64 (a+b)) 32).bind fun t1=>
 (Xe0 d 16).bind fun t2=>
 let t3:=wI .u64 (t1+(XdH .u64 t2 (wI .u64 (c+d))))
 (Xe0 (XdH .u64 t2 (wI .u64 (c+d))) 21).bind fun t4=>
 let t5:=wI .u64 ((wI .u64 (c+d))+(XdH .u64 t (wI .u64 (a+b))))
 (Xe0 (XdH .u64 t (wI .u64 (a+b))) 17).bind fun t6=>
 (Xe0 t5 32).bind fun t7=>
 some ((t3,XdH .u64 t6 t5,t7,XdH .u64 t4 t3))
def rx58 (x:Int×Int×Int×Int):Xdu:=⟨.tuple ⟨[.int .u64 x.1,.int .u64 x.2.1,.int .u64 x.2.2.1,.int .u64 x.2.2.2]⟩,[],[]⟩
abbrev Xcb:=Int→Int→Int→Int→Option (Int×Int×Int×Int)
def r58 (g:Xcb):Dec:=dV (asI .u64) fun (y0:Int)=>dV (asI .u64) fun (y1:Int)=>dV (asI .u64) fun (y2:Int)=>dV (asI .u64) fun (y3:Int)=>XeC (ofG (g y0 y1 y2 y3) rx58)
theorem r58_c {g:Xcb} {y0:Int} {y1:Int} {y2:Int} {y3:Int} {x:Int×Int×Int×Int} (hx:g y0 y1 y2 y3=some x):r58 g [.int .u64 y0,.int .u64 y1,.int .u64 y2,.int .u64 y3] []=some (rx58 x):=(Xbz (Xd1 _)).trans ((Xbz (Xd1 _)).trans ((Xbz (Xd1 _)).trans ((Xbz (Xd1 _)).trans (Xbc hx))))
def s58 (g:Xcb):XcS:=⟨[.v,.v,.v,.v],r58 g⟩
theorem XDz {g:Xcb} {y0:Int} {y1:Int} {y2:Int} {y3:Int} {x:Int×Int×Int×Int} (hx:g y0 y1 y2 y3=some x):(s58 g).run [.int .u64 y0,.int .u64 y1,.int .u64 y2,.int .u64 y3] []=some (rx58 x):=r58_c hx
abbrev XIU (Xe0:Xhu):List (Nat×XcS):=[(70,s70 Xe0)]
theorem XFy (Xe0:Xhu) (hS:XaF Try.prog (XaP (XIU Xe0))) (a:Int) (b:Int) (c:Int) (d:Int) (res:Int×Int×Int×Int) (h:Xk8 Xe0 a b c d=some res) :
 XaU Try.prog 58 0 ⟨⟨58,48,[(0,.int .u64 a),(1,.int .u64 b),(2,.int .u64 c),(3,.int .u64 d)],[.code XDN],[],false,none⟩,[],[],0⟩ (fun v H _=>Res 0 (rx58 res) v H):=by
 unfold Xk8 at h
 have R1:=@XHj Xe0
 refine Xa4 XaM hS true 3000 ?_
 conv=>whnf
 exact W
def Xa9:Xcb:=Xk8 Xe0
theorem XC8:XeH Try.prog 58 (s58 Xa9):=by
 have hL:=XFy Xe0 (XaF.Xba ⟨XIV,trivial⟩)
 exact okA ⟨Try.f58,rfl,by decide,rfl⟩
def Xi1 (Xa9:Xcb) (rounds:Int) (a1:Int) (b1:Int) (c1:Int) (d1:Int) (i:Int):Option (Sum (Int×Int×Int×Int×Int) XaN):=
 cond (decide (i<rounds))
  (
  cond (decide (i<64))
   (
   (Xa9 a1 b1 c1 d1).bind fun xr=>
   some (.inl (xr.1,xr.2.1,xr.2.2.1,xr.2.2.2,wI .i64 (i+1))))
   (
   some (.inr (XaN.mk a1 b1 c1 d1))))
  (
  some (.inr (XaN.mk a1 b1 c1 d1)))
def Xnz (Xa9:Xcb) (a:Int) (b:Int) (c:Int) (d:Int) (rounds:Int):Option XaN:=
 iter (fun st=>Xi1 Xa9 rounds st.1 st.2.1 st.2.2.1 st.2.2.2.1 st.2.2.2.2) FUEL (a,b,c,d,0)
def XGR (x:XaN):Xdu:=⟨.agg ⟨[.int .u64 x.e0,.int .u64 x.e1,.int .u64 x.e2,.int .u64 x.e3]⟩,[],[]⟩
abbrev Xf9:=Int→Int→Int→Int→Int→Option XaN
def r59 (g:Xf9):Dec:=dV (asI .u64) fun (y0:Int)=>dV (asI .u64) fun (y1:Int)=>dV (asI .u64) fun (y2:Int)=>dV (asI .u64) fun (y3:Int)=>dV (asI .i64) fun (y4:Int)=>XeC (ofG (g y0 y1 y2 y3 y4) XGR)
theorem r59_c {g:Xf9} {y0:Int} {y1:Int} {y2:Int} {y3:Int} {y4:Int} {x:XaN} (hx:g y0 y1 y2 y3 y4=some x):r59 g [.int .u64 y0,.int .u64 y1,.int .u64 y2,.int .u64 y3,.int .i64 y4] []=some (XGR x):=(Xbz (Xd1 _)).trans ((Xbz (Xd1 _)).trans ((Xbz (Xd1 _)).trans ((Xbz (Xd1 _)).trans ((Xbz (Xd1 _)).trans (Xbc hx)))))
def s59 (g:Xf9):XcS:=⟨[.v,.v,.v,.v,.v],r59 g⟩
theorem XIe {g:Xf9} {y0:Int} {y1:Int} {y2:Int} {y3:Int} {y4:Int} {x:XaN} (hx:g y0 y1 y2 y3 y4=some x):(s59 g).run [.int .u64 y0,.int .u64 y1,.int .u64 y2,.int .u64 y3,.int .i64 y4] []=some (XGR x):=r59_c hx
abbrev XDc (Xa9:Xcb):List (Nat×XcS):=[(58,s58 Xa9)]
def Xuc (rounds:Int) (a1:Int) (b1:Int) (c1:Int) (d1:Int) (i:Int):VM:=
 ⟨⟨59,36,[(0,.int .u64 a1),(1,.int .u64 b1),(2,.int .u64 c1),(3,.int .u64 d1),(4,.int .i64 rounds),(10,.pointer (some ⟨0,0,none⟩)),(11,.int .i64 i)],[.code XF0,.inLoop XF0,.inBlock 0,.code XDo],[],false,none⟩,[],[(0,.cells [.int .u64 0,.int .u64 0,.int .u64 0,.int .u64 0])],1⟩
theorem XCC (Xa9:Xcb) (hS:XaF Try.prog (XaP (XDc Xa9))) {rounds:Int} {res:XaN}:∀ {fuel} {st:Int×Int×Int×Int×Int} {o:XaN},iter (fun st=>Xi1 Xa9 rounds st.1 st.2.1 st.2.2.1 st.2.2.2.1 st.2.2.2.2) fuel st=some o→(o=res) →
 XaU Try.prog 59 0 (Xuc rounds st.1 st.2.1 st.2.2.1 st.2.2.2.1 st.2.2.2.2) (fun v H _=>Res 0 (XGR res) v H):=by
 apply XaO
 intro st o h hc
 obtain ⟨a1,b1,c1,d1,i⟩:=st
 replace h:Xi1 Xa9 rounds a1 b1 c1 d1 i=some o:=h
 show XaU Try.prog 59 0 (Xuc rounds a1 b1 c1 d1 i) (fun v H _=>Res 0 (XGR res) v H)
 unfold Xi1 at h
 have R1:=@XDz Xa9
 have LM:=lm [(0,0)]
 refine Xa4 XaM hS true 3000 ?_
 conv=>whnf
 exact W
theorem XFF (Xa9:Xcb) (hS:XaF Try.prog (XaP (XDc Xa9))) (a:Int) (b:Int) (c:Int) (d:Int) (rounds:Int) (res:XaN) (h:Xnz Xa9 a b c d rounds=some res) :
 XaU Try.prog 59 0 ⟨⟨59,36,[(0,.int .u64 a),(1,.int .u64 b),(2,.int .u64 c),(3,.int .u64 d),(4,.int .i64 rounds)],[.code XDb],[],false,none⟩,[],[],0⟩ (fun v H _=>Res 0 (XGR res) v H):=by
 unfold Xnz at h
 have LP:=@XCC Xa9 hS;have LQ:=lm [(0,0)]
 refine Xa4 XaM hS true 3000 ?_
 conv=>whnf
 exact W
def XeA:Xf9:=Xnz Xa9
theorem XHc:XeH Try.prog 59 (s59 XeA):=by
 have hL:=XFF Xa9 (XaF.Xba ⟨XC8,trivial⟩)
 exact okA ⟨Try.f59,rfl,by decide,rfl⟩
def XpF (k:Xau):Option XaR:=
 some (XaR.mk true (XaN.mk (XdH .u64 8317987319222330741 k.A) (XdH .u64 7237128888997146477 k.B) (XdH .u64 7816392313619706465 k.A) (XdH .u64 8387220255154660723 k.B)) 0 0)
def rx61 (x:XaR):Xdu:=⟨.pointer (some ⟨0,0,none⟩),[[.bool x.made,.int .u64 x.s.e0,.int .u64 x.s.e1,.int .u64 x.s.e2,.int .u64 x.s.e3,.int .u64 x.last,.int .i64 x.count]],[]⟩
abbrev Xh4:=Xau→Option XaR
def r61 (g:Xh4):Dec:=dV XhK fun (y0:Xau)=>XeC (ofG (g y0) rx61)
theorem r61_c {g:Xh4} {y0:Xau} {x:XaR} (hx:g y0=some x):r61 g [.agg ⟨[.int .u64 y0.A,.int .u64 y0.B]⟩] []=some (rx61 x):=(Xbz (Xiq _)).trans (Xbc hx)
def s61 (g:Xh4):XcS:=⟨[.v],r61 g⟩
theorem XG3 {g:Xh4} {y0:Xau} {x:XaR} (hx:g y0=some x):(s61 g).run [.agg ⟨[.int .u64 y0.A,.int .u64 y0.B]⟩] []=some (rx61 x):=r61_c hx
abbrev XHA:List (Nat×XcS):=[]
theorem XEJ (hS:XaF Try.prog (XaP (XHA))) (k:Xau) (res:XaR) (h:XpF k=some res) :
 XaU Try.prog 61 0 ⟨⟨61,18,[(0,.agg ⟨[.int .u64 k.A,.int .u64 k.B]⟩)],[.code XIf],[],false,none⟩,[],[],0⟩ (fun v H _=>Res 0 (rx61 res) v H):=by
 unfold XpF at h
 refine Xa4 XaM hS true 3000 ?_
 conv=>whnf
 exact W
def XiS:Xh4:=XpF
theorem XID:XeH Try.prog 61 (s61 XiS):=by
 have hL:=XEJ (XaF.Xba trivial)
 exact okA ⟨Try.f61,rfl,by decide,rfl⟩
def XeB (x:Int) (k:Int):Option Int:=
 XaQ (decide (0≤(Xwb .u64 (wI .u64 k) 63))) <|
 let t:=wI .u64 (x*2^(min (Xwb .u64 (wI .u64 k) 63).toNat 64))
 let t1:=wI .u64 (64 - (Xwb .u64 (wI .u64 k) 63))
 XaQ (decide (0≤t1)) <|
 let t2:=Xrn .u64 t (x.fdiv (2^(min t1.toNat 64)))
 some (t2)
def rx78 (x:Int):Xdu:=⟨.int .u64 x,[],[]⟩
abbrev Xbx:=Int→Int→Option Int
def r78 (g:Xbx):Dec:=dV (asI .u64) fun (y0:Int)=>dV (asI .i64) fun (y1:Int)=>XeC (ofG (g y0 y1) rx78)
theorem r78_c {g:Xbx} {y0:Int} {y1:Int} {x:Int} (hx:g y0 y1=some x):r78 g [.int .u64 y0,.int .i64 y1] []=some (rx78 x):=(Xbz (Xd1 _)).trans ((Xbz (Xd1 _)).trans (Xbc hx))
def s78 (g:Xbx):XcS:=⟨[.v,.v],r78 g⟩
theorem XIl {g:Xbx} {y0:Int} {y1:Int} {x:Int} (hx:g y0 y1=some x):(s78 g).run [.int .u64 y0,.int .i64 y1] []=some (rx78 x):=r78_c hx
abbrev XIA:List (Nat×XcS):=[]
theorem XEI (hS:XaF Try.prog (XaP (XIA))) (x:Int) (k:Int) (res:Int) (h:XeB x k=some res) :
 XaU Try.prog 78 0 ⟨⟨78,17,[(0,.int .u64 x),(1,.int .i64 k)],[.code XH0],[],false,none⟩,[],[],0⟩ (fun v H _=>Res 0 (rx78 res) v H):=by
 unfold XeB at h
 refine Xa4 XaM hS true 3000 ?_
 conv=>whnf
 exact W
def Xa1:Xbx:=XeB
theorem XHU:XeH Try.prog 78 (s78 Xa1):=by
 have hL:=XEI (XaF.Xba trivial)
 exact okA ⟨Try.f78,rfl,by decide,rfl⟩
def XhQ (Xa1:Xbx) (s:XaN):Option XaN:=
 (Xa1 s.e1 13).bind fun xr=>
 (Xa1 (wI .u64 (s.e0+s.e1)) 32).bind fun xr1=>
 (Xa1 s.e3 16).bind fun xr2=>
 let t:=wI .u64 (xr1+(XdH .u64 xr2 (wI .u64 (s.e2+s.e3))))
 (Xa1 (XdH .u64 xr2 (wI .u64 (s.e2+s.e3))) 21).bind fun xr3=>
 let t1:=wI .u64 ((wI .u64 (s.e2+s.e3))+(XdH .u64 xr (wI .u64 (s.e0+s.e1))))
 (Xa1 (XdH .u64 xr (wI .u64 (s.e0+s.e1))) 17).bind fun xr4=>
 (Xa1 t1 32).bind fun xr5=>
 some (XaN.mk t (XdH .u64 xr4 t1) xr5 (XdH .u64 xr3 t))
def rx76 (x:XaN):Xdu:=⟨.tuple ⟨[]⟩,[],[some [.int .u64 x.e0,.int .u64 x.e1,.int .u64 x.e2,.int .u64 x.e3]]⟩
abbrev Xb9:=XaN→Option XaN
def r76 (g:Xb9):Dec:=dPt 0 Xiu fun (y0:XaN)=>XeC (ofG (g y0) rx76)
theorem r76_c {g:Xb9} {y0:XaN} {x:XaN} (hx:g y0=some x):r76 g [.pointer (some ⟨0,0,none⟩)] [some [.int .u64 y0.e0,.int .u64 y0.e1,.int .u64 y0.e2,.int .u64 y0.e3]]=some (rx76 x):=(Xq9 (XkM _)).trans (Xbc hx)
def s76 (g:Xb9):XcS:=⟨[.pt 4],r76 g⟩
theorem XJl {g:Xb9} {y0:XaN} {x:XaN} (hx:g y0=some x):(s76 g).run [.pointer (some ⟨0,0,none⟩)] [some [.int .u64 y0.e0,.int .u64 y0.e1,.int .u64 y0.e2,.int .u64 y0.e3]]=some (rx76 x):=r76_c hx
abbrev XI6 (Xa1:Xbx):List (Nat×XcS):=[(78,s78 Xa1)]
theorem XGu (Xa1:Xbx) (hS:XaF Try.prog (XaP (XI6 Xa1))) (s:XaN) (res:XaN) (h:XhQ Xa1 s=some res) :
 XaU Try.prog 76 1 ⟨⟨76,114,[(0,.pointer (some ⟨0,0,none⟩))],[.code XDO],[],false,none⟩,[],[(0,.cells [.int .u64 s.e0,.int .u64 s.e1,.int .u64 s.e2,.int .u64 s.e3])],1⟩ (fun v H _=>Res 1 (rx76 res) v H):=by
 unfold XhQ at h
 have R1:=@XIl Xa1
 refine Xa4 XaM hS true 3000 ?_
 conv=>whnf
 exact W
def Xbg:Xb9:=XhQ Xa1
theorem XHy:XeH Try.prog 76 (s76 Xbg):=by
 have hL:=XGu Xa1 (XaF.Xba ⟨XHU,trivial⟩)
 exact okA ⟨Try.f76,rfl,by decide,rfl⟩
def Xe7 (Xbg:Xb9) (t:Int) (t7:Int) (s1:Int) (s2:Int) (s3:Int) (s4:Int):Option (Sum (Int×Int×Int×Int×Int) XaN):=
 cond (decide (t7<t))
  (
  (Xbg (XaN.mk s1 s2 s3 s4)).bind fun xr=>
  some (.inl (wI .i64 (t7+1),xr.e0,xr.e1,xr.e2,xr.e3)))
  (
  some (.inr (XaN.mk s1 s2 s3 s4)))
def Xix (Xbg:Xb9) (s:XaN) (rounds:Int):Option XaN:=
 let t:=if (if 64<rounds then 64 else rounds)>0 then if 64<rounds then 64 else rounds else 0
 iter (fun st=>Xe7 Xbg t st.1 st.2.1 st.2.2.1 st.2.2.2.1 st.2.2.2.2) FUEL (0,s.e0,s.e1,s.e2,s.e3)
def XGV (x:XaN):Xdu:=⟨.tuple ⟨[]⟩,[],[some [.int .u64 x.e0,.int .u64 x.e1,.int .u64 x.e2,.int .u64 x.e3]]⟩
abbrev XcE:=XaN→Int→Option XaN
def r73 (g:XcE):Dec:=dPt 0 Xiu fun (y0:XaN)=>dV (asI .i64) fun (y1:Int)=>XeC (ofG (g y0 y1) XGV)
theorem r73_c {g:XcE} {y0:XaN} {y1:Int} {x:XaN} (hx:g y0 y1=some x):r73 g [.pointer (some ⟨0,0,none⟩),.int .i64 y1] [some [.int .u64 y0.e0,.int .u64 y0.e1,.int .u64 y0.e2,.int .u64 y0.e3]]=some (XGV x):=(Xq9 (XkM _)).trans ((Xbz (Xd1 _)).trans (Xbc hx))
def s73 (g:XcE):XcS:=⟨[.pt 4,.v],r73 g⟩
theorem XCL {g:XcE} {y0:XaN} {y1:Int} {x:XaN} (hx:g y0 y1=some x):(s73 g).run [.pointer (some ⟨0,0,none⟩),.int .i64 y1] [some [.int .u64 y0.e0,.int .u64 y0.e1,.int .u64 y0.e2,.int .u64 y0.e3]]=some (XGV x):=r73_c hx
abbrev XDB (Xbg:Xb9):List (Nat×XcS):=[(76,s76 Xbg)]
def XuM (t:Int) (t7:Int) (s1:Int) (s2:Int) (s3:Int) (s4:Int):VM:=
 ⟨⟨73,12,[(0,.pointer (some ⟨0,0,none⟩)),(6,.int .i64 t),(7,.int .i64 t7)],[.code XFG,.inLoop XFG,.inBlock 0],[],false,none⟩,[],[(0,.cells [.int .u64 s1,.int .u64 s2,.int .u64 s3,.int .u64 s4])],1⟩
theorem XA9 (Xbg:Xb9) (hS:XaF Try.prog (XaP (XDB Xbg))) {t:Int} {res:XaN}:∀ {fuel} {st:Int×Int×Int×Int×Int} {o:XaN},iter (fun st=>Xe7 Xbg t st.1 st.2.1 st.2.2.1 st.2.2.2.1 st.2.2.2.2) fuel st=some o→(o=res) →
 XaU Try.prog 73 1 (XuM t st.1 st.2.1 st.2.2.1 st.2.2.2.1 st.2.2.2.2) (fun v H _=>Res 1 (XGV res) v H):=by
 apply XaO
 intro st o h hc
 obtain ⟨t7,s1,s2,s3,s4⟩:=st
 replace h:Xe7 Xbg t t7 s1 s2 s3 s4=some o:=h
 show XaU Try.prog 73 1 (XuM t t7 s1 s2 s3 s4) (fun v H _=>Res 1 (XGV res) v H)
 unfold Xe7 at h
 have R1:=@XJl Xbg
 have LM:=lm [(0,0)]
 refine Xa4 XaM hS true 3000 ?_
 conv=>whnf
 exact W
theorem XGI (Xbg:Xb9) (hS:XaF Try.prog (XaP (XDB Xbg))) (s:XaN) (rounds:Int) (res:XaN) (h:Xix Xbg s rounds=some res) :
 XaU Try.prog 73 1 ⟨⟨73,12,[(0,.pointer (some ⟨0,0,none⟩)),(1,.int .i64 rounds)],[.code XC4],[],false,none⟩,[],[(0,.cells [.int .u64 s.e0,.int .u64 s.e1,.int .u64 s.e2,.int .u64 s.e3])],1⟩ (fun v H _=>Res 1 (XGV res) v H):=by
 unfold Xix at h
 have LP:=@XA9 Xbg hS;have LQ:=lm [(0,0)]
 refine Xa4 XaM hS true 3000 ?_
 conv=>whnf
 exact W
def Xbm:XcE:=Xix Xbg
theorem XDC:XeH Try.prog 73 (s73 Xbm):=by
 have hL:=XGI Xbg (XaF.Xba ⟨XHy,trivial⟩)
 exact okA ⟨Try.f73,rfl,by decide,rfl⟩
def Xh9 (Xbm:XcE) (s:XaN) (m:Int):Option XaN:=
 (Xbm (XaN.mk s.e0 s.e1 s.e2 (XdH .u64 s.e3 m)) 2).bind fun m1=>
 some (XaN.mk (XdH .u64 m1.e0 m) m1.e1 m1.e2 m1.e3)
def rx72 (x:XaN):Xdu:=⟨.tuple ⟨[]⟩,[],[some [.int .u64 x.e0,.int .u64 x.e1,.int .u64 x.e2,.int .u64 x.e3]]⟩
abbrev Xby:=XaN→Int→Option XaN
def r72 (g:Xby):Dec:=dPt 0 Xiu fun (y0:XaN)=>dV (asI .u64) fun (y1:Int)=>XeC (ofG (g y0 y1) rx72)
theorem r72_c {g:Xby} {y0:XaN} {y1:Int} {x:XaN} (hx:g y0 y1=some x):r72 g [.pointer (some ⟨0,0,none⟩),.int .u64 y1] [some [.int .u64 y0.e0,.int .u64 y0.e1,.int .u64 y0.e2,.int .u64 y0.e3]]=some (rx72 x):=(Xq9 (XkM _)).trans ((Xbz (Xd1 _)).trans (Xbc hx))
def s72 (g:Xby):XcS:=⟨[.pt 4,.v],r72 g⟩
theorem XDG {g:Xby} {y0:XaN} {y1:Int} {x:XaN} (hx:g y0 y1=some x):(s72 g).run [.pointer (some ⟨0,0,none⟩),.int .u64 y1] [some [.int .u64 y0.e0,.int .u64 y0.e1,.int .u64 y0.e2,.int .u64 y0.e3]]=some (rx72 x):=r72_c hx
abbrev XIc (Xbm:XcE):List (Nat×XcS):=[(73,s73 Xbm)]
theorem XFD (Xbm:XcE) (hS:XaF Try.prog (XaP (XIc Xbm))) (s:XaN) (m:Int) (res:XaN) (h:Xh9 Xbm s m=some res) :
 XaU Try.prog 72 1 ⟨⟨72,22,[(0,.pointer (some ⟨0,0,none⟩)),(1,.int .u64 m)],[.code XI1],[],false,none⟩,[],[(0,.cells [.int .u64 s.e0,.int .u64 s.e1,.int .u64 s.e2,.int .u64 s.e3])],1⟩ (fun v H _=>Res 1 (rx72 res) v H):=by
 unfold Xh9 at h
 have R1:=@XCL Xbm
 refine Xa4 XaM hS true 3000 ?_
 conv=>whnf
 exact W
def Xa3:Xby:=Xh9 Xbm
theorem XDE:XeH Try.prog 72 (s72 Xa3):=by
 have hL:=XFD Xbm (XaF.Xba ⟨XDC,trivial⟩)
 exact okA ⟨Try.f72,rfl,by decide,rfl⟩
theorem Xw4 {P:Program} {f base fn nt:Nat} {e e':Env} {todo todo':List XgR} {ds ds':List Nat} {ret:Bool} {up up':List Xbr} {H H':Hp} {top top':Nat} {R:Value→Hp→Nat→Prop}
 (h:XaU P f base ⟨⟨fn,nt,e',todo',ds',ret,none⟩,up',H',top'⟩ R) (m:List (Nat×Nat)) (hc:XzA base top' m=true) (he:reE (XaP m) e e':=by repeat' first|exact trivial|refine ⟨⟨_,rfl,rfl⟩,?_⟩|refine ⟨⟨_,_,rfl,rfl,.rowF (Xih _ _) id⟩,?_⟩|refine ⟨⟨_,_,rfl,rfl,.rowF (Xkm _) id⟩,?_⟩|refine ⟨⟨_,_,rfl,rfl,.rowF (Xkg _) id⟩,?_⟩|refine ⟨⟨_,_,rfl,rfl,.rowF (Xkd (by first|exact XbP) _) id⟩,?_⟩|refine ⟨⟨_,_,rfl,rfl,.tyF (Xih _ _)⟩,?_⟩|refine ⟨⟨_,_,rfl,rfl,.ty rfl⟩,?_⟩|refine ⟨⟨_,_,rfl,rfl,.cells rfl⟩,?_⟩|refine ⟨⟨_,_,rfl,rfl,.row rfl id⟩,?_⟩|refine ⟨⟨_,_,rfl,rfl,.cr rfl⟩,?_⟩|refine ⟨⟨_,_,rfl,rfl,.rc rfl⟩,?_⟩|refine ⟨⟨_,_,rfl,rfl,.marks⟩,?_⟩|refine ⟨⟨_,_,rfl,rfl,.mp _⟩,?_⟩|refine ⟨⟨_,_,rfl,rfl,.siter _ _⟩,?_⟩|refine ⟨⟨_,_,rfl,rfl,.loop rfl rfl rfl rfl (by repeat' first|exact trivial|refine ⟨rfl,?_⟩) rfl rfl rfl rfl⟩,?_⟩) (hH:reH (XaP m) H H':=by repeat' first|exact trivial|refine ⟨⟨_,rfl,rfl⟩,?_⟩|refine ⟨⟨_,_,rfl,rfl,.rowF (Xih _ _) id⟩,?_⟩|refine ⟨⟨_,_,rfl,rfl,.rowF (Xkm _) id⟩,?_⟩|refine ⟨⟨_,_,rfl,rfl,.rowF (Xkg _) id⟩,?_⟩|refine ⟨⟨_,_,rfl,rfl,.rowF (Xkd (by first|exact XbP) _) id⟩,?_⟩|refine ⟨⟨_,_,rfl,rfl,.tyF (Xih _ _)⟩,?_⟩|refine ⟨⟨_,_,rfl,rfl,.ty rfl⟩,?_⟩|refine ⟨⟨_,_,rfl,rfl,.cells rfl⟩,?_⟩|refine ⟨⟨_,_,rfl,rfl,.row rfl id⟩,?_⟩|refine ⟨⟨_,_,rfl,rfl,.cr rfl⟩,?_⟩|refine ⟨⟨_,_,rfl,rfl,.rc rfl⟩,?_⟩|refine ⟨⟨_,_,rfl,rfl,.marks⟩,?_⟩|refine ⟨⟨_,_,rfl,rfl,.mp _⟩,?_⟩|refine ⟨⟨_,_,rfl,rfl,.siter _ _⟩,?_⟩|refine ⟨⟨_,_,rfl,rfl,.loop rfl rfl rfl rfl (by repeat' first|exact trivial|refine ⟨rfl,?_⟩) rfl rfl rfl rfl⟩,?_⟩)
 (ht:XAf (XaP m) todo'=some todo:=by rfl) (hd:XAh (XaP m) ds'=some ds:=by rfl) (hu:reU (XaP m) up up':=by trivial) :
 XaU P f base ⟨⟨fn,nt,e,todo,ds,ret,none⟩,up,H,top⟩ R:=XaU.re h m hc he hH ht hd hu
theorem lrA1 {P:Program} {f base fn nt:Nat} {e e':Env} {todo todo':List XgR} {ds ds':List Nat} {ret:Bool} {up up':List Xbr} {H H':Hp} {top top':Nat} {R:Value→Hp→Nat→Prop}
 (h:XaU P f base ⟨⟨fn,nt,e',todo',ds',ret,none⟩,up',H',top'⟩ R) (m:List (Nat×Nat)) (hc:XzA base top' m=true) (he:reE (XaP m) e e':=by repeat' first|exact trivial|refine ⟨⟨_,rfl,rfl⟩,?_⟩|refine ⟨⟨_,_,rfl,rfl,.rowF (Xih _ _) id⟩,?_⟩|refine ⟨⟨_,_,rfl,rfl,.rowF (Xkm _) id⟩,?_⟩|refine ⟨⟨_,_,rfl,rfl,.rowF (Xkg _) id⟩,?_⟩|refine ⟨⟨_,_,rfl,rfl,.rowF (Xkd (by first|exact XbP) _) id⟩,?_⟩|refine ⟨⟨_,_,rfl,rfl,.tyF (Xih _ _)⟩,?_⟩|refine ⟨⟨_,_,rfl,rfl,.ty rfl⟩,?_⟩|refine ⟨⟨_,_,rfl,rfl,.cells rfl⟩,?_⟩|refine ⟨⟨_,_,rfl,rfl,.row rfl id⟩,?_⟩|refine ⟨⟨_,_,rfl,rfl,.cr rfl⟩,?_⟩|refine ⟨⟨_,_,rfl,rfl,.rc rfl⟩,?_⟩|refine ⟨⟨_,_,rfl,rfl,.marks⟩,?_⟩|refine ⟨⟨_,_,rfl,rfl,.mp _⟩,?_⟩|refine ⟨⟨_,_,rfl,rfl,.siter _ _⟩,?_⟩|refine ⟨⟨_,_,rfl,rfl,.loop rfl rfl rfl rfl (by repeat' first|exact trivial|refine ⟨rfl,?_⟩) rfl rfl rfl rfl⟩,?_⟩) (hH:reH (XaP m) H H':=by repeat' first|exact trivial|refine ⟨⟨_,rfl,rfl⟩,?_⟩|refine ⟨⟨_,_,rfl,rfl,.rowF (Xih _ _) id⟩,?_⟩|refine ⟨⟨_,_,rfl,rfl,.rowF (Xkm _) id⟩,?_⟩|refine ⟨⟨_,_,rfl,rfl,.rowF (Xkg _) id⟩,?_⟩|refine ⟨⟨_,_,rfl,rfl,.rowF (Xkd (by first|exact XbP) _) id⟩,?_⟩|refine ⟨⟨_,_,rfl,rfl,.tyF (Xih _ _)⟩,?_⟩|refine ⟨⟨_,_,rfl,rfl,.ty rfl⟩,?_⟩|refine ⟨⟨_,_,rfl,rfl,.cells rfl⟩,?_⟩|refine ⟨⟨_,_,rfl,rfl,.row rfl id⟩,?_⟩|refine ⟨⟨_,_,rfl,rfl,.cr rfl⟩,?_⟩|refine ⟨⟨_,_,rfl,rfl,.rc rfl⟩,?_⟩|refine ⟨⟨_,_,rfl,rfl,.marks⟩,?_⟩|refine ⟨⟨_,_,rfl,rfl,.mp _⟩,?_⟩|refine ⟨⟨_,_,rfl,rfl,.siter _ _⟩,?_⟩|refine ⟨⟨_,_,rfl,rfl,.loop rfl rfl rfl rfl (by repeat' first|exact trivial|refine ⟨rfl,?_⟩) rfl rfl rfl rfl⟩,?_⟩)
 (ht:XAf (XaP m) todo'=some todo:=by rfl) (hd:XAh (XaP m) ds'=some ds:=by rfl) (hu:reU (XaP m) up up':=by repeat' first|exact trivial|refine ⟨⟨rfl,rfl,rfl,rfl,rfl,?_,rfl,rfl⟩,?_⟩|refine ⟨⟨_,rfl,rfl⟩,?_⟩) :
 XaU P f base ⟨⟨fn,nt,e,todo,ds,ret,none⟩,up,H,top⟩ R:=XaU.re h m hc he hH ht hd hu
def XdY (Xa3:Xby) (ha0:XaR) (s:List UInt8) (t18:Int) (xh:Int) (xh1:Int) (xh2:Int) (xh3:Int) (xh4:Int) (xh5:Int):Option (Sum (Int×Int×Int×Int×Int×Int×Int) XaR):=
 cond (decide (t18<(s.length:Int)))
  (
  XaQ (decide ((0:Int)≤t18∧t18<(s.length:Int))) <|
  ((bI s)[t18.toNat]?).bind fun (e:Int)=>
  XaQ (decide (0≤(wI .i64 (8*(xh5.tmod 8))))) <|
  let t:=wI .u64 ((wI .u64 e)*2^(min (wI .i64 (8*(xh5.tmod 8))).toNat 64))
  cond (((wI .i64 (xh5+1)).tmod 8)==0)
   (
   (Xa3 (XaN.mk xh xh1 xh2 xh3) (Xrn .u64 xh4 t)).bind fun t1=>
   some (.inl (wI .i64 (t18+1),t1.e0,t1.e1,t1.e2,t1.e3,0,wI .i64 (xh5+1))))
   (
   some (.inl (wI .i64 (t18+1),xh,xh1,xh2,xh3,Xrn .u64 xh4 t,wI .i64 (xh5+1)))))
  (
  some (.inr (XaR.mk ha0.made (XaN.mk xh xh1 xh2 xh3) xh4 xh5)))
def XfY (Xa3:Xby) (ha0:XaR) (s:List UInt8):Option XaR:=
 cond (!ha0.made)
  (
  some (ha0))
  (
  iter (fun st=>XdY Xa3 ha0 s st.1 st.2.1 st.2.2.1 st.2.2.2.1 st.2.2.2.2.1 st.2.2.2.2.2.1 st.2.2.2.2.2.2) FUEL (0,ha0.s.e0,ha0.s.e1,ha0.s.e2,ha0.s.e3,ha0.last,ha0.count))
def XGU (x:XaR):Xdu:=⟨.tuple ⟨[]⟩,[],[some [.bool x.made,.int .u64 x.s.e0,.int .u64 x.s.e1,.int .u64 x.s.e2,.int .u64 x.s.e3,.int .u64 x.last,.int .i64 x.count]]⟩
abbrev XcX:=XaR→(List UInt8)→Option XaR
def r62 (g:XcX):Dec:=dPt 0 Xh6 fun (y0:XaR)=>dV asS fun (y1:List UInt8)=>XeC (ofG (g y0 y1) XGU)
theorem r62_c {g:XcX} {y0:XaR} {y1:List UInt8} {x:XaR} (hx:g y0 y1=some x):r62 g [.pointer (some ⟨0,0,none⟩),.string ⟨⟨y1⟩⟩] [some [.bool y0.made,.int .u64 y0.s.e0,.int .u64 y0.s.e1,.int .u64 y0.s.e2,.int .u64 y0.s.e3,.int .u64 y0.last,.int .i64 y0.count]]=some (XGU x):=(Xq9 (Xlv _)).trans ((Xbz (XhC)).trans (Xbc hx))
def s62 (g:XcX):XcS:=⟨[.pt 7,.v],r62 g⟩
theorem XHi {g:XcX} {y0:XaR} {y1:List UInt8} {x:XaR} (hx:g y0 y1=some x):(s62 g).run [.pointer (some ⟨0,0,none⟩),.string ⟨⟨y1⟩⟩] [some [.bool y0.made,.int .u64 y0.s.e0,.int .u64 y0.s.e1,.int .u64 y0.s.e2,.int .u64 y0.s.e3,.int .u64 y0.last,.int .i64 y0.count]]=some (XGU x):=r62_c hx
abbrev XCS (Xa3:Xby):List (Nat×XcS):=[(72,s72 Xa3)]
def Xl9 (ha0:XaR) (s:List UInt8) (t18:Int) (xh:Int) (xh1:Int) (xh2:Int) (xh3:Int) (xh4:Int) (xh5:Int):VM:=
 ⟨⟨62,63,[(0,.pointer (some ⟨0,0,none⟩)),(16,.slice (some ⟨1,0,none⟩) s.length 1),(17,.int .i64 (s.length:Int)),(18,.int .i64 t18)],[.code Xyo,.inLoop Xyo,.inBlock 0],[],false,none⟩,[],[(0,.cells [.bool ha0.made,.int .u64 xh,.int .u64 xh1,.int .u64 xh2,.int .u64 xh3,.int .u64 xh4,.int .i64 xh5]),(1,.row true (vI .u8 (bI s)))],2⟩
theorem XtI (Xa3:Xby) (hS:XaF Try.prog (XaP (XCS Xa3))) {ha0:XaR} {s:List UInt8} {res:XaR}:∀ {fuel} {st:Int×Int×Int×Int×Int×Int×Int} {o:XaR},iter (fun st=>XdY Xa3 ha0 s st.1 st.2.1 st.2.2.1 st.2.2.2.1 st.2.2.2.2.1 st.2.2.2.2.2.1 st.2.2.2.2.2.2) fuel st=some o→(o=res) →
 XaU Try.prog 62 1 (Xl9 ha0 s st.1 st.2.1 st.2.2.1 st.2.2.2.1 st.2.2.2.2.1 st.2.2.2.2.2.1 st.2.2.2.2.2.2) (fun v H _=>Res 1 (XGU res) v H):=by
 apply XaO
 intro st o h hc
 obtain ⟨t18,xh,xh1,xh2,xh3,xh4,xh5⟩:=st
 replace h:XdY Xa3 ha0 s t18 xh xh1 xh2 xh3 xh4 xh5=some o:=h
 show XaU Try.prog 62 1 (Xl9 ha0 s t18 xh xh1 xh2 xh3 xh4 xh5) (fun v H _=>Res 1 (XGU res) v H)
 unfold XdY at h
 have LM:=lm [(0,0),(1,1)]
 refine Xa4 XaM hS true 3000 ?_
 conv=>whnf
 refine br.h2 h (by rfl) ?_ ?_
 ·clear h;intro hb h;conv=>whnf
  all_goals (cases h;cases hc)
  all_goals exact Res.of [] rfl Xt8 (by decide) Xuy (wr_s (rfl) (Xhc rfl) Xuu)
 clear h;intro hb h;conv=>whnf
 replace h:=XaQ.elim h;obtain ⟨hb,h⟩:=h
 try (refine req.intro hb ?_;conv=>whnf)
 replace h:=Xbu.elim h;obtain ⟨e,hy,h⟩:=h
 refine rd.I hy (by first|rfl|(rw [Nat.zero_add,Nat.mul_one];try rfl;done)|omega) ?_
 conv=>whnf
 replace h:=XaQ.elim h;obtain ⟨hb,h⟩:=h
 try (refine req.intro hb ?_;conv=>whnf)
 let t:Int:=wI .u64 ((wI .u64 e)*2^(min (wI .i64 (8*(xh5.tmod 8))).toNat 64))
 refine br.h2 h (by rfl) ?_ ?_
 ·clear h;intro hb h;conv=>whnf
  cases h;simp only [Sum.elim_inl,Xl9] at hc
  exact Xw4 hc [(0,0),(1,1)] rfl
 clear h;intro hb h;conv=>whnf
 replace h:=Xbu.elim h;obtain ⟨t1,hy,h⟩:=h
 refine XdI.Xx2 [0] (XnX (aqs:=[.pointer (some ⟨0,0,none⟩),.int .u64 (Xrn .u64 xh4 t)]) (ws:=[.win 0 1 4 true]) (n:=0) (m:=0) (t':=22) (XrQ rfl rfl (XrQ rfl rfl XDR)) rfl (by rfl) (XDG hy) rfl rfl rfl rfl (Xwg rfl rfl rfl ⟨rfl,Nat.le_of_ble_eq_true rfl⟩ rfl rfl Xuq) Xuo rfl) ?_
 conv=>whnf
 cases h;simp only [Sum.elim_inl,Xl9] at hc
 exact Xw4 hc [(0,0),(1,1)] rfl
theorem XE5 (Xa3:Xby) (hS:XaF Try.prog (XaP (XCS Xa3))) (ha0:XaR) (s:List UInt8) (res:XaR) (h:XfY Xa3 ha0 s=some res) :
 XaU Try.prog 62 1 ⟨⟨62,63,[(0,.pointer (some ⟨0,0,none⟩)),(1,.string ⟨⟨s⟩⟩)],[.code XC3],[],false,none⟩,[],[(0,.cells [.bool ha0.made,.int .u64 ha0.s.e0,.int .u64 ha0.s.e1,.int .u64 ha0.s.e2,.int .u64 ha0.s.e3,.int .u64 ha0.last,.int .i64 ha0.count])],1⟩ (fun v H _=>Res 1 (XGU res) v H):=by
 unfold XfY at h
 have LP:=@XtI Xa3 hS;have LQ:=lm [(0,0),(1,1)]
 refine Xa4 XaM hS true 3000 ?_
 conv=>whnf
 refine br.h h (by rfl) ?_ ?_
 ·clear h;intro hb h;conv=>whnf
  all_goals (cases h)
  all_goals exact Res.of [] rfl Xt8 (by decide) Xuy (wr_s (rfl) (Xhc rfl) Xuu)
 clear h;intro hb h;conv=>whnf
 refine XIs ?_
 conv=>whnf
 have hl:=XtI Xa3 hS h rfl;simp only [Xl9] at hl
 exact Xw4 hl [(0,0),(1,1)] rfl
def XbH:XcX:=XfY Xa3
theorem XJL:XeH Try.prog 62 (s62 XbH):=by
 have hL:=XE5 Xa3 (XaF.Xba ⟨XDE,trivial⟩)
 exact okA ⟨Try.f62,rfl,by decide,rfl⟩
def Xic (Xbm:XcE) (Xa3:Xby) (ha0:XaR):Option (Int×XaR):=
 cond (!ha0.made)
  (
  some ((0,ha0)))
  (
  let t:=Xrn .u64 ha0.last (wI .u64 ((wI .u64 ha0.count)*2^56))
  (Xa3 ha0.s t).bind fun t1=>
  (Xbm (XaN.mk t1.e0 t1.e1 (XdH .u64 t1.e2 255) t1.e3) 4).bind fun m=>
  let t2:=XdH .u64 (XdH .u64 (XdH .u64 m.e0 m.e1) m.e2) m.e3
  some ((t2,ha0)))
def rx63 (x:Int×XaR):Xdu:=⟨.int .u64 x.1,[],[some [.bool x.2.made,.int .u64 x.2.s.e0,.int .u64 x.2.s.e1,.int .u64 x.2.s.e2,.int .u64 x.2.s.e3,.int .u64 x.2.last,.int .i64 x.2.count]]⟩
abbrev Xdx:=XaR→Option (Int×XaR)
def r63 (g:Xdx):Dec:=dPt 0 Xh6 fun (y0:XaR)=>XeC (ofG (g y0) rx63)
theorem r63_c {g:Xdx} {y0:XaR} {x:Int×XaR} (hx:g y0=some x):r63 g [.pointer (some ⟨0,0,none⟩)] [some [.bool y0.made,.int .u64 y0.s.e0,.int .u64 y0.s.e1,.int .u64 y0.s.e2,.int .u64 y0.s.e3,.int .u64 y0.last,.int .i64 y0.count]]=some (rx63 x):=(Xq9 (Xlv _)).trans (Xbc hx)
def s63 (g:Xdx):XcS:=⟨[.pt 7],r63 g⟩
theorem XHK {g:Xdx} {y0:XaR} {x:Int×XaR} (hx:g y0=some x):(s63 g).run [.pointer (some ⟨0,0,none⟩)] [some [.bool y0.made,.int .u64 y0.s.e0,.int .u64 y0.s.e1,.int .u64 y0.s.e2,.int .u64 y0.s.e3,.int .u64 y0.last,.int .i64 y0.count]]=some (rx63 x):=r63_c hx
abbrev XHx (Xbm:XcE) (Xa3:Xby):List (Nat×XcS):=[(73,s73 Xbm),(72,s72 Xa3)]
theorem XEf (Xbm:XcE) (Xa3:Xby) (hS:XaF Try.prog (XaP (XHx Xbm Xa3))) (ha0:XaR) (res:Int×XaR) (h:Xic Xbm Xa3 ha0=some res) :
 XaU Try.prog 63 1 ⟨⟨63,45,[(0,.pointer (some ⟨0,0,none⟩))],[.code XDm],[],false,none⟩,[],[(0,.cells [.bool ha0.made,.int .u64 ha0.s.e0,.int .u64 ha0.s.e1,.int .u64 ha0.s.e2,.int .u64 ha0.s.e3,.int .u64 ha0.last,.int .i64 ha0.count])],1⟩ (fun v H _=>Res 1 (rx63 res) v H):=by
 unfold Xic at h
 have R1:=@XDG Xa3
 have R2:=@XCL Xbm
 refine Xa4 XaM hS true 3000 ?_
 conv=>whnf
 exact W
def XcG:Xdx:=Xic Xbm Xa3
theorem XHM:XeH Try.prog 63 (s63 XcG):=by
 have hL:=XEf Xbm Xa3 (XaF.Xba ⟨XDC,XDE,trivial⟩)
 exact okA ⟨Try.f63,rfl,by decide,rfl⟩
end Go.Vm.Code
namespace Go.Vm.Code
open Go Go.Vm
def trn (x k:Int):Int:=Xrn .u64 (wI .u64 (x*2^(min k.toNat 64))) (x.fdiv (2^(min (64 - k).toNat 64)))
theorem Xn2 {x k:Int} (h0:0≤k) (h1:k≤64):Xe0 x k=some (trn x k):=by
 unfold trn Xe0 XlX
 rw [XaH h0,Xf1 (n:=64 - k) (by omega) (by omega),XaH (by omega)]
theorem Xqj {x k:Int} (h:k=13∨k=16∨k=17∨k=21∨k=32):Xa1 x k=some (trn x k):=by
 have e1:Xwb .u64 (wI .u64 k) 63=k:=by rcases h with rfl|rfl|rfl|rfl|rfl<;>decide +kernel
 have e2:wI .u64 (64 - k)=64 - k:=Xoo (by omega) (by omega)
 unfold Xa1 XeB trn
 rw [e1,e2,XaH (by omega)]
 simp only []
 rw [XaH (by omega)]
def rnd (s:XaN):XaN:=
 let a1:=wI .u64 (s.e0+s.e1)
 let b1:=XdH .u64 (trn s.e1 13) a1
 let c1:=wI .u64 (s.e2+s.e3)
 let d1:=XdH .u64 (trn s.e3 16) c1
 let t:=wI .u64 (trn a1 32+d1)
 let t1:=wI .u64 (c1+b1)
 ⟨t,XdH .u64 (trn b1 17) t1,trn t1 32,XdH .u64 (trn d1 21) t⟩
theorem round_eq (s:XaN):Xbg s=some (rnd s):=by
 unfold Xbg XhQ
 simp only [Xqj (k:=13) (by omega),Xqj (k:=16) (by omega),Xqj (k:=17) (by omega),Xqj (k:=21) (by omega),Xqj (k:=32) (by omega),Option.bind_some]
 rfl
theorem XuN (a b c d:Int):Xa9 a b c d=some ((rnd ⟨a,b,c,d⟩).e0,(rnd ⟨a,b,c,d⟩).e1,(rnd ⟨a,b,c,d⟩).e2,(rnd ⟨a,b,c,d⟩).e3):=by
 unfold Xa9 Xk8
 simp only [Xn2 (k:=13) (by omega) (by omega),Xn2 (k:=16) (by omega) (by omega),Xn2 (k:=17) (by omega) (by omega),Xn2 (k:=21) (by omega) (by omega),Xn2 (k:=32) (by omega) (by omega),Option.bind_some]
 rfl
def Xzc:Nat→XaN→XaN
 | 0,q=>q
 | n+1,q=>Xzc n (rnd q)
def cnt (n:Int):Nat:=(if (if 64<n then 64 else n)>0 then if 64<n then 64 else n else 0:Int).toNat
theorem XDh (s:XaN) (n:Int):Xbm s n=some (Xzc (cnt n) s):=by
 unfold Xbm Xix cnt
 generalize ht:(if (if 64<n then 64 else n)>0 then if 64<n then 64 else n else 0:Int)=t
 have hb:0≤t∧t≤64:=by rw [←ht];split<;>split<;>omega
 have key:=iter_eq (step:=fun (st:Int×Int×Int×Int×Int)=>Xe7 Xbg t st.1 st.2.1 st.2.2.1 st.2.2.2.1 st.2.2.2.2) (fun st=>Xzc (t - st.1).toNat ⟨st.2.1,st.2.2.1,st.2.2.2.1,st.2.2.2.2⟩) (fun st=>0≤st.1∧st.1≤t) (fun st=>(t - st.1).toNat) ?_ FUEL (0,s.e0,s.e1,s.e2,s.e3) ⟨by simp,hb.1⟩ (by rw [Xd0];simp only;omega)
 ·simp only [] at key ⊢
  rw [key];simp
 rintro ⟨i,a,b,c,d⟩ ⟨g1,g2⟩
 simp only at g1 g2 ⊢
 unfold Xe7
 by_cases hi:i<t
 ·refine .inr ⟨(i+1,(rnd ⟨a,b,c,d⟩).e0,(rnd ⟨a,b,c,d⟩).e1,(rnd ⟨a,b,c,d⟩).e2,(rnd ⟨a,b,c,d⟩).e3),?_,⟨by simp only;omega,by simp only;omega⟩,by simp only;omega,?_⟩
  ·rw [Xbd hi,round_eq,Option.bind_some,Xf1 (by omega) (by omega)]
  ·simp only []
   have e:(t - i).toNat=(t - (i+1)).toNat+1:=by omega
   rw [e];rfl
 ·refine .inl ?_
  rw [Xa7 hi]
  have e:(t - i).toNat=0:=by omega
  simp only [e,Xzc]
theorem XG9 (a b c d n:Int):XeA a b c d n=some (Xzc (cnt n) ⟨a,b,c,d⟩):=by
 unfold XeA Xnz
 have hc:∀ i:Int,0≤i→i≤cnt n→(i<cnt n↔i<n∧i<64):=by
  intro i h0 h1
  revert h1
  unfold cnt
  split<;>split<;>omega
 have hb:(cnt n:Int)≤64:=by unfold cnt;split<;>split<;>omega
 have key:=iter_eq (step:=fun (st:Int×Int×Int×Int×Int)=>Xi1 Xa9 n st.1 st.2.1 st.2.2.1 st.2.2.2.1 st.2.2.2.2) (fun st=>Xzc (cnt n - st.2.2.2.2).toNat ⟨st.1,st.2.1,st.2.2.1,st.2.2.2.1⟩) (fun st=>0≤st.2.2.2.2∧st.2.2.2.2≤cnt n) (fun st=>(cnt n - st.2.2.2.2).toNat) ?_ FUEL (a,b,c,d,0) ⟨by simp,by simp⟩ (by rw [Xd0];simp only;omega)
 ·rw [key];simp
 rintro ⟨a,b,c,d,i⟩ ⟨g1,g2⟩
 simp only at g1 g2 ⊢
 unfold Xi1
 have hh:=hc i g1 g2
 by_cases hi:i<cnt n
 ·obtain ⟨h1,h2⟩:=hh.1 hi
  refine .inr ⟨((rnd ⟨a,b,c,d⟩).e0,(rnd ⟨a,b,c,d⟩).e1,(rnd ⟨a,b,c,d⟩).e2,(rnd ⟨a,b,c,d⟩).e3,i+1),?_,⟨by simp only;omega,by simp only;omega⟩,by simp only;omega,?_⟩
  ·rw [Xbd h1,Xbd h2,XuN,Option.bind_some,Xf1 (by omega) (by omega)]
  ·simp only []
   have e:((cnt n:Int) - i).toNat=((cnt n:Int) - (i+1)).toNat+1:=by omega
   rw [e];rfl
 ·refine .inl ?_
  have e:((cnt n:Int) - i).toNat=0:=by omega
  simp only [e,Xzc]
  by_cases h1:i<n
  ·rw [Xbd h1,Xa7 (by omega)]
  ·rw [Xa7 h1]
def tak (s:XaN) (m:Int):XaN:=
 let q:=Xzc 2 ⟨s.e0,s.e1,s.e2,XdH .u64 s.e3 m⟩
 ⟨XdH .u64 q.e0 m,q.e1,q.e2,q.e3⟩
theorem XxP (s:XaN) (m:Int):Xa3 s m=some (tak s m):=by
 unfold Xa3 Xh9
 rw [XDh,show cnt 2=2 from rfl,Option.bind_some]
 simp only [tak]
def wrT (T:XaN→Int→XaN) (h:XaR) (b:UInt8):XaR:=
 let m:=Xrn .u64 h.last (wI .u64 ((b.toNat:Int)*2^(8*(h.count.toNat%8))))
 if (h.count.toNat+1)%8=0 then ⟨h.made,T h.s m,0,h.count+1⟩ else ⟨h.made,h.s,m,h.count+1⟩
theorem Xyl (T:XaN→Int→XaN) {h:XaR} {s:List UInt8} (hm:h.made=true) (h0:0≤h.count) (h1:h.count+s.length<2^62):XfY (fun q m=>some (T q m)) h s=some (s.foldl (wrT T) h):=by
 unfold XfY
 rw [hm,Bool.not_true,cond_false]
 have key:=iter_eq (step:=fun (st:Int×Int×Int×Int×Int×Int×Int)=>XdY (fun q m=>some (T q m)) h s st.1 st.2.1 st.2.2.1 st.2.2.2.1 st.2.2.2.2.1 st.2.2.2.2.2.1 st.2.2.2.2.2.2)
  (fun st=>(s.drop st.1.toNat).foldl (wrT T) ⟨true,⟨st.2.1,st.2.2.1,st.2.2.2.1,st.2.2.2.2.1⟩,st.2.2.2.2.2.1,st.2.2.2.2.2.2⟩) (fun st=>0≤st.1∧st.1≤s.length∧st.2.2.2.2.2.2=h.count+st.1) (fun st=>(s.length - st.1).toNat) ?_ FUEL (0,h.s.e0,h.s.e1,h.s.e2,h.s.e3,h.last,h.count) ⟨by simp,by simp,by simp⟩ (by rw [Xd0];simp only;omega)
 ·rw [key]
  simp only [Int.toNat_zero,List.drop_zero]
  rw [←hm]
 rintro ⟨p,a,b,c,d,l,n⟩ ⟨g1,g2,g3⟩
 simp only at g1 g2 g3 ⊢
 obtain ⟨i,rfl⟩:=Int.eq_ofNat_of_zero_le g1
 obtain ⟨k,hk⟩:=Int.eq_ofNat_of_zero_le (show 0≤n by omega)
 subst hk
 simp only [Int.toNat_natCast]
 unfold XdY
 by_cases hi:i<s.length
 ·have hb:=s[i].toNat_lt
  have e1:(bI s)[i]?=some (s[i].toNat:Int):=by simp [bI,hi]
  have e2:((k:Int).tmod 8)=((k%8:Nat):Int):=by rw [Int.tmod_eq_emod_of_nonneg (by omega)];rfl
  have e3:min (8*((k%8:Nat):Int)).toNat 64=8*(k%8):=by omega
  have e4:(((k:Int)+1).tmod 8==0)=decide ((k+1)%8=0):=by
   rw [Int.tmod_eq_emod_of_nonneg (by omega),Bool.eq_iff_iff,beq_iff_eq,decide_eq_true_eq];omega
  refine .inr ⟨(((i+1:Nat):Int),(wrT T ⟨true,⟨a,b,c,d⟩,l,k⟩ s[i]).s.e0,(wrT T ⟨true,⟨a,b,c,d⟩,l,k⟩ s[i]).s.e1,(wrT T ⟨true,⟨a,b,c,d⟩,l,k⟩ s[i]).s.e2,(wrT T ⟨true,⟨a,b,c,d⟩,l,k⟩ s[i]).s.e3,(wrT T ⟨true,⟨a,b,c,d⟩,l,k⟩ s[i]).last,(k:Int)+1),?_,⟨by simp only;omega,by simp only;omega,by simp only;omega⟩,by simp only;omega,?_⟩
  ·simp (disch:=omega) only [Xbd,XaH,Int.toNat_natCast,e1,Option.bind_some,e2,Xf1,e3,e4,Xoo (n:=(s[i].toNat:Int)),XBF]
   unfold wrT
   simp only [Int.toNat_natCast]
   split<;>rfl
  ·simp only [Int.toNat_natCast]
   rw [List.drop_eq_getElem_cons hi,List.foldl_cons]
   congr 1
   unfold wrT
   simp only [Int.toNat_natCast]
   split<;>rfl
 ·refine .inl ?_
  rw [Xa7 (by omega),List.drop_eq_nil_of_le (by omega),hm];rfl
def wrB:XaR→UInt8→XaR:=wrT tak
theorem XBm {h:XaR} {s:List UInt8} (hm:h.made=true) (h0:0≤h.count) (h1:h.count+s.length<2^62):XbH h s=some (s.foldl wrB h):=by
 unfold XbH
 rw [show Xa3=fun q m=>some (tak q m) from funext fun q=>funext fun m=>XxP q m]
 exact Xyl tak hm h0 h1
theorem XCJ (T:XaN→Int→XaN) (h:XaR) (b:UInt8):(wrT T h b).made=h.made:=by unfold wrT;simp only;split<;>rfl
theorem XwE (T:XaN→Int→XaN) (h:XaR) (b:UInt8):(wrT T h b).count=h.count+1:=by unfold wrT;simp only;split<;>rfl
theorem XB9 (h:XaR) (b:UInt8):(wrB h b).made=h.made:=XCJ tak h b
theorem Xw2 (h:XaR) (b:UInt8):(wrB h b).count=h.count+1:=XwE tak h b
theorem wrL:∀ (s:List UInt8) (h:XaR),(s.foldl wrB h).made=h.made∧(s.foldl wrB h).count=h.count+s.length
 | [],h=>⟨rfl,by simp⟩
 | b::s,h=>by
   obtain ⟨a1,a2⟩:=wrL s (wrB h b)
   rw [List.foldl_cons,a1,a2,XB9,Xw2,List.length_cons]
   exact ⟨rfl,by omega⟩
def sumV (h:XaR):Int:=
 let t:=tak h.s (Xrn .u64 h.last (wI .u64 ((wI .u64 h.count)*2^56)))
 let m:=Xzc 4 ⟨t.e0,t.e1,XdH .u64 t.e2 255,t.e3⟩
 XdH .u64 (XdH .u64 (XdH .u64 m.e0 m.e1) m.e2) m.e3
theorem XJs {h:XaR} (hm:h.made=true):XcG h=some (sumV h,h):=by
 unfold XcG Xic
 rw [hm,Bool.not_true,cond_false]
 simp only [XxP,XDh,Option.bind_some,show cnt 4=4 from rfl,sumV]
def newV (k:Xau):XaR:=⟨true,⟨XdH .u64 8317987319222330741 k.A,XdH .u64 7237128888997146477 k.B,XdH .u64 7816392313619706465 k.A,XdH .u64 8387220255154660723 k.B⟩,0,0⟩
theorem XIJ (k:Xau):XiS k=some (newV k):=rfl
end Go.Vm.Code
namespace Go.Vm.Code
open Go Go.Vm Go.Proofs
set_option maxRecDepth 100000
set_option maxHeartbeats 4000000
set_option linter.unusedVariables false
def Xip (s:List UInt8) (n:Int) (i:Int):Option (Sum (Int×Int) Int):=
 cond (decide (i≥0))
  (
  XaQ (decide (0≤i)) <|
  (s[i.toNat]?).bind fun (b:UInt8)=>
  let t:=wI .u64 ((wI .u64 (n*2^8))+(wI .u64 (b.toNat:Int)))
  some (.inl (t,wI .i64 (i - 1))))
  (
  some (.inr (n)))
def XmC (s:List UInt8):Option Int:=
 iter (fun st=>Xip s st.1 st.2) FUEL (0,wI .i64 ((s.length:Int) - 1))
def XGT (x:Int):Xdu:=⟨.int .u64 x,[],[]⟩
abbrev XeK:=(List UInt8)→Option Int
def r57 (g:XeK):Dec:=dV asS fun (y0:List UInt8)=>XeC (ofG (g y0) XGT)
theorem r57_c {g:XeK} {y0:List UInt8} {x:Int} (hx:g y0=some x):r57 g [.string ⟨⟨y0⟩⟩] []=some (XGT x):=(Xbz (XhC)).trans (Xbc hx)
def s57 (g:XeK):XcS:=⟨[.v],r57 g⟩
theorem XHZ {g:XeK} {y0:List UInt8} {x:Int} (hx:g y0=some x):(s57 g).run [.string ⟨⟨y0⟩⟩] []=some (XGT x):=r57_c hx
abbrev XDM:List (Nat×XcS):=[]
def XtC (s:List UInt8) (n:Int) (i:Int):VM:=
 ⟨⟨57,20,[(0,.string ⟨⟨s⟩⟩),(3,.int .u64 n),(4,.int .i64 i)],[.code Xwl,.inLoop Xwl,.inBlock 0,.code XCP],[],false,none⟩,[],[],0⟩
theorem XBW (hS:XaF Try.prog (XaP (XDM))) {s:List UInt8} {res:Int}:∀ {fuel} {st:Int×Int} {o:Int},iter (fun st=>Xip s st.1 st.2) fuel st=some o→(o=res) →
 XaU Try.prog 57 0 (XtC s st.1 st.2) (fun v H _=>Res 0 (XGT res) v H):=by
 apply XaO
 intro st o h hc
 obtain ⟨n,i⟩:=st
 replace h:Xip s n i=some o:=h
 show XaU Try.prog 57 0 (XtC s n i) (fun v H _=>Res 0 (XGT res) v H)
 unfold Xip at h
 have LM:=lm []
 refine Xa4 XaM hS true 3000 ?_
 conv=>whnf
 exact W
theorem XF4 (hS:XaF Try.prog (XaP (XDM))) (s:List UInt8) (res:Int) (h:XmC s=some res) :
 XaU Try.prog 57 0 ⟨⟨57,20,[(0,.string ⟨⟨s⟩⟩)],[.code XCN],[],false,none⟩,[],[],0⟩ (fun v H _=>Res 0 (XGT res) v H):=by
 unfold XmC at h
 have LP:=@XBW hS;have LQ:=lm []
 refine Xa4 XaM hS true 3000 ?_
 conv=>whnf
 exact W
def Xds:XeK:=XmC
theorem XHQ:XeH Try.prog 57 (s57 Xds):=by
 have hL:=XF4 (XaF.Xba trivial)
 exact okA ⟨Try.f57,rfl,by decide,rfl⟩
def XeJ (Xa9:Xcb) (s:List UInt8) (t:Int) (i:Int) (a1:Int) (b1:Int) (c1:Int) (d1:Int) (m:Int) (n:Int):Option (Sum (Int×Int×Int×Int×Int×Int) (Sum (Int×Int×Int×Int×Int) Int)):=
 cond (decide (n<2))
  (
  (Xa9 a1 b1 c1 d1).bind fun xr=>
  some (.inl (xr.1,xr.2.1,xr.2.2.1,xr.2.2.2,m,wI .i64 (n+1))))
  (
  some (.inr (.inl (XdH .u64 a1 m,b1,c1,d1,wI .i64 (i+8)))))
def Xin (XeA:Xf9) (Xa9:Xcb) (Xds:XeK) (s:List UInt8) (t:Int) (a:Int) (b:Int) (c:Int) (d:Int) (i:Int):Option (Sum (Int×Int×Int×Int×Int) Int):=
 cond (decide (i≤t))
  (
  let t1:=if (s.length:Int)<(wI .i64 (i+8)) then (s.length:Int) else wI .i64 (i+8)
  XaQ (decide ((0:Int)≤t1∧t1≤(s.length:Int)∧(0:Int)≤i∧i≤(t1.toNat:Int))) <|
  let t2:=(s.drop i.toNat).take (t1.toNat - i.toNat)
  (Xds t2).bind fun w=>
  cond (i==t)
   (
   XaQ (decide ((0:Int)≤i∧i≤(s.length:Int))) <|
   let t3:=(s.drop i.toNat).take (s.length - i.toNat)
   (Xds t3).bind fun w1=>
   let t4:=wI .u64 ((wI .u64 ((s.length:Int).tmod 256))*2^56)
   iter (fun st=>XeJ Xa9 s t i st.1 st.2.1 st.2.2.1 st.2.2.2.1 st.2.2.2.2.1 st.2.2.2.2.2) FUEL (a,b,c,XdH .u64 d (wI .u64 (w1+t4)),wI .u64 (w1+t4),0))
   (
   iter (fun st=>XeJ Xa9 s t i st.1 st.2.1 st.2.2.1 st.2.2.2.1 st.2.2.2.2.1 st.2.2.2.2.2) FUEL (a,b,c,XdH .u64 d w,w,0)))
  (
  (XeA a b (XdH .u64 c 255) d 4).bind fun m1=>
  let t5:=XdH .u64 (XdH .u64 m1.e0 m1.e1) m1.e2
  some (.inr (XdH .u64 t5 m1.e3)))
def XmB (XeA:Xf9) (Xa9:Xcb) (Xds:XeK) (k:Xau) (s:List UInt8):Option Int:=
 let t:=wI .i64 ((wI .i64 ((s.length:Int).tdiv 8))*8)
 iter (fun st=>Xin XeA Xa9 Xds s t st.1 st.2.1 st.2.2.1 st.2.2.2.1 st.2.2.2.2) FUEL (XdH .u64 8317987319222330741 k.A,XdH .u64 7237128888997146477 k.B,XdH .u64 7816392313619706465 k.A,XdH .u64 8387220255154660723 k.B,0)
def XCa (x:Int):Xdu:=⟨.int .u64 x,[],[]⟩
abbrev Xhi:=Xau→(List UInt8)→Option Int
def r44 (g:Xhi):Dec:=dV XhK fun (y0:Xau)=>dV asS fun (y1:List UInt8)=>XeC (ofG (g y0 y1) XCa)
theorem r44_c {g:Xhi} {y0:Xau} {y1:List UInt8} {x:Int} (hx:g y0 y1=some x):r44 g [.agg ⟨[.int .u64 y0.A,.int .u64 y0.B]⟩,.string ⟨⟨y1⟩⟩] []=some (XCa x):=(Xbz (Xiq _)).trans ((Xbz (XhC)).trans (Xbc hx))
def s44 (g:Xhi):XcS:=⟨[.v,.v],r44 g⟩
theorem XIT {g:Xhi} {y0:Xau} {y1:List UInt8} {x:Int} (hx:g y0 y1=some x):(s44 g).run [.agg ⟨[.int .u64 y0.A,.int .u64 y0.B]⟩,.string ⟨⟨y1⟩⟩] []=some (XCa x):=r44_c hx
abbrev Xwy (XeA:Xf9) (Xa9:Xcb) (Xds:XeK):List (Nat×XcS):=[(59,s59 XeA),(58,s58 Xa9),(57,s57 Xds)]
def XuS (s:List UInt8) (t:Int) (i:Int) (a1:Int) (b1:Int) (c1:Int) (d1:Int) (m:Int) (n:Int):VM:=
 ⟨⟨44,95,[(1,.string ⟨⟨s⟩⟩),(5,.int .u64 a1),(6,.int .u64 b1),(7,.int .u64 c1),(8,.int .u64 d1),(9,.int .i64 t),(10,.int .i64 i),(11,.int .u64 m),(12,.int .i64 n)],[.code XyA,.inLoop XyA,.inBlock 2,.code XDt,.inBlock 1,.code XC5,.inLoop Xun,.inBlock 0,.code Xww],[],false,none⟩,[],[],15⟩
def XpN (s:List UInt8) (t:Int) (a:Int) (b:Int) (c:Int) (d:Int) (i:Int):VM:=
 ⟨⟨44,95,[(1,.string ⟨⟨s⟩⟩),(5,.int .u64 a),(6,.int .u64 b),(7,.int .u64 c),(8,.int .u64 d),(9,.int .i64 t),(10,.int .i64 i)],[.code Xun,.inLoop Xun,.inBlock 0,.code Xww],[],false,none⟩,[],[],15⟩
theorem XAS (XeA:Xf9) (Xa9:Xcb) (Xds:XeK) (hS:XaF Try.prog (XaP (Xwy XeA Xa9 Xds))) {s:List UInt8} {t:Int} {i:Int} {res:Int}:∀ {fuel} {st:Int×Int×Int×Int×Int×Int} {o:Sum (Int×Int×Int×Int×Int) Int},iter (fun st=>XeJ Xa9 s t i st.1 st.2.1 st.2.2.1 st.2.2.2.1 st.2.2.2.2.1 st.2.2.2.2.2) fuel st=some o→(Sum.elim (fun s0=>XaU Try.prog 44 0 (XpN s t s0.1 s0.2.1 s0.2.2.1 s0.2.2.2.1 s0.2.2.2.2) (fun v H _=>Res 0 (XCa res) v H)) (fun r0=>r0=res) o) →
 XaU Try.prog 44 0 (XuS s t i st.1 st.2.1 st.2.2.1 st.2.2.2.1 st.2.2.2.2.1 st.2.2.2.2.2) (fun v H _=>Res 0 (XCa res) v H):=by
 apply XaO
 intro st o h hc
 obtain ⟨a1,b1,c1,d1,m,n⟩:=st
 replace h:XeJ Xa9 s t i a1 b1 c1 d1 m n=some o:=h
 show XaU Try.prog 44 0 (XuS s t i a1 b1 c1 d1 m n) (fun v H _=>Res 0 (XCa res) v H)
 unfold XeJ at h
 have R1:=@XDz Xa9
 have LM:=lm []
 refine Xa4 XaM hS true 3000 ?_
 conv=>whnf
 exact W
theorem XBs (XeA:Xf9) (Xa9:Xcb) (Xds:XeK) (hS:XaF Try.prog (XaP (Xwy XeA Xa9 Xds))) {s:List UInt8} {t:Int} {res:Int}:∀ {fuel} {st:Int×Int×Int×Int×Int} {o:Int},iter (fun st=>Xin XeA Xa9 Xds s t st.1 st.2.1 st.2.2.1 st.2.2.2.1 st.2.2.2.2) fuel st=some o→(o=res) →
 XaU Try.prog 44 0 (XpN s t st.1 st.2.1 st.2.2.1 st.2.2.2.1 st.2.2.2.2) (fun v H _=>Res 0 (XCa res) v H):=by
 apply XaO
 intro st o h hc
 obtain ⟨a,b,c,d,i⟩:=st
 replace h:Xin XeA Xa9 Xds s t a b c d i=some o:=h
 show XaU Try.prog 44 0 (XpN s t a b c d i) (fun v H _=>Res 0 (XCa res) v H)
 unfold Xin at h
 have R1:=@XHZ Xds
 have R2:=@XIe XeA
 have LP:=@XAS XeA Xa9 Xds hS;have LQ:=lm []
 refine Xa4 XaM hS true 3000 ?_
 conv=>whnf
 exact W
theorem XFL (XeA:Xf9) (Xa9:Xcb) (Xds:XeK) (hS:XaF Try.prog (XaP (Xwy XeA Xa9 Xds))) (k:Xau) (s:List UInt8) (res:Int) (h:XmB XeA Xa9 Xds k s=some res) :
 XaU Try.prog 44 0 ⟨⟨44,95,[(0,.agg ⟨[.int .u64 k.A,.int .u64 k.B]⟩),(1,.string ⟨⟨s⟩⟩)],[.code XDK],[],false,none⟩,[],[],0⟩ (fun v H _=>Res 0 (XCa res) v H):=by
 unfold XmB at h
 have LP:=@XBs XeA Xa9 Xds hS;have LQ:=lm []
 refine Xa4 XaM hS true 3000 ?_
 conv=>whnf
 exact W
def XhD:Xhi:=XmB XeA Xa9 Xds
theorem XHv:XeH Try.prog 44 (s44 XhD):=by
 have hL:=XFL XeA Xa9 Xds (XaF.Xba ⟨XHc,XC8,XHQ,trivial⟩)
 exact okA ⟨Try.f44,rfl,by decide,rfl⟩
end Go.Vm.Code
