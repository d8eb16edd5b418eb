import Derived.Test.YtiknkhbngadaeaaGreatNStampPacketc
namespace Go.Vm.Code
open Go Go.Vm
def Xdp:List UInt8→Nat
 | []=>0
 | [b]=>b.toNat*256
 | b::c::l=>b.toNat*256+c.toNat+Xdp l
def norm (n:Nat):Nat:=if n=0 then 0 else (n - 1)%65535+1
theorem norm_eq {n r:Nat} (h1:r≤65535) (h2:r%65535=n%65535) (h3:r=0↔n=0):norm n=r:=by unfold norm;split<;>omega
theorem norm_le (n:Nat):norm n≤65535:=by unfold norm;split<;>omega
theorem Xit (n:Nat):norm n%65535=n%65535:=by unfold norm;split<;>omega
theorem Xki (n:Nat):norm n=0↔n=0:=by unfold norm;split<;>omega
theorem Xme {n:Nat} (h:n≤65535):norm n=n:=norm_eq h rfl Iff.rfl
theorem Xrb (a b:Nat):norm (norm a+b)=norm (a+b):=
 (norm_eq (norm_le _) (by have h1:=Xit a;have h2:=Xit (norm a+b);omega) (by have h1:=Xki a;have h2:=Xki (norm a+b);omega)).symm
theorem fold_eq {n:Int} (h0:0≤n) (h1:n<2^62):XaW n=some ((norm n.toNat:Nat):Int):=by
 unfold XaW XfV
 refine iter_eq (fun n=>((norm n.toNat:Nat):Int)) (fun n=>0≤n∧n<2^62) (fun n=>n.toNat) ?_ FUEL _ ⟨h0,h1⟩ (by rw [Xer];omega)
 intro s ⟨a,b⟩
 unfold Xfy
 by_cases hs:s>65535
 ·refine .inr ⟨s%65536+s/65536,?_,⟨by omega,by omega⟩,by omega,?_⟩
  ·rw [XaZ hs,Xg7 (m:=65535) 16 (by decide) (by decide) a (by omega),Xpb,XcC (by omega) (by omega)];rfl
  ·have:norm (s%65536+s/65536).toNat=norm s.toNat:=
    (norm_eq (norm_le _) (by have:=Xit (s%65536+s/65536).toNat;omega) (by have:=Xki (s%65536+s/65536).toNat;omega)).symm
   rw [this]
 ·refine .inl ?_
  rw [XaO hs]
  have:=Xme (n:=s.toNat) (by omega)
  simp only [this]
  rw [Int.toNat_of_nonneg a]
theorem Xyo {s:List UInt8} {i:Nat} (h:i+1<s.length):Xdp (s.drop i)=s[i].toNat*256+s[i+1].toNat+Xdp (s.drop (i+2)):=by
 rw [List.drop_eq_getElem_cons (by omega:i<s.length),List.drop_eq_getElem_cons h];rfl
theorem XwO {s:List UInt8} {i:Nat} (h:i+1=s.length):Xdp (s.drop i)=s[i].toNat*256:=by
 rw [List.drop_eq_getElem_cons (by omega:i<s.length),List.drop_eq_nil_of_le (by omega)];rfl
theorem XpK {s:List UInt8} {i:Nat} (h:s.length≤i):Xdp (s.drop i)=0:=by
 rw [List.drop_eq_nil_of_le h];rfl
theorem XJA (s:List UInt8) (h:s.length<2^61):XcL s=some ((norm (Xdp s):Nat):Int):=by
 unfold XcL XgV
 have key:=iter_eq (step:=fun (st:Int×Int)=>XeX XaW s st.1 st.2) (fun (st:Int×Int)=>((norm (st.2.toNat+Xdp (s.drop st.1.toNat)):Nat):Int)) (fun (st:Int×Int)=>0≤st.1∧st.1≤s.length+1∧0≤st.2∧st.2≤65535) (fun (st:Int×Int)=>(s.length+2 - st.1).toNat) ?_ FUEL (0,0) ⟨by simp,by simp;omega,by simp,by simp⟩ (by rw [Xer];simp only;omega)
 ·rw [key];simp
 rintro ⟨p,n⟩ ⟨h1,h2,h3,h4⟩
 simp only at h1 h2 h3 h4 ⊢
 obtain ⟨i,rfl⟩:=Int.eq_ofNat_of_zero_le h1
 obtain ⟨m,rfl⟩:=Int.eq_ofNat_of_zero_le h3
 unfold XeX
 by_cases hp:i<s.length
 ·by_cases hq:i+1<s.length
  ·have b1:=s[i].toNat_lt
   have b2:=s[i+1].toNat_lt
   refine .inr ⟨(((i+2:Nat):Int),((norm (m+(s[i].toNat*256+s[i+1].toNat)):Nat):Int)),?_,⟨by simp only;omega,by simp only;omega,by simp only;omega,by simp only;have:=norm_le (m+(s[i].toNat*256+s[i+1].toNat));omega⟩,by simp only;omega,?_⟩
   ·simp (disch:=omega) only [XcC,XaL,XaZ]
    have e:((i:Int)+1).toNat=i+1:=by omega
    rw [e]
    simp (disch:=omega) only [Int.toNat_natCast,List.getElem?_eq_getElem,Option.bind_some,XnL,XcC,fold_eq]
    congr 3<;>omega
   ·simp only [Int.toNat_natCast]
    rw [Xrb,Xyo hq,Nat.add_assoc]
  ·have b1:=s[i].toNat_lt
   refine .inr ⟨(((i+2:Nat):Int),((norm (m+s[i].toNat*256):Nat):Int)),?_,⟨by simp only;omega,by simp only;omega,by simp only;omega,by simp only;have:=norm_le (m+s[i].toNat*256);omega⟩,by simp only;omega,?_⟩
   ·simp (disch:=omega) only [XcC,XaL,XaZ,XaO,Int.toNat_natCast,List.getElem?_eq_getElem,Option.bind_some,fold_eq]
    congr 3<;>omega
   ·simp only [Int.toNat_natCast]
    rw [Xrb,XpK (i:=i+2) (by omega),Nat.add_zero,XwO (i:=i) (by omega)]
 ·refine .inl ?_
  simp (disch:=omega) only [XaO]
  simp only [Int.toNat_natCast]
  rw [XpK (by omega),Nat.add_zero,Xme (by omega)]
theorem Xex:∀ (a b:List UInt8),a.length%2=0→Xdp (a++b)=Xdp a+Xdp b
 | [],b,_=>by simp [Xdp]
 | [_],b,h=>by simp at h
 | x::y::a,b,h=>by
   have:=Xex a b (by simp at h;omega)
   simp only [List.cons_append,Xdp,this];omega
def XHu (l:List UInt8):Bool:=l.all fun b=>b==0
end Go.Vm.Code
namespace Go.Vm
open Go
def be (n:Nat):Nat→List UInt8
 | 0=>[]
 | r+1=>UInt8.ofNat (n/256^r)::be n r
def Xdf (l:List UInt8):Nat:=l.foldl (fun n b=>n*256+b.toNat) 0
@[simp] theorem Xdy (n:Nat):∀ k,(be n k).length=k
 | 0=>rfl
 | k+1=>by simp [be,Xdy n k]
theorem Xj1 (n:Nat):∀ k,be n (k+1)=be (n/256) k++[UInt8.ofNat n]
 | 0=>by simp [be]
 | k+1=>by
   rw [be,Xj1 n k,be,Nat.div_div_eq_div_mul,Nat.pow_succ,Nat.mul_comm 256];rfl
theorem Xrt (n:Nat):∀ k,be (n%256^k) k=be n k
 | 0=>rfl
 | k+1=>by
   rw [Xj1,Xj1,Nat.pow_succ,Nat.mul_comm,Nat.mod_mul_right_div_self,Xrt (n/256) k]
   congr 2
   apply UInt8.toNat_inj.1
   simp only [UInt8.toNat_ofNat']
   rw [Nat.mod_mul_right_mod]
theorem Xph (l:List UInt8):∀ n:Nat,l.foldl (fun n b=>n*256+b.toNat) n=n*256^l.length+Xdf l:=by
 induction l with
 | nil=>intro n;simp [Xdf]
 | cons b l ih=>
   intro n
   rw [Xdf,List.foldl_cons,ih,List.foldl_cons,ih,List.length_cons,Nat.pow_succ]
   rw [Nat.zero_mul,Nat.zero_add,Nat.add_mul,Nat.mul_assoc,Nat.mul_comm (256^_) 256,Nat.add_assoc]
@[simp] theorem XFF:Xdf []=0:=rfl
theorem XeE (b:UInt8) (l:List UInt8):Xdf (b::l)=b.toNat*256^l.length+Xdf l:=by
 rw [Xdf,List.foldl_cons,Xph];simp
theorem val_append (l m:List UInt8):Xdf (l++m)=Xdf l*256^m.length+Xdf m:=by
 rw [Xdf,List.foldl_append,Xph];rfl
theorem Xrz (l:List UInt8) (b:UInt8):Xdf (l++[b])=Xdf l*256+b.toNat:=by
 rw [val_append];simp [XeE]
theorem Xnj:∀ l:List UInt8,Xdf l<256^l.length
 | []=>by simp
 | b::l=>by
   have h:=Xnj l
   have hb:=b.toNat_lt
   rw [XeE,List.length_cons,Nat.pow_succ]
   have:b.toNat*256^l.length+256^l.length≤256*256^l.length:=by
    rw [←Nat.succ_mul];exact Nat.mul_le_mul_right _ (by omega)
   rw [Nat.mul_comm (256^l.length)];omega
theorem XAf (n:Nat):∀ k,Xdf (be n k)=n%256^k
 | 0=>by simp [be,Nat.mod_one]
 | k+1=>by
   have e:n%256^(k+1)=n%256+256*(n/256%256^k):=by rw [Nat.pow_succ',Nat.mod_mul]
   rw [Xj1,Xrz,XAf (n/256) k,UInt8.toNat_ofNat',e]
   generalize n/256%256^k=x
   omega
theorem Xkh {n k:Nat} (h:n<256^k):Xdf (be n k)=n:=by rw [XAf,Nat.mod_eq_of_lt h]
theorem XuU:∀ l:List UInt8,be (Xdf l) l.length=l
 | []=>rfl
 | b::l=>by
   have h:=Xnj l
   rw [List.length_cons,be]
   have e1:Xdf (b::l)/256^l.length=b.toNat:=by
    rw [XeE,Nat.mul_comm,Nat.mul_add_div (Nat.pow_pos (by decide)),Nat.div_eq_of_lt h,Nat.add_zero]
   have e2:be (Xdf (b::l)) l.length=be (Xdf l) l.length:=by
    rw [←Xrt (Xdf (b::l)),XeE,Nat.mul_add_mod',Xrt]
   rw [e1,e2,XuU l]
   simp
theorem Xtr {l:List UInt8} {k:Nat} (h:l.length=k):be (Xdf l) k=l:=by subst h;exact XuU l
theorem XcU {l:List UInt8} {k:Nat} (n:Nat) (h:256^k≤n):Xdf (l.take k)<n:=by
 have h1:=Xnj (l.take k)
 have h2:(l.take k).length≤k:=List.length_take_le _ _
 exact Nat.lt_of_lt_of_le h1 (Nat.le_trans (Nat.pow_le_pow_right (by decide) h2) h)
theorem Xrs (n:Nat) (j:Nat):∀ k,be n (j+k)=be (n/256^k) j++be n k
 | 0=>by simp [be]
 | k+1=>by
   rw [show j+(k+1)=(j+k)+1 from rfl,Xj1,Xrs (n/256) j k,Xj1 n k,Nat.div_div_eq_div_mul,Nat.pow_succ,Nat.mul_comm (256^k),List.append_assoc]
end Go.Vm
namespace Go.Vm.Code
open Go Go.Vm Go.Proofs
set_option maxRecDepth 100000
set_option maxHeartbeats 4000000
set_option linter.unusedVariables false
def Xfe (n:Int) (k:Int) (t17:Int) (b:List Int):Option (Sum (Int×(List Int)) (List UInt8)):=
 cond (decide (t17<(k.toNat:Int)))
  (
  let t:=wI .i64 (8*(wI .i64 ((wI .i64 (k - 1)) - t17)))
  XaE (decide (0≤t)) <|
  XaE (decide ((0:Int)≤t17∧t17<(k.toNat:Int))) <|
  XaE (decide (t17.toNat<b.length)) <|
  let row:=b.set t17.toNat (wI .u8 (n.fdiv (2^(min t.toNat 64))))
  some (.inl (wI .i64 (t17+1),row)))
  (
  XaE (decide (k.toNat≤b.length)) <|
  some (.inr (iB (b.take k.toNat))))
def XgK (n:Int) (k:Int):Option (List UInt8):=
 cond (decide (k<1))
  (
  some ([]))
  (
  cond (decide (k>8))
   (
   some ([]))
   (
   XaE (decide (0≤k∧k≤k∧k<2^63∧(1:Int)*k≤2^48)) <|
   iter (fun st=>Xfe n k st.1 st.2) FUEL (0,List.replicate k.toNat (0))))
def XGB (x:List UInt8):Xcw:=⟨.string ⟨⟨x⟩⟩,[],[]⟩
def r42 (g:Int→Int→Option (List UInt8)):Dec:=dV (asI .u64) fun (y0:Int)=>dV (asI .i64) fun (y1:Int)=>Xdd (ofG (g y0 y1) XGB)
theorem r42_c {g:Int→Int→Option (List UInt8)} {y0:Int} {y1:Int} {x:List UInt8} (hx:g y0 y1=some x):r42 g [.int .u64 y0,.int .i64 y1] []=some (XGB x):=(XaX (Xcv _)).trans ((XaX (Xcv _)).trans (Xa3 hx))
def s42 (g:Int→Int→Option (List UInt8)):Xbu:=⟨[.v,.v],r42 g⟩
theorem XkV {g:Int→Int→Option (List UInt8)} {y0:Int} {y1:Int} {x:List UInt8} (hx:g y0 y1=some x):(s42 g).run [.int .u64 y0,.int .i64 y1] []=some (XGB x):=r42_c hx
abbrev XtR:List (Nat×Xbu):=[]
def XkM (n:Int) (k:Int) (t17:Int) (b:List Int):VM:=
 ⟨⟨42,34,[(0,.int .u64 n),(1,.int .i64 k),(5,.slice (some ⟨0,0,none⟩) k.toNat 1),(16,.int .i64 (k.toNat:Int)),(17,.int .i64 t17)],[.code Xvx,.inLoop Xvx,.inBlock 0,.code XA3],[],false,none⟩,[],[(0,.row true (vI .u8 b))],1⟩
theorem Xx7 (hS:Xah Tryz.prog (Xav (XtR))) (n:Int) (k:Int) (res:List UInt8):∀ fuel (st:Int×(List Int)) (o:List UInt8),iter (fun st=>Xfe n k st.1 st.2) fuel st=some o→(o=res) →
 XaK Tryz.prog 42 0 (XkM n k st.1 st.2) (fun v H _=>Res 0 (XGB res) v H):=by
 intro fuel st o h hc
 refine XbY (head:=fun st=>XkM n k st.1 st.2) (C:=fun o=>(o=res)) ?_ fuel st o h hc
 clear h hc o st fuel
 intro st o h hc
 obtain ⟨t17,b⟩:=st
 replace h:Xfe n k t17 b=some o:=h
 show XaK Tryz.prog 42 0 (XkM n k t17 b) (fun v H _=>Res 0 (XGB res) v H)
 unfold Xfe at h
 refine Xbi Xan hS true 3000 ?_
 conv=>whnf
 refine br.h2 h (by rfl) ?_ ?_
 ·clear h;intro hb h;conv=>whnf
  replace h:=XaE.elim h;obtain ⟨hb,h⟩:=h
  refine req.intro (by (first|rfl|(simp [wI,vI,vB,vS,bI,Xf8,Xdi,XaP,Value.cells] at *;omega)|(simp [vI,vB,vS,bI,Xf8,Xdi,XaP,Value.cells] at *;omega)|(simp [vI,vB,vS,bI,Xf8,Xdi,XaP,Value.cells] at *;done))) ?_
  conv=>whnf
  refine XKN ?_
  conv=>whnf
  all_goals (cases h;cases hc;exact Res.y)
 clear h;intro hb h;conv=>whnf
 let t:Int:=wI .i64 (8*(wI .i64 ((wI .i64 (k - 1)) - t17)))
 replace h:=XaE.elim h;obtain ⟨hb,h⟩:=h
 try (refine req.intro hb ?_;conv=>whnf)
 replace h:=XaE.elim h;obtain ⟨hb,h⟩:=h
 try (refine req.intro hb ?_;conv=>whnf)
 replace h:=XaE.elim h;obtain ⟨hb,h⟩:=h
 refine st_I hb (by first|rfl|(rw [Nat.zero_add,Nat.mul_one];try rfl;done)|omega) ?_
 conv=>whnf
 let row:List Int:=b.set t17.toNat (wI .u8 (n.fdiv (2^(min t.toNat 64))))
 cases h;simp only [Sum.elim_inl,XkM] at hc
 exact XjC hc [(0,0)] rfl
theorem XEj (hS:Xah Tryz.prog (Xav (XtR))) (n:Int) (k:Int) (res:List UInt8) (h:XgK n k=some res) :
 XaK Tryz.prog 42 0 ⟨⟨42,34,[(0,.int .u64 n),(1,.int .i64 k)],[.code XAZ],[],false,none⟩,[],[],0⟩ (fun v H _=>Res 0 (XGB res) v H):=by
 unfold XgK at h
 refine Xbi Xan hS true 3000 ?_
 conv=>whnf
 refine br.h h (by rfl) ?_ ?_
 ·clear h;intro hb h;conv=>whnf
  all_goals (cases h;exact Res.y)
 clear h;intro hb h;conv=>whnf
 refine br.h h (by rfl) ?_ ?_
 ·clear h;intro hb h;conv=>whnf
  all_goals (cases h;exact Res.y)
 clear h;intro hb h;conv=>whnf
 replace h:=XaE.elim h;obtain ⟨hb,h⟩:=h
 try (refine req.intro hb ?_;conv=>whnf)
 refine XKj ?_
 conv=>whnf
 have hl:=Xx7 hS _ _ res _ _ _ h rfl;simp only [XkM] at hl
 exact XjC hl [(0,0)] rfl
theorem ok42 (hS:Xah Tryz.prog (Xav (XtR))):Xar Tryz.prog 42 (s42 (XgK)):=by
 refine Xar.Xax Xan (fun ar os r ha hr=>?_) ⟨Tryz.f42,rfl,by decide,rfl⟩
 replace hr:r42 (XgK) ar (XaH os)=some r:=hr
 unfold r42 at hr
 generalize hc:XaH os=C at hr
 replace hr:=dV.elim hr;obtain ⟨v0,l1,y0,rfl,e0,hr⟩:=hr;obtain rfl:=XbF _ _ _ e0
 replace hr:=dV.elim hr;obtain ⟨v1,l2,y1,rfl,e1,hr⟩:=hr;obtain rfl:=XbF _ _ _ e1
 replace hr:=Xdw hr;obtain ⟨rfl,rfl,x,h,rfl⟩:=hr
 obtain rfl:=Xat hc
 exact ⟨_,rfl,XEj hS _ _ x h⟩
def Xam:Int→Int→Option (List UInt8):=XgK
theorem Xnw:Xar Tryz.prog 42 (s42 Xam):=ok42 (Xah.Xa0 trivial)
def Xe4 (t1:List UInt8) (n:Int) (t37:Int):Option (Sum (Int×Int) (Int×Bool)):=
 cond (decide (t37<(t1.length:Int)))
  (
  XaE (decide ((0:Int)≤t37∧t37<(t1.length:Int))) <|
  ((bI t1)[t37.toNat]?).bind fun (e:Int)=>
  let t2:=XsB .u64 (wI .u64 (n*2^8)) (wI .u64 e)
  some (.inl (t2,wI .i64 (t37+1))))
  (
  some (.inr ((n,true))))
def XgQ (s:List UInt8) (ata1:Int) (k:Int):Option (Int×Bool):=
 cond (decide (k<1))
  (
  some ((0,false)))
  (
  cond (decide (k>8))
   (
   some ((0,false)))
   (
   cond (decide (ata1<0))
    (
    some ((0,false)))
    (
    let t:=decide ((wI .i64 ((s.length:Int) - k))<ata1)
    cond (t)
     (
     some ((0,false)))
     (
     XaE (decide ((0:Int)≤(wI .i64 (ata1+k))∧(wI .i64 (ata1+k))≤(s.length:Int)∧(0:Int)≤ata1∧ata1≤((wI .i64 (ata1+k)).toNat:Int))) <|
     let t1:=(s.drop ata1.toNat).take ((wI .i64 (ata1+k)).toNat - ata1.toNat)
     iter (fun st=>Xe4 t1 st.1 st.2) FUEL (0,0)))))
def XGz (x:Int×Bool):Xcw:=⟨.tuple ⟨[.int .u64 x.1,.bool x.2]⟩,[],[]⟩
def r40 (g:(List UInt8)→Int→Int→Option (Int×Bool)):Dec:=dV asS fun (y0:List UInt8)=>dV (asI .i64) fun (y1:Int)=>dV (asI .i64) fun (y2:Int)=>Xdd (ofG (g y0 y1 y2) XGz)
theorem r40_c {g:(List UInt8)→Int→Int→Option (Int×Bool)} {y0:List UInt8} {y1:Int} {y2:Int} {x:Int×Bool} (hx:g y0 y1 y2=some x):r40 g [.string ⟨⟨y0⟩⟩,.int .i64 y1,.int .i64 y2] []=some (XGz x):=(XaX (XcI)).trans ((XaX (Xcv _)).trans ((XaX (Xcv _)).trans (Xa3 hx)))
def s40 (g:(List UInt8)→Int→Int→Option (Int×Bool)):Xbu:=⟨[.v,.v,.v],r40 g⟩
theorem XhP {g:(List UInt8)→Int→Int→Option (Int×Bool)} {y0:List UInt8} {y1:Int} {y2:Int} {x:Int×Bool} (hx:g y0 y1 y2=some x):(s40 g).run [.string ⟨⟨y0⟩⟩,.int .i64 y1,.int .i64 y2] []=some (XGz x):=r40_c hx
abbrev Xv8:List (Nat×Xbu):=[]
def XkB (t1:List UInt8) (n:Int) (t37:Int):VM:=
 ⟨⟨40,48,[(8,.int .u64 n),(35,.slice (some ⟨0,0,none⟩) t1.length 1),(36,.int .i64 (t1.length:Int)),(37,.int .i64 t37)],[.code XuB,.inLoop XuB,.inBlock 0,.code XAL],[],false,none⟩,[],[(0,.row true (vI .u8 (bI t1)))],1⟩
theorem Xyu (hS:Xah Tryz.prog (Xav (Xv8))) (t1:List UInt8) (res:Int×Bool):∀ fuel (st:Int×Int) (o:Int×Bool),iter (fun st=>Xe4 t1 st.1 st.2) fuel st=some o→(o=res) →
 XaK Tryz.prog 40 0 (XkB t1 st.1 st.2) (fun v H _=>Res 0 (XGz res) v H):=by
 intro fuel st o h hc
 refine XbY (head:=fun st=>XkB t1 st.1 st.2) (C:=fun o=>(o=res)) ?_ fuel st o h hc
 clear h hc o st fuel
 intro st o h hc
 obtain ⟨n,t37⟩:=st
 replace h:Xe4 t1 n t37=some o:=h
 show XaK Tryz.prog 40 0 (XkB t1 n t37) (fun v H _=>Res 0 (XGz res) v H)
 unfold Xe4 at h
 refine Xbi Xan hS true 3000 ?_
 conv=>whnf
 refine br.h2 h (by rfl) ?_ ?_
 ·clear h;intro hb h;conv=>whnf
  all_goals (cases h;cases hc;exact Res.y)
 clear h;intro hb h;conv=>whnf
 replace h:=XaE.elim h;obtain ⟨hb,h⟩:=h
 try (refine req.intro hb ?_;conv=>whnf)
 replace h:=Xai.elim h;obtain ⟨e,hy,h⟩:=h
 refine rd.I hy (by first|rfl|(rw [Nat.zero_add,Nat.mul_one];try rfl;done)|omega) ?_
 conv=>whnf
 let t2:Int:=XsB .u64 (wI .u64 (n*2^8)) (wI .u64 e)
 cases h;simp only [Sum.elim_inl,XkB] at hc
 exact XjC hc [(0,0)] rfl
theorem XCr (hS:Xah Tryz.prog (Xav (Xv8))) (s:List UInt8) (ata1:Int) (k:Int) (res:Int×Bool) (h:XgQ s ata1 k=some res) :
 XaK Tryz.prog 40 0 ⟨⟨40,48,[(0,.string ⟨⟨s⟩⟩),(1,.int .i64 ata1),(2,.int .i64 k)],[.code Xzu],[],false,none⟩,[],[],0⟩ (fun v H _=>Res 0 (XGz res) v H):=by
 unfold XgQ at h
 refine Xbi Xan hS true 3000 ?_
 conv=>whnf
 refine br.h h (by rfl) ?_ ?_
 ·clear h;intro hb h;conv=>whnf
  all_goals (cases h;exact Res.y)
 clear h;intro hb h;conv=>whnf
 refine br.h h (by rfl) ?_ ?_
 ·clear h;intro hb h;conv=>whnf
  all_goals (cases h;exact Res.y)
 clear h;intro hb h;conv=>whnf
 refine br.h h (by rfl) ?_ ?_
 ·clear h;intro hb h;conv=>whnf
  all_goals (cases h;exact Res.y)
 clear h;intro hb h;conv=>whnf
 let t:Bool:=decide ((wI .i64 ((s.length:Int) - k))<ata1)
 refine br.h h (by rfl) ?_ ?_
 ·clear h;intro hb h;conv=>whnf
  all_goals (cases h;exact Res.y)
 clear h;intro hb h;conv=>whnf
 replace h:=XaE.elim h;obtain ⟨hb,h⟩:=h
 try (refine req.intro hb ?_;conv=>whnf)
 let t1:List UInt8:=(s.drop ata1.toNat).take ((wI .i64 (ata1+k)).toNat - ata1.toNat)
 refine XLy ?_
 conv=>whnf
 have hl:=Xyu hS _ res _ _ _ h rfl;simp only [XkB] at hl
 exact XjC hl [(0,0)] rfl
theorem ok40 (hS:Xah Tryz.prog (Xav (Xv8))):Xar Tryz.prog 40 (s40 (XgQ)):=by
 refine Xar.Xax Xan (fun ar os r ha hr=>?_) ⟨Tryz.f40,rfl,by decide,rfl⟩
 replace hr:r40 (XgQ) ar (XaH os)=some r:=hr
 unfold r40 at hr
 generalize hc:XaH os=C at hr
 replace hr:=dV.elim hr;obtain ⟨v0,l1,y0,rfl,e0,hr⟩:=hr;obtain rfl:=XbM _ _ e0
 replace hr:=dV.elim hr;obtain ⟨v1,l2,y1,rfl,e1,hr⟩:=hr;obtain rfl:=XbF _ _ _ e1
 replace hr:=dV.elim hr;obtain ⟨v2,l3,y2,rfl,e2,hr⟩:=hr;obtain rfl:=XbF _ _ _ e2
 replace hr:=Xdw hr;obtain ⟨rfl,rfl,x,h,rfl⟩:=hr
 obtain rfl:=Xat hc
 exact ⟨_,rfl,XCr hS _ _ _ x h⟩
def Xal:(List UInt8)→Int→Int→Option (Int×Bool):=XgQ
theorem XnH:Xar Tryz.prog 40 (s40 Xal):=ok40 (Xah.Xa0 trivial)
def Xe5 (k:Int) (n1:Int) (s:List UInt8) (i:Int):Option (Sum (Int×(List UInt8)×Int) (List UInt8)):=
 cond (decide (i<k))
  (
  cond (decide (k≤8))
   (
   let t:=[UInt8.ofNat (wI .u8 (n1.tmod 256)).toNat]
   XaE (decide (t.length+s.length<2^63)) <|
   some (.inl (wI .u64 (n1.tdiv 256),t++s,wI .i64 (i+1))))
   (
   some (.inr (s))))
  (
  some (.inr (s)))
def Xjg (n:Int) (k:Int):Option (List UInt8):=
 iter (fun st=>Xe5 k st.1 st.2.1 st.2.2) FUEL (n,[],0)
def XGs (x:List UInt8):Xcw:=⟨.string ⟨⟨x⟩⟩,[],[]⟩
def r85 (g:Int→Int→Option (List UInt8)):Dec:=dV (asI .u64) fun (y0:Int)=>dV (asI .i64) fun (y1:Int)=>Xdd (ofG (g y0 y1) XGs)
theorem r85_c {g:Int→Int→Option (List UInt8)} {y0:Int} {y1:Int} {x:List UInt8} (hx:g y0 y1=some x):r85 g [.int .u64 y0,.int .i64 y1] []=some (XGs x):=(XaX (Xcv _)).trans ((XaX (Xcv _)).trans (Xa3 hx))
def s85 (g:Int→Int→Option (List UInt8)):Xbu:=⟨[.v,.v],r85 g⟩
theorem Xmj {g:Int→Int→Option (List UInt8)} {y0:Int} {y1:Int} {x:List UInt8} (hx:g y0 y1=some x):(s85 g).run [.int .u64 y0,.int .i64 y1] []=some (XGs x):=r85_c hx
abbrev XtQ:List (Nat×Xbu):=[]
def Xkj (k:Int) (n1:Int) (s:List UInt8) (i:Int):VM:=
 ⟨⟨85,26,[(0,.int .u64 n1),(1,.int .i64 k),(5,.string ⟨⟨s⟩⟩),(6,.int .i64 i)],[.code Xug,.inLoop Xug,.inBlock 0,.code XB2],[],false,none⟩,[],[],0⟩
theorem XyH (hS:Xah Tryz.prog (Xav (XtQ))) (k:Int) (res:List UInt8):∀ fuel (st:Int×(List UInt8)×Int) (o:List UInt8),iter (fun st=>Xe5 k st.1 st.2.1 st.2.2) fuel st=some o→(o=res) →
 XaK Tryz.prog 85 0 (Xkj k st.1 st.2.1 st.2.2) (fun v H _=>Res 0 (XGs res) v H):=by
 intro fuel st o h hc
 refine XbY (head:=fun st=>Xkj k st.1 st.2.1 st.2.2) (C:=fun o=>(o=res)) ?_ fuel st o h hc
 clear h hc o st fuel
 intro st o h hc
 obtain ⟨n1,s,i⟩:=st
 replace h:Xe5 k n1 s i=some o:=h
 show XaK Tryz.prog 85 0 (Xkj k n1 s i) (fun v H _=>Res 0 (XGs res) v H)
 unfold Xe5 at h
 refine Xbi Xan hS true 3000 ?_
 conv=>whnf
 refine br.h2 h (by rfl) ?_ ?_
 ·clear h;intro hb h;conv=>whnf
  all_goals (cases h;cases hc;exact Res.y)
 clear h;intro hb h;conv=>whnf
 refine br.h2 h (by rfl) ?_ ?_
 ·clear h;intro hb h;conv=>whnf
  all_goals (cases h;cases hc;exact Res.y)
 clear h;intro hb h;conv=>whnf
 refine XCI rfl ?_
 conv=>whnf
 let t:List UInt8:=[UInt8.ofNat (wI .u8 (n1.tmod 256)).toNat]
 replace h:=XaE.elim h;obtain ⟨hb,h⟩:=h
 try (refine req.intro hb ?_;conv=>whnf)
 cases h;simp only [Sum.elim_inl,Xkj] at hc
 exact XjC hc [] rfl
theorem XCc (hS:Xah Tryz.prog (Xav (XtQ))) (n:Int) (k:Int) (res:List UInt8) (h:Xjg n k=some res) :
 XaK Tryz.prog 85 0 ⟨⟨85,26,[(0,.int .u64 n),(1,.int .i64 k)],[.code XAP],[],false,none⟩,[],[],0⟩ (fun v H _=>Res 0 (XGs res) v H):=by
 unfold Xjg at h
 refine Xbi Xan hS true 3000 ?_
 conv=>whnf
 have hl:=XyH hS _ res _ _ _ h rfl;simp only [Xkj] at hl
 exact XjC hl [] rfl
theorem ok85 (hS:Xah Tryz.prog (Xav (XtQ))):Xar Tryz.prog 85 (s85 (Xjg)):=by
 refine Xar.Xax Xan (fun ar os r ha hr=>?_) ⟨Tryz.f85,rfl,by decide,rfl⟩
 replace hr:r85 (Xjg) ar (XaH os)=some r:=hr
 unfold r85 at hr
 generalize hc:XaH os=C at hr
 replace hr:=dV.elim hr;obtain ⟨v0,l1,y0,rfl,e0,hr⟩:=hr;obtain rfl:=XbF _ _ _ e0
 replace hr:=dV.elim hr;obtain ⟨v1,l2,y1,rfl,e1,hr⟩:=hr;obtain rfl:=XbF _ _ _ e1
 replace hr:=Xdw hr;obtain ⟨rfl,rfl,x,h,rfl⟩:=hr
 obtain rfl:=Xat hc
 exact ⟨_,rfl,XCc hS _ _ x h⟩
def XaU:Int→Int→Option (List UInt8):=Xjg
theorem Xpq:Xar Tryz.prog 85 (s85 XaU):=ok85 (Xah.Xa0 trivial)
def XgW (s:List UInt8) (ata1:Int) (k:Int) (n:Int) (i:Int):Option (Sum (Int×Int) (Int×Bool)):=
 cond (decide (i<k))
  (
  XaE (decide (0≤(wI .i64 (ata1+i)))) <|
  (s[(wI .i64 (ata1+i)).toNat]?).bind fun (b:UInt8)=>
  let t1:=wI .u64 ((wI .u64 (n*256))+(wI .u64 (b.toNat:Int)))
  some (.inl (t1,wI .i64 (i+1))))
  (
  some (.inr ((n,true))))
def XjA (s:List UInt8) (ata1:Int) (k:Int):Option (Int×Bool):=
 cond (decide (k<1))
  (
  some ((0,false)))
  (
  cond (decide (k>8))
   (
   some ((0,false)))
   (
   cond (decide (ata1<0))
    (
    some ((0,false)))
    (
    cond (decide (ata1>(s.length:Int)))
     (
     some ((0,false)))
     (
     let t:=decide (k>(wI .i64 ((s.length:Int) - ata1)))
     cond (t)
      (
      some ((0,false)))
      (
      iter (fun st=>XgW s ata1 k st.1 st.2) FUEL (0,0))))))
def XGy (x:Int×Bool):Xcw:=⟨.tuple ⟨[.int .u64 x.1,.bool x.2]⟩,[],[]⟩
def r70 (g:(List UInt8)→Int→Int→Option (Int×Bool)):Dec:=dV asS fun (y0:List UInt8)=>dV (asI .i64) fun (y1:Int)=>dV (asI .i64) fun (y2:Int)=>Xdd (ofG (g y0 y1 y2) XGy)
theorem r70_c {g:(List UInt8)→Int→Int→Option (Int×Bool)} {y0:List UInt8} {y1:Int} {y2:Int} {x:Int×Bool} (hx:g y0 y1 y2=some x):r70 g [.string ⟨⟨y0⟩⟩,.int .i64 y1,.int .i64 y2] []=some (XGy x):=(XaX (XcI)).trans ((XaX (Xcv _)).trans ((XaX (Xcv _)).trans (Xa3 hx)))
def s70 (g:(List UInt8)→Int→Int→Option (Int×Bool)):Xbu:=⟨[.v,.v,.v],r70 g⟩
theorem Xpf {g:(List UInt8)→Int→Int→Option (Int×Bool)} {y0:List UInt8} {y1:Int} {y2:Int} {x:Int×Bool} (hx:g y0 y1 y2=some x):(s70 g).run [.string ⟨⟨y0⟩⟩,.int .i64 y1,.int .i64 y2] []=some (XGy x):=r70_c hx
abbrev Xva:List (Nat×Xbu):=[]
def XkU (s:List UInt8) (ata1:Int) (k:Int) (n:Int) (i:Int):VM:=
 ⟨⟨70,49,[(0,.string ⟨⟨s⟩⟩),(1,.int .i64 ata1),(2,.int .i64 k),(8,.int .u64 n),(9,.int .i64 i)],[.code XtL,.inLoop XtL,.inBlock 0,.code XAO],[],false,none⟩,[],[],0⟩
theorem Xxn (hS:Xah Tryz.prog (Xav (Xva))) (s:List UInt8) (ata1:Int) (k:Int) (res:Int×Bool):∀ fuel (st:Int×Int) (o:Int×Bool),iter (fun st=>XgW s ata1 k st.1 st.2) fuel st=some o→(o=res) →
 XaK Tryz.prog 70 0 (XkU s ata1 k st.1 st.2) (fun v H _=>Res 0 (XGy res) v H):=by
 intro fuel st o h hc
 refine XbY (head:=fun st=>XkU s ata1 k st.1 st.2) (C:=fun o=>(o=res)) ?_ fuel st o h hc
 clear h hc o st fuel
 intro st o h hc
 obtain ⟨n,i⟩:=st
 replace h:XgW s ata1 k n i=some o:=h
 show XaK Tryz.prog 70 0 (XkU s ata1 k n i) (fun v H _=>Res 0 (XGy res) v H)
 unfold XgW at h
 refine Xbi Xan hS true 3000 ?_
 conv=>whnf
 refine br.h2 h (by rfl) ?_ ?_
 ·clear h;intro hb h;conv=>whnf
  all_goals (cases h;cases hc;exact Res.y)
 clear h;intro hb h;conv=>whnf
 replace h:=XaE.elim h;obtain ⟨hb,h⟩:=h
 try (refine req.intro hb ?_;conv=>whnf)
 replace h:=Xai.elim h;obtain ⟨b,hy,h⟩:=h
 refine rdS.intro hy ?_
 conv=>whnf
 let t1:Int:=wI .u64 ((wI .u64 (n*256))+(wI .u64 (b.toNat:Int)))
 cases h;simp only [Sum.elim_inl,XkU] at hc
 exact XjC hc [] rfl
theorem XFt (hS:Xah Tryz.prog (Xav (Xva))) (s:List UInt8) (ata1:Int) (k:Int) (res:Int×Bool) (h:XjA s ata1 k=some res) :
 XaK Tryz.prog 70 0 ⟨⟨70,49,[(0,.string ⟨⟨s⟩⟩),(1,.int .i64 ata1),(2,.int .i64 k)],[.code XBc],[],false,none⟩,[],[],0⟩ (fun v H _=>Res 0 (XGy res) v H):=by
 unfold XjA at h
 refine Xbi Xan hS true 3000 ?_
 conv=>whnf
 refine br.h h (by rfl) ?_ ?_
 ·clear h;intro hb h;conv=>whnf
  all_goals (cases h;exact Res.y)
 clear h;intro hb h;conv=>whnf
 refine br.h h (by rfl) ?_ ?_
 ·clear h;intro hb h;conv=>whnf
  all_goals (cases h;exact Res.y)
 clear h;intro hb h;conv=>whnf
 refine br.h h (by rfl) ?_ ?_
 ·clear h;intro hb h;conv=>whnf
  all_goals (cases h;exact Res.y)
 clear h;intro hb h;conv=>whnf
 refine br.h h (by rfl) ?_ ?_
 ·clear h;intro hb h;conv=>whnf
  all_goals (cases h;exact Res.y)
 clear h;intro hb h;conv=>whnf
 let t:Bool:=decide (k>(wI .i64 ((s.length:Int) - ata1)))
 refine br.h h (by rfl) ?_ ?_
 ·clear h;intro hb h;conv=>whnf
  all_goals (cases h;exact Res.y)
 clear h;intro hb h;conv=>whnf
 have hl:=Xxn hS _ _ _ res _ _ _ h rfl;simp only [XkU] at hl
 exact XjC hl [] rfl
theorem ok70 (hS:Xah Tryz.prog (Xav (Xva))):Xar Tryz.prog 70 (s70 (XjA)):=by
 refine Xar.Xax Xan (fun ar os r ha hr=>?_) ⟨Tryz.f70,rfl,by decide,rfl⟩
 replace hr:r70 (XjA) ar (XaH os)=some r:=hr
 unfold r70 at hr
 generalize hc:XaH os=C at hr
 replace hr:=dV.elim hr;obtain ⟨v0,l1,y0,rfl,e0,hr⟩:=hr;obtain rfl:=XbM _ _ e0
 replace hr:=dV.elim hr;obtain ⟨v1,l2,y1,rfl,e1,hr⟩:=hr;obtain rfl:=XbF _ _ _ e1
 replace hr:=dV.elim hr;obtain ⟨v2,l3,y2,rfl,e2,hr⟩:=hr;obtain rfl:=XbF _ _ _ e2
 replace hr:=Xdw hr;obtain ⟨rfl,rfl,x,h,rfl⟩:=hr
 obtain rfl:=Xat hc
 exact ⟨_,rfl,XFt hS _ _ _ x h⟩
def Xbv:(List UInt8)→Int→Int→Option (Int×Bool):=XjA
theorem Xur:Xar Tryz.prog 70 (s70 Xbv):=ok70 (Xah.Xa0 trivial)
def Xh1 (Xbv:(List UInt8)→Int→Int→Option (Int×Bool)) (s:List UInt8) (ata1:Int) (k:Int):Option Int:=
 (Xbv s ata1 k).bind fun xg=>
 some (wI .i64 xg.1)
def rx44 (x:Int):Xcw:=⟨.int .i64 x,[],[]⟩
def r44 (g:(List UInt8)→Int→Int→Option Int):Dec:=dV asS fun (y0:List UInt8)=>dV (asI .i64) fun (y1:Int)=>dV (asI .i64) fun (y2:Int)=>Xdd (ofG (g y0 y1 y2) rx44)
theorem r44_c {g:(List UInt8)→Int→Int→Option Int} {y0:List UInt8} {y1:Int} {y2:Int} {x:Int} (hx:g y0 y1 y2=some x):r44 g [.string ⟨⟨y0⟩⟩,.int .i64 y1,.int .i64 y2] []=some (rx44 x):=(XaX (XcI)).trans ((XaX (Xcv _)).trans ((XaX (Xcv _)).trans (Xa3 hx)))
def s44 (g:(List UInt8)→Int→Int→Option Int):Xbu:=⟨[.v,.v,.v],r44 g⟩
theorem XeO {g:(List UInt8)→Int→Int→Option Int} {y0:List UInt8} {y1:Int} {y2:Int} {x:Int} (hx:g y0 y1 y2=some x):(s44 g).run [.string ⟨⟨y0⟩⟩,.int .i64 y1,.int .i64 y2] []=some (rx44 x):=r44_c hx
abbrev Xz4 (Xbv:(List UInt8)→Int→Int→Option (Int×Bool)):List (Nat×Xbu):=[(70,s70 Xbv)]
theorem XC3 (Xbv:(List UInt8)→Int→Int→Option (Int×Bool)) (hS:Xah Tryz.prog (Xav (Xz4 Xbv))) (s:List UInt8) (ata1:Int) (k:Int) (res:Int) (h:Xh1 Xbv s ata1 k=some res) :
 XaK Tryz.prog 44 0 ⟨⟨44,18,[(0,.string ⟨⟨s⟩⟩),(1,.int .i64 ata1),(2,.int .i64 k)],[.code XKW],[],false,none⟩,[],[],0⟩ (fun v H _=>Res 0 (rx44 res) v H):=by
 unfold Xh1 at h
 refine Xbi Xan hS true 3000 ?_
 conv=>whnf
 replace h:=Xai.elim h;obtain ⟨xg,hy,h⟩:=h
 refine XaJ.p (Xpf hy) ?_
 conv=>whnf
 all_goals (cases h;exact Res.y)
theorem ok44 (Xbv:(List UInt8)→Int→Int→Option (Int×Bool)) (hS:Xah Tryz.prog (Xav (Xz4 Xbv))):Xar Tryz.prog 44 (s44 (Xh1 Xbv)):=by
 refine Xar.Xax Xan (fun ar os r ha hr=>?_) ⟨Tryz.f44,rfl,by decide,rfl⟩
 replace hr:r44 (Xh1 Xbv) ar (XaH os)=some r:=hr
 unfold r44 at hr
 generalize hc:XaH os=C at hr
 replace hr:=dV.elim hr;obtain ⟨v0,l1,y0,rfl,e0,hr⟩:=hr;obtain rfl:=XbM _ _ e0
 replace hr:=dV.elim hr;obtain ⟨v1,l2,y1,rfl,e1,hr⟩:=hr;obtain rfl:=XbF _ _ _ e1
 replace hr:=dV.elim hr;obtain ⟨v2,l3,y2,rfl,e2,hr⟩:=hr;obtain rfl:=XbF _ _ _ e2
 replace hr:=Xdw hr;obtain ⟨rfl,rfl,x,h,rfl⟩:=hr
 obtain rfl:=Xat hc
 exact ⟨_,rfl,XC3 Xbv hS _ _ _ x h⟩
def Xaj:(List UInt8)→Int→Int→Option Int:=Xh1 Xbv
theorem Xma:Xar Tryz.prog 44 (s44 Xaj):=ok44 Xbv (Xah.Xa0 ⟨Xur,trivial⟩)
end Go.Vm.Code
namespace Go.Vm.Code
open Go Go.Vm
def Xhd (n k:Int):List UInt8:=if 1≤k∧k≤8 then be n.toNat k.toNat else []
theorem Xdq {n k:Int} (h0:0≤n):Xam n k=some (Xhd n k):=by
 unfold Xam XgK Xhd
 by_cases h1:k<1
 ·rw [XaZ h1,if_neg (by omega)]
 by_cases h2:k>8
 ·rw [XaO h1,XaZ h2,if_neg (by omega)]
 rw [XaO h1,XaO h2,XaL (by omega),if_pos (by omega)]
 obtain ⟨m,rfl⟩:=Int.eq_ofNat_of_zero_le h0
 obtain ⟨j,rfl⟩:=Int.eq_ofNat_of_zero_le (show 0≤k by omega)
 have key:=iter_eq (step:=fun (st:Int×List Int)=>Xfe (m:Int) (j:Int) st.1 st.2) (fun st=>iB (st.2.take st.1.toNat)++be m (j - st.1.toNat)) (fun st=>0≤st.1∧st.1≤j∧st.2.length=j) (fun st=>(j - st.1).toNat) ?_ FUEL (0,List.replicate (j:Int).toNat 0) ⟨by simp,by simp,by simp⟩ (by rw [Xer];simp only;omega)
 ·rw [key];simp [iB]
 rintro ⟨p,b⟩ ⟨g1,g2,g3⟩
 simp only at g1 g2 g3 ⊢
 obtain ⟨i,rfl⟩:=Int.eq_ofNat_of_zero_le g1
 unfold Xfe
 by_cases hp:i<j
 ·refine .inr ⟨(((i+1:Nat):Int),b.set i ((m/256^(j - 1 - i)%256:Nat):Int)),?_,⟨by simp only;omega,by simp only;omega,by simp [g3]⟩,by simp only;omega,?_⟩
  ·simp (disch:=omega) only [XcC,XaL,XaZ,Int.toNat_natCast]
   have e1:min (8*((j:Int) - 1 - i)).toNat 64=8*(j - 1 - i):=by omega
   have e0:(2:Int)^(8*(j - 1 - i))=((256^(j - 1 - i):Nat):Int):=by rw [show (256:Nat)=2^8 from rfl,←Nat.pow_mul];push_cast;rfl
   rw [e1,Xpb,wU8m,e0]
   rfl
  ·simp only [Int.toNat_natCast]
   have e2:j - i=(j - (i+1))+1:=by omega
   have e3:j - (i+1)=j - 1 - i:=by omega
   have e4:(b.set i ((m/256^(j - 1 - i)%256:Nat):Int)).take (i+1)=b.take i++[((m/256^(j - 1 - i)%256:Nat):Int)]:=by
    rw [List.take_succ_eq_append_getElem (by simp;omega),List.take_set_of_le (Nat.le_refl _),List.getElem_set_self]
   rw [e2,e4,be,e3]
   simp only [iB,List.map_append,List.map_cons,List.map_nil,List.append_assoc,List.cons_append,List.nil_append,Int.toNat_natCast]
   congr 2
   apply UInt8.toNat_inj.1
   simp
 ·refine .inl ?_
  obtain rfl:i=j:=by omega
  simp (disch:=omega) only [XaO,XaL,Int.toNat_natCast]
  simp [be]
theorem Xji {n k:Int} (h0:0≤n) (h1:n<2^64):XaU n k=some (Xhd n k):=by
 unfold XaU Xjg Xhd
 obtain ⟨m,rfl⟩:=Int.eq_ofNat_of_zero_le h0
 by_cases hk:1≤k∧k≤8
 ·rw [if_pos hk]
  obtain ⟨j,rfl⟩:=Int.eq_ofNat_of_zero_le (show 0≤k by omega)
  have key:=iter_eq (step:=fun st=>Xe5 (j:Int) st.1 st.2.1 st.2.2) (fun st=>be st.1.toNat (j - st.2.2.toNat)++st.2.1) (fun st=>0≤st.1∧st.1<2^64∧0≤st.2.2∧st.2.2≤j∧st.2.1.length<2^20+st.2.2.toNat) (fun st=>(j - st.2.2).toNat) ?_ FUEL ((m:Int),[],0) ⟨by simp,by simp only;omega,by simp,by simp,by simp⟩ (by rw [Xer];simp only;omega)
  ·rw [key];simp
  rintro ⟨n,s,p⟩ ⟨g1,g2,g3,g4,g5⟩
  simp only at g1 g2 g3 g4 g5 ⊢
  obtain ⟨i,rfl⟩:=Int.eq_ofNat_of_zero_le g3
  obtain ⟨x,rfl⟩:=Int.eq_ofNat_of_zero_le g1
  unfold Xe5
  by_cases hp:i<j
  ·refine .inr ⟨(((x/256:Nat):Int),UInt8.ofNat x::s,((i+1:Nat):Int)),?_,⟨by simp only;omega,by simp only;omega,by simp only;omega,by simp only;omega,by simp at g5 ⊢;omega⟩,by simp only;omega,?_⟩
   ·have e1:(x:Int).tmod 256=((x%256:Nat):Int):=by rw [Int.tmod_eq_emod_of_nonneg (by omega)];rfl
    have e2:(x:Int).tdiv 256=((x/256:Nat):Int):=by rw [Int.tdiv_eq_ediv_of_nonneg (by omega)];rfl
    rw [XaZ (by omega),XaZ (by omega),e1,e2,wU8 (by omega) (by omega)]
    simp only [List.length_cons,List.length_nil]
    rw [XaL (by omega),XpZ (by omega) (by omega),XcC (by omega) (by omega),Int.toNat_natCast]
    have e3:UInt8.ofNat (x%256)=UInt8.ofNat x:=by apply UInt8.toNat_inj.1;simp
    rw [e3];rfl
   ·simp only [Int.toNat_natCast]
    have e2:j - i=(j - (i+1))+1:=by omega
    rw [e2,Xj1];simp
  ·refine .inl ?_
   obtain rfl:i=j:=by omega
   rw [XaO (by omega)]
   simp [be]
 ·rw [if_neg hk]
  show iter _ (18446744073709551615+1) _=_
  rw [iter]
  have:Xe5 k (m:Int) [] 0=some (.inr []):=by
   unfold Xe5
   by_cases h2:0<k
   ·rw [XaZ h2,XaO (by omega)]
   ·rw [XaO h2]
  simp only [this]
def XsL (s:List UInt8) (p k:Int):Int×Bool:=if 1≤k∧k≤8∧0≤p∧p+k≤s.length then (((Xdf ((s.drop p.toNat).take k.toNat):Nat):Int),true) else (0,false)
theorem Xl5 {v i:Nat} (h:v<256^i) (hi:i≤7):v<2^56:=Nat.lt_of_lt_of_le h (by
 have:(256:Nat)^i≤256^7:=Nat.pow_le_pow_right (by decide) hi
 simpa using this)
theorem XcM {s:List UInt8} {p k:Int} (hs:s.length<2^61):Xal s p k=some (XsL s p k):=by
 unfold Xal XgQ XsL
 by_cases h1:k<1
 ·rw [XaZ h1,if_neg (by omega)]
 by_cases h2:k>8
 ·rw [XaO h1,XaZ h2,if_neg (by omega)]
 by_cases h3:p<0
 ·rw [XaO h1,XaO h2,XaZ h3,if_neg (by omega)]
 rw [XaO h1,XaO h2,XaO h3,XcC (n:=(s.length:Int) - k) (by omega) (by omega)]
 by_cases h4:(s.length:Int) - k<p
 ·simp only []
  rw [XaZ h4,if_neg (by omega)]
 simp only []
 rw [XaO h4,XcC (n:=p+k) (by omega) (by omega),XaL (by omega),if_pos (by omega)]
 obtain ⟨q,rfl⟩:=Int.eq_ofNat_of_zero_le (show 0≤p by omega)
 obtain ⟨j,rfl⟩:=Int.eq_ofNat_of_zero_le (show 0≤k by omega)
 have e:((q:Int)+j).toNat - (q:Int).toNat=j:=by omega
 rw [e]
 simp only [Int.toNat_natCast]
 generalize ht:(s.drop q).take j=t
 have hl:t.length=j:=by rw [←ht];simp;omega
 have key:=iter_eq (step:=fun st=>Xe4 t st.1 st.2) (fun st=>(((st.1.toNat*256^(j - st.2.toNat)+Xdf (t.drop st.2.toNat):Nat):Int),true)) (fun st=>0≤st.1∧0≤st.2∧st.2≤j∧st.1.toNat<256^st.2.toNat) (fun st=>(j - st.2).toNat) ?_ FUEL (0,0) ⟨by simp,by simp,by simp,by simp⟩ (by rw [Xer];simp only;omega)
 ·rw [key];simp
 rintro ⟨n,x⟩ ⟨g1,g2,g3,g4⟩
 simp only at g1 g2 g3 g4 ⊢
 obtain ⟨i,rfl⟩:=Int.eq_ofNat_of_zero_le g2
 obtain ⟨v,rfl⟩:=Int.eq_ofNat_of_zero_le g1
 simp only [Int.toNat_natCast] at g4 ⊢
 unfold Xe4
 by_cases hp:i<j
 ·have hlt:i<t.length:=by omega
  have hb:=t[i].toNat_lt
  have hv:=Xl5 g4 (by omega)
  refine .inr ⟨(((v*256+t[i].toNat:Nat):Int),((i+1:Nat):Int)),?_,⟨by simp only;omega,by simp only;omega,by simp only;omega,?_⟩,by simp only;omega,?_⟩
  ·rw [XaZ (by omega),XaL (by omega)]
   have e1:(bI t)[(i:Int).toNat]?=some (t[i].toNat:Int):=by simp [bI,hlt]
   rw [e1,Option.bind_some]
   have e2:XsB .u64 (wI .u64 ((v:Int)*2^8)) (wI .u64 (t[i].toNat:Int))=((v*256+t[i].toNat:Nat):Int):=by
    rw [XpZ (by omega) (by omega),XpZ (by omega) (by omega),Xsj 8 (by omega) (by omega) (by omega) (by omega) (by omega)];omega
   simp only [e2]
   rw [XcC (by omega) (by omega)];rfl
  ·simp only [Int.toNat_natCast]
   rw [Nat.pow_succ];omega
  ·simp only [Int.toNat_natCast]
   rw [List.drop_eq_getElem_cons hlt,XeE]
   have e3:(t.drop (i+1)).length=j - (i+1):=by simp;omega
   have e4:j - i=(j - (i+1))+1:=by omega
   rw [e3,e4,Nat.pow_succ,Nat.add_mul,Nat.mul_assoc,Nat.mul_comm 256,Nat.add_assoc]
 ·refine .inl ?_
  obtain rfl:i=j:=by omega
  rw [XaO (by omega)]
  simp [←hl]
theorem Xjf {s:List UInt8} {p k:Int} (hs:s.length<2^61):Xbv s p k=some (XsL s p k):=by
 unfold Xbv XjA XsL
 by_cases h1:k<1
 ·rw [XaZ h1,if_neg (by omega)]
 by_cases h2:k>8
 ·rw [XaO h1,XaZ h2,if_neg (by omega)]
 by_cases h3:p<0
 ·rw [XaO h1,XaO h2,XaZ h3,if_neg (by omega)]
 by_cases h5:p>s.length
 ·rw [XaO h1,XaO h2,XaO h3,XaZ h5,if_neg (by omega)]
 rw [XaO h1,XaO h2,XaO h3,XaO h5,XcC (n:=(s.length:Int) - p) (by omega) (by omega)]
 by_cases h4:k>(s.length:Int) - p
 ·simp only []
  rw [XaZ h4,if_neg (by omega)]
 simp only []
 rw [XaO h4,if_pos (by omega)]
 obtain ⟨q,rfl⟩:=Int.eq_ofNat_of_zero_le (show 0≤p by omega)
 obtain ⟨j,rfl⟩:=Int.eq_ofNat_of_zero_le (show 0≤k by omega)
 simp only [Int.toNat_natCast]
 generalize ht:(s.drop q).take j=t
 have hl:t.length=j:=by rw [←ht];simp;omega
 have key:=iter_eq (step:=fun st=>XgW s (q:Int) (j:Int) st.1 st.2) (fun st=>(((st.1.toNat*256^(j - st.2.toNat)+Xdf (t.drop st.2.toNat):Nat):Int),true)) (fun st=>0≤st.1∧0≤st.2∧st.2≤j∧st.1.toNat<256^st.2.toNat) (fun st=>(j - st.2).toNat) ?_ FUEL (0,0) ⟨by simp,by simp,by simp,by simp⟩ (by rw [Xer];simp only;omega)
 ·rw [key];simp
 rintro ⟨n,x⟩ ⟨g1,g2,g3,g4⟩
 simp only at g1 g2 g3 g4 ⊢
 obtain ⟨i,rfl⟩:=Int.eq_ofNat_of_zero_le g2
 obtain ⟨v,rfl⟩:=Int.eq_ofNat_of_zero_le g1
 simp only [Int.toNat_natCast] at g4 ⊢
 unfold XgW
 by_cases hp:i<j
 ·have hlt:i<t.length:=by omega
  have hb:=t[i].toNat_lt
  have hv:=Xl5 g4 (by omega)
  refine .inr ⟨(((v*256+t[i].toNat:Nat):Int),((i+1:Nat):Int)),?_,⟨by simp only;omega,by simp only;omega,by simp only;omega,?_⟩,by simp only;omega,?_⟩
  ·rw [XaZ (by omega),XcC (n:=(q:Int)+i) (by omega) (by omega),XaL (by omega)]
   have e0:((q:Int)+i).toNat=q+i:=by omega
   have e1:s[q+i]?=some t[i]:=by
    subst ht
    rw [List.getElem?_eq_getElem (by omega)]
    simp
   rw [e0,e1,Option.bind_some]
   have e2:wI .u64 ((wI .u64 ((v:Int)*256))+(wI .u64 (t[i].toNat:Int)))=((v*256+t[i].toNat:Nat):Int):=by
    rw [XpZ (n:=(v:Int)*256) (by omega) (by omega),XpZ (n:=(t[i].toNat:Int)) (by omega) (by omega),XpZ (by omega) (by omega)];omega
   simp only [e2]
   rw [XcC (by omega) (by omega)];rfl
  ·simp only [Int.toNat_natCast]
   rw [Nat.pow_succ];omega
  ·simp only [Int.toNat_natCast]
   rw [List.drop_eq_getElem_cons hlt,XeE]
   have e3:(t.drop (i+1)).length=j - (i+1):=by simp;omega
   have e4:j - i=(j - (i+1))+1:=by omega
   rw [e3,e4,Nat.pow_succ,Nat.add_mul,Nat.mul_assoc,Nat.mul_comm 256,Nat.add_assoc]
 ·refine .inl ?_
  obtain rfl:i=j:=by omega
  rw [XaO (by omega)]
  simp [←hl]
theorem Xf0 {s:List UInt8} {p k:Int} (hs:s.length<2^61):Xaj s p k=some (wI .i64 (XsL s p k).1):=by
 unfold Xaj Xh1
 rw [Xjf hs];rfl
end Go.Vm.Code
namespace Go.Vm.Code
open Go Go.Vm Go.Proofs
set_option maxRecDepth 100000
set_option maxHeartbeats 4000000
set_option linter.unusedVariables false
def XgO (Xam:Int→Int→Option (List UInt8)) (s:List UInt8) (ata1:Int) (k:Int) (n:Int):Option (List UInt8):=
 (Xam n k).bind fun p=>
 cond (p==[])
  (
  some (s))
  (
  cond (decide (ata1<0))
   (
   some (s))
   (
   let t:=decide ((wI .i64 ((s.length:Int) - k))<ata1)
   cond (t)
    (
    some (s))
    (
    XaE (decide ((0:Int)≤ata1∧ata1≤(s.length:Int))) <|
    XaE (decide ((s.take ata1.toNat).length+p.length<2^63)) <|
    XaE (decide ((0:Int)≤(wI .i64 (ata1+k))∧(wI .i64 (ata1+k))≤(s.length:Int))) <|
    let t1:=(s.drop (wI .i64 (ata1+k)).toNat).take (s.length - (wI .i64 (ata1+k)).toNat)
    XaE (decide (((s.take ata1.toNat)++p).length+t1.length<2^63)) <|
    some (((s.take ata1.toNat)++p)++t1))))
def rx43 (x:List UInt8):Xcw:=⟨.string ⟨⟨x⟩⟩,[],[]⟩
def r43 (g:(List UInt8)→Int→Int→Int→Option (List UInt8)):Dec:=dV asS fun (y0:List UInt8)=>dV (asI .i64) fun (y1:Int)=>dV (asI .i64) fun (y2:Int)=>dV (asI .u64) fun (y3:Int)=>Xdd (ofG (g y0 y1 y2 y3) rx43)
theorem r43_c {g:(List UInt8)→Int→Int→Int→Option (List UInt8)} {y0:List UInt8} {y1:Int} {y2:Int} {y3:Int} {x:List UInt8} (hx:g y0 y1 y2 y3=some x):r43 g [.string ⟨⟨y0⟩⟩,.int .i64 y1,.int .i64 y2,.int .u64 y3] []=some (rx43 x):=(XaX (XcI)).trans ((XaX (Xcv _)).trans ((XaX (Xcv _)).trans ((XaX (Xcv _)).trans (Xa3 hx))))
def s43 (g:(List UInt8)→Int→Int→Int→Option (List UInt8)):Xbu:=⟨[.v,.v,.v,.v],r43 g⟩
theorem XoV {g:(List UInt8)→Int→Int→Int→Option (List UInt8)} {y0:List UInt8} {y1:Int} {y2:Int} {y3:Int} {x:List UInt8} (hx:g y0 y1 y2 y3=some x):(s43 g).run [.string ⟨⟨y0⟩⟩,.int .i64 y1,.int .i64 y2,.int .u64 y3] []=some (rx43 x):=r43_c hx
abbrev XzZ (Xam:Int→Int→Option (List UInt8)):List (Nat×Xbu):=[(42,s42 Xam)]
theorem XE0 (Xam:Int→Int→Option (List UInt8)) (hS:Xah Tryz.prog (Xav (XzZ Xam))) (s:List UInt8) (ata1:Int) (k:Int) (n:Int) (res:List UInt8) (h:XgO Xam s ata1 k n=some res) :
 XaK Tryz.prog 43 0 ⟨⟨43,39,[(0,.string ⟨⟨s⟩⟩),(1,.int .i64 ata1),(2,.int .i64 k),(3,.int .u64 n)],[.code XzK],[],false,none⟩,[],[],0⟩ (fun v H _=>Res 0 (rx43 res) v H):=by
 unfold XgO at h
 refine Xbi Xan hS true 3000 ?_
 conv=>whnf
 replace h:=Xai.elim h;obtain ⟨p,hy,h⟩:=h
 refine XaJ.p (XkV hy) ?_
 conv=>whnf
 refine br.h h (by rfl) ?_ ?_
 ·clear h;intro hb h;conv=>whnf
  all_goals (cases h;exact Res.y)
 clear h;intro hb h;conv=>whnf
 refine br.h h (by rfl) ?_ ?_
 ·clear h;intro hb h;conv=>whnf
  all_goals (cases h;exact Res.y)
 clear h;intro hb h;conv=>whnf
 let t:Bool:=decide ((wI .i64 ((s.length:Int) - k))<ata1)
 refine br.h h (by rfl) ?_ ?_
 ·clear h;intro hb h;conv=>whnf
  all_goals (cases h;exact Res.y)
 clear h;intro hb h;conv=>whnf
 replace h:=XaE.elim h;obtain ⟨hb,h⟩:=h
 try (refine req.intro hb ?_;conv=>whnf)
 replace h:=XaE.elim h;obtain ⟨hb,h⟩:=h
 try (refine req.intro hb ?_;conv=>whnf)
 replace h:=XaE.elim h;obtain ⟨hb,h⟩:=h
 try (refine req.intro hb ?_;conv=>whnf)
 let t1:List UInt8:=(s.drop (wI .i64 (ata1+k)).toNat).take (s.length - (wI .i64 (ata1+k)).toNat)
 replace h:=XaE.elim h;obtain ⟨hb,h⟩:=h
 try (refine req.intro hb ?_;conv=>whnf)
 all_goals (cases h;exact Res.y)
theorem ok43 (Xam:Int→Int→Option (List UInt8)) (hS:Xah Tryz.prog (Xav (XzZ Xam))):Xar Tryz.prog 43 (s43 (XgO Xam)):=by
 refine Xar.Xax Xan (fun ar os r ha hr=>?_) ⟨Tryz.f43,rfl,by decide,rfl⟩
 replace hr:r43 (XgO Xam) ar (XaH os)=some r:=hr
 unfold r43 at hr
 generalize hc:XaH os=C at hr
 replace hr:=dV.elim hr;obtain ⟨v0,l1,y0,rfl,e0,hr⟩:=hr;obtain rfl:=XbM _ _ e0
 replace hr:=dV.elim hr;obtain ⟨v1,l2,y1,rfl,e1,hr⟩:=hr;obtain rfl:=XbF _ _ _ e1
 replace hr:=dV.elim hr;obtain ⟨v2,l3,y2,rfl,e2,hr⟩:=hr;obtain rfl:=XbF _ _ _ e2
 replace hr:=dV.elim hr;obtain ⟨v3,l4,y3,rfl,e3,hr⟩:=hr;obtain rfl:=XbF _ _ _ e3
 replace hr:=Xdw hr;obtain ⟨rfl,rfl,x,h,rfl⟩:=hr
 obtain rfl:=Xat hc
 exact ⟨_,rfl,XE0 Xam hS _ _ _ _ x h⟩
def Xba:(List UInt8)→Int→Int→Int→Option (List UInt8):=XgO Xam
theorem XzQ:Xar Tryz.prog 43 (s43 Xba):=ok43 Xam (Xah.Xa0 ⟨Xnw,trivial⟩)
def XkC (Xbv:(List UInt8)→Int→Int→Option (Int×Bool)) (XaU:Int→Int→Option (List UInt8)) (s:List UInt8) (ata1:Int) (k:Int) (n:Int):Option (List UInt8):=
 (Xbv s ata1 k).bind fun xg=>
 cond (!xg.2)
  (
  some (s))
  (
  XaE (decide ((0:Int)≤ata1∧ata1≤(s.length:Int))) <|
  (XaU n k).bind fun p=>
  XaE (decide ((s.take ata1.toNat).length+p.length<2^63)) <|
  XaE (decide ((0:Int)≤(wI .i64 (ata1+k))∧(wI .i64 (ata1+k))≤(s.length:Int))) <|
  let t:=(s.drop (wI .i64 (ata1+k)).toNat).take (s.length - (wI .i64 (ata1+k)).toNat)
  XaE (decide (((s.take ata1.toNat)++p).length+t.length<2^63)) <|
  some (((s.take ata1.toNat)++p)++t))
def rx87 (x:List UInt8):Xcw:=⟨.string ⟨⟨x⟩⟩,[],[]⟩
def r87 (g:(List UInt8)→Int→Int→Int→Option (List UInt8)):Dec:=dV asS fun (y0:List UInt8)=>dV (asI .i64) fun (y1:Int)=>dV (asI .i64) fun (y2:Int)=>dV (asI .u64) fun (y3:Int)=>Xdd (ofG (g y0 y1 y2 y3) rx87)
theorem r87_c {g:(List UInt8)→Int→Int→Int→Option (List UInt8)} {y0:List UInt8} {y1:Int} {y2:Int} {y3:Int} {x:List UInt8} (hx:g y0 y1 y2 y3=some x):r87 g [.string ⟨⟨y0⟩⟩,.int .i64 y1,.int .i64 y2,.int .u64 y3] []=some (rx87 x):=(XaX (XcI)).trans ((XaX (Xcv _)).trans ((XaX (Xcv _)).trans ((XaX (Xcv _)).trans (Xa3 hx))))
def s87 (g:(List UInt8)→Int→Int→Int→Option (List UInt8)):Xbu:=⟨[.v,.v,.v,.v],r87 g⟩
theorem XvG {g:(List UInt8)→Int→Int→Int→Option (List UInt8)} {y0:List UInt8} {y1:Int} {y2:Int} {y3:Int} {x:List UInt8} (hx:g y0 y1 y2 y3=some x):(s87 g).run [.string ⟨⟨y0⟩⟩,.int .i64 y1,.int .i64 y2,.int .u64 y3] []=some (rx87 x):=r87_c hx
abbrev XBZ (Xbv:(List UInt8)→Int→Int→Option (Int×Bool)) (XaU:Int→Int→Option (List UInt8)):List (Nat×Xbu):=[(70,s70 Xbv),(85,s85 XaU)]
theorem XFA (Xbv:(List UInt8)→Int→Int→Option (Int×Bool)) (XaU:Int→Int→Option (List UInt8)) (hS:Xah Tryz.prog (Xav (XBZ Xbv XaU))) (s:List UInt8) (ata1:Int) (k:Int) (n:Int) (res:List UInt8) (h:XkC Xbv XaU s ata1 k n=some res) :
 XaK Tryz.prog 87 0 ⟨⟨87,34,[(0,.string ⟨⟨s⟩⟩),(1,.int .i64 ata1),(2,.int .i64 k),(3,.int .u64 n)],[.code XAM],[],false,none⟩,[],[],0⟩ (fun v H _=>Res 0 (rx87 res) v H):=by
 unfold XkC at h
 refine Xbi Xan hS true 3000 ?_
 conv=>whnf
 replace h:=Xai.elim h;obtain ⟨xg,hy,h⟩:=h
 refine XaJ.p (Xpf hy) ?_
 conv=>whnf
 refine br.h h (by rfl) ?_ ?_
 ·clear h;intro hb h;conv=>whnf
  all_goals (cases h;exact Res.y)
 clear h;intro hb h;conv=>whnf
 replace h:=XaE.elim h;obtain ⟨hb,h⟩:=h
 try (refine req.intro hb ?_;conv=>whnf)
 replace h:=Xai.elim h;obtain ⟨p,hy,h⟩:=h
 refine XaJ.p (Xmj hy) ?_
 conv=>whnf
 replace h:=XaE.elim h;obtain ⟨hb,h⟩:=h
 try (refine req.intro hb ?_;conv=>whnf)
 replace h:=XaE.elim h;obtain ⟨hb,h⟩:=h
 try (refine req.intro hb ?_;conv=>whnf)
 let t:List UInt8:=(s.drop (wI .i64 (ata1+k)).toNat).take (s.length - (wI .i64 (ata1+k)).toNat)
 replace h:=XaE.elim h;obtain ⟨hb,h⟩:=h
 try (refine req.intro hb ?_;conv=>whnf)
 all_goals (cases h;exact Res.y)
theorem ok87 (Xbv:(List UInt8)→Int→Int→Option (Int×Bool)) (XaU:Int→Int→Option (List UInt8)) (hS:Xah Tryz.prog (Xav (XBZ Xbv XaU))):Xar Tryz.prog 87 (s87 (XkC Xbv XaU)):=by
 refine Xar.Xax Xan (fun ar os r ha hr=>?_) ⟨Tryz.f87,rfl,by decide,rfl⟩
 replace hr:r87 (XkC Xbv XaU) ar (XaH os)=some r:=hr
 unfold r87 at hr
 generalize hc:XaH os=C at hr
 replace hr:=dV.elim hr;obtain ⟨v0,l1,y0,rfl,e0,hr⟩:=hr;obtain rfl:=XbM _ _ e0
 replace hr:=dV.elim hr;obtain ⟨v1,l2,y1,rfl,e1,hr⟩:=hr;obtain rfl:=XbF _ _ _ e1
 replace hr:=dV.elim hr;obtain ⟨v2,l3,y2,rfl,e2,hr⟩:=hr;obtain rfl:=XbF _ _ _ e2
 replace hr:=dV.elim hr;obtain ⟨v3,l4,y3,rfl,e3,hr⟩:=hr;obtain rfl:=XbF _ _ _ e3
 replace hr:=Xdw hr;obtain ⟨rfl,rfl,x,h,rfl⟩:=hr
 obtain rfl:=Xat hc
 exact ⟨_,rfl,XFA Xbv XaU hS _ _ _ _ x h⟩
def Xck:(List UInt8)→Int→Int→Int→Option (List UInt8):=XkC Xbv XaU
theorem XBg:Xar Tryz.prog 87 (s87 Xck):=ok87 Xbv XaU (Xah.Xa0 ⟨Xur,Xpq,trivial⟩)
def XgN (l:List Int) (n1:Int):Option (Sum Int Int):=
 cond (decide (n1>65535))
  (
  let t:=wI .i64 ((n1.tmod 65536)+(wI .i64 (n1.tdiv 65536)))
  some (.inl t))
  (
  some (.inr (n1)))
def XgL (l:List Int) (n:Int) (i:Int):Option (Sum (Int×Int) Int):=
 cond (decide (i<(l.length:Int)))
  (
  XaE (decide ((0:Int)≤i∧i<(l.length:Int))) <|
  (l[i.toNat]?).bind fun (e:Int)=>
  some (.inl (wI .i64 (n+e),wI .i64 (i+1))))
  (
  (iter (fun st=>XgN l st) FUEL n).bind fun o=>some (.inr (o)))
def Xjz (l:List Int):Option Int:=
 iter (fun st=>XgL l st.1 st.2) FUEL (0,0)
def Xpo (x:Int):Xcw:=⟨.int .i64 x,[],[none]⟩
def r123 (g:(List Int)→Option Int):Dec:=dSl 0 1 (unL (asI .i64)) fun (y0:List Int)=>Xdd (ofG (g y0) Xpo)
theorem XJ0 {g:(List Int)→Option Int} {y0:List Int} {x:Int} (hx:g y0=some x):r123 g [.slice (some ⟨0,0,none⟩) y0.length 1] [some (vI .i64 y0)]=some (Xpo x):=(Xtv (Xtf _ _)).trans (Xa3 hx)
def s123 (g:(List Int)→Option Int):Xbu:=⟨[.sl 1],r123 g⟩
theorem XGn {g:(List Int)→Option Int} {y0:List Int} {x:Int} (hx:g y0=some x):(s123 g).run [.slice (some ⟨0,0,none⟩) y0.length 1] [some (vI .i64 y0)]=some (Xpo x):=XJ0 hx
abbrev XnY:List (Nat×Xbu):=[]
def Xi1 (l:List Int) (n1:Int):VM:=
 ⟨⟨123,25,[(3,.int .i64 n1)],[.code XqI,.inLoop XqI,.inBlock 2,.code Xvo],[],false,none⟩,[],[(0,.row false (vI .i64 l))],1⟩
def XiJ (l:List Int) (n:Int) (i:Int):VM:=
 ⟨⟨123,25,[(0,.slice (some ⟨0,0,none⟩) l.length 1),(3,.int .i64 n),(4,.int .i64 i)],[.code Xqj,.inLoop Xqj,.inBlock 0,.code XvE],[],false,none⟩,[],[(0,.row false (vI .i64 l))],1⟩
theorem Xvl (hS:Xah Tryz.prog (Xav (XnY))) (l:List Int) (res:Int):∀ fuel (st:Int) (o:Int),iter (fun st=>XgN l st) fuel st=some o→(o=res) →
 XaK Tryz.prog 123 1 (Xi1 l st) (fun v H _=>Res 1 (Xpo res) v H):=by
 intro fuel st o h hc
 refine XbY (head:=fun st=>Xi1 l st) (C:=fun o=>(o=res)) ?_ fuel st o h hc
 clear h hc o st fuel
 intro n1 o h hc
 replace h:XgN l n1=some o:=h
 show XaK Tryz.prog 123 1 (Xi1 l n1) (fun v H _=>Res 1 (Xpo res) v H)
 unfold XgN at h
 refine Xbi Xan hS true 3000 ?_
 conv=>whnf
 refine br.h2 h (by rfl) ?_ ?_
 ·clear h;intro hb h;conv=>whnf
  all_goals (cases h;cases hc)
  all_goals exact Res.of [] rfl Xhe (by decide) Xhc (XGA Xhb)
 clear h;intro hb h;conv=>whnf
 let t:Int:=wI .i64 ((n1.tmod 65536)+(wI .i64 (n1.tdiv 65536)))
 cases h;simp only [Sum.elim_inl,Xi1] at hc
 exact XjC hc [(0,0)] rfl
theorem XuS (hS:Xah Tryz.prog (Xav (XnY))) (l:List Int) (res:Int):∀ fuel (st:Int×Int) (o:Int),iter (fun st=>XgL l st.1 st.2) fuel st=some o→(o=res) →
 XaK Tryz.prog 123 1 (XiJ l st.1 st.2) (fun v H _=>Res 1 (Xpo res) v H):=by
 intro fuel st o h hc
 refine XbY (head:=fun st=>XiJ l st.1 st.2) (C:=fun o=>(o=res)) ?_ fuel st o h hc
 clear h hc o st fuel
 intro st o h hc
 obtain ⟨n,i⟩:=st
 replace h:XgL l n i=some o:=h
 show XaK Tryz.prog 123 1 (XiJ l n i) (fun v H _=>Res 1 (Xpo res) v H)
 unfold XgL at h
 refine Xbi Xan hS true 3000 ?_
 conv=>whnf
 refine br.h2 h (by rfl) ?_ ?_
 ·clear h;intro hb h;conv=>whnf
  obtain ⟨y,hy,h2⟩:=Xai.elim h;cases h2
  have hl:=Xvl hS _ res _ _ _ hy hc;simp only [Xi1] at hl
  exact XjC hl [(0,0)] rfl
 clear h;intro hb h;conv=>whnf
 replace h:=XaE.elim h;obtain ⟨hb,h⟩:=h
 try (refine req.intro hb ?_;conv=>whnf)
 replace h:=Xai.elim h;obtain ⟨e,hy,h⟩:=h
 refine rd.I hy (by first|rfl|(rw [Nat.zero_add,Nat.mul_one];try rfl;done)|omega) ?_
 conv=>whnf
 cases h;simp only [Sum.elim_inl,XiJ] at hc
 exact XjC hc [(0,0)] rfl
theorem Xyi (hS:Xah Tryz.prog (Xav (XnY))) (l:List Int) (res:Int) (h:Xjz l=some res) :
 XaK Tryz.prog 123 1 ⟨⟨123,25,[(0,.slice (some ⟨0,0,none⟩) l.length 1)],[.code Xtz],[],false,none⟩,[],[(0,.row false (vI .i64 l))],1⟩ (fun v H _=>Res 1 (Xpo res) v H):=by
 unfold Xjz at h
 refine Xbi Xan hS true 3000 ?_
 conv=>whnf
 have hl:=XuS hS _ res _ _ _ h rfl;simp only [XiJ] at hl
 exact XjC hl [(0,0)] rfl
theorem ok123 (hS:Xah Tryz.prog (Xav (XnY))):Xar Tryz.prog 123 (s123 (Xjz)):=by
 refine Xar.Xax Xan (fun ar os r ha hr=>?_) ⟨Tryz.f123,rfl,by decide,rfl⟩
 replace hr:r123 (Xjz) ar (XaH os)=some r:=hr
 unfold r123 at hr
 generalize hc:XaH os=C at hr
 have hq:=dSl.elim hr;clear hr;obtain ⟨c0,l1,C,y0,rfl,rfl,e0,hr⟩:=hq;obtain rfl:=Xwg e0
 replace hr:=Xdw hr;obtain ⟨rfl,rfl,x,h,rfl⟩:=hr
 obtain ⟨os,rfl,ha,hc⟩:=Xc3 ha hc
 obtain rfl:=Xat hc
 exact ⟨_,rfl,Xyi hS _ x h⟩
def Xel:(List Int)→Option Int:=Xjz
theorem XEu:Xar Tryz.prog 123 (s123 Xel):=ok123 (Xah.Xa0 trivial)
def XdM (Xaj:(List UInt8)→Int→Int→Option Int) (s1:List UInt8) (i:Int) (out1:List Int):Option (Sum ((List UInt8)×Int×(List Int)) (List Int)):=
 cond (decide (i<(s1.length:Int)))
  (
  (Xaj s1 i 2).bind fun m=>
  XaE (decide ((out1.length+1)*8≤2^47)) <|
  let row:=out1++[m]
  some (.inl (s1,wI .i64 (i+2),row)))
  (
  some (.inr (out1)))
def XgU (Xaj:(List UInt8)→Int→Int→Option Int) (s:List UInt8):Option (List Int):=
 cond (((s.length:Int).tmod 2)==1)
  (
  XaE (decide (s.length+1<2^63)) <|
  iter (fun st=>XdM Xaj st.1 st.2.1 st.2.2) FUEL (s++[0],0,[]))
  (
  iter (fun st=>XdM Xaj st.1 st.2.1 st.2.2) FUEL (s,0,[]))
def Xsy (x:List Int):Xcw:=⟨.slice (some ⟨0,0,none⟩) x.length 1,[(vI .i64 x)],[]⟩
def r124 (g:(List UInt8)→Option (List Int)):Dec:=dV asS fun (y0:List UInt8)=>Xdd (ofG (g y0) Xsy)
theorem XGL {g:(List UInt8)→Option (List Int)} {y0:List UInt8} {x:List Int} (hx:g y0=some x):r124 g [.string ⟨⟨y0⟩⟩] []=some (Xsy x):=(XaX (XcI)).trans (Xa3 hx)
def s124 (g:(List UInt8)→Option (List Int)):Xbu:=⟨[.v],r124 g⟩
theorem XEI {g:(List UInt8)→Option (List Int)} {y0:List UInt8} {x:List Int} (hx:g y0=some x):(s124 g).run [.string ⟨⟨y0⟩⟩] []=some (Xsy x):=XGL hx
abbrev Xqq (Xaj:(List UInt8)→Int→Int→Option Int):List (Nat×Xbu):=[(44,s44 Xaj)]
def XhD (s1:List UInt8) (i:Int) (out1:List Int):VM:=
 ⟨⟨124,24,[(0,.string ⟨⟨s1⟩⟩),(3,.slice (some ⟨0,0,none⟩) out1.length 1),(4,.int .i64 i)],[.code Xqi,.inLoop Xqi,.inBlock 0,.code Xuu],[],false,none⟩,[],[(0,.row true (vI .i64 out1))],1⟩
theorem XpJ (Xaj:(List UInt8)→Int→Int→Option Int) (hS:Xah Tryz.prog (Xav (Xqq Xaj))) (res:List Int):∀ fuel (st:(List UInt8)×Int×(List Int)) (o:List Int),iter (fun st=>XdM Xaj st.1 st.2.1 st.2.2) fuel st=some o→(o=res) →
 XaK Tryz.prog 124 0 (XhD st.1 st.2.1 st.2.2) (fun v H _=>Res 0 (Xsy res) v H):=by
 intro fuel st o h hc
 refine XbY (head:=fun st=>XhD st.1 st.2.1 st.2.2) (C:=fun o=>(o=res)) ?_ fuel st o h hc
 clear h hc o st fuel
 intro st o h hc
 obtain ⟨s1,i,out1⟩:=st
 replace h:XdM Xaj s1 i out1=some o:=h
 show XaK Tryz.prog 124 0 (XhD s1 i out1) (fun v H _=>Res 0 (Xsy res) v H)
 unfold XdM at h
 refine Xbi Xan hS true 3000 ?_
 conv=>whnf
 refine br.h2 h (by rfl) ?_ ?_
 ·clear h;intro hb h;conv=>whnf
  all_goals (cases h;cases hc)
  all_goals exact Res.of [0] rfl (Xsc (rn_I) (Xix rfl) Xhe) (by decide) (Xsq (by decide) Xhc) Xhb
 clear h;intro hb h;conv=>whnf
 replace h:=Xai.elim h;obtain ⟨m,hy,h⟩:=h
 refine XaJ.p (XeO hy) ?_
 conv=>whnf
 replace h:=XaE.elim h;obtain ⟨hb,h⟩:=h
 refine req.intro (Xvt (of_decide_eq_true hb) (by first|rfl|omega|(simp;done)|(simp;omega)|(simp at *;omega)) rfl (by first|rfl|omega|(simp;done)|(simp;omega)|(simp at *;omega)) (by first|rfl|exact XhN _ _|exact Xkg _|exact XkR _|exact XlD (by first|exact Xdt|exact XcY|exact XcO|exact Xcg|exact Xcx|exact Xch|exact XcN|exact Xdm|exact XdN|exact Xdl|exact XcZ|exact Xce|exact Xdu|exact Xb1|exact Xa7|exact Xdr|exact XdL) _|(rw [XfR];exact XhN _ _)|(simp [XhN,Xkg,XkR,Xls,Xlz,Xoe,Xop];done)|(simp;exact List.all_eq_true.1 (XlD (by first|exact Xdt|exact XcY|exact XcO|exact Xcg|exact Xcx|exact Xch|exact XcN|exact Xdm|exact XdN|exact Xdl|exact XcZ|exact Xce|exact Xdu|exact Xb1|exact Xa7|exact Xdr|exact XdL) _))) rfl) ?_
 conv=>whnf
 let row:List Int:=out1++[m]
 refine XIb (xs:=out1) (ys:=[m]) rfl (by first|rfl|omega) (by first|rfl|omega|(simp;done)|(simp;omega)|(simp at *;omega)) (by first|rfl|omega|(simp;done)|(simp;omega)|(simp at *;omega)) ?_
 conv=>whnf
 cases h;simp only [Sum.elim_inl,XhD] at hc
 exact XjC hc [(0,2)] rfl
theorem Xx9 (Xaj:(List UInt8)→Int→Int→Option Int) (hS:Xah Tryz.prog (Xav (Xqq Xaj))) (s:List UInt8) (res:List Int) (h:XgU Xaj s=some res) :
 XaK Tryz.prog 124 0 ⟨⟨124,24,[(0,.string ⟨⟨s⟩⟩)],[.code XtV],[],false,none⟩,[],[],0⟩ (fun v H _=>Res 0 (Xsy res) v H):=by
 unfold XgU at h
 refine Xbi Xan hS true 3000 ?_
 conv=>whnf
 refine br.h2 h (by rfl) ?_ ?_
 ·clear h;intro hb h;conv=>whnf
  have hl:=XpJ Xaj hS res _ _ _ h rfl;simp only [XhD] at hl
  refine XaK.nilT 3 1 ?_
  exact XjC hl [(0,0)] rfl
 clear h;intro hb h;conv=>whnf
 replace h:=XaE.elim h;obtain ⟨hb,h⟩:=h
 try (refine req.intro hb ?_;conv=>whnf)
 have hl:=XpJ Xaj hS res _ _ _ h rfl;simp only [XhD] at hl
 refine XaK.nilT 3 1 ?_
 exact XjC hl [(0,0)] rfl
theorem ok124 (Xaj:(List UInt8)→Int→Int→Option Int) (hS:Xah Tryz.prog (Xav (Xqq Xaj))):Xar Tryz.prog 124 (s124 (XgU Xaj)):=by
 refine Xar.Xax Xan (fun ar os r ha hr=>?_) ⟨Tryz.f124,rfl,by decide,rfl⟩
 replace hr:r124 (XgU Xaj) ar (XaH os)=some r:=hr
 unfold r124 at hr
 generalize hc:XaH os=C at hr
 replace hr:=dV.elim hr;obtain ⟨v0,l1,y0,rfl,e0,hr⟩:=hr;obtain rfl:=XbM _ _ e0
 replace hr:=Xdw hr;obtain ⟨rfl,rfl,x,h,rfl⟩:=hr
 obtain rfl:=Xat hc
 exact ⟨_,rfl,Xx9 Xaj hS _ x h⟩
def XcH:(List UInt8)→Option (List Int):=XgU Xaj
theorem XEm:Xar Tryz.prog 124 (s124 XcH):=ok124 Xaj (Xah.Xa0 ⟨Xma,trivial⟩)
def XjF (Xel:(List Int)→Option Int) (XcH:(List UInt8)→Option (List Int)) (s:List UInt8):Option Int:=
 (XcH s).bind fun w=>
 (Xel w).bind fun a=>
 some (a)
def XxR (x:Int):Xcw:=⟨.int .i64 x,[],[]⟩
def r100 (g:(List UInt8)→Option Int):Dec:=dV asS fun (y0:List UInt8)=>Xdd (ofG (g y0) XxR)
theorem XG3 {g:(List UInt8)→Option Int} {y0:List UInt8} {x:Int} (hx:g y0=some x):r100 g [.string ⟨⟨y0⟩⟩] []=some (XxR x):=(XaX (XcI)).trans (Xa3 hx)
def XCq (g:(List UInt8)→Option Int):Xbu:=⟨[.v],r100 g⟩
theorem XnR {g:(List UInt8)→Option Int} {y0:List UInt8} {x:Int} (hx:g y0=some x):(XCq g).run [.string ⟨⟨y0⟩⟩] []=some (XxR x):=XG3 hx
abbrev Xvh (Xel:(List Int)→Option Int) (XcH:(List UInt8)→Option (List Int)):List (Nat×Xbu):=[(123,s123 Xel),(124,s124 XcH)]
theorem XyS (Xel:(List Int)→Option Int) (XcH:(List UInt8)→Option (List Int)) (hS:Xah Tryz.prog (Xav (Xvh Xel XcH))) (s:List UInt8) (res:Int) (h:XjF Xel XcH s=some res) :
 XaK Tryz.prog 100 0 ⟨⟨100,6,[(0,.string ⟨⟨s⟩⟩)],[.code XAi],[],false,none⟩,[],[],0⟩ (fun v H _=>Res 0 (XxR res) v H):=by
 unfold XjF at h
 refine Xbi Xan hS true 3000 ?_
 conv=>whnf
 replace h:=Xai.elim h;obtain ⟨w,hy,h⟩:=h
 refine XaJ.Xbe [] (Xaw (aqs:=[.string ⟨⟨s⟩⟩]) (ws:=[]) (n:=1) (m:=0) (t':=1) (Xau rfl rfl Xbg) rfl (by rfl) (XEI hy) rfl rfl rfl rfl Xbf (Xhw (rn_I) Xbc) rfl) ?_
 conv=>whnf
 replace h:=Xai.elim h;obtain ⟨a,hy,h⟩:=h
 refine XaJ.Xbe [] (Xaw (aqs:=[.slice (some ⟨0,0,none⟩) (w:List Int).length 1]) (ws:=[.win 0 0 (w.length*1) false]) (n:=0) (m:=0) (t':=1) (Xau (by first|rfl|exact XoJ rfl rfl (by first|rfl|omega) (by first|rfl|(simp;done))|exact XpE rfl rfl (by first|rfl|omega) (by first|rfl|omega) (by first|omega|(simp at *;omega))) rfl Xbg) rfl (by rfl) (XGn hy) rfl rfl rfl rfl (XnV rfl Xbf) Xbc rfl) ?_
 conv=>whnf
 all_goals (cases h;exact Res.y)
theorem ok100 (Xel:(List Int)→Option Int) (XcH:(List UInt8)→Option (List Int)) (hS:Xah Tryz.prog (Xav (Xvh Xel XcH))):Xar Tryz.prog 100 (XCq (XjF Xel XcH)):=by
 refine Xar.Xax Xan (fun ar os r ha hr=>?_) ⟨Tryz.f100,rfl,by decide,rfl⟩
 replace hr:r100 (XjF Xel XcH) ar (XaH os)=some r:=hr
 unfold r100 at hr
 generalize hc:XaH os=C at hr
 replace hr:=dV.elim hr;obtain ⟨v0,l1,y0,rfl,e0,hr⟩:=hr;obtain rfl:=XbM _ _ e0
 replace hr:=Xdw hr;obtain ⟨rfl,rfl,x,h,rfl⟩:=hr
 obtain rfl:=Xat hc
 exact ⟨_,rfl,XyS Xel XcH hS _ x h⟩
def Xa9:(List UInt8)→Option Int:=XjF Xel XcH
theorem Xn0:Xar Tryz.prog 100 (XCq Xa9):=ok100 Xel XcH (Xah.Xa0 ⟨XEu,XEm,trivial⟩)
def XmU (Xa9:(List UInt8)→Option Int) (s:List UInt8):Option Int:=
 (Xa9 s).bind fun s1=>
 some (wI .i64 (65535 - s1))
def rx88 (x:Int):Xcw:=⟨.int .i64 x,[],[]⟩
def r88 (g:(List UInt8)→Option Int):Dec:=dV asS fun (y0:List UInt8)=>Xdd (ofG (g y0) rx88)
theorem r88_c {g:(List UInt8)→Option Int} {y0:List UInt8} {x:Int} (hx:g y0=some x):r88 g [.string ⟨⟨y0⟩⟩] []=some (rx88 x):=(XaX (XcI)).trans (Xa3 hx)
def s88 (g:(List UInt8)→Option Int):Xbu:=⟨[.v],r88 g⟩
theorem Xth {g:(List UInt8)→Option Int} {y0:List UInt8} {x:Int} (hx:g y0=some x):(s88 g).run [.string ⟨⟨y0⟩⟩] []=some (rx88 x):=r88_c hx
abbrev XAJ (Xa9:(List UInt8)→Option Int):List (Nat×Xbu):=[(100,XCq Xa9)]
theorem XGi (Xa9:(List UInt8)→Option Int) (hS:Xah Tryz.prog (Xav (XAJ Xa9))) (s:List UInt8) (res:Int) (h:XmU Xa9 s=some res) :
 XaK Tryz.prog 88 0 ⟨⟨88,6,[(0,.string ⟨⟨s⟩⟩)],[.code XKP],[],false,none⟩,[],[],0⟩ (fun v H _=>Res 0 (rx88 res) v H):=by
 unfold XmU at h
 refine Xbi Xan hS true 3000 ?_
 conv=>whnf
 replace h:=Xai.elim h;obtain ⟨s1,hy,h⟩:=h
 refine XaJ.p (XnR hy) ?_
 conv=>whnf
 all_goals (cases h;exact Res.y)
theorem ok88 (Xa9:(List UInt8)→Option Int) (hS:Xah Tryz.prog (Xav (XAJ Xa9))):Xar Tryz.prog 88 (s88 (XmU Xa9)):=by
 refine Xar.Xax Xan (fun ar os r ha hr=>?_) ⟨Tryz.f88,rfl,by decide,rfl⟩
 replace hr:r88 (XmU Xa9) ar (XaH os)=some r:=hr
 unfold r88 at hr
 generalize hc:XaH os=C at hr
 replace hr:=dV.elim hr;obtain ⟨v0,l1,y0,rfl,e0,hr⟩:=hr;obtain rfl:=XbM _ _ e0
 replace hr:=Xdw hr;obtain ⟨rfl,rfl,x,h,rfl⟩:=hr
 obtain rfl:=Xat hc
 exact ⟨_,rfl,XGi Xa9 hS _ x h⟩
def Xdg:(List UInt8)→Option Int:=XmU Xa9
theorem Xz9:Xar Tryz.prog 88 (s88 Xdg):=ok88 Xa9 (Xah.Xa0 ⟨Xn0,trivial⟩)
def XeY (XcL:(List UInt8)→Option Int) (s:List UInt8):Option Bool:=
 (XcL s).bind fun s1=>
 some (s1==65535)
def Xxo (x:Bool):Xcw:=⟨.bool x,[],[]⟩
def r131 (g:(List UInt8)→Option Bool):Dec:=dV asS fun (y0:List UInt8)=>Xdd (ofG (g y0) Xxo)
theorem XJ1 {g:(List UInt8)→Option Bool} {y0:List UInt8} {x:Bool} (hx:g y0=some x):r131 g [.string ⟨⟨y0⟩⟩] []=some (Xxo x):=(XaX (XcI)).trans (Xa3 hx)
def XGC (g:(List UInt8)→Option Bool):Xbu:=⟨[.v],r131 g⟩
theorem Xoj {g:(List UInt8)→Option Bool} {y0:List UInt8} {x:Bool} (hx:g y0=some x):(XGC g).run [.string ⟨⟨y0⟩⟩] []=some (Xxo x):=XJ1 hx
abbrev Xvb (XcL:(List UInt8)→Option Int):List (Nat×Xbu):=[(112,s112 XcL)]
theorem XwU (XcL:(List UInt8)→Option Int) (hS:Xah Tryz.prog (Xav (Xvb XcL))) (s:List UInt8) (res:Bool) (h:XeY XcL s=some res) :
 XaK Tryz.prog 131 0 ⟨⟨131,6,[(0,.string ⟨⟨s⟩⟩)],[.code XBv],[],false,none⟩,[],[],0⟩ (fun v H _=>Res 0 (Xxo res) v H):=by
 unfold XeY at h
 refine Xbi Xan hS true 3000 ?_
 conv=>whnf
 replace h:=Xai.elim h;obtain ⟨s1,hy,h⟩:=h
 refine XaJ.p (XGd hy) ?_
 conv=>whnf
 all_goals (cases h;exact Res.y)
theorem ok131 (XcL:(List UInt8)→Option Int) (hS:Xah Tryz.prog (Xav (Xvb XcL))):Xar Tryz.prog 131 (XGC (XeY XcL)):=by
 refine Xar.Xax Xan (fun ar os r ha hr=>?_) ⟨Tryz.f131,rfl,by decide,rfl⟩
 replace hr:r131 (XeY XcL) ar (XaH os)=some r:=hr
 unfold r131 at hr
 generalize hc:XaH os=C at hr
 replace hr:=dV.elim hr;obtain ⟨v0,l1,y0,rfl,e0,hr⟩:=hr;obtain rfl:=XbM _ _ e0
 replace hr:=Xdw hr;obtain ⟨rfl,rfl,x,h,rfl⟩:=hr
 obtain rfl:=Xat hc
 exact ⟨_,rfl,XwU XcL hS _ x h⟩
def XaD:(List UInt8)→Option Bool:=XeY XcL
theorem Xqa:Xar Tryz.prog 131 (XGC XaD):=ok131 XcL (Xah.Xa0 ⟨XDP,trivial⟩)
end Go.Vm.Code
namespace Go.Vm.Code
open Go Go.Vm
theorem Xr1 {s:List UInt8} {i:Nat} (h:i+1<s.length):XsL s (i:Int) 2=(((s[i].toNat*256+s[i+1].toNat:Nat):Int),true):=by
 unfold XsL
 rw [if_pos (by omega)]
 have e:(s.drop (i:Int).toNat).take (2:Int).toNat=[s[i],s[i+1]]:=by
  show (s.drop i).take 2=_
  rw [List.drop_eq_getElem_cons (by omega:i<s.length),List.drop_eq_getElem_cons h];rfl
 rw [e];simp [XeE]
def Xdo:List UInt8→List Int
 | []=>[]
 | [b]=>[((b.toNat*256:Nat):Int)]
 | b::c::l=>((b.toNat*256+c.toNat:Nat):Int)::Xdo l
theorem Xld {s:List UInt8} {i:Nat} (h:i+1<s.length):Xdo (s.drop i)=((s[i].toNat*256+s[i+1].toNat:Nat):Int)::Xdo (s.drop (i+2)):=by
 rw [List.drop_eq_getElem_cons (by omega:i<s.length),List.drop_eq_getElem_cons h];rfl
theorem Xne:∀ s:List UInt8,s.length%2=1→Xdo (s++[0])=Xdo s
 | [],h=>by simp at h
 | [b],_=>by
   show [((b.toNat*256+0:Nat):Int)]=[((b.toNat*256:Nat):Int)]
   rw [Nat.add_zero]
 | b::c::l,h=>by
   have:=Xne l (by simp at h;omega)
   simp only [List.cons_append,Xdo,this]
theorem Xjs:∀ s:List UInt8,(Xdo s).sum=(Xdp s:Int)
 | []=>rfl
 | [b]=>by simp only [Xdo,Xdp,List.sum_cons,List.sum_nil,Int.add_zero]
 | b::c::l=>by
   have:=Xjs l
   simp only [Xdo,Xdp,List.sum_cons,this];omega
theorem Xjm:∀ s:List UInt8,∀ e∈Xdo s,0≤e∧e≤65535
 | [],e,h=>by simp [Xdo] at h
 | [b],e,h=>by simp [Xdo] at h;have:=b.toNat_lt;omega
 | b::c::l,e,h=>by
   simp only [Xdo,List.mem_cons] at h
   rcases h with rfl|h
   ·have:=b.toNat_lt;have:=c.toNat_lt;omega
   ·exact Xjm l e h
theorem Xjd:∀ s:List UInt8,(Xdo s).length=(s.length+1)/2
 | []=>rfl
 | [b]=>by simp [Xdo]
 | b::c::l=>by
   have:=Xjd l
   simp only [Xdo,List.length_cons,this];omega
theorem XjO {s:List UInt8} (h:s.length<2^40) (he:s.length%2=0):iter (fun (st:List UInt8×Int×List Int)=>XdM Xaj st.1 st.2.1 st.2.2) FUEL (s,0,[])=some (Xdo s):=by
 have key:=iter_eq (step:=fun (st:List UInt8×Int×List Int)=>XdM Xaj st.1 st.2.1 st.2.2) (fun st=>st.2.2++Xdo (s.drop st.2.1.toNat)) (fun st=>st.1=s∧∃ i:Nat,st.2.1=i∧i%2=0∧i≤s.length∧st.2.2.length≤i) (fun st=>(s.length - st.2.1).toNat) ?_ FUEL (s,0,[]) ⟨rfl,0,rfl,by omega,by omega,by simp⟩ (by rw [Xer];simp only;omega)
 ·rw [key];simp
 rintro ⟨s1,p,out⟩ ⟨h1,i,h2,h3,h4,h5⟩
 simp only at h1 h2 h5 ⊢
 subst h1 h2
 unfold XdM
 by_cases hi:i<s1.length
 ·have hi2:i+1<s1.length:=by omega
  refine .inr ⟨(s1,((i+2:Nat):Int),out++[((s1[i].toNat*256+s1[i+1].toNat:Nat):Int)]),?_,⟨rfl,i+2,rfl,by omega,by omega,by simp;omega⟩,by simp only;omega,?_⟩
  ·have b1:=s1[i].toNat_lt
   have b2:=s1[i+1].toNat_lt
   rw [XaZ (by omega),Xf0 (by omega),Xr1 hi2,Option.bind_some,XaL (by omega),XcC (by omega) (by omega),XcC (by omega) (by omega)];rfl
  ·simp only [Int.toNat_natCast]
   rw [Xld hi2];simp
 ·refine .inl ?_
  rw [XaO (by omega)]
  simp [List.drop_eq_nil_of_le (by omega:s1.length≤i),Xdo]
theorem Xpl {s:List UInt8} (h:s.length<2^39):XcH s=some (Xdo s):=by
 unfold XcH XgU
 have ea:((s.length:Int).tmod 2==1)=decide (s.length%2=1):=by
  rw [Int.tmod_eq_emod_of_nonneg (by omega),Bool.eq_iff_iff,beq_iff_eq,decide_eq_true_eq];omega
 rw [ea]
 by_cases h2:s.length%2=1
 ·rw [XaZ h2,XaL (by omega),XjO (by simp only [List.length_append,List.length_cons,List.length_nil];omega) (by simp only [List.length_append,List.length_cons,List.length_nil];omega),Xne s h2]
 ·rw [XaO h2,XjO (by omega) (by omega)]
theorem Xqk {l:List Int} {n:Int} (h0:0≤n) (h1:n<2^62):iter (fun st=>XgN l st) FUEL n=some ((norm n.toNat:Nat):Int):=by
 refine iter_eq (fun n=>((norm n.toNat:Nat):Int)) (fun n=>0≤n∧n<2^62) (fun n=>n.toNat) ?_ FUEL _ ⟨h0,h1⟩ (by rw [Xer];omega)
 intro s ⟨a,b⟩
 unfold XgN
 by_cases hs:s>65535
 ·refine .inr ⟨s%65536+s/65536,?_,⟨by omega,by omega⟩,by omega,?_⟩
  ·rw [XaZ hs,Int.tdiv_eq_ediv_of_nonneg a,Int.tmod_eq_emod_of_nonneg a,XcC (n:=s/65536) (by omega) (by omega),XcC (by omega) (by omega)]
  ·have:norm (s%65536+s/65536).toNat=norm s.toNat:=
    (norm_eq (norm_le _) (by have:=Xit (s%65536+s/65536).toNat;omega) (by have:=Xki (s%65536+s/65536).toNat;omega)).symm
   rw [this]
 ·refine .inl ?_
  rw [XaO hs]
  have:=Xme (n:=s.toNat) (by omega)
  simp only [this]
  rw [Int.toNat_of_nonneg a]
theorem XsE {l:List Int} (hl:l.length<2^40) (hr:∀ e∈l,0≤e∧e≤65535):Xel l=some ((norm l.sum.toNat:Nat):Int):=by
 unfold Xel Xjz
 have key:=iter_eq (step:=fun (st:Int×Int)=>XgL l st.1 st.2) (fun st=>((norm (st.1+(l.drop st.2.toNat).sum).toNat:Nat):Int)) (fun st=>0≤st.1∧0≤st.2∧st.2≤l.length∧st.1≤st.2*65535) (fun st=>(l.length - st.2).toNat) ?_ FUEL (0,0) ⟨by simp,by simp,by simp,by simp⟩ (by rw [Xer];simp only;omega)
 ·rw [key];simp
 rintro ⟨n,p⟩ ⟨g1,g2,g3,g4⟩
 simp only at g1 g2 g3 g4 ⊢
 obtain ⟨i,rfl⟩:=Int.eq_ofNat_of_zero_le g2
 simp only [Int.toNat_natCast]
 unfold XgL
 by_cases hi:i<l.length
 ·have hx:=hr l[i] (List.getElem_mem hi)
  refine .inr ⟨(n+l[i],((i+1:Nat):Int)),?_,⟨by simp only;omega,by simp only;omega,by simp only;omega,by simp only;omega⟩,by simp only;omega,?_⟩
  ·simp (disch:=omega) only [XaZ,XaL,Int.toNat_natCast,List.getElem?_eq_getElem,Option.bind_some,XcC];rfl
  ·simp only [Int.toNat_natCast]
   rw [List.drop_eq_getElem_cons hi,List.sum_cons,Int.add_assoc]
 ·refine .inl ?_
  rw [XaO (by omega),Xqk g1 (by omega),List.drop_eq_nil_of_le (by omega)]
  simp
theorem Xlf {s:List UInt8} (h:s.length<2^39):Xa9 s=some ((norm (Xdp s):Nat):Int):=by
 unfold Xa9 XjF
 rw [Xpl h,Option.bind_some,XsE (by rw [Xjd];omega) (Xjm s),Xjs];rfl
def setS (s:List UInt8) (p k n:Int):List UInt8:=if 1≤k∧k≤8∧0≤p∧p+k≤s.length then s.take p.toNat++be n.toNat k.toNat++s.drop (p+k).toNat else s
theorem XI1 {s:List UInt8} {p k n:Int} (hs:s.length<2^40) (hn:0≤n):Xba s p k n=some (setS s p k n):=by
 unfold Xba XgO setS
 rw [Xdq hn,Option.bind_some]
 unfold Xhd
 by_cases hk:1≤k∧k≤8
 ·rw [if_pos hk]
  have e:(be n.toNat k.toNat==[])=false:=by
   rw [beq_eq_false_iff_ne];intro h;have:=congrArg List.length h;simp at this;omega
  rw [e,cond_false]
  by_cases h1:p<0
  ·rw [XaZ h1,if_neg (by omega)]
  rw [XaO h1,XcC (n:=(s.length:Int) - k) (by omega) (by omega)]
  by_cases h2:(s.length:Int) - k<p
  ·simp only []
   rw [XaZ h2,if_neg (by omega)]
  simp only []
  have e1:(p+k).toNat=p.toNat+k.toNat:=by omega
  have e2:((s.drop (p+k).toNat).take (s.length - (p+k).toNat))=s.drop (p+k).toNat:=List.take_of_length_le (by simp)
  rw [XaO h2,XaL (by omega),XcC (n:=p+k) (by omega) (by omega),e2,XaL (by simp;omega),XaL (by omega),XaL (by simp;omega),if_pos (by omega)]
 ·rw [if_neg hk,if_neg (by omega)];rfl
theorem Xn2 {s:List UInt8} (h:s.length<2^39):XaD s=some (((norm (Xdp s):Nat):Int)==65535):=by
 unfold XaD XeY
 rw [XJA s (by omega),Option.bind_some]
end Go.Vm.Code
namespace Go.Vm.Code
open Go Go.Vm Go.Proofs
set_option maxRecDepth 100000
set_option maxHeartbeats 4000000
set_option linter.unusedVariables false
def Xgb (a:Xab):Option Bool:=
 cond (a.V6)
  (
  some (true))
  (
  cond (a.Hi==0)
   (
   some (decide (a.Lo<4294967296)))
   (
   some (false)))
def XyJ (x:Bool):Xcw:=⟨.bool x,[],[]⟩
def r113 (g:Xab→Option Bool):Dec:=dV XbN fun (y0:Xab)=>Xdd (ofG (g y0) XyJ)
theorem XHQ {g:Xab→Option Bool} {y0:Xab} {x:Bool} (hx:g y0=some x):r113 g [.agg ⟨[.bool y0.V6,.int .u64 y0.Hi,.int .u64 y0.Lo]⟩] []=some (XyJ x):=(XaX (XbC _)).trans (Xa3 hx)
def XG4 (g:Xab→Option Bool):Xbu:=⟨[.v],r113 g⟩
theorem Xqo {g:Xab→Option Bool} {y0:Xab} {x:Bool} (hx:g y0=some x):(XG4 g).run [.agg ⟨[.bool y0.V6,.int .u64 y0.Hi,.int .u64 y0.Lo]⟩] []=some (XyJ x):=XHQ hx
abbrev Xv0:List (Nat×Xbu):=[]
theorem Xyk (hS:Xah Tryz.prog (Xav (Xv0))) (a:Xab) (res:Bool) (h:Xgb a=some res) :
 XaK Tryz.prog 113 0 ⟨⟨113,15,[(0,.agg ⟨[.bool a.V6,.int .u64 a.Hi,.int .u64 a.Lo]⟩)],[.code XBo],[],false,none⟩,[],[],0⟩ (fun v H _=>Res 0 (XyJ res) v H):=by
 unfold Xgb at h
 refine Xbi Xan hS true 3000 ?_
 conv=>whnf
 refine br.h h (by rfl) ?_ ?_
 ·clear h;intro hb h;conv=>whnf
  all_goals (cases h;exact Res.y)
 clear h;intro hb h;conv=>whnf
 refine br.h h (by rfl) ?_ ?_
 ·clear h;intro hb h;conv=>whnf
  all_goals (cases h;exact Res.y)
 clear h;intro hb h;conv=>whnf
 all_goals (cases h;exact Res.y)
theorem ok113 (hS:Xah Tryz.prog (Xav (Xv0))):Xar Tryz.prog 113 (XG4 (Xgb)):=by
 refine Xar.Xax Xan (fun ar os r ha hr=>?_) ⟨Tryz.f113,rfl,by decide,rfl⟩
 replace hr:r113 (Xgb) ar (XaH os)=some r:=hr
 unfold r113 at hr
 generalize hc:XaH os=C at hr
 replace hr:=dV.elim hr;obtain ⟨v0,l1,y0,rfl,e0,hr⟩:=hr;obtain rfl:=Xbr _ _ e0
 replace hr:=Xdw hr;obtain ⟨rfl,rfl,x,h,rfl⟩:=hr
 obtain rfl:=Xat hc
 exact ⟨_,rfl,Xyk hS _ x h⟩
def Xbd:Xab→Option Bool:=Xgb
theorem Xtn:Xar Tryz.prog 113 (XG4 Xbd):=ok113 (Xah.Xa0 trivial)
def XhY (Xbd:Xab→Option Bool) (Xam:Int→Int→Option (List UInt8)) (a:Xab):Option (List UInt8):=
 (Xbd a).bind fun xr=>
 cond (!xr)
  (
  some ([]))
  (
  cond (a.V6)
   (
   (Xam a.Hi 8).bind fun p=>
   (Xam a.Lo 8).bind fun p1=>
   XaE (decide (p.length+p1.length<2^63)) <|
   some (p++p1))
   (
   (Xam a.Lo 4).bind fun p2=>
   some (p2)))
def rx80 (x:List UInt8):Xcw:=⟨.string ⟨⟨x⟩⟩,[],[]⟩
def r80 (g:Xab→Option (List UInt8)):Dec:=dV XbN fun (y0:Xab)=>Xdd (ofG (g y0) rx80)
theorem r80_c {g:Xab→Option (List UInt8)} {y0:Xab} {x:List UInt8} (hx:g y0=some x):r80 g [.agg ⟨[.bool y0.V6,.int .u64 y0.Hi,.int .u64 y0.Lo]⟩] []=some (rx80 x):=(XaX (XbC _)).trans (Xa3 hx)
def s80 (g:Xab→Option (List UInt8)):Xbu:=⟨[.v],r80 g⟩
theorem XAX {g:Xab→Option (List UInt8)} {y0:Xab} {x:List UInt8} (hx:g y0=some x):(s80 g).run [.agg ⟨[.bool y0.V6,.int .u64 y0.Hi,.int .u64 y0.Lo]⟩] []=some (rx80 x):=r80_c hx
abbrev XA7 (Xbd:Xab→Option Bool) (Xam:Int→Int→Option (List UInt8)):List (Nat×Xbu):=[(113,XG4 Xbd),(42,s42 Xam)]
theorem XEU (Xbd:Xab→Option Bool) (Xam:Int→Int→Option (List UInt8)) (hS:Xah Tryz.prog (Xav (XA7 Xbd Xam))) (a:Xab) (res:List UInt8) (h:XhY Xbd Xam a=some res) :
 XaK Tryz.prog 80 0 ⟨⟨80,20,[(0,.agg ⟨[.bool a.V6,.int .u64 a.Hi,.int .u64 a.Lo]⟩)],[.code XBt],[],false,none⟩,[],[],0⟩ (fun v H _=>Res 0 (rx80 res) v H):=by
 unfold XhY at h
 refine Xbi Xan hS true 3000 ?_
 conv=>whnf
 replace h:=Xai.elim h;obtain ⟨xr,hy,h⟩:=h
 refine XaJ.p (Xqo hy) ?_
 conv=>whnf
 refine br.h h (by rfl) ?_ ?_
 ·clear h;intro hb h;conv=>whnf
  all_goals (cases h;exact Res.y)
 clear h;intro hb h;conv=>whnf
 refine br.h2 h (by rfl) ?_ ?_
 ·clear h;intro hb h;conv=>whnf
  replace h:=Xai.elim h;obtain ⟨p2,hy,h⟩:=h
  refine XaJ.p (XkV hy) ?_
  conv=>whnf
  all_goals (cases h;exact Res.y)
 clear h;intro hb h;conv=>whnf
 replace h:=Xai.elim h;obtain ⟨p,hy,h⟩:=h
 refine XaJ.p (XkV hy) ?_
 conv=>whnf
 replace h:=Xai.elim h;obtain ⟨p1,hy,h⟩:=h
 refine XaJ.p (XkV hy) ?_
 conv=>whnf
 replace h:=XaE.elim h;obtain ⟨hb,h⟩:=h
 try (refine req.intro hb ?_;conv=>whnf)
 all_goals (cases h;exact Res.y)
theorem ok80 (Xbd:Xab→Option Bool) (Xam:Int→Int→Option (List UInt8)) (hS:Xah Tryz.prog (Xav (XA7 Xbd Xam))):Xar Tryz.prog 80 (s80 (XhY Xbd Xam)):=by
 refine Xar.Xax Xan (fun ar os r ha hr=>?_) ⟨Tryz.f80,rfl,by decide,rfl⟩
 replace hr:r80 (XhY Xbd Xam) ar (XaH os)=some r:=hr
 unfold r80 at hr
 generalize hc:XaH os=C at hr
 replace hr:=dV.elim hr;obtain ⟨v0,l1,y0,rfl,e0,hr⟩:=hr;obtain rfl:=Xbr _ _ e0
 replace hr:=Xdw hr;obtain ⟨rfl,rfl,x,h,rfl⟩:=hr
 obtain rfl:=Xat hc
 exact ⟨_,rfl,XEU Xbd Xam hS _ x h⟩
def Xc8:Xab→Option (List UInt8):=XhY Xbd Xam
theorem XJf:Xar Tryz.prog 80 (s80 Xc8):=ok80 Xbd Xam (Xah.Xa0 ⟨Xtn,Xnw,trivial⟩)
def XgR (a:Xab):Option Bool:=
 cond (a.V6)
  (
  some (true))
  (
  cond (a.Hi==0)
   (
   some (decide (a.Lo<4294967296)))
   (
   some (false)))
def rx97 (x:Bool):Xcw:=⟨.bool x,[],[]⟩
def r97 (g:Xab→Option Bool):Dec:=dV XbN fun (y0:Xab)=>Xdd (ofG (g y0) rx97)
theorem r97_c {g:Xab→Option Bool} {y0:Xab} {x:Bool} (hx:g y0=some x):r97 g [.agg ⟨[.bool y0.V6,.int .u64 y0.Hi,.int .u64 y0.Lo]⟩] []=some (rx97 x):=(XaX (XbC _)).trans (Xa3 hx)
def s97 (g:Xab→Option Bool):Xbu:=⟨[.v],r97 g⟩
theorem Xnt {g:Xab→Option Bool} {y0:Xab} {x:Bool} (hx:g y0=some x):(s97 g).run [.agg ⟨[.bool y0.V6,.int .u64 y0.Hi,.int .u64 y0.Lo]⟩] []=some (rx97 x):=r97_c hx
abbrev XBP:List (Nat×Xbu):=[]
theorem XFQ (hS:Xah Tryz.prog (Xav (XBP))) (a:Xab) (res:Bool) (h:XgR a=some res) :
 XaK Tryz.prog 97 0 ⟨⟨97,15,[(0,.agg ⟨[.bool a.V6,.int .u64 a.Hi,.int .u64 a.Lo]⟩)],[.code XHN],[],false,none⟩,[],[],0⟩ (fun v H _=>Res 0 (rx97 res) v H):=by
 unfold XgR at h
 refine Xbi Xan hS true 3000 ?_
 conv=>whnf
 refine br.h h (by rfl) ?_ ?_
 ·clear h;intro hb h;conv=>whnf
  all_goals (cases h;exact Res.y)
 clear h;intro hb h;conv=>whnf
 refine br.h h (by rfl) ?_ ?_
 ·clear h;intro hb h;conv=>whnf
  all_goals (cases h;exact Res.y)
 clear h;intro hb h;conv=>whnf
 all_goals (cases h;exact Res.y)
theorem ok97 (hS:Xah Tryz.prog (Xav (XBP))):Xar Tryz.prog 97 (s97 (XgR)):=by
 refine Xar.Xax Xan (fun ar os r ha hr=>?_) ⟨Tryz.f97,rfl,by decide,rfl⟩
 replace hr:r97 (XgR) ar (XaH os)=some r:=hr
 unfold r97 at hr
 generalize hc:XaH os=C at hr
 replace hr:=dV.elim hr;obtain ⟨v0,l1,y0,rfl,e0,hr⟩:=hr;obtain rfl:=Xbr _ _ e0
 replace hr:=Xdw hr;obtain ⟨rfl,rfl,x,h,rfl⟩:=hr
 obtain rfl:=Xat hc
 exact ⟨_,rfl,XFQ hS _ x h⟩
def XaG:Xab→Option Bool:=XgR
theorem Xrd:Xar Tryz.prog 97 (s97 XaG):=ok97 (Xah.Xa0 trivial)
def XjD (XaU:Int→Int→Option (List UInt8)) (XaG:Xab→Option Bool) (a:Xab):Option (List UInt8):=
 (XaG a).bind fun xr=>
 cond (!xr)
  (
  some ([]))
  (
  cond (a.V6)
   (
   (XaU a.Hi 8).bind fun p=>
   (XaU a.Lo 8).bind fun p1=>
   XaE (decide (p.length+p1.length<2^63)) <|
   some (p++p1))
   (
   (XaU a.Lo 4).bind fun p2=>
   some (p2)))
def rx92 (x:List UInt8):Xcw:=⟨.string ⟨⟨x⟩⟩,[],[]⟩
def r92 (g:Xab→Option (List UInt8)):Dec:=dV XbN fun (y0:Xab)=>Xdd (ofG (g y0) rx92)
theorem r92_c {g:Xab→Option (List UInt8)} {y0:Xab} {x:List UInt8} (hx:g y0=some x):r92 g [.agg ⟨[.bool y0.V6,.int .u64 y0.Hi,.int .u64 y0.Lo]⟩] []=some (rx92 x):=(XaX (XbC _)).trans (Xa3 hx)
def s92 (g:Xab→Option (List UInt8)):Xbu:=⟨[.v],r92 g⟩
theorem XjT {g:Xab→Option (List UInt8)} {y0:Xab} {x:List UInt8} (hx:g y0=some x):(s92 g).run [.agg ⟨[.bool y0.V6,.int .u64 y0.Hi,.int .u64 y0.Lo]⟩] []=some (rx92 x):=r92_c hx
abbrev XAQ (XaU:Int→Int→Option (List UInt8)) (XaG:Xab→Option Bool):List (Nat×Xbu):=[(85,s85 XaU),(97,s97 XaG)]
theorem XC0 (XaU:Int→Int→Option (List UInt8)) (XaG:Xab→Option Bool) (hS:Xah Tryz.prog (Xav (XAQ XaU XaG))) (a:Xab) (res:List UInt8) (h:XjD XaU XaG a=some res) :
 XaK Tryz.prog 92 0 ⟨⟨92,18,[(0,.agg ⟨[.bool a.V6,.int .u64 a.Hi,.int .u64 a.Lo]⟩)],[.code XB1],[],false,none⟩,[],[],0⟩ (fun v H _=>Res 0 (rx92 res) v H):=by
 unfold XjD at h
 refine Xbi Xan hS true 3000 ?_
 conv=>whnf
 replace h:=Xai.elim h;obtain ⟨xr,hy,h⟩:=h
 refine XaJ.p (Xnt hy) ?_
 conv=>whnf
 refine br.h h (by rfl) ?_ ?_
 ·clear h;intro hb h;conv=>whnf
  all_goals (cases h;exact Res.y)
 clear h;intro hb h;conv=>whnf
 refine br.h2 h (by rfl) ?_ ?_
 ·clear h;intro hb h;conv=>whnf
  replace h:=Xai.elim h;obtain ⟨p2,hy,h⟩:=h
  refine XaJ.p (Xmj hy) ?_
  conv=>whnf
  all_goals (cases h;exact Res.y)
 clear h;intro hb h;conv=>whnf
 replace h:=Xai.elim h;obtain ⟨p,hy,h⟩:=h
 refine XaJ.p (Xmj hy) ?_
 conv=>whnf
 replace h:=Xai.elim h;obtain ⟨p1,hy,h⟩:=h
 refine XaJ.p (Xmj hy) ?_
 conv=>whnf
 replace h:=XaE.elim h;obtain ⟨hb,h⟩:=h
 try (refine req.intro hb ?_;conv=>whnf)
 all_goals (cases h;exact Res.y)
theorem ok92 (XaU:Int→Int→Option (List UInt8)) (XaG:Xab→Option Bool) (hS:Xah Tryz.prog (Xav (XAQ XaU XaG))):Xar Tryz.prog 92 (s92 (XjD XaU XaG)):=by
 refine Xar.Xax Xan (fun ar os r ha hr=>?_) ⟨Tryz.f92,rfl,by decide,rfl⟩
 replace hr:r92 (XjD XaU XaG) ar (XaH os)=some r:=hr
 unfold r92 at hr
 generalize hc:XaH os=C at hr
 replace hr:=dV.elim hr;obtain ⟨v0,l1,y0,rfl,e0,hr⟩:=hr;obtain rfl:=Xbr _ _ e0
 replace hr:=Xdw hr;obtain ⟨rfl,rfl,x,h,rfl⟩:=hr
 obtain rfl:=Xat hc
 exact ⟨_,rfl,XC0 XaU XaG hS _ x h⟩
def Xbm:Xab→Option (List UInt8):=XjD XaU XaG
theorem Xux:Xar Tryz.prog 92 (s92 Xbm):=ok92 XaU XaG (Xah.Xa0 ⟨Xpq,Xrd,trivial⟩)
def Xct (Xam:Int→Int→Option (List UInt8)) (l:List Int) (i:Int) (c:List Int):Option (Sum (Int×(List Int)) (List UInt8)):=
 let t:=decide ((wI .i64 (i+1))<(l.length:Int))
 cond (t)
  (
  XaE (decide ((0:Int)≤i∧i<(l.length:Int))) <|
  (l[i.toNat]?).bind fun (e2:Int)=>
  XaE (decide ((0:Int)≤(wI .i64 (i+1))∧(wI .i64 (i+1))<(l.length:Int))) <|
  (l[(wI .i64 (i+1)).toNat]?).bind fun (e3:Int)=>
  (Xam (wI .u64 e2) e3).bind fun p1=>
  XaE (decide ((c.length+p1.length)*1≤2^47)) <|
  let row:=c++(bI p1)
  some (.inl (wI .i64 (i+2),row)))
  (
  XaE (decide (c.length<2^63)) <|
  some (.inr (iB c)))
def Xf4 (Xam:Int→Int→Option (List UInt8)) (l:List Int):Option (List UInt8):=
 cond (decide (1<(l.length:Int)))
  (
  XaE (decide ((0:Int)≤(0:Int)∧(0:Int)<(l.length:Int))) <|
  (l[0]?).bind fun (e:Int)=>
  XaE (decide ((0:Int)≤(1:Int)∧(1:Int)<(l.length:Int))) <|
  (l[1]?).bind fun (e1:Int)=>
  (Xam (wI .u64 e) e1).bind fun p=>
  XaE (decide (p.length*1≤2^47)) <|
  iter (fun st=>Xct Xam l st.1 st.2) FUEL (2,bI p))
  (
  some ([]))
def XGD (x:List UInt8):Xcw:=⟨.string ⟨⟨x⟩⟩,[],[none]⟩
def r82 (g:(List Int)→Option (List UInt8)):Dec:=dSl 0 1 (unL (asI .i64)) fun (y0:List Int)=>Xdd (ofG (g y0) XGD)
theorem r82_c {g:(List Int)→Option (List UInt8)} {y0:List Int} {x:List UInt8} (hx:g y0=some x):r82 g [.slice (some ⟨0,0,none⟩) y0.length 1] [some (vI .i64 y0)]=some (XGD x):=(Xtv (Xtf _ _)).trans (Xa3 hx)
def s82 (g:(List Int)→Option (List UInt8)):Xbu:=⟨[.sl 1],r82 g⟩
theorem Xzy {g:(List Int)→Option (List UInt8)} {y0:List Int} {x:List UInt8} (hx:g y0=some x):(s82 g).run [.slice (some ⟨0,0,none⟩) y0.length 1] [some (vI .i64 y0)]=some (XGD x):=r82_c hx
abbrev Xu4 (Xam:Int→Int→Option (List UInt8)):List (Nat×Xbu):=[(42,s42 Xam)]
def XkI (l:List Int) (i:Int) (c:List Int):VM:=
 ⟨⟨82, 25, [(0, .slice (some ⟨0, 0, none⟩) l.length 1), (3, .pointer (some ⟨1, 0, none⟩)), (4, .int .i64 i)], [.code XuL, .inLoop XuL, .inBlock 0, .code XAx], [], false, none⟩, [], [(0, .row false (vI .i64 l)), (1, .ty 184 [.pointer (some ⟨1, 0, none⟩), .func (.method "") ⟨[.slice (some ⟨12, 0, none⟩) c.length 1]⟩ ⟨[]⟩]), (12, .ty 5 (vI .u8 c))], 13⟩
theorem Xxp (Xam:Int→Int→Option (List UInt8)) (hS:Xah Tryz.prog (Xav (Xu4 Xam))) (l:List Int) (res:List UInt8):∀ fuel (st:Int×(List Int)) (o:List UInt8),iter (fun st=>Xct Xam l st.1 st.2) fuel st=some o→(o=res) →
 XaK Tryz.prog 82 1 (XkI l st.1 st.2) (fun v H _=>Res 1 (XGD res) v H):=by
 intro fuel st o h hc
 refine XbY (head:=fun st=>XkI l st.1 st.2) (C:=fun o=>(o=res)) ?_ fuel st o h hc
 clear h hc o st fuel
 intro st o h hc
 obtain ⟨i,c⟩:=st
 replace h:Xct Xam l i c=some o:=h
 show XaK Tryz.prog 82 1 (XkI l i c) (fun v H _=>Res 1 (XGD res) v H)
 unfold Xct at h
 refine Xbi Xan hS true 3000 ?_
 conv=>whnf
 let t:Bool:=decide ((wI .i64 (i+1))<(l.length:Int))
 refine br.h2 h (by rfl) ?_ ?_
 ·clear h;intro hb h;conv=>whnf
  replace h:=XaE.elim h;obtain ⟨hb,h⟩:=h
  refine req.intro (XJO rfl (by first|rfl|(simp;done)) (by first|rfl|omega|(simp;done)|(simp;omega)|(simp at *;omega)) (of_decide_eq_true hb)) ?_
  conv=>whnf
  refine pk_us ?_
  conv=>whnf
  all_goals (cases h;cases hc)
  all_goals exact Res.of [] rfl Xhe (by decide) Xhc (XGA Xhb)
 clear h;intro hb h;conv=>whnf
 replace h:=XaE.elim h;obtain ⟨hb,h⟩:=h
 try (refine req.intro hb ?_;conv=>whnf)
 replace h:=Xai.elim h;obtain ⟨e2,hy,h⟩:=h
 refine rd.I hy (by first|rfl|(rw [Nat.zero_add,Nat.mul_one];try rfl;done)|omega) ?_
 conv=>whnf
 replace h:=XaE.elim h;obtain ⟨hb,h⟩:=h
 try (refine req.intro hb ?_;conv=>whnf)
 replace h:=Xai.elim h;obtain ⟨e3,hy,h⟩:=h
 refine rd.I hy (by first|rfl|(rw [Nat.zero_add,Nat.mul_one];try rfl;done)|omega) ?_
 conv=>whnf
 replace h:=Xai.elim h;obtain ⟨p1,hy,h⟩:=h
 refine XaJ.p (XkV hy) ?_
 conv=>whnf
 replace h:=XaE.elim h;obtain ⟨hb,h⟩:=h
 refine req.intro (XCM (of_decide_eq_true hb) (by first|rfl|omega|(simp;done)|(simp;omega)|(simp at *;omega)) rfl rfl (by first|rfl|omega|(simp;done)|(simp;omega)|(simp at *;omega)) (by first|rfl|exact XhN _ _|exact Xkg _|exact XkR _|exact XlD (by first|exact Xdt|exact XcY|exact XcO|exact Xcg|exact Xcx|exact Xch|exact XcN|exact Xdm|exact XdN|exact Xdl|exact XcZ|exact Xce|exact Xdu|exact Xb1|exact Xa7|exact Xdr|exact XdL) _|(rw [XfR];exact XhN _ _)|(simp [XhN,Xkg,XkR,Xls,Xlz,Xoe,Xop];done)|(simp;exact List.all_eq_true.1 (XlD (by first|exact Xdt|exact XcY|exact XcO|exact Xcg|exact Xcx|exact Xch|exact XcN|exact Xdm|exact XdN|exact Xdl|exact XcZ|exact Xce|exact Xdu|exact Xb1|exact Xa7|exact Xdr|exact XdL) _))) rfl) ?_
 conv=>whnf
 let row:List Int:=c++(bI p1)
 refine XH4 (xs:=c) (ys:=bI p1) (XfR _) (by first|rfl|omega|(simp;done)|(simp;omega)|(simp at *;omega)) (by first|rfl|omega|(simp;done)|(simp;omega)|(simp at *;omega)) ?_
 conv=>whnf
 cases h;simp only [Sum.elim_inl,XkI] at hc
 exact XjC hc [(0,0),(1,1),(12,23)] rfl
theorem XF8 (Xam:Int→Int→Option (List UInt8)) (hS:Xah Tryz.prog (Xav (Xu4 Xam))) (l:List Int) (res:List UInt8) (h:Xf4 Xam l=some res) :
 XaK Tryz.prog 82 1 ⟨⟨82,25,[(0,.slice (some ⟨0,0,none⟩) l.length 1)],[.code Xzm],[],false,none⟩,[],[(0,.row false (vI .i64 l))],1⟩ (fun v H _=>Res 1 (XGD res) v H):=by
 unfold Xf4 at h
 refine Xbi Xan hS true 3000 ?_
 conv=>whnf
 refine Xbi Xan hS true 3000 ?_
 conv=>whnf
 refine br.h2 h (by rfl) ?_ ?_
 ·clear h;intro hb h;conv=>whnf
  all_goals (cases h)
  all_goals exact Res.of [] rfl Xhe (by decide) Xhc (XGA Xhb)
 clear h;intro hb h;conv=>whnf
 replace h:=XaE.elim h;obtain ⟨hb,h⟩:=h
 try (refine req.intro hb ?_;conv=>whnf)
 replace h:=Xai.elim h;obtain ⟨e,hy,h⟩:=h
 refine rd.I hy (by first|rfl|(rw [Nat.zero_add,Nat.mul_one];try rfl;done)|omega) ?_
 conv=>whnf
 replace h:=XaE.elim h;obtain ⟨hb,h⟩:=h
 try (refine req.intro hb ?_;conv=>whnf)
 replace h:=Xai.elim h;obtain ⟨e1,hy,h⟩:=h
 refine rd.I hy (by first|rfl|(rw [Nat.zero_add,Nat.mul_one];try rfl;done)|omega) ?_
 conv=>whnf
 replace h:=Xai.elim h;obtain ⟨p,hy,h⟩:=h
 refine XaJ.p (XkV hy) ?_
 conv=>whnf
 replace h:=XaE.elim h;obtain ⟨hb,h⟩:=h
 refine req.intro (Xxf (of_decide_eq_true hb) (by first|rfl|omega|(simp;done)|(simp;omega)|(simp at *;omega)) rfl rfl) ?_
 conv=>whnf
 refine XCy (ys:=bI p) (XfR _) (by first|rfl|omega|(simp;done)|(simp;omega)|(simp at *;omega)) ?_
 conv=>whnf
 have hl:=Xxp Xam hS _ res _ _ _ h rfl;simp only [XkI] at hl
 exact XjC hl [(0,0),(1,1),(12,12)] rfl
theorem ok82 (Xam:Int→Int→Option (List UInt8)) (hS:Xah Tryz.prog (Xav (Xu4 Xam))):Xar Tryz.prog 82 (s82 (Xf4 Xam)):=by
 refine Xar.Xax Xan (fun ar os r ha hr=>?_) ⟨Tryz.f82,rfl,by decide,rfl⟩
 replace hr:r82 (Xf4 Xam) ar (XaH os)=some r:=hr
 unfold r82 at hr
 generalize hc:XaH os=C at hr
 have hq:=dSl.elim hr;clear hr;obtain ⟨c0,l1,C,y0,rfl,rfl,e0,hr⟩:=hq;obtain rfl:=Xwg e0
 replace hr:=Xdw hr;obtain ⟨rfl,rfl,x,h,rfl⟩:=hr
 obtain ⟨os,rfl,ha,hc⟩:=Xc3 ha hc
 obtain rfl:=Xat hc
 exact ⟨_,rfl,XF8 Xam hS _ x h⟩
def Xb4:(List Int)→Option (List UInt8):=Xf4 Xam
theorem XKd:Xar Tryz.prog 82 (s82 Xb4):=ok82 Xam (Xah.Xa0 ⟨Xnw,trivial⟩)
def Xd1 (Xc8:Xab→Option (List UInt8)) (Xbd:Xab→Option Bool) (Xb4:(List Int)→Option (List UInt8)) (src:Xab) (dst:Xab) (proto:Int) (n:Int):Option (List UInt8):=
 (Xbd src).bind fun xr=>
 cond (!xr)
  (
  some ([]))
  (
  (Xbd dst).bind fun xr1=>
  cond (!xr1)
   (
   some ([]))
   (
   cond (!(src.V6==dst.V6))
    (
    some ([]))
    (
    (Xc8 src).bind fun p=>
    (Xc8 dst).bind fun p1=>
    XaE (decide (p.length+p1.length<2^63)) <|
    cond (src.V6)
     (
     (Xb4 [n,4,0,3,proto,1]).bind fun xr2=>
     XaE (decide ((p++p1).length+xr2.length<2^63)) <|
     some ((p++p1)++xr2))
     (
     (Xb4 [0,1,proto,1,n,2]).bind fun xr3=>
     XaE (decide ((p++p1).length+xr3.length<2^63)) <|
     some ((p++p1)++xr3)))))
def XwQ (x:List UInt8):Xcw:=⟨.string ⟨⟨x⟩⟩,[],[]⟩
def r109 (g:Xab→Xab→Int→Int→Option (List UInt8)):Dec:=dV XbN fun (y0:Xab)=>dV XbN fun (y1:Xab)=>dV (asI .i64) fun (y2:Int)=>dV (asI .i64) fun (y3:Int)=>Xdd (ofG (g y0 y1 y2 y3) XwQ)
theorem XIp {g:Xab→Xab→Int→Int→Option (List UInt8)} {y0:Xab} {y1:Xab} {y2:Int} {y3:Int} {x:List UInt8} (hx:g y0 y1 y2 y3=some x):r109 g [.agg ⟨[.bool y0.V6,.int .u64 y0.Hi,.int .u64 y0.Lo]⟩,.agg ⟨[.bool y1.V6,.int .u64 y1.Hi,.int .u64 y1.Lo]⟩,.int .i64 y2,.int .i64 y3] []=some (XwQ x):=(XaX (XbC _)).trans ((XaX (XbC _)).trans ((XaX (Xcv _)).trans ((XaX (Xcv _)).trans (Xa3 hx))))
def XLm (g:Xab→Xab→Int→Int→Option (List UInt8)):Xbu:=⟨[.v,.v,.v,.v],r109 g⟩
theorem Xuk {g:Xab→Xab→Int→Int→Option (List UInt8)} {y0:Xab} {y1:Xab} {y2:Int} {y3:Int} {x:List UInt8} (hx:g y0 y1 y2 y3=some x):(XLm g).run [.agg ⟨[.bool y0.V6,.int .u64 y0.Hi,.int .u64 y0.Lo]⟩,.agg ⟨[.bool y1.V6,.int .u64 y1.Hi,.int .u64 y1.Lo]⟩,.int .i64 y2,.int .i64 y3] []=some (XwQ x):=XIp hx
abbrev XuC (Xc8:Xab→Option (List UInt8)) (Xbd:Xab→Option Bool) (Xb4:(List Int)→Option (List UInt8)):List (Nat×Xbu):=[(80,s80 Xc8),(113,XG4 Xbd),(82,s82 Xb4)]
theorem Xyf (Xc8:Xab→Option (List UInt8)) (Xbd:Xab→Option Bool) (Xb4:(List Int)→Option (List UInt8)) (hS:Xah Tryz.prog (Xav (XuC Xc8 Xbd Xb4))) (src:Xab) (dst:Xab) (proto:Int) (n:Int) (res:List UInt8) (h:Xd1 Xc8 Xbd Xb4 src dst proto n=some res) :
 XaK Tryz.prog 109 0 ⟨⟨109,44,[(0,.agg ⟨[.bool src.V6,.int .u64 src.Hi,.int .u64 src.Lo]⟩),(1,.agg ⟨[.bool dst.V6,.int .u64 dst.Hi,.int .u64 dst.Lo]⟩),(2,.int .i64 proto),(3,.int .i64 n)],[.code Xwn],[],false,none⟩,[],[],0⟩ (fun v H _=>Res 0 (XwQ res) v H):=by
 unfold Xd1 at h
 refine Xbi Xan hS true 3000 ?_
 conv=>whnf
 replace h:=Xai.elim h;obtain ⟨xr,hy,h⟩:=h
 refine XaJ.p (Xqo hy) ?_
 conv=>whnf
 refine br.h h (by rfl) ?_ ?_
 ·clear h;intro hb h;conv=>whnf
  all_goals (cases h;exact Res.y)
 clear h;intro hb h;conv=>whnf
 replace h:=Xai.elim h;obtain ⟨xr1,hy,h⟩:=h
 refine XaJ.p (Xqo hy) ?_
 conv=>whnf
 refine br.h h (by rfl) ?_ ?_
 ·clear h;intro hb h;conv=>whnf
  all_goals (cases h;exact Res.y)
 clear h;intro hb h;conv=>whnf
 refine br.h h (by rfl) ?_ ?_
 ·clear h;intro hb h;conv=>whnf
  all_goals (cases h;exact Res.y)
 clear h;intro hb h;conv=>whnf
 replace h:=Xai.elim h;obtain ⟨p,hy,h⟩:=h
 refine XaJ.p (XAX hy) ?_
 conv=>whnf
 replace h:=Xai.elim h;obtain ⟨p1,hy,h⟩:=h
 refine XaJ.p (XAX hy) ?_
 conv=>whnf
 replace h:=XaE.elim h;obtain ⟨hb,h⟩:=h
 try (refine req.intro hb ?_;conv=>whnf)
 refine br.h h (by rfl) ?_ ?_
 ·clear h;intro hb h;conv=>whnf
  replace h:=Xai.elim h;obtain ⟨xr2,hy,h⟩:=h
  refine XaJ.Xbe [] (Xaw (aqs:=[.slice (some ⟨0,0,none⟩) ([n,4,0,3,proto,1]:List Int).length 1]) (ws:=[.win 5 0 (6*1) false]) (n:=0) (m:=0) (t':=6) (Xau (by first|rfl|exact XoJ rfl rfl (by first|rfl|omega) (by first|rfl|(simp;done))|exact XpE rfl rfl (by first|rfl|omega) (by first|rfl|omega) (by first|omega|(simp at *;omega))) rfl Xbg) rfl (by rfl) (Xzy hy) rfl rfl rfl rfl (XnV rfl Xbf) Xbc rfl) ?_
  conv=>whnf
  replace h:=XaE.elim h;obtain ⟨hb,h⟩:=h
  try (refine req.intro hb ?_;conv=>whnf)
  all_goals (cases h;exact Res.y)
 clear h;intro hb h;conv=>whnf
 replace h:=Xai.elim h;obtain ⟨xr3,hy,h⟩:=h
 refine XaJ.Xbe [] (Xaw (aqs:=[.slice (some ⟨0,0,none⟩) ([0,1,proto,1,n,2]:List Int).length 1]) (ws:=[.win 5 0 (6*1) false]) (n:=0) (m:=0) (t':=6) (Xau (by first|rfl|exact XoJ rfl rfl (by first|rfl|omega) (by first|rfl|(simp;done))|exact XpE rfl rfl (by first|rfl|omega) (by first|rfl|omega) (by first|omega|(simp at *;omega))) rfl Xbg) rfl (by rfl) (Xzy hy) rfl rfl rfl rfl (XnV rfl Xbf) Xbc rfl) ?_
 conv=>whnf
 replace h:=XaE.elim h;obtain ⟨hb,h⟩:=h
 try (refine req.intro hb ?_;conv=>whnf)
 all_goals (cases h;exact Res.y)
theorem ok109 (Xc8:Xab→Option (List UInt8)) (Xbd:Xab→Option Bool) (Xb4:(List Int)→Option (List UInt8)) (hS:Xah Tryz.prog (Xav (XuC Xc8 Xbd Xb4))):Xar Tryz.prog 109 (XLm (Xd1 Xc8 Xbd Xb4)):=by
 refine Xar.Xax Xan (fun ar os r ha hr=>?_) ⟨Tryz.f109,rfl,by decide,rfl⟩
 replace hr:r109 (Xd1 Xc8 Xbd Xb4) ar (XaH os)=some r:=hr
 unfold r109 at hr
 generalize hc:XaH os=C at hr
 replace hr:=dV.elim hr;obtain ⟨v0,l1,y0,rfl,e0,hr⟩:=hr;obtain rfl:=Xbr _ _ e0
 replace hr:=dV.elim hr;obtain ⟨v1,l2,y1,rfl,e1,hr⟩:=hr;obtain rfl:=Xbr _ _ e1
 replace hr:=dV.elim hr;obtain ⟨v2,l3,y2,rfl,e2,hr⟩:=hr;obtain rfl:=XbF _ _ _ e2
 replace hr:=dV.elim hr;obtain ⟨v3,l4,y3,rfl,e3,hr⟩:=hr;obtain rfl:=XbF _ _ _ e3
 replace hr:=Xdw hr;obtain ⟨rfl,rfl,x,h,rfl⟩:=hr
 obtain rfl:=Xat hc
 exact ⟨_,rfl,Xyf Xc8 Xbd Xb4 hS _ _ _ _ x h⟩
def XaS:Xab→Xab→Int→Int→Option (List UInt8):=Xd1 Xc8 Xbd Xb4
theorem Xv2:Xar Tryz.prog 109 (XLm XaS):=ok109 Xc8 Xbd Xb4 (Xah.Xa0 ⟨XJf,Xtn,XKd,trivial⟩)
def Xjw (XaU:Int→Int→Option (List UInt8)) (n:Int) (k:Int):Option (List UInt8):=
 (XaU (wI .u64 n) k).bind fun p=>
 some (p)
def rx94 (x:List UInt8):Xcw:=⟨.string ⟨⟨x⟩⟩,[],[]⟩
def r94 (g:Int→Int→Option (List UInt8)):Dec:=dV (asI .i64) fun (y0:Int)=>dV (asI .i64) fun (y1:Int)=>Xdd (ofG (g y0 y1) rx94)
theorem r94_c {g:Int→Int→Option (List UInt8)} {y0:Int} {y1:Int} {x:List UInt8} (hx:g y0 y1=some x):r94 g [.int .i64 y0,.int .i64 y1] []=some (rx94 x):=(XaX (Xcv _)).trans ((XaX (Xcv _)).trans (Xa3 hx))
def s94 (g:Int→Int→Option (List UInt8)):Xbu:=⟨[.v,.v],r94 g⟩
theorem Xec {g:Int→Int→Option (List UInt8)} {y0:Int} {y1:Int} {x:List UInt8} (hx:g y0 y1=some x):(s94 g).run [.int .i64 y0,.int .i64 y1] []=some (rx94 x):=r94_c hx
abbrev XAR (XaU:Int→Int→Option (List UInt8)):List (Nat×Xbu):=[(85,s85 XaU)]
theorem XFT (XaU:Int→Int→Option (List UInt8)) (hS:Xah Tryz.prog (Xav (XAR XaU))) (n:Int) (k:Int) (res:List UInt8) (h:Xjw XaU n k=some res) :
 XaK Tryz.prog 94 0 ⟨⟨94,9,[(0,.int .i64 n),(1,.int .i64 k)],[.code XLf],[],false,none⟩,[],[],0⟩ (fun v H _=>Res 0 (rx94 res) v H):=by
 unfold Xjw at h
 refine Xbi Xan hS true 3000 ?_
 conv=>whnf
 replace h:=Xai.elim h;obtain ⟨p,hy,h⟩:=h
 refine XaJ.p (Xmj hy) ?_
 conv=>whnf
 all_goals (cases h;exact Res.y)
theorem ok94 (XaU:Int→Int→Option (List UInt8)) (hS:Xah Tryz.prog (Xav (XAR XaU))):Xar Tryz.prog 94 (s94 (Xjw XaU)):=by
 refine Xar.Xax Xan (fun ar os r ha hr=>?_) ⟨Tryz.f94,rfl,by decide,rfl⟩
 replace hr:r94 (Xjw XaU) ar (XaH os)=some r:=hr
 unfold r94 at hr
 generalize hc:XaH os=C at hr
 replace hr:=dV.elim hr;obtain ⟨v0,l1,y0,rfl,e0,hr⟩:=hr;obtain rfl:=XbF _ _ _ e0
 replace hr:=dV.elim hr;obtain ⟨v1,l2,y1,rfl,e1,hr⟩:=hr;obtain rfl:=XbF _ _ _ e1
 replace hr:=Xdw hr;obtain ⟨rfl,rfl,x,h,rfl⟩:=hr
 obtain rfl:=Xat hc
 exact ⟨_,rfl,XFT XaU hS _ _ x h⟩
def Xbk:Int→Int→Option (List UInt8):=Xjw XaU
theorem XzV:Xar Tryz.prog 94 (s94 Xbk):=ok94 XaU (Xah.Xa0 ⟨Xpq,trivial⟩)
def XfP (Xbm:Xab→Option (List UInt8)) (XaG:Xab→Option Bool) (Xbk:Int→Int→Option (List UInt8)) (src:Xab) (dst:Xab) (proto:Int) (n:Int):Option (List UInt8):=
 (XaG src).bind fun xr=>
 cond (!xr)
  (
  some ([]))
  (
  (XaG dst).bind fun xr1=>
  cond (!xr1)
   (
   some ([]))
   (
   cond (!(src.V6==dst.V6))
    (
    some ([]))
    (
    cond (src.V6)
     (
     (Xbm src).bind fun p=>
     (Xbm dst).bind fun p1=>
     XaE (decide (p.length+p1.length<2^63)) <|
     (Xbk n 4).bind fun n1=>
     XaE (decide ((p++p1).length+n1.length<2^63)) <|
     (Xbk 0 3).bind fun n2=>
     XaE (decide (((p++p1)++n1).length+n2.length<2^63)) <|
     (Xbk proto 1).bind fun n3=>
     XaE (decide ((((p++p1)++n1)++n2).length+n3.length<2^63)) <|
     some ((((p++p1)++n1)++n2)++n3))
     (
     (Xbm src).bind fun p2=>
     (Xbm dst).bind fun p3=>
     XaE (decide (p2.length+p3.length<2^63)) <|
     (Xbk 0 1).bind fun n4=>
     XaE (decide ((p2++p3).length+n4.length<2^63)) <|
     (Xbk proto 1).bind fun n5=>
     XaE (decide (((p2++p3)++n4).length+n5.length<2^63)) <|
     (Xbk n 2).bind fun n6=>
     XaE (decide ((((p2++p3)++n4)++n5).length+n6.length<2^63)) <|
     some ((((p2++p3)++n4)++n5)++n6)))))
def rx95 (x:List UInt8):Xcw:=⟨.string ⟨⟨x⟩⟩,[],[]⟩
def r95 (g:Xab→Xab→Int→Int→Option (List UInt8)):Dec:=dV XbN fun (y0:Xab)=>dV XbN fun (y1:Xab)=>dV (asI .i64) fun (y2:Int)=>dV (asI .i64) fun (y3:Int)=>Xdd (ofG (g y0 y1 y2 y3) rx95)
theorem r95_c {g:Xab→Xab→Int→Int→Option (List UInt8)} {y0:Xab} {y1:Xab} {y2:Int} {y3:Int} {x:List UInt8} (hx:g y0 y1 y2 y3=some x):r95 g [.agg ⟨[.bool y0.V6,.int .u64 y0.Hi,.int .u64 y0.Lo]⟩,.agg ⟨[.bool y1.V6,.int .u64 y1.Hi,.int .u64 y1.Lo]⟩,.int .i64 y2,.int .i64 y3] []=some (rx95 x):=(XaX (XbC _)).trans ((XaX (XbC _)).trans ((XaX (Xcv _)).trans ((XaX (Xcv _)).trans (Xa3 hx))))
def s95 (g:Xab→Xab→Int→Int→Option (List UInt8)):Xbu:=⟨[.v,.v,.v,.v],r95 g⟩
theorem XuN {g:Xab→Xab→Int→Int→Option (List UInt8)} {y0:Xab} {y1:Xab} {y2:Int} {y3:Int} {x:List UInt8} (hx:g y0 y1 y2 y3=some x):(s95 g).run [.agg ⟨[.bool y0.V6,.int .u64 y0.Hi,.int .u64 y0.Lo]⟩,.agg ⟨[.bool y1.V6,.int .u64 y1.Hi,.int .u64 y1.Lo]⟩,.int .i64 y2,.int .i64 y3] []=some (rx95 x):=r95_c hx
abbrev XB8 (Xbm:Xab→Option (List UInt8)) (XaG:Xab→Option Bool) (Xbk:Int→Int→Option (List UInt8)):List (Nat×Xbu):=[(92,s92 Xbm),(97,s97 XaG),(94,s94 Xbk)]
theorem XEM (Xbm:Xab→Option (List UInt8)) (XaG:Xab→Option Bool) (Xbk:Int→Int→Option (List UInt8)) (hS:Xah Tryz.prog (Xav (XB8 Xbm XaG Xbk))) (src:Xab) (dst:Xab) (proto:Int) (n:Int) (res:List UInt8) (h:XfP Xbm XaG Xbk src dst proto n=some res) :
 XaK Tryz.prog 95 0 ⟨⟨95,52,[(0,.agg ⟨[.bool src.V6,.int .u64 src.Hi,.int .u64 src.Lo]⟩),(1,.agg ⟨[.bool dst.V6,.int .u64 dst.Hi,.int .u64 dst.Lo]⟩),(2,.int .i64 proto),(3,.int .i64 n)],[.code XBO],[],false,none⟩,[],[],0⟩ (fun v H _=>Res 0 (rx95 res) v H):=by
 unfold XfP at h
 refine Xbi Xan hS true 3000 ?_
 conv=>whnf
 replace h:=Xai.elim h;obtain ⟨xr,hy,h⟩:=h
 refine XaJ.p (Xnt hy) ?_
 conv=>whnf
 refine br.h h (by rfl) ?_ ?_
 ·clear h;intro hb h;conv=>whnf
  all_goals (cases h;exact Res.y)
 clear h;intro hb h;conv=>whnf
 replace h:=Xai.elim h;obtain ⟨xr1,hy,h⟩:=h
 refine XaJ.p (Xnt hy) ?_
 conv=>whnf
 refine br.h h (by rfl) ?_ ?_
 ·clear h;intro hb h;conv=>whnf
  all_goals (cases h;exact Res.y)
 clear h;intro hb h;conv=>whnf
 refine br.h h (by rfl) ?_ ?_
 ·clear h;intro hb h;conv=>whnf
  all_goals (cases h;exact Res.y)
 clear h;intro hb h;conv=>whnf
 refine br.h h (by rfl) ?_ ?_
 ·clear h;intro hb h;conv=>whnf
  replace h:=Xai.elim h;obtain ⟨p,hy,h⟩:=h
  refine XaJ.p (XjT hy) ?_
  conv=>whnf
  replace h:=Xai.elim h;obtain ⟨p1,hy,h⟩:=h
  refine XaJ.p (XjT hy) ?_
  conv=>whnf
  replace h:=XaE.elim h;obtain ⟨hb,h⟩:=h
  try (refine req.intro hb ?_;conv=>whnf)
  replace h:=Xai.elim h;obtain ⟨n1,hy,h⟩:=h
  refine XaJ.p (Xec hy) ?_
  conv=>whnf
  replace h:=XaE.elim h;obtain ⟨hb,h⟩:=h
  try (refine req.intro hb ?_;conv=>whnf)
  replace h:=Xai.elim h;obtain ⟨n2,hy,h⟩:=h
  refine XaJ.p (Xec hy) ?_
  conv=>whnf
  replace h:=XaE.elim h;obtain ⟨hb,h⟩:=h
  try (refine req.intro hb ?_;conv=>whnf)
  replace h:=Xai.elim h;obtain ⟨n3,hy,h⟩:=h
  refine XaJ.p (Xec hy) ?_
  conv=>whnf
  replace h:=XaE.elim h;obtain ⟨hb,h⟩:=h
  try (refine req.intro hb ?_;conv=>whnf)
  all_goals (cases h;exact Res.y)
 clear h;intro hb h;conv=>whnf
 replace h:=Xai.elim h;obtain ⟨p2,hy,h⟩:=h
 refine XaJ.p (XjT hy) ?_
 conv=>whnf
 replace h:=Xai.elim h;obtain ⟨p3,hy,h⟩:=h
 refine XaJ.p (XjT hy) ?_
 conv=>whnf
 replace h:=XaE.elim h;obtain ⟨hb,h⟩:=h
 try (refine req.intro hb ?_;conv=>whnf)
 replace h:=Xai.elim h;obtain ⟨n4,hy,h⟩:=h
 refine XaJ.p (Xec hy) ?_
 conv=>whnf
 replace h:=XaE.elim h;obtain ⟨hb,h⟩:=h
 try (refine req.intro hb ?_;conv=>whnf)
 replace h:=Xai.elim h;obtain ⟨n5,hy,h⟩:=h
 refine XaJ.p (Xec hy) ?_
 conv=>whnf
 replace h:=XaE.elim h;obtain ⟨hb,h⟩:=h
 try (refine req.intro hb ?_;conv=>whnf)
 replace h:=Xai.elim h;obtain ⟨n6,hy,h⟩:=h
 refine XaJ.p (Xec hy) ?_
 conv=>whnf
 replace h:=XaE.elim h;obtain ⟨hb,h⟩:=h
 try (refine req.intro hb ?_;conv=>whnf)
 all_goals (cases h;exact Res.y)
theorem ok95 (Xbm:Xab→Option (List UInt8)) (XaG:Xab→Option Bool) (Xbk:Int→Int→Option (List UInt8)) (hS:Xah Tryz.prog (Xav (XB8 Xbm XaG Xbk))):Xar Tryz.prog 95 (s95 (XfP Xbm XaG Xbk)):=by
 refine Xar.Xax Xan (fun ar os r ha hr=>?_) ⟨Tryz.f95,rfl,by decide,rfl⟩
 replace hr:r95 (XfP Xbm XaG Xbk) ar (XaH os)=some r:=hr
 unfold r95 at hr
 generalize hc:XaH os=C at hr
 replace hr:=dV.elim hr;obtain ⟨v0,l1,y0,rfl,e0,hr⟩:=hr;obtain rfl:=Xbr _ _ e0
 replace hr:=dV.elim hr;obtain ⟨v1,l2,y1,rfl,e1,hr⟩:=hr;obtain rfl:=Xbr _ _ e1
 replace hr:=dV.elim hr;obtain ⟨v2,l3,y2,rfl,e2,hr⟩:=hr;obtain rfl:=XbF _ _ _ e2
 replace hr:=dV.elim hr;obtain ⟨v3,l4,y3,rfl,e3,hr⟩:=hr;obtain rfl:=XbF _ _ _ e3
 replace hr:=Xdw hr;obtain ⟨rfl,rfl,x,h,rfl⟩:=hr
 obtain rfl:=Xat hc
 exact ⟨_,rfl,XEM Xbm XaG Xbk hS _ _ _ _ x h⟩
def XaR:Xab→Xab→Int→Int→Option (List UInt8):=XfP Xbm XaG Xbk
theorem XtF:Xar Tryz.prog 95 (s95 XaR):=ok95 Xbm XaG Xbk (Xah.Xa0 ⟨Xux,Xrd,XzV,trivial⟩)
end Go.Vm.Code
namespace Go.Vm.Code
open Go Go.Vm
def A4 (a:Xab):Prop:=0≤a.Hi∧a.Hi<2^64∧0≤a.Lo∧a.Lo<2^64
def aok (a:Xab):Bool:=a.V6||(a.Hi==0&&decide (a.Lo<4294967296))
theorem Xmn (a:Xab):Xbd a=some (aok a):=by
 unfold Xbd Xgb aok
 cases a.V6
 ·cases (a.Hi==0)<;>rfl
 ·rfl
theorem Xly (a:Xab):XaG a=some (aok a):=by
 unfold XaG XgR aok
 cases a.V6
 ·cases (a.Hi==0)<;>rfl
 ·rfl
def Xiy (a:Xab):List UInt8:=cond a.V6 (be a.Hi.toNat 8++be a.Lo.toNat 8) (be a.Lo.toNat 4)
theorem Xe8 (a:Xab):(Xiy a).length=cond a.V6 16 4:=by unfold Xiy;cases a.V6<;>simp
theorem Xgy {n:Int} {k:Nat} (h:1≤k∧k≤8):Xhd n (k:Int)=be n.toNat k:=by unfold Xhd;rw [if_pos (by omega)];rfl
theorem Xum {a:Xab} (h:A4 a) (hr:aok a=true):Xc8 a=some (Xiy a):=by
 obtain ⟨h1,h2,h3,h4⟩:=h
 unfold Xc8 XhY Xiy
 rw [Xmn,Option.bind_some,hr]
 simp only [Bool.not_true,cond_false]
 cases a.V6
 ·simp only [cond_false]
  rw [Xdq h3,Option.bind_some,show (4:Int)=((4:Nat):Int) from rfl,Xgy (by omega)]
 ·simp only [cond_true]
  rw [Xdq h1,Option.bind_some,Xdq h3,Option.bind_some,show (8:Int)=((8:Nat):Int) from rfl,Xgy (by omega),Xgy (by omega),XaL (by simp)]
theorem XrB {a:Xab} (h:A4 a) (hr:aok a=true):Xbm a=some (Xiy a):=by
 obtain ⟨h1,h2,h3,h4⟩:=h
 unfold Xbm XjD Xiy
 rw [Xly,Option.bind_some,hr]
 simp only [Bool.not_true,cond_false]
 cases a.V6
 ·simp only [cond_false]
  rw [Xji h3 h4,Option.bind_some,show (4:Int)=((4:Nat):Int) from rfl,Xgy (by omega)]
 ·simp only [cond_true]
  rw [Xji h1 h2,Option.bind_some,Xji h3 h4,Option.bind_some,show (8:Int)=((8:Nat):Int) from rfl,Xgy (by omega),Xgy (by omega),XaL (by simp)]
theorem XmH {n k:Int} (h0:0≤n) (h1:n<2^63):Xbk n k=some (Xhd n k):=by
 unfold Xbk Xjw
 rw [XpZ h0 (by omega),Xji h0 (by omega)];rfl
theorem Xda (n k:Int):(Xhd n k).length≤8:=by unfold Xhd;split<;>simp<;>omega
theorem iB_bI (s:List UInt8):iB (bI s)=s:=by simp [iB,bI,List.map_map,Function.comp_def]
theorem XzH (a b:List UInt8):bI (a++b)=bI a++bI b:=by simp [bI]
theorem XrY {σ ρ:Type} {f:σ→Option (Sum σ ρ)} {n:Nat} {s s':σ} (h:f s=some (.inl s')):iter f (n+1) s=iter f n s':=by rw [iter,h]
theorem Xzh {σ ρ:Type} {f:σ→Option (Sum σ ρ)} {n:Nat} {s:σ} {r:ρ} (h:f s=some (.inr r)):iter f (n+1) s=some r:=by rw [iter,h]
theorem XvS:∃ n,FUEL=n+8:=⟨18446744073709551608,rfl⟩
theorem XzF {a b c d e f:Int} (ha:0≤a) (hc:0≤c) (he:0≤e) (ha1:a<2^63) (hc1:c<2^63) (he1:e<2^63):Xb4 [a,b,c,d,e,f]=some (Xhd a b++Xhd c d++Xhd e f):=by
 have l1:=Xda a b
 have l2:=Xda c d
 have l3:=Xda e f
 unfold Xb4 Xf4
 rw [XaZ (by simp),XaL (by simp)]
 show ((some a).bind _)=_
 rw [Option.bind_some,XaL (by simp)]
 show ((some b).bind _)=_
 rw [Option.bind_some,XpZ ha (by omega),Xdq ha,Option.bind_some,XaL (by omega)]
 obtain ⟨n,hn⟩:=XvS
 rw [hn]
 have s1:Xct Xam [a,b,c,d,e,f] 2 (bI (Xhd a b))=some (.inl (4,bI (Xhd a b++Xhd c d))):=by
  unfold Xct
  simp only []
  rw [XaZ (by rw [show wI .i64 (2+1)=3 from rfl];simp),XaL (by simp)]
  show ((some c).bind _)=_
  rw [Option.bind_some,XaL (by rw [show wI .i64 (2+1)=3 from rfl];simp)]
  show ((some d).bind _)=_
  rw [Option.bind_some,XpZ hc (by omega),Xdq hc,Option.bind_some,XaL (by simp;omega),XzH];rfl
 have s2:Xct Xam [a,b,c,d,e,f] 4 (bI (Xhd a b++Xhd c d))=some (.inl (6,bI (Xhd a b++Xhd c d++Xhd e f))):=by
  unfold Xct
  simp only []
  rw [XaZ (by rw [show wI .i64 (4+1)=5 from rfl];simp),XaL (by simp)]
  show ((some e).bind _)=_
  rw [Option.bind_some,XaL (by rw [show wI .i64 (4+1)=5 from rfl];simp)]
  show ((some f).bind _)=_
  rw [Option.bind_some,XpZ he (by omega),Xdq he,Option.bind_some,XaL (by simp;omega),XzH (Xhd a b++Xhd c d)];rfl
 have s3:Xct Xam [a,b,c,d,e,f] 6 (bI (Xhd a b++Xhd c d++Xhd e f))=some (.inr (Xhd a b++Xhd c d++Xhd e f)):=by
  unfold Xct
  simp only []
  rw [XaO (by rw [show wI .i64 (6+1)=7 from rfl];simp),XaL (by simp;omega),iB_bI]
 rw [XrY (f:=fun (st:Int×List Int)=>Xct Xam [a,b,c,d,e,f] st.1 st.2) (n:=n+7) s1,XrY (n:=n+6) s2,Xzh (n:=n+5) s3]
def Xlw (src dst:Xab) (p n:Int):List UInt8:=
 if aok src=true∧aok dst=true∧src.V6=dst.V6 then Xiy src++Xiy dst++cond src.V6 (Xhd n 4++Xhd 0 3++Xhd p 1) (Xhd 0 1++Xhd p 1++Xhd n 2) else []
theorem Xl8 (src dst:Xab) (p n:Int):(Xlw src dst p n).length≤56:=by
 have l1:=Xda n 4
 have l2:=Xda 0 3
 have l3:=Xda p 1
 have l4:=Xda 0 1
 have l5:=Xda n 2
 unfold Xlw
 split
 ·rw [List.length_append,List.length_append,Xe8,Xe8]
  cases src.V6<;>cases dst.V6<;>simp<;>omega
 ·simp
theorem XpO {src dst:Xab} {p n:Int} (h1:A4 src) (h2:A4 dst) (hp:0≤p∧p<2^63) (hn:0≤n∧n<2^63):XaS src dst p n=some (Xlw src dst p n):=by
 unfold XaS Xd1 Xlw
 rw [Xmn,Xmn,Option.bind_some]
 cases e1:aok src
 ·simp
 simp only [Bool.not_true,cond_false,Option.bind_some]
 cases e2:aok dst
 ·simp
 simp only [Bool.not_true,cond_false]
 by_cases e3:src.V6=dst.V6
 ·rw [if_pos (by simpa using e3),show (src.V6==dst.V6)=true by simpa using e3]
  simp only [Bool.not_true,cond_false]
  have l1:=Xe8 src
  have l2:=Xe8 dst
  rw [Xum h1 e1,Option.bind_some,Xum h2 e2,Option.bind_some,XaL (by rw [l1,l2];cases src.V6<;>cases dst.V6<;>decide)]
  rw [XzF hn.1 (by omega) hp.1 hn.2 (by omega) hp.2,XzF (by omega) hp.1 hn.1 (by omega) hp.2 hn.2]
  have m1:=Xda n 4
  have m2:=Xda 0 3
  have m3:=Xda p 1
  have m4:=Xda 0 1
  have m5:=Xda n 2
  have b1:(Xiy src).length≤16:=by rw [l1];cases src.V6<;>decide
  have b2:(Xiy dst).length≤16:=by rw [l2];cases dst.V6<;>decide
  cases src.V6
  ·simp only [cond_false,Option.bind_some]
   rw [XaL (by simp only [List.length_append];omega)]
  ·simp only [cond_true,Option.bind_some]
   rw [XaL (by simp only [List.length_append];omega)]
 ·rw [if_neg (fun h=>e3 h.2.2),show (src.V6==dst.V6)=false by simpa using e3];rfl
theorem Xnh {src dst:Xab} {p n:Int} (h1:A4 src) (h2:A4 dst) (hp:0≤p∧p<2^63) (hn:0≤n∧n<2^63):XaR src dst p n=some (Xlw src dst p n):=by
 unfold XaR XfP Xlw
 rw [Xly,Xly,Option.bind_some]
 cases e1:aok src
 ·simp
 simp only [Bool.not_true,cond_false,Option.bind_some]
 cases e2:aok dst
 ·simp
 simp only [Bool.not_true,cond_false]
 by_cases e3:src.V6=dst.V6
 ·rw [if_pos (by simpa using e3),show (src.V6==dst.V6)=true by simpa using e3]
  simp only [Bool.not_true,cond_false]
  have l1:=Xe8 src
  have l2:=Xe8 dst
  have m1:=Xda n 4
  have m2:=Xda 0 3
  have m3:=Xda p 1
  have m4:=Xda 0 1
  have m5:=Xda n 2
  have b1:(Xiy src).length≤16:=by rw [l1];cases src.V6<;>decide
  have b2:(Xiy dst).length≤16:=by rw [l2];cases dst.V6<;>decide
  rw [XrB h1 e1,XrB h2 e2,XmH hn.1 hn.2,XmH (n:=0) (k:=3) (by omega) (by omega),XmH hp.1 hp.2,XmH (n:=0) (k:=1) (by omega) (by omega),XmH hn.1 hn.2]
  cases src.V6
  ·simp only [cond_false,Option.bind_some]
   rw [XaL (by omega),XaL (by simp only [List.length_append];omega),XaL (by simp only [List.length_append];omega),XaL (by simp only [List.length_append];omega)]
   simp only [List.append_assoc]
  ·simp only [cond_true,Option.bind_some]
   rw [XaL (by omega),XaL (by simp only [List.length_append];omega),XaL (by simp only [List.length_append];omega),XaL (by simp only [List.length_append];omega)]
   simp only [List.append_assoc]
 ·rw [if_neg (fun h=>e3 h.2.2),show (src.V6==dst.V6)=false by simpa using e3];rfl
end Go.Vm.Code
namespace Go.Vm.Code
open Go Go.Vm Go.Proofs
set_option maxRecDepth 100000
set_option maxHeartbeats 4000000
set_option linter.unusedVariables false
def Xc0 (ra0:Xaa):Option (Bool×Xaa):=
 cond (!ra0.made)
  (
  some ((true,ra0)))
  (
  some ((ra0.bad,ra0)))
def rx63 (x:Bool×Xaa):Xcw:=⟨.bool x.1,[],[some [.string ⟨⟨x.2.s⟩⟩,.bool x.2.made,.bool x.2.bad]]⟩
def r63 (g:Xaa→Option (Bool×Xaa)):Dec:=dPt 0 XcE fun (y0:Xaa)=>Xdd (ofG (g y0) rx63)
theorem r63_c {g:Xaa→Option (Bool×Xaa)} {y0:Xaa} {x:Bool×Xaa} (hx:g y0=some x):r63 g [.pointer (some ⟨0,0,none⟩)] [some [.string ⟨⟨y0.s⟩⟩,.bool y0.made,.bool y0.bad]]=some (rx63 x):=(Xkt (XdU _)).trans (Xa3 hx)
def s63 (g:Xaa→Option (Bool×Xaa)):Xbu:=⟨[.pt 3],r63 g⟩
theorem XjI {g:Xaa→Option (Bool×Xaa)} {y0:Xaa} {x:Bool×Xaa} (hx:g y0=some x):(s63 g).run [.pointer (some ⟨0,0,none⟩)] [some [.string ⟨⟨y0.s⟩⟩,.bool y0.made,.bool y0.bad]]=some (rx63 x):=r63_c hx
abbrev XAz:List (Nat×Xbu):=[]
theorem XFn (hS:Xah Tryz.prog (Xav (XAz))) (ra0:Xaa) (res:Bool×Xaa) (h:Xc0 ra0=some res) :
 XaK Tryz.prog 63 1 ⟨⟨63,18,[(0,.pointer (some ⟨0,0,none⟩))],[.code XI5],[],false,none⟩,[],[(0,.cells [.string ⟨⟨ra0.s⟩⟩,.bool ra0.made,.bool ra0.bad])],1⟩ (fun v H _=>Res 1 (rx63 res) v H):=by
 unfold Xc0 at h
 refine Xbi Xan hS true 3000 ?_
 conv=>whnf
 refine br.h h (by rfl) ?_ ?_
 ·clear h;intro hb h;conv=>whnf
  all_goals (cases h)
  all_goals exact Res.of [] rfl Xhe (by decide) Xhc (XlM (rfl) (XbW rfl) Xhb)
 clear h;intro hb h;conv=>whnf
 all_goals (cases h)
 all_goals exact Res.of [] rfl Xhe (by decide) Xhc (XlM (rfl) (XbW rfl) Xhb)
theorem ok63 (hS:Xah Tryz.prog (Xav (XAz))):Xar Tryz.prog 63 (s63 (Xc0)):=by
 refine Xar.Xax Xan (fun ar os r ha hr=>?_) ⟨Tryz.f63,rfl,by decide,rfl⟩
 replace hr:r63 (Xc0) ar (XaH os)=some r:=hr
 unfold r63 at hr
 generalize hc:XaH os=C at hr
 have hq:=dPt.elim hr;clear hr;obtain ⟨c0,l1,C,y0,rfl,rfl,e0,hr⟩:=hq;obtain rfl:=Xc2 _ _ e0
 replace hr:=Xdw hr;obtain ⟨rfl,rfl,x,h,rfl⟩:=hr
 obtain ⟨os,rfl,ha,hc⟩:=Xc3 ha hc
 obtain rfl:=Xat hc
 exact ⟨_,rfl,XFn hS _ x h⟩
def Xaf:Xaa→Option (Bool×Xaa):=Xc0
theorem XnI:Xar Tryz.prog 63 (s63 Xaf):=ok63 (Xah.Xa0 trivial)
def XcR (Xaf:Xaa→Option (Bool×Xaa)) (ra0:Xaa) (n:Int):Option ((List UInt8)×Xaa):=
 (Xaf ra0).bind fun b=>
 cond (b.1)
  (
  some (([],b.2)))
  (
  cond (decide (n<0))
   (
   some (([],Xaa.mk b.2.s b.2.made true)))
   (
   cond (decide (n>(b.2.s.length:Int)))
    (
    some (([],Xaa.mk b.2.s b.2.made true)))
    (
    XaE (decide ((0:Int)≤n∧n≤(b.2.s.length:Int))) <|
    XaE (decide ((0:Int)≤n∧n≤(b.2.s.length:Int))) <|
    let t:=(b.2.s.drop n.toNat).take (b.2.s.length - n.toNat)
    some ((b.2.s.take n.toNat,Xaa.mk t b.2.made b.2.bad)))))
def rx64 (x:(List UInt8)×Xaa):Xcw:=⟨.string ⟨⟨x.1⟩⟩,[],[some [.string ⟨⟨x.2.s⟩⟩,.bool x.2.made,.bool x.2.bad]]⟩
def r64 (g:Xaa→Int→Option ((List UInt8)×Xaa)):Dec:=dPt 0 XcE fun (y0:Xaa)=>dV (asI .i64) fun (y1:Int)=>Xdd (ofG (g y0 y1) rx64)
theorem r64_c {g:Xaa→Int→Option ((List UInt8)×Xaa)} {y0:Xaa} {y1:Int} {x:(List UInt8)×Xaa} (hx:g y0 y1=some x):r64 g [.pointer (some ⟨0,0,none⟩),.int .i64 y1] [some [.string ⟨⟨y0.s⟩⟩,.bool y0.made,.bool y0.bad]]=some (rx64 x):=(Xkt (XdU _)).trans ((XaX (Xcv _)).trans (Xa3 hx))
def s64 (g:Xaa→Int→Option ((List UInt8)×Xaa)):Xbu:=⟨[.pt 3,.v],r64 g⟩
theorem Xhl {g:Xaa→Int→Option ((List UInt8)×Xaa)} {y0:Xaa} {y1:Int} {x:(List UInt8)×Xaa} (hx:g y0 y1=some x):(s64 g).run [.pointer (some ⟨0,0,none⟩),.int .i64 y1] [some [.string ⟨⟨y0.s⟩⟩,.bool y0.made,.bool y0.bad]]=some (rx64 x):=r64_c hx
abbrev Xz6 (Xaf:Xaa→Option (Bool×Xaa)):List (Nat×Xbu):=[(63,s63 Xaf)]
theorem XEK (Xaf:Xaa→Option (Bool×Xaa)) (hS:Xah Tryz.prog (Xav (Xz6 Xaf))) (ra0:Xaa) (n:Int) (res:(List UInt8)×Xaa) (h:XcR Xaf ra0 n=some res) :
 XaK Tryz.prog 64 1 ⟨⟨64,38,[(0,.pointer (some ⟨0,0,none⟩)),(1,.int .i64 n)],[.code XzL],[],false,none⟩,[],[(0,.cells [.string ⟨⟨ra0.s⟩⟩,.bool ra0.made,.bool ra0.bad])],1⟩ (fun v H _=>Res 1 (rx64 res) v H):=by
 unfold XcR at h
 refine Xbi Xan hS true 3000 ?_
 conv=>whnf
 replace h:=Xai.elim h;obtain ⟨b,hy,h⟩:=h
 refine XaJ.Xbe [0] (Xaw (aqs:=[.pointer (some ⟨0,0,none⟩)]) (ws:=[.win 0 0 3 true]) (n:=0) (m:=0) (t':=1) (Xau rfl rfl Xbg) rfl (by rfl) (XjI hy) rfl rfl rfl rfl (XbD rfl rfl rfl ⟨rfl,Nat.le_of_ble_eq_true rfl⟩ rfl rfl Xbf) Xbc rfl) ?_
 conv=>whnf
 refine br.h h (by rfl) ?_ ?_
 ·clear h;intro hb h;conv=>whnf
  all_goals (cases h)
  all_goals exact Res.of [] rfl Xhe (by decide) Xhc (XlM (rfl) (XbW rfl) Xhb)
 clear h;intro hb h;conv=>whnf
 refine br.h h (by rfl) ?_ ?_
 ·clear h;intro hb h;conv=>whnf
  all_goals (cases h)
  all_goals exact Res.of [] rfl Xhe (by decide) Xhc (XlM (rfl) (XbW rfl) Xhb)
 clear h;intro hb h;conv=>whnf
 refine br.h h (by rfl) ?_ ?_
 ·clear h;intro hb h;conv=>whnf
  all_goals (cases h)
  all_goals exact Res.of [] rfl Xhe (by decide) Xhc (XlM (rfl) (XbW rfl) Xhb)
 clear h;intro hb h;conv=>whnf
 replace h:=XaE.elim h;obtain ⟨hb,h⟩:=h
 try (refine req.intro hb ?_;conv=>whnf)
 replace h:=XaE.elim h;obtain ⟨hb,h⟩:=h
 try (refine req.intro hb ?_;conv=>whnf)
 let t:List UInt8:=(b.2.s.drop n.toNat).take (b.2.s.length - n.toNat)
 all_goals (cases h)
 all_goals exact Res.of [] rfl Xhe (by decide) Xhc (XlM (rfl) (XbW rfl) Xhb)
theorem ok64 (Xaf:Xaa→Option (Bool×Xaa)) (hS:Xah Tryz.prog (Xav (Xz6 Xaf))):Xar Tryz.prog 64 (s64 (XcR Xaf)):=by
 refine Xar.Xax Xan (fun ar os r ha hr=>?_) ⟨Tryz.f64,rfl,by decide,rfl⟩
 replace hr:r64 (XcR Xaf) ar (XaH os)=some r:=hr
 unfold r64 at hr
 generalize hc:XaH os=C at hr
 have hq:=dPt.elim hr;clear hr;obtain ⟨c0,l1,C,y0,rfl,rfl,e0,hr⟩:=hq;obtain rfl:=Xc2 _ _ e0
 replace hr:=dV.elim hr;obtain ⟨v1,l2,y1,rfl,e1,hr⟩:=hr;obtain rfl:=XbF _ _ _ e1
 replace hr:=Xdw hr;obtain ⟨rfl,rfl,x,h,rfl⟩:=hr
 obtain ⟨os,rfl,ha,hc⟩:=Xc3 ha hc
 obtain rfl:=Xat hc
 exact ⟨_,rfl,XEK Xaf hS _ _ x h⟩
def Xac:Xaa→Int→Option ((List UInt8)×Xaa):=XcR Xaf
theorem XlG:Xar Tryz.prog 64 (s64 Xac):=ok64 Xaf (Xah.Xa0 ⟨XnI,trivial⟩)
def Xc1 (Xal:(List UInt8)→Int→Int→Option (Int×Bool)) (Xac:Xaa→Int→Option ((List UInt8)×Xaa)) (ra0:Xaa) (k:Int):Option (Int×Xaa):=
 cond (decide (k<1))
  (
  (Xac ra0 (-1)).bind fun t=>
  (Xal t.1 0 (-1)).bind fun xg=>
  some ((wI .i64 xg.1,t.2)))
  (
  cond (decide (k>7))
   (
   (Xac ra0 (-1)).bind fun t1=>
   (Xal t1.1 0 (-1)).bind fun xg1=>
   some ((wI .i64 xg1.1,t1.2)))
   (
   (Xac ra0 k).bind fun t2=>
   (Xal t2.1 0 k).bind fun xg2=>
   some ((wI .i64 xg2.1,t2.2))))
def rx62 (x:Int×Xaa):Xcw:=⟨.int .i64 x.1,[],[some [.string ⟨⟨x.2.s⟩⟩,.bool x.2.made,.bool x.2.bad]]⟩
def r62 (g:Xaa→Int→Option (Int×Xaa)):Dec:=dPt 0 XcE fun (y0:Xaa)=>dV (asI .i64) fun (y1:Int)=>Xdd (ofG (g y0 y1) rx62)
theorem r62_c {g:Xaa→Int→Option (Int×Xaa)} {y0:Xaa} {y1:Int} {x:Int×Xaa} (hx:g y0 y1=some x):r62 g [.pointer (some ⟨0,0,none⟩),.int .i64 y1] [some [.string ⟨⟨y0.s⟩⟩,.bool y0.made,.bool y0.bad]]=some (rx62 x):=(Xkt (XdU _)).trans ((XaX (Xcv _)).trans (Xa3 hx))
def s62 (g:Xaa→Int→Option (Int×Xaa)):Xbu:=⟨[.pt 3,.v],r62 g⟩
theorem XdC {g:Xaa→Int→Option (Int×Xaa)} {y0:Xaa} {y1:Int} {x:Int×Xaa} (hx:g y0 y1=some x):(s62 g).run [.pointer (some ⟨0,0,none⟩),.int .i64 y1] [some [.string ⟨⟨y0.s⟩⟩,.bool y0.made,.bool y0.bad]]=some (rx62 x):=r62_c hx
abbrev Xzr (Xal:(List UInt8)→Int→Int→Option (Int×Bool)) (Xac:Xaa→Int→Option ((List UInt8)×Xaa)):List (Nat×Xbu):=[(40,s40 Xal),(64,s64 Xac)]
theorem XEq (Xal:(List UInt8)→Int→Int→Option (Int×Bool)) (Xac:Xaa→Int→Option ((List UInt8)×Xaa)) (hS:Xah Tryz.prog (Xav (Xzr Xal Xac))) (ra0:Xaa) (k:Int) (res:Int×Xaa) (h:Xc1 Xal Xac ra0 k=some res) :
 XaK Tryz.prog 62 1 ⟨⟨62,23,[(0,.pointer (some ⟨0,0,none⟩)),(1,.int .i64 k)],[.code XAT],[],false,none⟩,[],[(0,.cells [.string ⟨⟨ra0.s⟩⟩,.bool ra0.made,.bool ra0.bad])],1⟩ (fun v H _=>Res 1 (rx62 res) v H):=by
 unfold Xc1 at h
 refine Xbi Xan hS true 3000 ?_
 conv=>whnf
 refine br.h h (by rfl) ?_ ?_
 ·clear h;intro hb h;conv=>whnf
  replace h:=Xai.elim h;obtain ⟨t,hy,h⟩:=h
  refine XaJ.Xbe [0] (Xaw (aqs:=[.pointer (some ⟨0,0,none⟩),.int .i64 (-1)]) (ws:=[.win 0 0 3 true]) (n:=0) (m:=0) (t':=1) (Xau rfl rfl (Xau rfl rfl Xbg)) rfl (by rfl) (Xhl hy) rfl rfl rfl rfl (XbD rfl rfl rfl ⟨rfl,Nat.le_of_ble_eq_true rfl⟩ rfl rfl Xbf) Xbc rfl) ?_
  conv=>whnf
  replace h:=Xai.elim h;obtain ⟨xg,hy,h⟩:=h
  refine XaJ.p (XhP hy) ?_
  conv=>whnf
  all_goals (cases h)
  all_goals exact Res.of [] rfl Xhe (by decide) Xhc (XlM (rfl) (XbW rfl) Xhb)
 clear h;intro hb h;conv=>whnf
 refine br.h h (by rfl) ?_ ?_
 ·clear h;intro hb h;conv=>whnf
  replace h:=Xai.elim h;obtain ⟨t1,hy,h⟩:=h
  refine XaJ.Xbe [0] (Xaw (aqs:=[.pointer (some ⟨0,0,none⟩),.int .i64 (-1)]) (ws:=[.win 0 0 3 true]) (n:=0) (m:=0) (t':=1) (Xau rfl rfl (Xau rfl rfl Xbg)) rfl (by rfl) (Xhl hy) rfl rfl rfl rfl (XbD rfl rfl rfl ⟨rfl,Nat.le_of_ble_eq_true rfl⟩ rfl rfl Xbf) Xbc rfl) ?_
  conv=>whnf
  replace h:=Xai.elim h;obtain ⟨xg1,hy,h⟩:=h
  refine XaJ.p (XhP hy) ?_
  conv=>whnf
  all_goals (cases h)
  all_goals exact Res.of [] rfl Xhe (by decide) Xhc (XlM (rfl) (XbW rfl) Xhb)
 clear h;intro hb h;conv=>whnf
 replace h:=Xai.elim h;obtain ⟨t2,hy,h⟩:=h
 refine XaJ.Xbe [0] (Xaw (aqs:=[.pointer (some ⟨0,0,none⟩),.int .i64 k]) (ws:=[.win 0 0 3 true]) (n:=0) (m:=0) (t':=1) (Xau rfl rfl (Xau rfl rfl Xbg)) rfl (by rfl) (Xhl hy) rfl rfl rfl rfl (XbD rfl rfl rfl ⟨rfl,Nat.le_of_ble_eq_true rfl⟩ rfl rfl Xbf) Xbc rfl) ?_
 conv=>whnf
 replace h:=Xai.elim h;obtain ⟨xg2,hy,h⟩:=h
 refine XaJ.p (XhP hy) ?_
 conv=>whnf
 all_goals (cases h)
 all_goals exact Res.of [] rfl Xhe (by decide) Xhc (XlM (rfl) (XbW rfl) Xhb)
theorem ok62 (Xal:(List UInt8)→Int→Int→Option (Int×Bool)) (Xac:Xaa→Int→Option ((List UInt8)×Xaa)) (hS:Xah Tryz.prog (Xav (Xzr Xal Xac))):Xar Tryz.prog 62 (s62 (Xc1 Xal Xac)):=by
 refine Xar.Xax Xan (fun ar os r ha hr=>?_) ⟨Tryz.f62,rfl,by decide,rfl⟩
 replace hr:r62 (Xc1 Xal Xac) ar (XaH os)=some r:=hr
 unfold r62 at hr
 generalize hc:XaH os=C at hr
 have hq:=dPt.elim hr;clear hr;obtain ⟨c0,l1,C,y0,rfl,rfl,e0,hr⟩:=hq;obtain rfl:=Xc2 _ _ e0
 replace hr:=dV.elim hr;obtain ⟨v1,l2,y1,rfl,e1,hr⟩:=hr;obtain rfl:=XbF _ _ _ e1
 replace hr:=Xdw hr;obtain ⟨rfl,rfl,x,h,rfl⟩:=hr
 obtain ⟨os,rfl,ha,hc⟩:=Xc3 ha hc
 obtain rfl:=Xat hc
 exact ⟨_,rfl,XEq Xal Xac hS _ _ x h⟩
def Xad:Xaa→Int→Option (Int×Xaa):=Xc1 Xal Xac
theorem Xnq:Xar Tryz.prog 62 (s62 Xad):=ok62 Xal Xac (Xah.Xa0 ⟨XnH,XlG,trivial⟩)
def XhV (s:List UInt8):Option Xaa:=
 some (Xaa.mk s true false)
def rx61 (x:Xaa):Xcw:=⟨.pointer (some ⟨0,0,none⟩),[[.string ⟨⟨x.s⟩⟩,.bool x.made,.bool x.bad]],[]⟩
def r61 (g:(List UInt8)→Option Xaa):Dec:=dV asS fun (y0:List UInt8)=>Xdd (ofG (g y0) rx61)
theorem r61_c {g:(List UInt8)→Option Xaa} {y0:List UInt8} {x:Xaa} (hx:g y0=some x):r61 g [.string ⟨⟨y0⟩⟩] []=some (rx61 x):=(XaX (XcI)).trans (Xa3 hx)
def s61 (g:(List UInt8)→Option Xaa):Xbu:=⟨[.v],r61 g⟩
theorem XoW {g:(List UInt8)→Option Xaa} {y0:List UInt8} {x:Xaa} (hx:g y0=some x):(s61 g).run [.string ⟨⟨y0⟩⟩] []=some (rx61 x):=r61_c hx
abbrev XBE:List (Nat×Xbu):=[]
theorem XC4 (hS:Xah Tryz.prog (Xav (XBE))) (s:List UInt8) (res:Xaa) (h:XhV s=some res) :
 XaK Tryz.prog 61 0 ⟨⟨61,6,[(0,.string ⟨⟨s⟩⟩)],[.code XHZ],[],false,none⟩,[],[],0⟩ (fun v H _=>Res 0 (rx61 res) v H):=by
 unfold XhV at h
 refine Xbi Xan hS true 3000 ?_
 conv=>whnf
 all_goals (cases h)
 all_goals exact Res.of [0] rfl (Xsc (rfl) (XbW rfl) Xhe) (by decide) (Xsq (by decide) Xhc) Xhb
theorem ok61 (hS:Xah Tryz.prog (Xav (XBE))):Xar Tryz.prog 61 (s61 (XhV)):=by
 refine Xar.Xax Xan (fun ar os r ha hr=>?_) ⟨Tryz.f61,rfl,by decide,rfl⟩
 replace hr:r61 (XhV) ar (XaH os)=some r:=hr
 unfold r61 at hr
 generalize hc:XaH os=C at hr
 replace hr:=dV.elim hr;obtain ⟨v0,l1,y0,rfl,e0,hr⟩:=hr;obtain rfl:=XbM _ _ e0
 replace hr:=Xdw hr;obtain ⟨rfl,rfl,x,h,rfl⟩:=hr
 obtain rfl:=Xat hc
 exact ⟨_,rfl,XC4 hS _ x h⟩
def Xay:(List UInt8)→Option Xaa:=XhV
theorem XpX:Xar Tryz.prog 61 (s61 Xay):=ok61 (Xah.Xa0 trivial)
end Go.Vm.Code
namespace Go.Vm.Code
open Go Go.Vm
def rdr (r:Xaa) (k:Int):Xaa:=if r.bad=true∨k<0∨k>r.s.length then ⟨r.s,true,true⟩ else ⟨r.s.drop k.toNat,true,false⟩
def rdt (r:Xaa) (k:Int):List UInt8:=if r.bad=true∨k<0∨k>r.s.length then [] else r.s.take k.toNat
theorem Xd4 {r:Xaa} (h:r.made=true):Xaf r=some (r.bad,r):=by
 unfold Xaf Xc0
 rw [h];rfl
theorem XeA {r:Xaa} {k:Int} (h:r.made=true):Xac r k=some (rdt r k,rdr r k):=by
 unfold Xac XcR rdt rdr
 rw [Xd4 h,Option.bind_some]
 simp only []
 obtain ⟨s,m,b⟩:=r
 simp only at h ⊢
 subst h
 cases b with
 | true=>simp
 | false=>
   rw [cond_false]
   by_cases h1:k<0
   ·rw [XaZ h1,if_pos (by omega),if_pos (by omega)]
   rw [XaO h1]
   by_cases h2:k>s.length
   ·rw [XaZ h2,if_pos (by omega),if_pos (by omega)]
   ·have e:(s.drop k.toNat).take (s.length - k.toNat)=s.drop k.toNat:=List.take_of_length_le (by simp)
    rw [XaO h2,XaL (by omega),XaL (by omega),if_neg (by simp;omega),if_neg (by simp;omega),e]
theorem Xfs (r:Xaa) (k:Int):(rdr r k).made=true:=by unfold rdr;split<;>rfl
theorem XqM {r:Xaa} {k:Int}:(rdr r k).bad=false↔r.bad=false∧0≤k∧k≤r.s.length:=by
 unfold rdr
 split
 ·rename_i h
  simp only [Bool.true_eq_false,false_iff]
  intro ⟨a,b,c⟩
  rcases h with h|h|h
  ·rw [a] at h;cases h
  ·omega
  ·omega
 ·rename_i h
  simp only [true_iff]
  cases hb:r.bad
  ·exact ⟨rfl,by omega,by omega⟩
  ·exact absurd (.inl hb) h
theorem XFk {r:Xaa} {k:Int} (h:(rdr r k).bad=false):((rdr r k).s.length:Int)=r.s.length - k:=by
 obtain ⟨a,b,c⟩:=XqM.1 h
 unfold rdr
 rw [if_neg (by rw [a];simp;omega)]
 simp;omega
theorem Xge {r r':Xaa} {k:Int} (h:rdr r k=r') (hb:r'.bad=false):r.bad=false∧(r'.s.length:Int)+k=r.s.length:=by
 subst h
 have:=XFk hb
 exact ⟨(XqM.1 hb).1,by omega⟩
theorem Xg1 {s:List UInt8} {k:Int} (h0:0≤k) (h1:k≤s.length):rdr ⟨s,true,false⟩ k=⟨s.drop k.toNat,true,false⟩:=by
 unfold rdr;rw [if_neg (by simp;omega)]
theorem Xg3 {s:List UInt8} {k:Int} (h0:0≤k) (h1:k≤s.length):rdt ⟨s,true,false⟩ k=s.take k.toNat:=by
 unfold rdt;rw [if_neg (by simp;omega)]
theorem XEW (r:Xaa) (k:Int):(rdt r k).length≤r.s.length:=by
 unfold rdt;split
 ·simp
 ·rw [List.length_take];omega
def rdn (r:Xaa) (k:Int):Int:=(Xdf (rdt r (if k<1∨k>7 then -1 else k)):Nat)
theorem XfF {r:Xaa} {k:Int} (h:r.made=true) (hl:r.s.length<2^61):Xad r k=some (rdn r k,rdr r (if k<1∨k>7 then -1 else k)):=by
 unfold Xad Xc1 rdn
 have bad:Xac r (-1)=some ([],rdr r (-1)):=by
  rw [XeA h];unfold rdt;rw [if_pos (by omega)]
 have e0:rdt r (-1)=[]:=by unfold rdt;rw [if_pos (by omega)]
 by_cases h1:k<1
 ·rw [XaZ h1,bad,Option.bind_some,XcM (by simp),if_pos (by omega),Option.bind_some,e0];rfl
 rw [XaO h1]
 by_cases h2:k>7
 ·rw [XaZ h2,bad,Option.bind_some,XcM (by simp),if_pos (by omega),Option.bind_some,e0];rfl
 have hlen:=XEW r k
 rw [XaO h2,XeA h,Option.bind_some,XcM (by simp only [];omega),Option.bind_some,if_neg (by omega)]
 simp only []
 unfold XsL
 by_cases hc:r.bad=true∨k<0∨k>r.s.length
 ·have e:rdt r k=[]:=by unfold rdt;rw [if_pos hc]
  rw [e,if_neg (by simp;omega)];rfl
 ·have hl2:(rdt r k).length=k.toNat:=by unfold rdt;rw [if_neg hc];simp;omega
  rw [if_pos (by omega)]
  have e2:((rdt r k).drop (0:Int).toNat).take k.toNat=rdt r k:=by
   rw [show (0:Int).toNat=0 from rfl,List.drop_zero,List.take_of_length_le (by omega)]
  have hv:Xdf (rdt r k)<2^56:=by
   have:=Xnj (rdt r k)
   rw [hl2] at this
   exact Xl5 this (by omega)
  simp only [e2]
  rw [XcC (by omega) (by omega)]
theorem XfE {s:List UInt8} {p k:Int} (h0:0≤p) (h1:1≤k) (h8:k≤8) (h:p+k≤s.length):XsL s p k=(((Xdf ((s.drop p.toNat).take k.toNat):Nat):Int),true):=by
 unfold XsL;rw [if_pos (by omega)]
theorem Xms (s:List UInt8):Xay s=some ⟨s,true,false⟩:=rfl
def sset (s:List UInt8) (p k n:Nat):List UInt8:=s.take p++be n k++s.drop (p+k)
theorem Xou {s:List UInt8} {p k n:Nat} (h:p+k≤s.length):(sset s p k n).length=s.length:=by simp [sset];omega
theorem Xrn {s:List UInt8} {p k:Nat} {n:Int} (hs:s.length<2^40) (hn:0≤n) (h1:1≤k) (h8:k≤8) (h:p+k≤s.length):Xba s (p:Int) (k:Int) n=some (sset s p k n.toNat):=by
 rw [XI1 hs hn];unfold setS
 rw [if_pos (by omega)]
 have e:((p:Int)+k).toNat=p+k:=by omega
 rw [e];rfl
theorem XlT {s:List UInt8} {p k n y:Nat} (h:p+k≤s.length):(sset s p k n)[y]?=if y<p then s[y]? else if y<p+k then (be n k)[y - p]? else s[y]?:=by
 unfold sset
 rw [List.append_assoc,List.getElem?_append]
 have e1:(s.take p).length=p:=by simp;omega
 rw [e1]
 by_cases h1:y<p
 ·rw [if_pos h1,if_pos h1,List.getElem?_take_of_lt h1]
 ·rw [if_neg h1,if_neg h1,List.getElem?_append,Xdy]
  by_cases h2:y<p+k
  ·rw [if_pos (by omega),if_pos h2]
  ·rw [if_neg (by omega),if_neg h2,List.getElem?_drop]
   congr 1;omega
theorem Xmh {l:List UInt8} {q m x:Nat}:((l.drop q).take m)[x]?=if x<m then l[q+x]? else none:=by
 rw [List.getElem?_take];split
 ·rw [List.getElem?_drop]
 ·rfl
theorem XsU {s:List UInt8} {p k n:Nat} (h:p+k≤s.length):((sset s p k n).drop p).take k=be n k:=by
 apply List.ext_getElem?
 intro x
 rw [Xmh,XlT h]
 split
 ·rw [if_neg (by omega),if_pos (by omega),Nat.add_sub_cancel_left]
 ·rw [List.getElem?_eq_none (by simp;omega)]
theorem Xr3 {s:List UInt8} {p k:Nat} (h:p+k≤s.length) (hp:p%2=0) (hk:k%2=0):Xdp s=Xdp (s.take p)+(Xdp ((s.drop p).take k)+Xdp (s.drop (p+k))):=by
 rw [←List.drop_drop,←Xex _ _ (by rw [List.length_take,List.length_drop];omega),List.take_append_drop,←Xex _ _ (by rw [List.length_take];omega),List.take_append_drop]
theorem XpN {s:List UInt8} {p k n:Nat} (h:p+k≤s.length) (hp:p%2=0) (hk:k%2=0):Xdp (sset s p k n)+Xdp ((s.drop p).take k)=Xdp s+Xdp (be n k):=by
 rw [Xr3 h hp hk]
 unfold sset
 rw [List.append_assoc,Xex _ _ (by rw [List.length_take];omega),Xex _ _ (by rw [Xdy];omega)]
 omega
theorem Xl6 {n:Nat} (h:n<65536):Xdp (be n 2)=n:=by
 have e:be n 2=[UInt8.ofNat (n/256),UInt8.ofNat n]:=by simp [be]
 rw [e,Xdp,Xdp]
 simp only [UInt8.toNat_ofNat']
 omega
theorem XkF {n:Nat} (h:n%65535=0) (h0:n≠0):norm n=65535:=norm_eq (by omega) (by omega) (by omega)
def vK (s:List UInt8) (p k:Nat):Int:=(Xdf ((s.drop p).take k):Nat)
theorem XdE (s:List UInt8) (p k n:Nat) (h:256^k≤n):0≤vK s p k∧vK s p k<n:=by
 have:=XcU (l:=s.drop p) (k:=k) n h
 unfold vK;omega
theorem Xzv {s:List UInt8} {p k:Nat} (h1:1≤k) (h7:k≤7) (h:p+k≤s.length) (hl:s.length<2^61):Xad ⟨s.drop p,true,false⟩ (k:Int)=some (vK s p k,⟨s.drop (p+k),true,false⟩):=by
 have hd:(s.drop p).length=s.length - p:=by simp
 rw [XfF rfl (by simp only;omega),if_neg (by omega),Xg1 (by omega) (by omega)]
 unfold rdn
 rw [if_neg (by omega),Xg3 (by omega) (by omega),Int.toNat_natCast,List.drop_drop];rfl
theorem Xob {s:List UInt8} {p k:Nat} (h:p+k≤s.length):Xac ⟨s.drop p,true,false⟩ (k:Int)=some ((s.drop p).take k,⟨s.drop (p+k),true,false⟩):=by
 have hd:(s.drop p).length=s.length - p:=by simp
 rw [XeA rfl,Xg1 (by omega) (by omega),Xg3 (by omega) (by omega),Int.toNat_natCast,List.drop_drop]
theorem Xoh {s:List UInt8} {p k:Nat} (hs:s.length<2^61) (h1:1≤k) (h7:k≤7) (h:p+k≤s.length):Xaj s (p:Int) (k:Int)=some (vK s p k):=by
 rw [Xf0 hs,XfE (by omega) (by omega) (by omega) (by omega)]
 have:=XdE s p k (256^k) (Nat.le_refl _)
 have h8:256^k≤256^7:=Nat.pow_le_pow_right (by decide) h7
 have h9:(256:Nat)^7=72057594037927936:=by decide
 show some (wI .i64 (vK s p k))=_
 rw [XcC (by omega) (by omega)]
theorem XiH {s:List UInt8} {p:Nat} (h:p<s.length):vK s p 1=(s[p].toNat:Int):=by
 unfold vK
 rw [List.drop_eq_getElem_cons h]
 show ((Xdf [s[p]]:Nat):Int)=_
 rw [XeE];simp
theorem XuO {s:List UInt8} {p:Nat} (h:p+1<s.length):vK s p 2=(s[p].toNat*256+s[p+1].toNat:Int):=by
 unfold vK
 rw [List.drop_eq_getElem_cons (by omega:p<s.length),List.drop_eq_getElem_cons h]
 show ((Xdf [s[p],s[p+1]]:Nat):Int)=_
 rw [XeE,XeE];simp
theorem l1 {l:List UInt8} (h:l.length=1):∃ a,l=[a]:=by
 match l,h with
 | [a],_=>exact ⟨a,rfl⟩
theorem l2 {l:List UInt8} (h:l.length=2):∃ a b,l=[a,b]:=by
 match l,h with
 | [a,b],_=>exact ⟨a,b,rfl⟩
theorem l4 {l:List UInt8} (h:l.length=4):∃ a b c d,l=[a,b,c,d]:=by
 match l,h with
 | [a,b,c,d],_=>exact ⟨a,b,c,d,rfl⟩
theorem vK_of {s w:List UInt8} {p k n:Nat} (h:(s.drop p).take k=w) (e:w=be n k) (hn:n<256^k):vK s p k=(n:Int):=by
 unfold vK;rw [h,e,Xkh hn]
theorem Xpy (src dst:Xab) (p n:Int):(Xlw src dst p n).length%2=0:=by
 unfold Xlw
 split
 ·rename_i h
  rw [List.length_append,List.length_append,Xe8,Xe8,←h.2.2]
  cases src.V6
  ·simp only [cond_false,List.length_append]
   rw [show (Xhd 0 1).length=1 from rfl,show Xhd p 1=be p.toNat 1 from Xgy (k:=1) (by omega),show Xhd n 2=be n.toNat 2 from Xgy (k:=2) (by omega),Xdy,Xdy]
  ·simp only [cond_true,List.length_append]
   rw [show (Xhd 0 3).length=3 from rfl,show Xhd p 1=be p.toNat 1 from Xgy (k:=1) (by omega),show Xhd n 4=be n.toNat 4 from Xgy (k:=4) (by omega),Xdy,Xdy]
 ·rfl
theorem XuA {s:List UInt8} {n p k:Nat} (h:p+k≤n):vK (s.take n) p k=vK s p k:=by
 unfold vK
 rw [List.drop_take,List.take_take,Nat.min_eq_left (by omega)]
theorem XuH {s b:List UInt8} {z p k:Nat} (h:s.drop z=b):vK s (z+p) k=vK b p k:=by
 unfold vK;rw [←h,List.drop_drop]
end Go.Vm.Code
namespace Go.Vm.Code
open Go Go.Vm Go.Proofs
set_option maxRecDepth 100000
set_option maxHeartbeats 4000000
set_option linter.unusedVariables false
def XmT (n:Int) (most:Int):Option Bool:=
 cond (decide (n≥0))
  (
  some (decide (n≤most)))
  (
  some (false))
def Xx1 (x:Bool):Xcw:=⟨.bool x,[],[]⟩
def r119 (g:Int→Int→Option Bool):Dec:=dV (asI .i64) fun (y0:Int)=>dV (asI .i64) fun (y1:Int)=>Xdd (ofG (g y0 y1) Xx1)
theorem XKv {g:Int→Int→Option Bool} {y0:Int} {y1:Int} {x:Bool} (hx:g y0 y1=some x):r119 g [.int .i64 y0,.int .i64 y1] []=some (Xx1 x):=(XaX (Xcv _)).trans ((XaX (Xcv _)).trans (Xa3 hx))
def s119 (g:Int→Int→Option Bool):Xbu:=⟨[.v,.v],r119 g⟩
theorem XoM {g:Int→Int→Option Bool} {y0:Int} {y1:Int} {x:Bool} (hx:g y0 y1=some x):(s119 g).run [.int .i64 y0,.int .i64 y1] []=some (Xx1 x):=XKv hx
abbrev XvC:List (Nat×Xbu):=[]
theorem XxY (hS:Xah Tryz.prog (Xav (XvC))) (n:Int) (most:Int) (res:Bool) (h:XmT n most=some res) :
 XaK Tryz.prog 119 0 ⟨⟨119,12,[(0,.int .i64 n),(1,.int .i64 most)],[.code XBT],[],false,none⟩,[],[],0⟩ (fun v H _=>Res 0 (Xx1 res) v H):=by
 unfold XmT at h
 refine Xbi Xan hS true 3000 ?_
 conv=>whnf
 refine br.h h (by rfl) ?_ ?_
 ·clear h;intro hb h;conv=>whnf
  all_goals (cases h;exact Res.y)
 clear h;intro hb h;conv=>whnf
 all_goals (cases h;exact Res.y)
theorem ok119 (hS:Xah Tryz.prog (Xav (XvC))):Xar Tryz.prog 119 (s119 (XmT)):=by
 refine Xar.Xax Xan (fun ar os r ha hr=>?_) ⟨Tryz.f119,rfl,by decide,rfl⟩
 replace hr:r119 (XmT) ar (XaH os)=some r:=hr
 unfold r119 at hr
 generalize hc:XaH os=C at hr
 replace hr:=dV.elim hr;obtain ⟨v0,l1,y0,rfl,e0,hr⟩:=hr;obtain rfl:=XbF _ _ _ e0
 replace hr:=dV.elim hr;obtain ⟨v1,l2,y1,rfl,e1,hr⟩:=hr;obtain rfl:=XbF _ _ _ e1
 replace hr:=Xdw hr;obtain ⟨rfl,rfl,x,h,rfl⟩:=hr
 obtain rfl:=Xat hc
 exact ⟨_,rfl,XxY hS _ _ x h⟩
def XfM:Int→Int→Option Bool:=XmT
theorem XEn:Xar Tryz.prog 119 (s119 XfM):=ok119 (Xah.Xa0 trivial)
def XiE (XaG:Xab→Option Bool) (a:Xab):Option Bool:=
 (XaG a).bind fun xr=>
 cond (xr)
  (
  some (!a.V6))
  (
  some (false))
def Xy3 (x:Bool):Xcw:=⟨.bool x,[],[]⟩
def r120 (g:Xab→Option Bool):Dec:=dV XbN fun (y0:Xab)=>Xdd (ofG (g y0) Xy3)
theorem XJM {g:Xab→Option Bool} {y0:Xab} {x:Bool} (hx:g y0=some x):r120 g [.agg ⟨[.bool y0.V6,.int .u64 y0.Hi,.int .u64 y0.Lo]⟩] []=some (Xy3 x):=(XaX (XbC _)).trans (Xa3 hx)
def s120 (g:Xab→Option Bool):Xbu:=⟨[.v],r120 g⟩
theorem XtE {g:Xab→Option Bool} {y0:Xab} {x:Bool} (hx:g y0=some x):(s120 g).run [.agg ⟨[.bool y0.V6,.int .u64 y0.Hi,.int .u64 y0.Lo]⟩] []=some (Xy3 x):=XJM hx
abbrev Xvk (XaG:Xab→Option Bool):List (Nat×Xbu):=[(97,s97 XaG)]
theorem Xxw (XaG:Xab→Option Bool) (hS:Xah Tryz.prog (Xav (Xvk XaG))) (a:Xab) (res:Bool) (h:XiE XaG a=some res) :
 XaK Tryz.prog 120 0 ⟨⟨120,10,[(0,.agg ⟨[.bool a.V6,.int .u64 a.Hi,.int .u64 a.Lo]⟩)],[.code XBI],[],false,none⟩,[],[],0⟩ (fun v H _=>Res 0 (Xy3 res) v H):=by
 unfold XiE at h
 refine Xbi Xan hS true 3000 ?_
 conv=>whnf
 replace h:=Xai.elim h;obtain ⟨xr,hy,h⟩:=h
 refine XaJ.p (Xnt hy) ?_
 conv=>whnf
 refine br.h h (by rfl) ?_ ?_
 ·clear h;intro hb h;conv=>whnf
  all_goals (cases h;exact Res.y)
 clear h;intro hb h;conv=>whnf
 all_goals (cases h;exact Res.y)
theorem ok120 (XaG:Xab→Option Bool) (hS:Xah Tryz.prog (Xav (Xvk XaG))):Xar Tryz.prog 120 (s120 (XiE XaG)):=by
 refine Xar.Xax Xan (fun ar os r ha hr=>?_) ⟨Tryz.f120,rfl,by decide,rfl⟩
 replace hr:r120 (XiE XaG) ar (XaH os)=some r:=hr
 unfold r120 at hr
 generalize hc:XaH os=C at hr
 replace hr:=dV.elim hr;obtain ⟨v0,l1,y0,rfl,e0,hr⟩:=hr;obtain rfl:=Xbr _ _ e0
 replace hr:=Xdw hr;obtain ⟨rfl,rfl,x,h,rfl⟩:=hr
 obtain rfl:=Xat hc
 exact ⟨_,rfl,Xxw XaG hS _ x h⟩
def XdA:Xab→Option Bool:=XiE XaG
theorem XCz:Xar Tryz.prog 120 (s120 XdA):=ok120 XaG (Xah.Xa0 ⟨Xrd,trivial⟩)
def XhL (XdA:Xab→Option Bool) (XfM:Int→Int→Option Bool) (ha0:Xak):Option Bool:=
 (XfM ha0.Class 255).bind fun i=>
 cond (i)
  (
  (XfM ha0.Mark 65535).bind fun i1=>
  cond (i1)
   (
   (XfM ha0.TTL 255).bind fun i2=>
   cond (i2)
    (
    (XfM ha0.Proto 255).bind fun i3=>
    cond (i3)
     (
     (XdA ha0.Src).bind fun f=>
     cond (f)
      (
      (XdA ha0.Dst).bind fun f1=>
      cond (f1)
       (
       cond (decide ((ha0.Options.length:Int)≤40))
        (
        some (((ha0.Options.length:Int).tmod 4)==0))
        (
        some (false)))
       (
       some (false)))
      (
      some (false)))
     (
     some (false)))
    (
    some (false)))
   (
   some (false)))
  (
  some (false))
def rx93 (x:Bool):Xcw:=⟨.bool x,[],[]⟩
def r93 (g:Xak→Option Bool):Dec:=dV XfD fun (y0:Xak)=>Xdd (ofG (g y0) rx93)
theorem r93_c {g:Xak→Option Bool} {y0:Xak} {x:Bool} (hx:g y0=some x):r93 g [.agg ⟨[.int .i64 y0.Class,.int .i64 y0.Mark,.bool y0.Whole,.int .i64 y0.TTL,.int .i64 y0.Proto,.bool y0.Src.V6,.int .u64 y0.Src.Hi,.int .u64 y0.Src.Lo,.bool y0.Dst.V6,.int .u64 y0.Dst.Hi,.int .u64 y0.Dst.Lo,.string ⟨⟨y0.Options⟩⟩]⟩] []=some (rx93 x):=(XaX (Xi6 _)).trans (Xa3 hx)
def s93 (g:Xak→Option Bool):Xbu:=⟨[.v],r93 g⟩
theorem XI3 {g:Xak→Option Bool} {y0:Xak} {x:Bool} (hx:g y0=some x):(s93 g).run [.agg ⟨[.int .i64 y0.Class,.int .i64 y0.Mark,.bool y0.Whole,.int .i64 y0.TTL,.int .i64 y0.Proto,.bool y0.Src.V6,.int .u64 y0.Src.Hi,.int .u64 y0.Src.Lo,.bool y0.Dst.V6,.int .u64 y0.Dst.Hi,.int .u64 y0.Dst.Lo,.string ⟨⟨y0.Options⟩⟩]⟩] []=some (rx93 x):=r93_c hx
abbrev Xzo (XdA:Xab→Option Bool) (XfM:Int→Int→Option Bool):List (Nat×Xbu):=[(120,s120 XdA),(119,s119 XfM)]
theorem XCk (XdA:Xab→Option Bool) (XfM:Int→Int→Option Bool) (hS:Xah Tryz.prog (Xav (Xzo XdA XfM))) (ha0:Xak) (res:Bool) (h:XhL XdA XfM ha0=some res) :
 XaK Tryz.prog 93 0 ⟨⟨93,44,[(0,.agg ⟨[.int .i64 ha0.Class,.int .i64 ha0.Mark,.bool ha0.Whole,.int .i64 ha0.TTL,.int .i64 ha0.Proto,.bool ha0.Src.V6,.int .u64 ha0.Src.Hi,.int .u64 ha0.Src.Lo,.bool ha0.Dst.V6,.int .u64 ha0.Dst.Hi,.int .u64 ha0.Dst.Lo,.string ⟨⟨ha0.Options⟩⟩]⟩)],[.code XJ3],[],false,none⟩,[],[],0⟩ (fun v H _=>Res 0 (rx93 res) v H):=by
 unfold XhL at h
 refine Xbi Xan hS true 3000 ?_
 conv=>whnf
 replace h:=Xai.elim h;obtain ⟨i,hy,h⟩:=h
 refine XaJ.p (XoM hy) ?_
 conv=>whnf
 refine br.h2 h (by rfl) ?_ ?_
 ·clear h;intro hb h;conv=>whnf
  all_goals (cases h;exact Res.y)
 clear h;intro hb h;conv=>whnf
 replace h:=Xai.elim h;obtain ⟨i1,hy,h⟩:=h
 refine XaJ.p (XoM hy) ?_
 conv=>whnf
 refine br.h2 h (by rfl) ?_ ?_
 ·clear h;intro hb h;conv=>whnf
  all_goals (cases h;exact Res.y)
 clear h;intro hb h;conv=>whnf
 replace h:=Xai.elim h;obtain ⟨i2,hy,h⟩:=h
 refine XaJ.p (XoM hy) ?_
 conv=>whnf
 refine br.h2 h (by rfl) ?_ ?_
 ·clear h;intro hb h;conv=>whnf
  all_goals (cases h;exact Res.y)
 clear h;intro hb h;conv=>whnf
 replace h:=Xai.elim h;obtain ⟨i3,hy,h⟩:=h
 refine XaJ.p (XoM hy) ?_
 conv=>whnf
 refine br.h2 h (by rfl) ?_ ?_
 ·clear h;intro hb h;conv=>whnf
  all_goals (cases h;exact Res.y)
 clear h;intro hb h;conv=>whnf
 replace h:=Xai.elim h;obtain ⟨f,hy,h⟩:=h
 refine XaJ.p (XtE hy) ?_
 conv=>whnf
 refine br.h2 h (by rfl) ?_ ?_
 ·clear h;intro hb h;conv=>whnf
  all_goals (cases h;exact Res.y)
 clear h;intro hb h;conv=>whnf
 replace h:=Xai.elim h;obtain ⟨f1,hy,h⟩:=h
 refine XaJ.p (XtE hy) ?_
 conv=>whnf
 refine br.h2 h (by rfl) ?_ ?_
 ·clear h;intro hb h;conv=>whnf
  all_goals (cases h;exact Res.y)
 clear h;intro hb h;conv=>whnf
 refine br.h h (by rfl) ?_ ?_
 ·clear h;intro hb h;conv=>whnf
  all_goals (cases h;exact Res.y)
 clear h;intro hb h;conv=>whnf
 all_goals (cases h;exact Res.y)
theorem ok93 (XdA:Xab→Option Bool) (XfM:Int→Int→Option Bool) (hS:Xah Tryz.prog (Xav (Xzo XdA XfM))):Xar Tryz.prog 93 (s93 (XhL XdA XfM)):=by
 refine Xar.Xax Xan (fun ar os r ha hr=>?_) ⟨Tryz.f93,rfl,by decide,rfl⟩
 replace hr:r93 (XhL XdA XfM) ar (XaH os)=some r:=hr
 unfold r93 at hr
 generalize hc:XaH os=C at hr
 replace hr:=dV.elim hr;obtain ⟨v0,l1,y0,rfl,e0,hr⟩:=hr;obtain rfl:=Xiw _ _ e0
 replace hr:=Xdw hr;obtain ⟨rfl,rfl,x,h,rfl⟩:=hr
 obtain rfl:=Xat hc
 exact ⟨_,rfl,XCk XdA XfM hS _ x h⟩
def Xc5:Xak→Option Bool:=XhL XdA XfM
theorem XKk:Xar Tryz.prog 93 (s93 Xc5):=ok93 XdA XfM (Xah.Xa0 ⟨XCz,XEn,trivial⟩)
def XkS (Xdg:(List UInt8)→Option Int) (Xck:(List UInt8)→Int→Int→Int→Option (List UInt8)) (Xbm:Xab→Option (List UInt8)) (Xc5:Xak→Option Bool) (Xbk:Int→Int→Option (List UInt8)) (ha0:Xak) (payload:List UInt8):Option ((List UInt8)×Int):=
 (Xc5 ha0).bind fun xr=>
 cond (!xr)
  (
  some (([],1)))
  (
  let t:=wI .i64 (20+(ha0.Options.length:Int))
  let t1:=decide ((payload.length:Int)>(wI .i64 (65535 - t)))
  cond (t1)
   (
   some (([],5)))
   (
   cond (ha0.Whole)
    (
    (Xbk (wI .i64 (64+(wI .i64 (t.tdiv 4)))) 1).bind fun n=>
    (Xbk ha0.Class 1).bind fun n1=>
    XaE (decide (n.length+n1.length<2^63)) <|
    (Xbk (wI .i64 (t+(payload.length:Int))) 2).bind fun n2=>
    XaE (decide ((n++n1).length+n2.length<2^63)) <|
    (Xbk ha0.Mark 2).bind fun n3=>
    XaE (decide (((n++n1)++n2).length+n3.length<2^63)) <|
    (Xbk 64 1).bind fun n4=>
    XaE (decide ((((n++n1)++n2)++n3).length+n4.length<2^63)) <|
    (Xbk 0 1).bind fun n5=>
    XaE (decide (((((n++n1)++n2)++n3)++n4).length+n5.length<2^63)) <|
    (Xbk ha0.TTL 1).bind fun n6=>
    XaE (decide ((((((n++n1)++n2)++n3)++n4)++n5).length+n6.length<2^63)) <|
    let t2:=(((((n++n1)++n2)++n3)++n4)++n5)++n6
    (Xbk ha0.Proto 1).bind fun n7=>
    XaE (decide (t2.length+n7.length<2^63)) <|
    (Xbk 0 2).bind fun n8=>
    XaE (decide ((t2++n7).length+n8.length<2^63)) <|
    (Xbm ha0.Src).bind fun p=>
    XaE (decide (((t2++n7)++n8).length+p.length<2^63)) <|
    (Xbm ha0.Dst).bind fun p1=>
    XaE (decide ((((t2++n7)++n8)++p).length+p1.length<2^63)) <|
    XaE (decide (((((t2++n7)++n8)++p)++p1).length+ha0.Options.length<2^63)) <|
    let t3:=((((t2++n7)++n8)++p)++p1)++ha0.Options
    (Xdg t3).bind fun xo=>
    (Xck t3 10 2 (wI .u64 xo)).bind fun s=>
    XaE (decide (s.length+payload.length<2^63)) <|
    some ((s++payload,0)))
    (
    (Xbk (wI .i64 (64+(wI .i64 (t.tdiv 4)))) 1).bind fun n9=>
    (Xbk ha0.Class 1).bind fun n10=>
    XaE (decide (n9.length+n10.length<2^63)) <|
    (Xbk (wI .i64 (t+(payload.length:Int))) 2).bind fun n11=>
    XaE (decide ((n9++n10).length+n11.length<2^63)) <|
    (Xbk ha0.Mark 2).bind fun n12=>
    XaE (decide (((n9++n10)++n11).length+n12.length<2^63)) <|
    (Xbk 0 1).bind fun n13=>
    XaE (decide ((((n9++n10)++n11)++n12).length+n13.length<2^63)) <|
    (Xbk 0 1).bind fun n14=>
    XaE (decide (((((n9++n10)++n11)++n12)++n13).length+n14.length<2^63)) <|
    let t4:=((((n9++n10)++n11)++n12)++n13)++n14
    (Xbk ha0.TTL 1).bind fun n15=>
    XaE (decide (t4.length+n15.length<2^63)) <|
    (Xbk ha0.Proto 1).bind fun n16=>
    XaE (decide ((t4++n15).length+n16.length<2^63)) <|
    (Xbk 0 2).bind fun n17=>
    XaE (decide (((t4++n15)++n16).length+n17.length<2^63)) <|
    (Xbm ha0.Src).bind fun p2=>
    XaE (decide ((((t4++n15)++n16)++n17).length+p2.length<2^63)) <|
    (Xbm ha0.Dst).bind fun p3=>
    XaE (decide (((((t4++n15)++n16)++n17)++p2).length+p3.length<2^63)) <|
    let t5:=((((t4++n15)++n16)++n17)++p2)++p3
    XaE (decide (t5.length+ha0.Options.length<2^63)) <|
    (Xdg (t5++ha0.Options)).bind fun xo1=>
    (Xck (t5++ha0.Options) 10 2 (wI .u64 xo1)).bind fun s1=>
    XaE (decide (s1.length+payload.length<2^63)) <|
    some ((s1++payload,0)))))
def rx52 (x:(List UInt8)×Int):Xcw:=⟨.tuple ⟨[.string ⟨⟨x.1⟩⟩,.int .i64 x.2]⟩,[],[]⟩
def r52 (g:Xak→(List UInt8)→Option ((List UInt8)×Int)):Dec:=dV XfD fun (y0:Xak)=>dV asS fun (y1:List UInt8)=>Xdd (ofG (g y0 y1) rx52)
theorem r52_c {g:Xak→(List UInt8)→Option ((List UInt8)×Int)} {y0:Xak} {y1:List UInt8} {x:(List UInt8)×Int} (hx:g y0 y1=some x):r52 g [.agg ⟨[.int .i64 y0.Class,.int .i64 y0.Mark,.bool y0.Whole,.int .i64 y0.TTL,.int .i64 y0.Proto,.bool y0.Src.V6,.int .u64 y0.Src.Hi,.int .u64 y0.Src.Lo,.bool y0.Dst.V6,.int .u64 y0.Dst.Hi,.int .u64 y0.Dst.Lo,.string ⟨⟨y0.Options⟩⟩]⟩,.string ⟨⟨y1⟩⟩] []=some (rx52 x):=(XaX (Xi6 _)).trans ((XaX (XcI)).trans (Xa3 hx))
def s52 (g:Xak→(List UInt8)→Option ((List UInt8)×Int)):Xbu:=⟨[.v,.v],r52 g⟩
theorem XBA {g:Xak→(List UInt8)→Option ((List UInt8)×Int)} {y0:Xak} {y1:List UInt8} {x:(List UInt8)×Int} (hx:g y0 y1=some x):(s52 g).run [.agg ⟨[.int .i64 y0.Class,.int .i64 y0.Mark,.bool y0.Whole,.int .i64 y0.TTL,.int .i64 y0.Proto,.bool y0.Src.V6,.int .u64 y0.Src.Hi,.int .u64 y0.Src.Lo,.bool y0.Dst.V6,.int .u64 y0.Dst.Hi,.int .u64 y0.Dst.Lo,.string ⟨⟨y0.Options⟩⟩]⟩,.string ⟨⟨y1⟩⟩] []=some (rx52 x):=r52_c hx
abbrev XzO (Xdg:(List UInt8)→Option Int) (Xck:(List UInt8)→Int→Int→Int→Option (List UInt8)) (Xbm:Xab→Option (List UInt8)) (Xc5:Xak→Option Bool) (Xbk:Int→Int→Option (List UInt8)):List (Nat×Xbu):=[(88,s88 Xdg),(87,s87 Xck),(92,s92 Xbm),(93,s93 Xc5),(94,s94 Xbk)]
theorem XF2 (Xdg:(List UInt8)→Option Int) (Xck:(List UInt8)→Int→Int→Int→Option (List UInt8)) (Xbm:Xab→Option (List UInt8)) (Xc5:Xak→Option Bool) (Xbk:Int→Int→Option (List UInt8)) (hS:Xah Tryz.prog (Xav (XzO Xdg Xck Xbm Xc5 Xbk))) (ha0:Xak) (payload:List UInt8) (res:(List UInt8)×Int) (h:XkS Xdg Xck Xbm Xc5 Xbk ha0 payload=some res) :
 XaK Tryz.prog 52 0 ⟨⟨52,74,[(0,.agg ⟨[.int .i64 ha0.Class,.int .i64 ha0.Mark,.bool ha0.Whole,.int .i64 ha0.TTL,.int .i64 ha0.Proto,.bool ha0.Src.V6,.int .u64 ha0.Src.Hi,.int .u64 ha0.Src.Lo,.bool ha0.Dst.V6,.int .u64 ha0.Dst.Hi,.int .u64 ha0.Dst.Lo,.string ⟨⟨ha0.Options⟩⟩]⟩),(1,.string ⟨⟨payload⟩⟩)],[.code Xzp],[],false,none⟩,[],[],0⟩ (fun v H _=>Res 0 (rx52 res) v H):=by
 unfold XkS at h
 refine Xbi Xan hS true 3000 ?_
 conv=>whnf
 replace h:=Xai.elim h;obtain ⟨xr,hy,h⟩:=h
 refine XaJ.p (XI3 hy) ?_
 conv=>whnf
 refine br.h h (by rfl) ?_ ?_
 ·clear h;intro hb h;conv=>whnf
  all_goals (cases h;exact Res.y)
 clear h;intro hb h;conv=>whnf
 let t:Int:=wI .i64 (20+(ha0.Options.length:Int))
 let t1:Bool:=decide ((payload.length:Int)>(wI .i64 (65535 - t)))
 refine br.h h (by rfl) ?_ ?_
 ·clear h;intro hb h;conv=>whnf
  all_goals (cases h;exact Res.y)
 clear h;intro hb h;conv=>whnf
 refine br.h h (by rfl) ?_ ?_
 ·clear h;intro hb h;conv=>whnf
  replace h:=Xai.elim h;obtain ⟨n,hy,h⟩:=h
  refine XaJ.p (Xec hy) ?_
  conv=>whnf
  replace h:=Xai.elim h;obtain ⟨n1,hy,h⟩:=h
  refine XaJ.p (Xec hy) ?_
  conv=>whnf
  replace h:=XaE.elim h;obtain ⟨hb,h⟩:=h
  try (refine req.intro hb ?_;conv=>whnf)
  replace h:=Xai.elim h;obtain ⟨n2,hy,h⟩:=h
  refine XaJ.p (Xec hy) ?_
  conv=>whnf
  replace h:=XaE.elim h;obtain ⟨hb,h⟩:=h
  try (refine req.intro hb ?_;conv=>whnf)
  replace h:=Xai.elim h;obtain ⟨n3,hy,h⟩:=h
  refine XaJ.p (Xec hy) ?_
  conv=>whnf
  replace h:=XaE.elim h;obtain ⟨hb,h⟩:=h
  try (refine req.intro hb ?_;conv=>whnf)
  replace h:=Xai.elim h;obtain ⟨n4,hy,h⟩:=h
  refine XaJ.p (Xec hy) ?_
  conv=>whnf
  replace h:=XaE.elim h;obtain ⟨hb,h⟩:=h
  try (refine req.intro hb ?_;conv=>whnf)
  replace h:=Xai.elim h;obtain ⟨n5,hy,h⟩:=h
  refine XaJ.p (Xec hy) ?_
  conv=>whnf
  replace h:=XaE.elim h;obtain ⟨hb,h⟩:=h
  try (refine req.intro hb ?_;conv=>whnf)
  replace h:=Xai.elim h;obtain ⟨n6,hy,h⟩:=h
  refine XaJ.p (Xec hy) ?_
  conv=>whnf
  replace h:=XaE.elim h;obtain ⟨hb,h⟩:=h
  try (refine req.intro hb ?_;conv=>whnf)
  let t2:List UInt8:=(((((n++n1)++n2)++n3)++n4)++n5)++n6
  replace h:=Xai.elim h;obtain ⟨n7,hy,h⟩:=h
  refine XaJ.p (Xec hy) ?_
  conv=>whnf
  replace h:=XaE.elim h;obtain ⟨hb,h⟩:=h
  try (refine req.intro hb ?_;conv=>whnf)
  replace h:=Xai.elim h;obtain ⟨n8,hy,h⟩:=h
  refine XaJ.p (Xec hy) ?_
  conv=>whnf
  replace h:=XaE.elim h;obtain ⟨hb,h⟩:=h
  try (refine req.intro hb ?_;conv=>whnf)
  replace h:=Xai.elim h;obtain ⟨p,hy,h⟩:=h
  refine XaJ.p (XjT hy) ?_
  conv=>whnf
  replace h:=XaE.elim h;obtain ⟨hb,h⟩:=h
  try (refine req.intro hb ?_;conv=>whnf)
  replace h:=Xai.elim h;obtain ⟨p1,hy,h⟩:=h
  refine XaJ.p (XjT hy) ?_
  conv=>whnf
  replace h:=XaE.elim h;obtain ⟨hb,h⟩:=h
  try (refine req.intro hb ?_;conv=>whnf)
  replace h:=XaE.elim h;obtain ⟨hb,h⟩:=h
  try (refine req.intro hb ?_;conv=>whnf)
  let t3:List UInt8:=((((t2++n7)++n8)++p)++p1)++ha0.Options
  replace h:=Xai.elim h;obtain ⟨xo,hy,h⟩:=h
  refine XaJ.p (Xth hy) ?_
  conv=>whnf
  replace h:=Xai.elim h;obtain ⟨s,hy,h⟩:=h
  refine XaJ.p (XvG hy) ?_
  conv=>whnf
  replace h:=XaE.elim h;obtain ⟨hb,h⟩:=h
  try (refine req.intro hb ?_;conv=>whnf)
  all_goals (cases h;exact Res.y)
 clear h;intro hb h;conv=>whnf
 replace h:=Xai.elim h;obtain ⟨n9,hy,h⟩:=h
 refine XaJ.p (Xec hy) ?_
 conv=>whnf
 replace h:=Xai.elim h;obtain ⟨n10,hy,h⟩:=h
 refine XaJ.p (Xec hy) ?_
 conv=>whnf
 replace h:=XaE.elim h;obtain ⟨hb,h⟩:=h
 try (refine req.intro hb ?_;conv=>whnf)
 replace h:=Xai.elim h;obtain ⟨n11,hy,h⟩:=h
 refine XaJ.p (Xec hy) ?_
 conv=>whnf
 replace h:=XaE.elim h;obtain ⟨hb,h⟩:=h
 try (refine req.intro hb ?_;conv=>whnf)
 replace h:=Xai.elim h;obtain ⟨n12,hy,h⟩:=h
 refine XaJ.p (Xec hy) ?_
 conv=>whnf
 replace h:=XaE.elim h;obtain ⟨hb,h⟩:=h
 try (refine req.intro hb ?_;conv=>whnf)
 replace h:=Xai.elim h;obtain ⟨n13,hy,h⟩:=h
 refine XaJ.p (Xec hy) ?_
 conv=>whnf
 replace h:=XaE.elim h;obtain ⟨hb,h⟩:=h
 try (refine req.intro hb ?_;conv=>whnf)
 replace h:=Xai.elim h;obtain ⟨n14,hy,h⟩:=h
 refine XaJ.p (Xec hy) ?_
 conv=>whnf
 replace h:=XaE.elim h;obtain ⟨hb,h⟩:=h
 try (refine req.intro hb ?_;conv=>whnf)
 let t4:List UInt8:=((((n9++n10)++n11)++n12)++n13)++n14
 replace h:=Xai.elim h;obtain ⟨n15,hy,h⟩:=h
 refine XaJ.p (Xec hy) ?_
 conv=>whnf
 replace h:=XaE.elim h;obtain ⟨hb,h⟩:=h
 try (refine req.intro hb ?_;conv=>whnf)
 replace h:=Xai.elim h;obtain ⟨n16,hy,h⟩:=h
 refine XaJ.p (Xec hy) ?_
 conv=>whnf
 replace h:=XaE.elim h;obtain ⟨hb,h⟩:=h
 try (refine req.intro hb ?_;conv=>whnf)
 replace h:=Xai.elim h;obtain ⟨n17,hy,h⟩:=h
 refine XaJ.p (Xec hy) ?_
 conv=>whnf
 replace h:=XaE.elim h;obtain ⟨hb,h⟩:=h
 try (refine req.intro hb ?_;conv=>whnf)
 replace h:=Xai.elim h;obtain ⟨p2,hy,h⟩:=h
 refine XaJ.p (XjT hy) ?_
 conv=>whnf
 replace h:=XaE.elim h;obtain ⟨hb,h⟩:=h
 try (refine req.intro hb ?_;conv=>whnf)
 replace h:=Xai.elim h;obtain ⟨p3,hy,h⟩:=h
 refine XaJ.p (XjT hy) ?_
 conv=>whnf
 replace h:=XaE.elim h;obtain ⟨hb,h⟩:=h
 try (refine req.intro hb ?_;conv=>whnf)
 let t5:List UInt8:=((((t4++n15)++n16)++n17)++p2)++p3
 replace h:=XaE.elim h;obtain ⟨hb,h⟩:=h
 try (refine req.intro hb ?_;conv=>whnf)
 replace h:=Xai.elim h;obtain ⟨xo1,hy,h⟩:=h
 refine XaJ.p (Xth hy) ?_
 conv=>whnf
 replace h:=Xai.elim h;obtain ⟨s1,hy,h⟩:=h
 refine XaJ.p (XvG hy) ?_
 conv=>whnf
 replace h:=XaE.elim h;obtain ⟨hb,h⟩:=h
 try (refine req.intro hb ?_;conv=>whnf)
 all_goals (cases h;exact Res.y)
theorem ok52 (Xdg:(List UInt8)→Option Int) (Xck:(List UInt8)→Int→Int→Int→Option (List UInt8)) (Xbm:Xab→Option (List UInt8)) (Xc5:Xak→Option Bool) (Xbk:Int→Int→Option (List UInt8)) (hS:Xah Tryz.prog (Xav (XzO Xdg Xck Xbm Xc5 Xbk))):Xar Tryz.prog 52 (s52 (XkS Xdg Xck Xbm Xc5 Xbk)):=by
 refine Xar.Xax Xan (fun ar os r ha hr=>?_) ⟨Tryz.f52,rfl,by decide,rfl⟩
 replace hr:r52 (XkS Xdg Xck Xbm Xc5 Xbk) ar (XaH os)=some r:=hr
 unfold r52 at hr
 generalize hc:XaH os=C at hr
 replace hr:=dV.elim hr;obtain ⟨v0,l1,y0,rfl,e0,hr⟩:=hr;obtain rfl:=Xiw _ _ e0
 replace hr:=dV.elim hr;obtain ⟨v1,l2,y1,rfl,e1,hr⟩:=hr;obtain rfl:=XbM _ _ e1
 replace hr:=Xdw hr;obtain ⟨rfl,rfl,x,h,rfl⟩:=hr
 obtain rfl:=Xat hc
 exact ⟨_,rfl,XF2 Xdg Xck Xbm Xc5 Xbk hS _ _ x h⟩
def XeK:Xak→(List UInt8)→Option ((List UInt8)×Int):=XkS Xdg Xck Xbm Xc5 Xbk
theorem XK3:Xar Tryz.prog 52 (s52 XeK):=ok52 Xdg Xck Xbm Xc5 Xbk (Xah.Xa0 ⟨Xz9,XBg,Xux,XKk,XzV,trivial⟩)
end Go.Vm.Code
namespace Go.Vm.Code
open Go Go.Vm
theorem Xsg:∀ i:Fin 16,i.val≠14→Nat.testBit 18446744073709535231 i.val=true:=by decide +kernel
theorem XsD {x:Nat} (hx:x<65536):x &&& 18446744073709535231=0↔x=0∨x=16384:=by
 constructor
 ·intro h
  have hbit:∀ i,i≠14→x.testBit i=false:=by
   intro i hi
   by_cases h16:i<16
   ·have h1:(x &&& 18446744073709535231).testBit i=false:=by rw [h];exact Nat.zero_testBit i
    rw [Nat.testBit_and,Xsg ⟨i,h16⟩ hi,Bool.and_true] at h1
    exact h1
   ·exact Nat.testBit_lt_two_pow (Nat.lt_of_lt_of_le hx (by
     have:2^16≤2^i:=Nat.pow_le_pow_right (by decide) (by omega)
     omega))
  cases h14:x.testBit 14
  ·left
   apply Nat.eq_of_testBit_eq
   intro i
   rw [Nat.zero_testBit]
   by_cases hi:i=14
   ·rw [hi,h14]
   ·exact hbit i hi
  ·right
   apply Nat.eq_of_testBit_eq
   intro i
   rw [show (16384:Nat)=2^14 from rfl,Nat.testBit_two_pow]
   by_cases hi:i=14
   ·rw [hi,h14];rfl
   ·rw [hbit i hi,decide_eq_false (fun e=>hi e.symm)]
 ·rintro (h|h)
  ·rw [h];rfl
  ·rw [h];rfl
theorem XJp {x:Nat} (hx:x<65536):XiD .i64 (x:Int) 16384=((x &&& 18446744073709535231:Nat):Int):=by
 have h:x &&& 18446744073709535231≤x:=Nat.and_le_left
 show IntKind.wrap .i64 _=_
 rw [show IntKind.bits .i64=64 from rfl,BitVec.toNat_and,XE9 (by omega),show (~~~ (BitVec.ofInt 64 16384)).toNat=18446744073709535231 from rfl]
 exact XcC (by omega) (by omega)
theorem Xuv {a b:UInt8}:(XiD .i64 ((a.toNat:Int)*256+b.toNat) 16384 !=0)=decide ((a.toNat:Int)*256+b.toNat≠0∧(a.toNat:Int)*256+b.toNat≠16384):=by
 have h1:=a.toNat_lt
 have h2:=b.toNat_lt
 have hx:a.toNat*256+b.toNat<65536:=by omega
 rw [show (a.toNat:Int)*256+b.toNat=((a.toNat*256+b.toNat:Nat):Int) by omega,XJp hx,Bool.eq_iff_iff,bne_iff_ne,decide_eq_true_eq]
 have hz:=XsD hx
 generalize a.toNat*256+b.toNat=x at *
 generalize x &&& 18446744073709535231=y at *
 constructor
 ·intro h
  have:¬ (x=0∨x=16384):=fun e=>h (by have:=hz.2 e;omega)
  omega
 ·intro h e
  have:=hz.1 (by omega)
  omega
end Go.Vm.Code
namespace Go.Vm.Code
open Go Go.Vm Go.Proofs
set_option maxRecDepth 100000
set_option maxHeartbeats 4000000
set_option linter.unusedVariables false
def Xmz (n:Int) (most:Int):Option Bool:=
 cond (decide (n≥0))
  (
  some (decide (n≤most)))
  (
  some (false))
def XyZ (x:Bool):Xcw:=⟨.bool x,[],[]⟩
def r118 (g:Int→Int→Option Bool):Dec:=dV (asI .i64) fun (y0:Int)=>dV (asI .i64) fun (y1:Int)=>Xdd (ofG (g y0 y1) XyZ)
theorem XHy {g:Int→Int→Option Bool} {y0:Int} {y1:Int} {x:Bool} (hx:g y0 y1=some x):r118 g [.int .i64 y0,.int .i64 y1] []=some (XyZ x):=(XaX (Xcv _)).trans ((XaX (Xcv _)).trans (Xa3 hx))
def s118 (g:Int→Int→Option Bool):Xbu:=⟨[.v,.v],r118 g⟩
theorem Xn7 {g:Int→Int→Option Bool} {y0:Int} {y1:Int} {x:Bool} (hx:g y0 y1=some x):(s118 g).run [.int .i64 y0,.int .i64 y1] []=some (XyZ x):=XHy hx
abbrev Xtt:List (Nat×Xbu):=[]
theorem XxA (hS:Xah Tryz.prog (Xav (Xtt))) (n:Int) (most:Int) (res:Bool) (h:Xmz n most=some res) :
 XaK Tryz.prog 118 0 ⟨⟨118,12,[(0,.int .i64 n),(1,.int .i64 most)],[.code XBz],[],false,none⟩,[],[],0⟩ (fun v H _=>Res 0 (XyZ res) v H):=by
 unfold Xmz at h
 refine Xbi Xan hS true 3000 ?_
 conv=>whnf
 refine br.h h (by rfl) ?_ ?_
 ·clear h;intro hb h;conv=>whnf
  all_goals (cases h;exact Res.y)
 clear h;intro hb h;conv=>whnf
 all_goals (cases h;exact Res.y)
theorem ok118 (hS:Xah Tryz.prog (Xav (Xtt))):Xar Tryz.prog 118 (s118 (Xmz)):=by
 refine Xar.Xax Xan (fun ar os r ha hr=>?_) ⟨Tryz.f118,rfl,by decide,rfl⟩
 replace hr:r118 (Xmz) ar (XaH os)=some r:=hr
 unfold r118 at hr
 generalize hc:XaH os=C at hr
 replace hr:=dV.elim hr;obtain ⟨v0,l1,y0,rfl,e0,hr⟩:=hr;obtain rfl:=XbF _ _ _ e0
 replace hr:=dV.elim hr;obtain ⟨v1,l2,y1,rfl,e1,hr⟩:=hr;obtain rfl:=XbF _ _ _ e1
 replace hr:=Xdw hr;obtain ⟨rfl,rfl,x,h,rfl⟩:=hr
 obtain rfl:=Xat hc
 exact ⟨_,rfl,XxA hS _ _ x h⟩
def XfJ:Int→Int→Option Bool:=Xmz
theorem XCR:Xar Tryz.prog 118 (s118 XfJ):=ok118 (Xah.Xa0 trivial)
def XhE (XfJ:Int→Int→Option Bool) (ha0:Xao):Option Bool:=
 (XfJ ha0.Class 255).bind fun i=>
 cond (i)
  (
  (XfJ ha0.Label 1048575).bind fun i1=>
  cond (i1)
   (
   (XfJ ha0.Next 255).bind fun i2=>
   cond (i2)
    (
    (XfJ ha0.Hop 255).bind fun i3=>
    cond (i3)
     (
     cond (ha0.Src.V6)
      (
      some (ha0.Dst.V6))
      (
      some (false)))
     (
     some (false)))
    (
    some (false)))
   (
   some (false)))
  (
  some (false))
def rx90 (x:Bool):Xcw:=⟨.bool x,[],[]⟩
def r90 (g:Xao→Option Bool):Dec:=dV Xgl fun (y0:Xao)=>Xdd (ofG (g y0) rx90)
theorem r90_c {g:Xao→Option Bool} {y0:Xao} {x:Bool} (hx:g y0=some x):r90 g [.agg ⟨[.int .i64 y0.Class,.int .i64 y0.Label,.int .i64 y0.Next,.int .i64 y0.Hop,.bool y0.Src.V6,.int .u64 y0.Src.Hi,.int .u64 y0.Src.Lo,.bool y0.Dst.V6,.int .u64 y0.Dst.Hi,.int .u64 y0.Dst.Lo]⟩] []=some (rx90 x):=(XaX (XjU _)).trans (Xa3 hx)
def s90 (g:Xao→Option Bool):Xbu:=⟨[.v],r90 g⟩
theorem XIe {g:Xao→Option Bool} {y0:Xao} {x:Bool} (hx:g y0=some x):(s90 g).run [.agg ⟨[.int .i64 y0.Class,.int .i64 y0.Label,.int .i64 y0.Next,.int .i64 y0.Hop,.bool y0.Src.V6,.int .u64 y0.Src.Hi,.int .u64 y0.Src.Lo,.bool y0.Dst.V6,.int .u64 y0.Dst.Hi,.int .u64 y0.Dst.Lo]⟩] []=some (rx90 x):=r90_c hx
abbrev XBe (XfJ:Int→Int→Option Bool):List (Nat×Xbu):=[(118,s118 XfJ)]
theorem XCL (XfJ:Int→Int→Option Bool) (hS:Xah Tryz.prog (Xav (XBe XfJ))) (ha0:Xao) (res:Bool) (h:XhE XfJ ha0=some res) :
 XaK Tryz.prog 90 0 ⟨⟨90,31,[(0,.agg ⟨[.int .i64 ha0.Class,.int .i64 ha0.Label,.int .i64 ha0.Next,.int .i64 ha0.Hop,.bool ha0.Src.V6,.int .u64 ha0.Src.Hi,.int .u64 ha0.Src.Lo,.bool ha0.Dst.V6,.int .u64 ha0.Dst.Hi,.int .u64 ha0.Dst.Lo]⟩)],[.code XLA],[],false,none⟩,[],[],0⟩ (fun v H _=>Res 0 (rx90 res) v H):=by
 unfold XhE at h
 refine Xbi Xan hS true 3000 ?_
 conv=>whnf
 replace h:=Xai.elim h;obtain ⟨i,hy,h⟩:=h
 refine XaJ.p (Xn7 hy) ?_
 conv=>whnf
 refine br.h2 h (by rfl) ?_ ?_
 ·clear h;intro hb h;conv=>whnf
  all_goals (cases h;exact Res.y)
 clear h;intro hb h;conv=>whnf
 replace h:=Xai.elim h;obtain ⟨i1,hy,h⟩:=h
 refine XaJ.p (Xn7 hy) ?_
 conv=>whnf
 refine br.h2 h (by rfl) ?_ ?_
 ·clear h;intro hb h;conv=>whnf
  all_goals (cases h;exact Res.y)
 clear h;intro hb h;conv=>whnf
 replace h:=Xai.elim h;obtain ⟨i2,hy,h⟩:=h
 refine XaJ.p (Xn7 hy) ?_
 conv=>whnf
 refine br.h2 h (by rfl) ?_ ?_
 ·clear h;intro hb h;conv=>whnf
  all_goals (cases h;exact Res.y)
 clear h;intro hb h;conv=>whnf
 replace h:=Xai.elim h;obtain ⟨i3,hy,h⟩:=h
 refine XaJ.p (Xn7 hy) ?_
 conv=>whnf
 refine br.h2 h (by rfl) ?_ ?_
 ·clear h;intro hb h;conv=>whnf
  all_goals (cases h;exact Res.y)
 clear h;intro hb h;conv=>whnf
 refine br.h h (by rfl) ?_ ?_
 ·clear h;intro hb h;conv=>whnf
  all_goals (cases h;exact Res.y)
 clear h;intro hb h;conv=>whnf
 all_goals (cases h;exact Res.y)
theorem ok90 (XfJ:Int→Int→Option Bool) (hS:Xah Tryz.prog (Xav (XBe XfJ))):Xar Tryz.prog 90 (s90 (XhE XfJ)):=by
 refine Xar.Xax Xan (fun ar os r ha hr=>?_) ⟨Tryz.f90,rfl,by decide,rfl⟩
 replace hr:r90 (XhE XfJ) ar (XaH os)=some r:=hr
 unfold r90 at hr
 generalize hc:XaH os=C at hr
 replace hr:=dV.elim hr;obtain ⟨v0,l1,y0,rfl,e0,hr⟩:=hr;obtain rfl:=Xi3 _ _ e0
 replace hr:=Xdw hr;obtain ⟨rfl,rfl,x,h,rfl⟩:=hr
 obtain rfl:=Xat hc
 exact ⟨_,rfl,XCL XfJ hS _ x h⟩
def Xc6:Xao→Option Bool:=XhE XfJ
theorem XHi:Xar Tryz.prog 90 (s90 Xc6):=ok90 XfJ (Xah.Xa0 ⟨XCR,trivial⟩)
def Xkk (XaU:Int→Int→Option (List UInt8)) (n:Int) (k:Int):Option (List UInt8):=
 (XaU (wI .u64 n) k).bind fun p=>
 some (p)
def rx91 (x:List UInt8):Xcw:=⟨.string ⟨⟨x⟩⟩,[],[]⟩
def r91 (g:Int→Int→Option (List UInt8)):Dec:=dV (asI .i64) fun (y0:Int)=>dV (asI .i64) fun (y1:Int)=>Xdd (ofG (g y0 y1) rx91)
theorem r91_c {g:Int→Int→Option (List UInt8)} {y0:Int} {y1:Int} {x:List UInt8} (hx:g y0 y1=some x):r91 g [.int .i64 y0,.int .i64 y1] []=some (rx91 x):=(XaX (Xcv _)).trans ((XaX (Xcv _)).trans (Xa3 hx))
def s91 (g:Int→Int→Option (List UInt8)):Xbu:=⟨[.v,.v],r91 g⟩
theorem Xq3 {g:Int→Int→Option (List UInt8)} {y0:Int} {y1:Int} {x:List UInt8} (hx:g y0 y1=some x):(s91 g).run [.int .i64 y0,.int .i64 y1] []=some (rx91 x):=r91_c hx
abbrev XAq (XaU:Int→Int→Option (List UInt8)):List (Nat×Xbu):=[(85,s85 XaU)]
theorem XEH (XaU:Int→Int→Option (List UInt8)) (hS:Xah Tryz.prog (Xav (XAq XaU))) (n:Int) (k:Int) (res:List UInt8) (h:Xkk XaU n k=some res) :
 XaK Tryz.prog 91 0 ⟨⟨91,9,[(0,.int .i64 n),(1,.int .i64 k)],[.code XHp],[],false,none⟩,[],[],0⟩ (fun v H _=>Res 0 (rx91 res) v H):=by
 unfold Xkk at h
 refine Xbi Xan hS true 3000 ?_
 conv=>whnf
 replace h:=Xai.elim h;obtain ⟨p,hy,h⟩:=h
 refine XaJ.p (Xmj hy) ?_
 conv=>whnf
 all_goals (cases h;exact Res.y)
theorem ok91 (XaU:Int→Int→Option (List UInt8)) (hS:Xah Tryz.prog (Xav (XAq XaU))):Xar Tryz.prog 91 (s91 (Xkk XaU)):=by
 refine Xar.Xax Xan (fun ar os r ha hr=>?_) ⟨Tryz.f91,rfl,by decide,rfl⟩
 replace hr:r91 (Xkk XaU) ar (XaH os)=some r:=hr
 unfold r91 at hr
 generalize hc:XaH os=C at hr
 replace hr:=dV.elim hr;obtain ⟨v0,l1,y0,rfl,e0,hr⟩:=hr;obtain rfl:=XbF _ _ _ e0
 replace hr:=dV.elim hr;obtain ⟨v1,l2,y1,rfl,e1,hr⟩:=hr;obtain rfl:=XbF _ _ _ e1
 replace hr:=Xdw hr;obtain ⟨rfl,rfl,x,h,rfl⟩:=hr
 obtain rfl:=Xat hc
 exact ⟨_,rfl,XEH XaU hS _ _ x h⟩
def Xd6:Int→Int→Option (List UInt8):=Xkk XaU
theorem XK8:Xar Tryz.prog 91 (s91 Xd6):=ok91 XaU (Xah.Xa0 ⟨Xpq,trivial⟩)
def Xkm (Xbm:Xab→Option (List UInt8)) (Xc6:Xao→Option Bool) (Xd6:Int→Int→Option (List UInt8)) (ha0:Xao) (payload:List UInt8):Option ((List UInt8)×Int):=
 (Xc6 ha0).bind fun xr=>
 cond (!xr)
  (
  some (([],1)))
  (
  cond (decide ((payload.length:Int)>65535))
   (
   some (([],5)))
   (
   let t:=wI .i64 (1610612736+(wI .i64 (ha0.Class*1048576)))
   (Xd6 (wI .i64 (t+ha0.Label)) 4).bind fun n=>
   (Xd6 (payload.length:Int) 2).bind fun n1=>
   XaE (decide (n.length+n1.length<2^63)) <|
   (Xd6 ha0.Next 1).bind fun n2=>
   XaE (decide ((n++n1).length+n2.length<2^63)) <|
   (Xd6 ha0.Hop 1).bind fun n3=>
   XaE (decide (((n++n1)++n2).length+n3.length<2^63)) <|
   (Xbm ha0.Src).bind fun p=>
   XaE (decide ((((n++n1)++n2)++n3).length+p.length<2^63)) <|
   (Xbm ha0.Dst).bind fun p1=>
   XaE (decide (((((n++n1)++n2)++n3)++p).length+p1.length<2^63)) <|
   XaE (decide ((((((n++n1)++n2)++n3)++p)++p1).length+payload.length<2^63)) <|
   let t1:=(((((n++n1)++n2)++n3)++p)++p1)++payload
   some ((t1,0))))
def rx51 (x:(List UInt8)×Int):Xcw:=⟨.tuple ⟨[.string ⟨⟨x.1⟩⟩,.int .i64 x.2]⟩,[],[]⟩
def r51 (g:Xao→(List UInt8)→Option ((List UInt8)×Int)):Dec:=dV Xgl fun (y0:Xao)=>dV asS fun (y1:List UInt8)=>Xdd (ofG (g y0 y1) rx51)
theorem r51_c {g:Xao→(List UInt8)→Option ((List UInt8)×Int)} {y0:Xao} {y1:List UInt8} {x:(List UInt8)×Int} (hx:g y0 y1=some x):r51 g [.agg ⟨[.int .i64 y0.Class,.int .i64 y0.Label,.int .i64 y0.Next,.int .i64 y0.Hop,.bool y0.Src.V6,.int .u64 y0.Src.Hi,.int .u64 y0.Src.Lo,.bool y0.Dst.V6,.int .u64 y0.Dst.Hi,.int .u64 y0.Dst.Lo]⟩,.string ⟨⟨y1⟩⟩] []=some (rx51 x):=(XaX (XjU _)).trans ((XaX (XcI)).trans (Xa3 hx))
def s51 (g:Xao→(List UInt8)→Option ((List UInt8)×Int)):Xbu:=⟨[.v,.v],r51 g⟩
theorem XAk {g:Xao→(List UInt8)→Option ((List UInt8)×Int)} {y0:Xao} {y1:List UInt8} {x:(List UInt8)×Int} (hx:g y0 y1=some x):(s51 g).run [.agg ⟨[.int .i64 y0.Class,.int .i64 y0.Label,.int .i64 y0.Next,.int .i64 y0.Hop,.bool y0.Src.V6,.int .u64 y0.Src.Hi,.int .u64 y0.Src.Lo,.bool y0.Dst.V6,.int .u64 y0.Dst.Hi,.int .u64 y0.Dst.Lo]⟩,.string ⟨⟨y1⟩⟩] []=some (rx51 x):=r51_c hx
abbrev XAw (Xbm:Xab→Option (List UInt8)) (Xc6:Xao→Option Bool) (Xd6:Int→Int→Option (List UInt8)):List (Nat×Xbu):=[(92,s92 Xbm),(90,s90 Xc6),(91,s91 Xd6)]
theorem XFE (Xbm:Xab→Option (List UInt8)) (Xc6:Xao→Option Bool) (Xd6:Int→Int→Option (List UInt8)) (hS:Xah Tryz.prog (Xav (XAw Xbm Xc6 Xd6))) (ha0:Xao) (payload:List UInt8) (res:(List UInt8)×Int) (h:Xkm Xbm Xc6 Xd6 ha0 payload=some res) :
 XaK Tryz.prog 51 0 ⟨⟨51,42,[(0,.agg ⟨[.int .i64 ha0.Class,.int .i64 ha0.Label,.int .i64 ha0.Next,.int .i64 ha0.Hop,.bool ha0.Src.V6,.int .u64 ha0.Src.Hi,.int .u64 ha0.Src.Lo,.bool ha0.Dst.V6,.int .u64 ha0.Dst.Hi,.int .u64 ha0.Dst.Lo]⟩),(1,.string ⟨⟨payload⟩⟩)],[.code XAe],[],false,none⟩,[],[],0⟩ (fun v H _=>Res 0 (rx51 res) v H):=by
 unfold Xkm at h
 refine Xbi Xan hS true 3000 ?_
 conv=>whnf
 replace h:=Xai.elim h;obtain ⟨xr,hy,h⟩:=h
 refine XaJ.p (XIe hy) ?_
 conv=>whnf
 refine br.h h (by rfl) ?_ ?_
 ·clear h;intro hb h;conv=>whnf
  all_goals (cases h;exact Res.y)
 clear h;intro hb h;conv=>whnf
 refine br.h h (by rfl) ?_ ?_
 ·clear h;intro hb h;conv=>whnf
  all_goals (cases h;exact Res.y)
 clear h;intro hb h;conv=>whnf
 let t:Int:=wI .i64 (1610612736+(wI .i64 (ha0.Class*1048576)))
 replace h:=Xai.elim h;obtain ⟨n,hy,h⟩:=h
 refine XaJ.p (Xq3 hy) ?_
 conv=>whnf
 replace h:=Xai.elim h;obtain ⟨n1,hy,h⟩:=h
 refine XaJ.p (Xq3 hy) ?_
 conv=>whnf
 replace h:=XaE.elim h;obtain ⟨hb,h⟩:=h
 try (refine req.intro hb ?_;conv=>whnf)
 replace h:=Xai.elim h;obtain ⟨n2,hy,h⟩:=h
 refine XaJ.p (Xq3 hy) ?_
 conv=>whnf
 replace h:=XaE.elim h;obtain ⟨hb,h⟩:=h
 try (refine req.intro hb ?_;conv=>whnf)
 replace h:=Xai.elim h;obtain ⟨n3,hy,h⟩:=h
 refine XaJ.p (Xq3 hy) ?_
 conv=>whnf
 replace h:=XaE.elim h;obtain ⟨hb,h⟩:=h
 try (refine req.intro hb ?_;conv=>whnf)
 replace h:=Xai.elim h;obtain ⟨p,hy,h⟩:=h
 refine XaJ.p (XjT hy) ?_
 conv=>whnf
 replace h:=XaE.elim h;obtain ⟨hb,h⟩:=h
 try (refine req.intro hb ?_;conv=>whnf)
 replace h:=Xai.elim h;obtain ⟨p1,hy,h⟩:=h
 refine XaJ.p (XjT hy) ?_
 conv=>whnf
 replace h:=XaE.elim h;obtain ⟨hb,h⟩:=h
 try (refine req.intro hb ?_;conv=>whnf)
 replace h:=XaE.elim h;obtain ⟨hb,h⟩:=h
 try (refine req.intro hb ?_;conv=>whnf)
 let t1:List UInt8:=(((((n++n1)++n2)++n3)++p)++p1)++payload
 all_goals (cases h;exact Res.y)
theorem ok51 (Xbm:Xab→Option (List UInt8)) (Xc6:Xao→Option Bool) (Xd6:Int→Int→Option (List UInt8)) (hS:Xah Tryz.prog (Xav (XAw Xbm Xc6 Xd6))):Xar Tryz.prog 51 (s51 (Xkm Xbm Xc6 Xd6)):=by
 refine Xar.Xax Xan (fun ar os r ha hr=>?_) ⟨Tryz.f51,rfl,by decide,rfl⟩
 replace hr:r51 (Xkm Xbm Xc6 Xd6) ar (XaH os)=some r:=hr
 unfold r51 at hr
 generalize hc:XaH os=C at hr
 replace hr:=dV.elim hr;obtain ⟨v0,l1,y0,rfl,e0,hr⟩:=hr;obtain rfl:=Xi3 _ _ e0
 replace hr:=dV.elim hr;obtain ⟨v1,l2,y1,rfl,e1,hr⟩:=hr;obtain rfl:=XbM _ _ e1
 replace hr:=Xdw hr;obtain ⟨rfl,rfl,x,h,rfl⟩:=hr
 obtain rfl:=Xat hc
 exact ⟨_,rfl,XFE Xbm Xc6 Xd6 hS _ _ x h⟩
def XeL:Xao→(List UInt8)→Option ((List UInt8)×Int):=Xkm Xbm Xc6 Xd6
theorem XHL:Xar Tryz.prog 51 (s51 XeL):=ok51 Xbm Xc6 Xd6 (Xah.Xa0 ⟨Xux,XHi,XK8,trivial⟩)
end Go.Vm.Code
namespace Go.Vm.Code
open Go Go.Vm
def Xsx (s:List UInt8):Xab:=⟨true,(Xdf (s.take 8):Nat),(Xdf (s.drop 8):Nat)⟩
end Go.Vm.Code
namespace Go.Vm.Code
open Go Go.Vm Go.Proofs
set_option maxRecDepth 100000
set_option maxHeartbeats 4000000
set_option linter.unusedVariables false
def Xg5 (Xal:(List UInt8)→Int→Int→Option (Int×Bool)) (s:List UInt8):Option (Xab×Bool):=
 cond ((s.length:Int)==4)
  (
  (Xal s 0 4).bind fun xg=>
  some ((Xab.mk false 0 xg.1,true)))
  (
  cond ((s.length:Int)==16)
   (
   (Xal s 0 8).bind fun xg1=>
   (Xal s 8 8).bind fun xg2=>
   some ((Xab.mk true xg1.1 xg2.1,true)))
   (
   some ((Xab.mk false 0 0,false))))
def XyV (x:Xab×Bool):Xcw:=⟨.tuple ⟨[.agg ⟨[.bool x.1.V6,.int .u64 x.1.Hi,.int .u64 x.1.Lo]⟩,.bool x.2]⟩,[],[]⟩
def r135 (g:(List UInt8)→Option (Xab×Bool)):Dec:=dV asS fun (y0:List UInt8)=>Xdd (ofG (g y0) XyV)
theorem XI7 {g:(List UInt8)→Option (Xab×Bool)} {y0:List UInt8} {x:Xab×Bool} (hx:g y0=some x):r135 g [.string ⟨⟨y0⟩⟩] []=some (XyV x):=(XaX (XcI)).trans (Xa3 hx)
def XKG (g:(List UInt8)→Option (Xab×Bool)):Xbu:=⟨[.v],r135 g⟩
theorem Xp9 {g:(List UInt8)→Option (Xab×Bool)} {y0:List UInt8} {x:Xab×Bool} (hx:g y0=some x):(XKG g).run [.string ⟨⟨y0⟩⟩] []=some (XyV x):=XI7 hx
abbrev XuG (Xal:(List UInt8)→Int→Int→Option (Int×Bool)):List (Nat×Xbu):=[(40,s40 Xal)]
theorem Xxg (Xal:(List UInt8)→Int→Int→Option (Int×Bool)) (hS:Xah Tryz.prog (Xav (XuG Xal))) (s:List UInt8) (res:Xab×Bool) (h:Xg5 Xal s=some res) :
 XaK Tryz.prog 135 0 ⟨⟨135,35,[(0,.string ⟨⟨s⟩⟩)],[.code Xud],[],false,none⟩,[],[],0⟩ (fun v H _=>Res 0 (XyV res) v H):=by
 unfold Xg5 at h
 refine Xbi Xan hS true 3000 ?_
 conv=>whnf
 refine br.h h (by rfl) ?_ ?_
 ·clear h;intro hb h;conv=>whnf
  replace h:=Xai.elim h;obtain ⟨xg,hy,h⟩:=h
  refine XaJ.p (XhP hy) ?_
  conv=>whnf
  all_goals (cases h;exact Res.y)
 clear h;intro hb h;conv=>whnf
 refine br.h2 h (by rfl) ?_ ?_
 ·clear h;intro hb h;conv=>whnf
  all_goals (cases h;exact Res.y)
 clear h;intro hb h;conv=>whnf
 replace h:=Xai.elim h;obtain ⟨xg1,hy,h⟩:=h
 refine XaJ.p (XhP hy) ?_
 conv=>whnf
 replace h:=Xai.elim h;obtain ⟨xg2,hy,h⟩:=h
 refine XaJ.p (XhP hy) ?_
 conv=>whnf
 all_goals (cases h;exact Res.y)
theorem ok135 (Xal:(List UInt8)→Int→Int→Option (Int×Bool)) (hS:Xah Tryz.prog (Xav (XuG Xal))):Xar Tryz.prog 135 (XKG (Xg5 Xal)):=by
 refine Xar.Xax Xan (fun ar os r ha hr=>?_) ⟨Tryz.f135,rfl,by decide,rfl⟩
 replace hr:r135 (Xg5 Xal) ar (XaH os)=some r:=hr
 unfold r135 at hr
 generalize hc:XaH os=C at hr
 replace hr:=dV.elim hr;obtain ⟨v0,l1,y0,rfl,e0,hr⟩:=hr;obtain rfl:=XbM _ _ e0
 replace hr:=Xdw hr;obtain ⟨rfl,rfl,x,h,rfl⟩:=hr
 obtain rfl:=Xat hc
 exact ⟨_,rfl,Xxg Xal hS _ x h⟩
def XbI:(List UInt8)→Option (Xab×Bool):=Xg5 Xal
theorem XtA:Xar Tryz.prog 135 (XKG XbI):=ok135 Xal (Xah.Xa0 ⟨XnH,trivial⟩)
def Xh9 (Xbv:(List UInt8)→Int→Int→Option (Int×Bool)) (s:List UInt8):Option (Xab×Bool):=
 cond ((s.length:Int)==4)
  (
  (Xbv s 0 4).bind fun xg=>
  some ((Xab.mk false 0 xg.1,true)))
  (
  cond ((s.length:Int)==16)
   (
   (Xbv s 0 8).bind fun xg1=>
   (Xbv s 8 8).bind fun xg2=>
   some ((Xab.mk true xg1.1 xg2.1,true)))
   (
   some ((Xab.mk false 0 0,false))))
def Xy6 (x:Xab×Bool):Xcw:=⟨.tuple ⟨[.agg ⟨[.bool x.1.V6,.int .u64 x.1.Hi,.int .u64 x.1.Lo]⟩,.bool x.2]⟩,[],[]⟩
def r122 (g:(List UInt8)→Option (Xab×Bool)):Dec:=dV asS fun (y0:List UInt8)=>Xdd (ofG (g y0) Xy6)
theorem XJP {g:(List UInt8)→Option (Xab×Bool)} {y0:List UInt8} {x:Xab×Bool} (hx:g y0=some x):r122 g [.string ⟨⟨y0⟩⟩] []=some (Xy6 x):=(XaX (XcI)).trans (Xa3 hx)
def XIR (g:(List UInt8)→Option (Xab×Bool)):Xbu:=⟨[.v],r122 g⟩
theorem Xlr {g:(List UInt8)→Option (Xab×Bool)} {y0:List UInt8} {x:Xab×Bool} (hx:g y0=some x):(XIR g).run [.string ⟨⟨y0⟩⟩] []=some (Xy6 x):=XJP hx
abbrev Xuz (Xbv:(List UInt8)→Int→Int→Option (Int×Bool)):List (Nat×Xbu):=[(70,s70 Xbv)]
theorem Xw2 (Xbv:(List UInt8)→Int→Int→Option (Int×Bool)) (hS:Xah Tryz.prog (Xav (Xuz Xbv))) (s:List UInt8) (res:Xab×Bool) (h:Xh9 Xbv s=some res) :
 XaK Tryz.prog 122 0 ⟨⟨122,37,[(0,.string ⟨⟨s⟩⟩)],[.code Xt7],[],false,none⟩,[],[],0⟩ (fun v H _=>Res 0 (Xy6 res) v H):=by
 unfold Xh9 at h
 refine Xbi Xan hS true 3000 ?_
 conv=>whnf
 refine br.h h (by rfl) ?_ ?_
 ·clear h;intro hb h;conv=>whnf
  replace h:=Xai.elim h;obtain ⟨xg,hy,h⟩:=h
  refine XaJ.p (Xpf hy) ?_
  conv=>whnf
  all_goals (cases h;exact Res.y)
 clear h;intro hb h;conv=>whnf
 refine br.h2 h (by rfl) ?_ ?_
 ·clear h;intro hb h;conv=>whnf
  all_goals (cases h;exact Res.y)
 clear h;intro hb h;conv=>whnf
 replace h:=Xai.elim h;obtain ⟨xg1,hy,h⟩:=h
 refine XaJ.p (Xpf hy) ?_
 conv=>whnf
 replace h:=Xai.elim h;obtain ⟨xg2,hy,h⟩:=h
 refine XaJ.p (Xpf hy) ?_
 conv=>whnf
 all_goals (cases h;exact Res.y)
theorem ok122 (Xbv:(List UInt8)→Int→Int→Option (Int×Bool)) (hS:Xah Tryz.prog (Xav (Xuz Xbv))):Xar Tryz.prog 122 (XIR (Xh9 Xbv)):=by
 refine Xar.Xax Xan (fun ar os r ha hr=>?_) ⟨Tryz.f122,rfl,by decide,rfl⟩
 replace hr:r122 (Xh9 Xbv) ar (XaH os)=some r:=hr
 unfold r122 at hr
 generalize hc:XaH os=C at hr
 replace hr:=dV.elim hr;obtain ⟨v0,l1,y0,rfl,e0,hr⟩:=hr;obtain rfl:=XbM _ _ e0
 replace hr:=Xdw hr;obtain ⟨rfl,rfl,x,h,rfl⟩:=hr
 obtain rfl:=Xat hc
 exact ⟨_,rfl,Xw2 Xbv hS _ x h⟩
def XbS:(List UInt8)→Option (Xab×Bool):=Xh9 Xbv
theorem XtP:Xar Tryz.prog 122 (XIR XbS):=ok122 Xbv (Xah.Xa0 ⟨Xur,trivial⟩)
end Go.Vm.Code
namespace Go.Vm.Code
open Go Go.Vm
theorem XnK {s:List UInt8} (h:s.length=16):XbI s=some (Xsx s,true):=by
 unfold XbI Xg5
 have e1:((s.length:Int)==4)=false:=by rw [h];rfl
 have e2:((s.length:Int)==16)=true:=by rw [h];rfl
 have e3:(s.drop 8).take 8=s.drop 8:=List.take_of_length_le (by simp;omega)
 rw [e1,e2,cond_false,cond_true,XcM (by omega),XcM (by omega),XfE (p:=0) (k:=8) (by omega) (by omega) (by omega) (by omega),XfE (p:=8) (k:=8) (by omega) (by omega) (by omega) (by omega)]
 show some ((⟨true,((Xdf ((s.drop 0).take 8):Nat):Int),((Xdf ((s.drop 8).take 8):Nat):Int)⟩:Xab),true)=_
 rw [e3];rfl
theorem XpB {s:List UInt8} (h:s.length=16):XbS s=some (Xsx s,true):=by
 unfold XbS Xh9
 have e1:((s.length:Int)==4)=false:=by rw [h];rfl
 have e2:((s.length:Int)==16)=true:=by rw [h];rfl
 have e3:(s.drop 8).take 8=s.drop 8:=List.take_of_length_le (by simp;omega)
 rw [e1,e2,cond_false,cond_true,Xjf (by omega),Xjf (by omega),XfE (p:=0) (k:=8) (by omega) (by omega) (by omega) (by omega),XfE (p:=8) (k:=8) (by omega) (by omega) (by omega) (by omega)]
 show some ((⟨true,((Xdf ((s.drop 0).take 8):Nat):Int),((Xdf ((s.drop 8).take 8):Nat):Int)⟩:Xab),true)=_
 rw [e3];rfl
def XtO (s:List UInt8) (p:Nat):Xab:=⟨false,0,vK s p 4⟩
theorem aget4 {s:List UInt8} (h:s.length=4):XbI s=some (⟨false,0,vK s 0 4⟩,true):=by
 unfold XbI Xg5
 rw [show ((s.length:Int)==4)=true by rw [h];rfl,cond_true,XcM (by omega),XfE (by omega) (by omega) (by omega) (by omega)];rfl
theorem XA8 {s:List UInt8} (h:s.length=4):XbS s=some (⟨false,0,vK s 0 4⟩,true):=by
 unfold XbS Xh9
 rw [show ((s.length:Int)==4)=true by rw [h];rfl,cond_true,Xjf (by omega),XfE (by omega) (by omega) (by omega) (by omega)];rfl
end Go.Vm.Code
namespace Go.Vm.Code
open Go Go.Vm Go.Proofs
set_option maxRecDepth 100000
set_option maxHeartbeats 4000000
set_option linter.unusedVariables false
def Xb2 (XbI:(List UInt8)→Option (Xab×Bool)) (Xac:Xaa→Int→Option ((List UInt8)×Xaa)) (f:Xbn):Option (Xab×Xaa):=
 (Xac f.Reader 4).bind fun t=>
 (XbI t.1).bind fun xg=>
 some ((xg.1,t.2))
def Xxa (x:Xab×Xaa):Xcw:=⟨.agg ⟨[.bool x.1.V6,.int .u64 x.1.Hi,.int .u64 x.1.Lo]⟩,[],[some [.string ⟨⟨x.2.s⟩⟩,.bool x.2.made,.bool x.2.bad]]⟩
def r134 (g:Xbn→Option (Xab×Xaa)):Dec:=dTr 1 (XfH 0) fun (y0:Xbn)=>Xdd (ofG (g y0) Xxa)
theorem XHh {g:Xbn→Option (Xab×Xaa)} {y0:Xbn} {x:Xab×Xaa} (hx:g y0=some x):r134 g [.agg ⟨[.pointer (some ⟨0,0,none⟩)]⟩] [some [.string ⟨⟨y0.Reader.s⟩⟩,.bool y0.Reader.made,.bool y0.Reader.bad]]=some (Xxa x):=(XHm rfl rfl (Xlg 0 _)).trans (Xa3 hx)
def s134 (g:Xbn→Option (Xab×Xaa)):Xbu:=⟨[.tr [⟨none,0,0,1,none⟩]],r134 g⟩
theorem Xve {g:Xbn→Option (Xab×Xaa)} {y0:Xbn} {x:Xab×Xaa} (hx:g y0=some x):(s134 g).run [.agg ⟨[.pointer (some ⟨0,0,none⟩)]⟩] [some [.string ⟨⟨y0.Reader.s⟩⟩,.bool y0.Reader.made,.bool y0.Reader.bad]]=some (Xxa x):=XHh hx
abbrev XvM (XbI:(List UInt8)→Option (Xab×Bool)) (Xac:Xaa→Int→Option ((List UInt8)×Xaa)):List (Nat×Xbu):=[(135,XKG XbI),(64,s64 Xac)]
theorem Xyj (XbI:(List UInt8)→Option (Xab×Bool)) (Xac:Xaa→Int→Option ((List UInt8)×Xaa)) (hS:Xah Tryz.prog (Xav (XvM XbI Xac))) (f:Xbn) (res:Xab×Xaa) (h:Xb2 XbI Xac f=some res) :
 XaK Tryz.prog 134 1 ⟨⟨134,13,[(0,.agg ⟨[.pointer (some ⟨0,0,none⟩)]⟩)],[.code XBp],[],false,none⟩,[],[(0,.cells [.string ⟨⟨f.Reader.s⟩⟩,.bool f.Reader.made,.bool f.Reader.bad])],1⟩ (fun v H _=>Res 1 (Xxa res) v H):=by
 unfold Xb2 at h
 refine Xbi Xan hS true 3000 ?_
 conv=>whnf
 replace h:=Xai.elim h;obtain ⟨t,hy,h⟩:=h
 refine XaJ.Xbe [0] (Xaw (aqs:=[.pointer (some ⟨0,0,none⟩),.int .i64 4]) (ws:=[.win 0 0 3 true]) (n:=0) (m:=0) (t':=3) (Xau rfl rfl (Xau rfl rfl Xbg)) rfl (by rfl) (Xhl hy) rfl rfl rfl rfl (XbD rfl rfl rfl ⟨rfl,Nat.le_of_ble_eq_true rfl⟩ rfl rfl Xbf) Xbc rfl) ?_
 conv=>whnf
 replace h:=Xai.elim h;obtain ⟨xg,hy,h⟩:=h
 refine XaJ.p (Xp9 hy) ?_
 conv=>whnf
 all_goals (cases h)
 all_goals exact Res.of [] rfl Xhe (by decide) Xhc (XlM (rfl) (XbW rfl) Xhb)
theorem ok134 (XbI:(List UInt8)→Option (Xab×Bool)) (Xac:Xaa→Int→Option ((List UInt8)×Xaa)) (hS:Xah Tryz.prog (Xav (XvM XbI Xac))):Xar Tryz.prog 134 (s134 (Xb2 XbI Xac)):=by
 refine Xar.Xax Xan (fun ar os r ha hr=>?_) ⟨Tryz.f134,rfl,by decide,rfl⟩
 replace hr:r134 (Xb2 XbI Xac) ar (XaH os)=some r:=hr
 unfold r134 at hr
 generalize hc:XaH os=C at hr
 have hq:=dTr.elim hr;clear hr;obtain ⟨v0,l1,c0,C,y0,rfl,rfl,e0,hr⟩:=hq;obtain ⟨rfl,rfl⟩:=Xkv e0;simp only [List.nil_append,List.cons_append] at hc
 replace hr:=Xdw hr;obtain ⟨rfl,rfl,x,h,rfl⟩:=hr
 obtain ⟨os,rfl,ha,hc⟩:=Xc3 ha hc
 obtain rfl:=Xat hc
 exact ⟨_,rfl,Xyj XbI Xac hS _ x h⟩
def XaN:Xbn→Option (Xab×Xaa):=Xb2 XbI Xac
theorem XDA:Xar Tryz.prog 134 (s134 XaN):=ok134 XbI Xac (Xah.Xa0 ⟨XtA,XlG,trivial⟩)
def Xf1 (XaD:(List UInt8)→Option Bool) (XaN:Xbn→Option (Xab×Xaa)) (Xay:(List UInt8)→Option Xaa) (Xad:Xaa→Int→Option (Int×Xaa)) (Xac:Xaa→Int→Option ((List UInt8)×Xaa)) (s:List UInt8):Option (Xak×(List UInt8)×Int):=
 cond (decide ((s.length:Int)<20))
  (
  some ((Xak.mk 0 0 false 0 0 (Xab.mk false 0 0) (Xab.mk false 0 0) [],[],2)))
  (
  (Xay s).bind fun n=>
  (Xad n 1).bind fun n1=>
  (Xad n1.2 1).bind fun n2=>
  (Xad n2.2 2).bind fun n3=>
  cond ((n1.1.fdiv (2^4)) !=4)
   (
   some ((Xak.mk 0 0 false 0 0 (Xab.mk false 0 0) (Xab.mk false 0 0) [],[],3)))
   (
   let t:=decide ((wI .i64 ((Xjp .i64 n1.1 15)*4))<20)
   cond (t)
    (
    some ((Xak.mk 0 0 false 0 0 (Xab.mk false 0 0) (Xab.mk false 0 0) [],[],3)))
    (
    let t1:=decide (n3.1<(wI .i64 ((Xjp .i64 n1.1 15)*4)))
    cond (t1)
     (
     some ((Xak.mk 0 0 false 0 0 (Xab.mk false 0 0) (Xab.mk false 0 0) [],[],3)))
     (
     cond (decide (n3.1>(s.length:Int)))
      (
      some ((Xak.mk 0 0 false 0 0 (Xab.mk false 0 0) (Xab.mk false 0 0) [],[],2)))
      (
      XaE (decide ((0:Int)≤(wI .i64 ((Xjp .i64 n1.1 15)*4))∧(wI .i64 ((Xjp .i64 n1.1 15)*4))≤(s.length:Int))) <|
      let t2:=s.take (wI .i64 ((Xjp .i64 n1.1 15)*4)).toNat
      (XaD t2).bind fun xr=>
      cond (!xr)
       (
       some ((Xak.mk 0 0 false 0 0 (Xab.mk false 0 0) (Xab.mk false 0 0) [],[],4)))
       (
       (Xad n3.2 2).bind fun n4=>
       (Xad n4.2 2).bind fun n5=>
       cond ((XiD .i64 n5.1 16384) !=0)
        (
        some ((Xak.mk 0 0 false 0 0 (Xab.mk false 0 0) (Xab.mk false 0 0) [],[],7)))
        (
        (Xad n5.2 1).bind fun n6=>
        (Xad n6.2 1).bind fun n7=>
        (Xad n7.2 2).bind fun n8=>
        (XaN (Xbn.mk n8.2)).bind fun a=>
        (XaN (Xbn.mk a.2)).bind fun a1=>
        let t3:=wI .i64 ((wI .i64 ((Xjp .i64 n1.1 15)*4)) - 20)
        (Xac a1.2 t3).bind fun t4=>
        let t5:=wI .i64 (n3.1 - (wI .i64 ((Xjp .i64 n1.1 15)*4)))
        (Xac t4.2 t5).bind fun t6=>
        some ((Xak.mk n2.1 n4.1 (n5.1 !=0) n6.1 n7.1 a.1 a1.1 t4.1,t6.1,0)))))))))
def Xxi (x:Xak×(List UInt8)×Int):Xcw:=⟨.tuple ⟨[.agg ⟨[.int .i64 x.1.Class,.int .i64 x.1.Mark,.bool x.1.Whole,.int .i64 x.1.TTL,.int .i64 x.1.Proto,.bool x.1.Src.V6,.int .u64 x.1.Src.Hi,.int .u64 x.1.Src.Lo,.bool x.1.Dst.V6,.int .u64 x.1.Dst.Hi,.int .u64 x.1.Dst.Lo,.string ⟨⟨x.1.Options⟩⟩]⟩,.string ⟨⟨x.2.1⟩⟩,.int .i64 x.2.2]⟩,[],[]⟩
def r129 (g:(List UInt8)→Option (Xak×(List UInt8)×Int)):Dec:=dV asS fun (y0:List UInt8)=>Xdd (ofG (g y0) Xxi)
theorem XIK {g:(List UInt8)→Option (Xak×(List UInt8)×Int)} {y0:List UInt8} {x:Xak×(List UInt8)×Int} (hx:g y0=some x):r129 g [.string ⟨⟨y0⟩⟩] []=some (Xxi x):=(XaX (XcI)).trans (Xa3 hx)
def s129 (g:(List UInt8)→Option (Xak×(List UInt8)×Int)):Xbu:=⟨[.v],r129 g⟩
theorem XFY {g:(List UInt8)→Option (Xak×(List UInt8)×Int)} {y0:List UInt8} {x:Xak×(List UInt8)×Int} (hx:g y0=some x):(s129 g).run [.string ⟨⟨y0⟩⟩] []=some (Xxi x):=XIK hx
abbrev XvP (XaD:(List UInt8)→Option Bool) (XaN:Xbn→Option (Xab×Xaa)) (Xay:(List UInt8)→Option Xaa) (Xad:Xaa→Int→Option (Int×Xaa)) (Xac:Xaa→Int→Option ((List UInt8)×Xaa)):List (Nat×Xbu):=[(131,XGC XaD),(134,s134 XaN),(61,s61 Xay),(62,s62 Xad),(64,s64 Xac)]
theorem XxS (XaD:(List UInt8)→Option Bool) (XaN:Xbn→Option (Xab×Xaa)) (Xay:(List UInt8)→Option Xaa) (Xad:Xaa→Int→Option (Int×Xaa)) (Xac:Xaa→Int→Option ((List UInt8)×Xaa)) (hS:Xah Tryz.prog (Xav (XvP XaD XaN Xay Xad Xac))) (s:List UInt8) (res:Xak×(List UInt8)×Int) (h:Xf1 XaD XaN Xay Xad Xac s=some res) :
 XaK Tryz.prog 129 0 ⟨⟨129,102,[(0,.string ⟨⟨s⟩⟩)],[.code Xvu],[],false,none⟩,[],[],0⟩ (fun v H _=>Res 0 (Xxi res) v H):=by
 unfold Xf1 at h
 refine Xbi Xan hS true 3000 ?_
 conv=>whnf
 refine br.h h (by rfl) ?_ ?_
 ·clear h;intro hb h;conv=>whnf
  all_goals (cases h;exact Res.y)
 clear h;intro hb h;conv=>whnf
 replace h:=Xai.elim h;obtain ⟨n,hy,h⟩:=h
 refine XaJ.Xbe [1] (Xaw (aqs:=[.string ⟨⟨s⟩⟩]) (ws:=[]) (n:=1) (m:=0) (t':=2) (Xau rfl rfl Xbg) rfl (by rfl) (XoW hy) rfl rfl rfl rfl Xbf (Xhw (rfl) Xbc) rfl) ?_
 conv=>whnf
 replace h:=Xai.elim h;obtain ⟨n1,hy,h⟩:=h
 refine XaJ.Xbe [1] (Xaw (aqs:=[.pointer (some ⟨0,0,none⟩),.int .i64 1]) (ws:=[.win 1 0 3 true]) (n:=0) (m:=0) (t':=3) (Xau rfl rfl (Xau rfl rfl Xbg)) rfl (by rfl) (XdC hy) rfl rfl rfl rfl (XbD rfl rfl rfl ⟨rfl,Nat.le_of_ble_eq_true rfl⟩ rfl rfl Xbf) Xbc rfl) ?_
 conv=>whnf
 replace h:=Xai.elim h;obtain ⟨n2,hy,h⟩:=h
 refine XaJ.Xbe [1] (Xaw (aqs:=[.pointer (some ⟨0,0,none⟩),.int .i64 1]) (ws:=[.win 1 0 3 true]) (n:=0) (m:=0) (t':=3) (Xau rfl rfl (Xau rfl rfl Xbg)) rfl (by rfl) (XdC hy) rfl rfl rfl rfl (XbD rfl rfl rfl ⟨rfl,Nat.le_of_ble_eq_true rfl⟩ rfl rfl Xbf) Xbc rfl) ?_
 conv=>whnf
 replace h:=Xai.elim h;obtain ⟨n3,hy,h⟩:=h
 refine XaJ.Xbe [1] (Xaw (aqs:=[.pointer (some ⟨0,0,none⟩),.int .i64 2]) (ws:=[.win 1 0 3 true]) (n:=0) (m:=0) (t':=4) (Xau rfl rfl (Xau rfl rfl Xbg)) rfl (by rfl) (XdC hy) rfl rfl rfl rfl (XbD rfl rfl rfl ⟨rfl,Nat.le_of_ble_eq_true rfl⟩ rfl rfl Xbf) Xbc rfl) ?_
 conv=>whnf
 refine br.h h (by rfl) ?_ ?_
 ·clear h;intro hb h;conv=>whnf
  all_goals (cases h;exact Res.y)
 clear h;intro hb h;conv=>whnf
 let t:Bool:=decide ((wI .i64 ((Xjp .i64 n1.1 15)*4))<20)
 refine br.h h (by rfl) ?_ ?_
 ·clear h;intro hb h;conv=>whnf
  all_goals (cases h;exact Res.y)
 clear h;intro hb h;conv=>whnf
 let t1:Bool:=decide (n3.1<(wI .i64 ((Xjp .i64 n1.1 15)*4)))
 refine br.h h (by rfl) ?_ ?_
 ·clear h;intro hb h;conv=>whnf
  all_goals (cases h;exact Res.y)
 clear h;intro hb h;conv=>whnf
 refine br.h h (by rfl) ?_ ?_
 ·clear h;intro hb h;conv=>whnf
  all_goals (cases h;exact Res.y)
 clear h;intro hb h;conv=>whnf
 replace h:=XaE.elim h;obtain ⟨hb,h⟩:=h
 try (refine req.intro hb ?_;conv=>whnf)
 let t2:List UInt8:=s.take (wI .i64 ((Xjp .i64 n1.1 15)*4)).toNat
 replace h:=Xai.elim h;obtain ⟨xr,hy,h⟩:=h
 refine XaJ.p (Xoj hy) ?_
 conv=>whnf
 refine br.h h (by rfl) ?_ ?_
 ·clear h;intro hb h;conv=>whnf
  all_goals (cases h;exact Res.y)
 clear h;intro hb h;conv=>whnf
 replace h:=Xai.elim h;obtain ⟨n4,hy,h⟩:=h
 refine XaJ.Xbe [1] (Xaw (aqs:=[.pointer (some ⟨0,0,none⟩),.int .i64 2]) (ws:=[.win 1 0 3 true]) (n:=0) (m:=0) (t':=4) (Xau rfl rfl (Xau rfl rfl Xbg)) rfl (by rfl) (XdC hy) rfl rfl rfl rfl (XbD rfl rfl rfl ⟨rfl,Nat.le_of_ble_eq_true rfl⟩ rfl rfl Xbf) Xbc rfl) ?_
 conv=>whnf
 replace h:=Xai.elim h;obtain ⟨n5,hy,h⟩:=h
 refine XaJ.Xbe [1] (Xaw (aqs:=[.pointer (some ⟨0,0,none⟩),.int .i64 2]) (ws:=[.win 1 0 3 true]) (n:=0) (m:=0) (t':=4) (Xau rfl rfl (Xau rfl rfl Xbg)) rfl (by rfl) (XdC hy) rfl rfl rfl rfl (XbD rfl rfl rfl ⟨rfl,Nat.le_of_ble_eq_true rfl⟩ rfl rfl Xbf) Xbc rfl) ?_
 conv=>whnf
 refine br.h h (by rfl) ?_ ?_
 ·clear h;intro hb h;conv=>whnf
  all_goals (cases h;exact Res.y)
 clear h;intro hb h;conv=>whnf
 replace h:=Xai.elim h;obtain ⟨n6,hy,h⟩:=h
 refine XaJ.Xbe [1] (Xaw (aqs:=[.pointer (some ⟨0,0,none⟩),.int .i64 1]) (ws:=[.win 1 0 3 true]) (n:=0) (m:=0) (t':=6) (Xau rfl rfl (Xau rfl rfl Xbg)) rfl (by rfl) (XdC hy) rfl rfl rfl rfl (XbD rfl rfl rfl ⟨rfl,Nat.le_of_ble_eq_true rfl⟩ rfl rfl Xbf) Xbc rfl) ?_
 conv=>whnf
 replace h:=Xai.elim h;obtain ⟨n7,hy,h⟩:=h
 refine XaJ.Xbe [1] (Xaw (aqs:=[.pointer (some ⟨0,0,none⟩),.int .i64 1]) (ws:=[.win 1 0 3 true]) (n:=0) (m:=0) (t':=9) (Xau rfl rfl (Xau rfl rfl Xbg)) rfl (by rfl) (XdC hy) rfl rfl rfl rfl (XbD rfl rfl rfl ⟨rfl,Nat.le_of_ble_eq_true rfl⟩ rfl rfl Xbf) Xbc rfl) ?_
 conv=>whnf
 replace h:=Xai.elim h;obtain ⟨n8,hy,h⟩:=h
 refine XaJ.Xbe [1] (Xaw (aqs:=[.pointer (some ⟨0,0,none⟩),.int .i64 2]) (ws:=[.win 1 0 3 true]) (n:=0) (m:=0) (t':=11) (Xau rfl rfl (Xau rfl rfl Xbg)) rfl (by rfl) (XdC hy) rfl rfl rfl rfl (XbD rfl rfl rfl ⟨rfl,Nat.le_of_ble_eq_true rfl⟩ rfl rfl Xbf) Xbc rfl) ?_
 conv=>whnf
 replace h:=Xai.elim h;obtain ⟨a,hy,h⟩:=h
 refine XaJ.Xbe [1] (Xaw (aqs:=[.agg ⟨[.pointer (some ⟨0,0,none⟩)]⟩]) (ws:=[.blk 1 true]) (n:=0) (m:=0) (t':=12) (Xau (XKu rfl rfl (XKC rfl rfl rfl rfl XA0) rfl) rfl Xbg) rfl (by rfl) (Xve hy) rfl rfl rfl rfl (XB0 rfl rfl rfl rfl Xbf) Xbc rfl) ?_
 conv=>whnf
 replace h:=Xai.elim h;obtain ⟨a1,hy,h⟩:=h
 refine XaJ.Xbe [1] (Xaw (aqs:=[.agg ⟨[.pointer (some ⟨0,0,none⟩)]⟩]) (ws:=[.blk 1 true]) (n:=0) (m:=0) (t':=14) (Xau (XKu rfl rfl (XKC rfl rfl rfl rfl XA0) rfl) rfl Xbg) rfl (by rfl) (Xve hy) rfl rfl rfl rfl (XB0 rfl rfl rfl rfl Xbf) Xbc rfl) ?_
 conv=>whnf
 let t3:Int:=wI .i64 ((wI .i64 ((Xjp .i64 n1.1 15)*4)) - 20)
 replace h:=Xai.elim h;obtain ⟨t4,hy,h⟩:=h
 refine XaJ.Xbe [1] (Xaw (aqs:=[.pointer (some ⟨0,0,none⟩),.int .i64 t3]) (ws:=[.win 1 0 3 true]) (n:=0) (m:=0) (t':=16) (Xau rfl rfl (Xau rfl rfl Xbg)) rfl (by rfl) (Xhl hy) rfl rfl rfl rfl (XbD rfl rfl rfl ⟨rfl,Nat.le_of_ble_eq_true rfl⟩ rfl rfl Xbf) Xbc rfl) ?_
 conv=>whnf
 let t5:Int:=wI .i64 (n3.1 - (wI .i64 ((Xjp .i64 n1.1 15)*4)))
 replace h:=Xai.elim h;obtain ⟨t6,hy,h⟩:=h
 refine XaJ.Xbe [1] (Xaw (aqs:=[.pointer (some ⟨0,0,none⟩),.int .i64 t5]) (ws:=[.win 1 0 3 true]) (n:=0) (m:=0) (t':=22) (Xau rfl rfl (Xau rfl rfl Xbg)) rfl (by rfl) (Xhl hy) rfl rfl rfl rfl (XbD rfl rfl rfl ⟨rfl,Nat.le_of_ble_eq_true rfl⟩ rfl rfl Xbf) Xbc rfl) ?_
 conv=>whnf
 all_goals (cases h;exact Res.y)
theorem ok129 (XaD:(List UInt8)→Option Bool) (XaN:Xbn→Option (Xab×Xaa)) (Xay:(List UInt8)→Option Xaa) (Xad:Xaa→Int→Option (Int×Xaa)) (Xac:Xaa→Int→Option ((List UInt8)×Xaa)) (hS:Xah Tryz.prog (Xav (XvP XaD XaN Xay Xad Xac))):Xar Tryz.prog 129 (s129 (Xf1 XaD XaN Xay Xad Xac)):=by
 refine Xar.Xax Xan (fun ar os r ha hr=>?_) ⟨Tryz.f129,rfl,by decide,rfl⟩
 replace hr:r129 (Xf1 XaD XaN Xay Xad Xac) ar (XaH os)=some r:=hr
 unfold r129 at hr
 generalize hc:XaH os=C at hr
 replace hr:=dV.elim hr;obtain ⟨v0,l1,y0,rfl,e0,hr⟩:=hr;obtain rfl:=XbM _ _ e0
 replace hr:=Xdw hr;obtain ⟨rfl,rfl,x,h,rfl⟩:=hr
 obtain rfl:=Xat hc
 exact ⟨_,rfl,XxS XaD XaN Xay Xad Xac hS _ x h⟩
def Xcf:(List UInt8)→Option (Xak×(List UInt8)×Int):=Xf1 XaD XaN Xay Xad Xac
theorem XFv:Xar Tryz.prog 129 (s129 Xcf):=ok129 XaD XaN Xay Xad Xac (Xah.Xa0 ⟨Xqa,XDA,XpX,Xnq,XlG,trivial⟩)
def Xjh (Xaj:(List UInt8)→Int→Int→Option Int) (Xa9:(List UInt8)→Option Int) (XbS:(List UInt8)→Option (Xab×Bool)) (s:List UInt8):Option (Xak×(List UInt8)×Int):=
 cond (decide ((s.length:Int)<20))
  (
  some ((Xak.mk 0 0 false 0 0 (Xab.mk false 0 0) (Xab.mk false 0 0) [],[],2)))
  (
  (s[0]?).bind fun (b:UInt8)=>
  let t:=wI .i64 (4*(wI .i64 ((b.toNat:Int).tmod 16)))
  (Xaj s 2 2).bind fun m=>
  (s[0]?).bind fun (b1:UInt8)=>
  cond ((wI .u8 ((b1.toNat:Int).tdiv 16)) !=4)
   (
   some ((Xak.mk 0 0 false 0 0 (Xab.mk false 0 0) (Xab.mk false 0 0) [],[],3)))
   (
   cond (decide (t<20))
    (
    some ((Xak.mk 0 0 false 0 0 (Xab.mk false 0 0) (Xab.mk false 0 0) [],[],3)))
    (
    cond (decide (m<t))
     (
     some ((Xak.mk 0 0 false 0 0 (Xab.mk false 0 0) (Xab.mk false 0 0) [],[],3)))
     (
     cond (decide ((s.length:Int)<m))
      (
      some ((Xak.mk 0 0 false 0 0 (Xab.mk false 0 0) (Xab.mk false 0 0) [],[],2)))
      (
      XaE (decide ((0:Int)≤t∧t≤(s.length:Int))) <|
      (Xa9 (s.take t.toNat)).bind fun s1=>
      cond (s1 !=65535)
       (
       some ((Xak.mk 0 0 false 0 0 (Xab.mk false 0 0) (Xab.mk false 0 0) [],[],4)))
       (
       (s[6]?).bind fun (b2:UInt8)=>
       cond ((b2.toNat:Int) !=0)
        (
        (s[6]?).bind fun (b3:UInt8)=>
        cond ((b3.toNat:Int) !=64)
         (
         some ((Xak.mk 0 0 false 0 0 (Xab.mk false 0 0) (Xab.mk false 0 0) [],[],7)))
         (
         (s[7]?).bind fun (b4:UInt8)=>
         cond ((b4.toNat:Int) !=0)
          (
          some ((Xak.mk 0 0 false 0 0 (Xab.mk false 0 0) (Xab.mk false 0 0) [],[],7)))
          (
          XaE (decide ((0:Int)≤(16:Int)∧(16:Int)≤(s.length:Int)∧(0:Int)≤(12:Int)∧(12:Int)≤(16:Int))) <|
          (XbS ((s.drop 12).take 4)).bind fun xg=>
          XaE (decide ((0:Int)≤(20:Int)∧(20:Int)≤(s.length:Int)∧(0:Int)≤(16:Int)∧(16:Int)≤(20:Int))) <|
          (XbS ((s.drop 16).take 4)).bind fun xg1=>
          (s[1]?).bind fun (b5:UInt8)=>
          (Xaj s 4 2).bind fun m1=>
          (s[6]?).bind fun (b6:UInt8)=>
          (s[8]?).bind fun (b7:UInt8)=>
          (s[9]?).bind fun (b8:UInt8)=>
          XaE (decide ((0:Int)≤t∧t≤(s.length:Int)∧(0:Int)≤(20:Int)∧(20:Int)≤(t.toNat:Int))) <|
          XaE (decide ((0:Int)≤m∧m≤(s.length:Int)∧(0:Int)≤t∧t≤(m.toNat:Int))) <|
          let t1:=(s.drop t.toNat).take (m.toNat - t.toNat)
          some ((Xak.mk (wI .i64 (b5.toNat:Int)) m1 ((b6.toNat:Int)==64) (wI .i64 (b7.toNat:Int)) (wI .i64 (b8.toNat:Int)) xg.1 xg1.1 ((s.drop 20).take (t.toNat - 20)),t1,0)))))
        (
        (s[7]?).bind fun (b9:UInt8)=>
        cond ((b9.toNat:Int) !=0)
         (
         some ((Xak.mk 0 0 false 0 0 (Xab.mk false 0 0) (Xab.mk false 0 0) [],[],7)))
         (
         XaE (decide ((0:Int)≤(16:Int)∧(16:Int)≤(s.length:Int)∧(0:Int)≤(12:Int)∧(12:Int)≤(16:Int))) <|
         (XbS ((s.drop 12).take 4)).bind fun xg2=>
         XaE (decide ((0:Int)≤(20:Int)∧(20:Int)≤(s.length:Int)∧(0:Int)≤(16:Int)∧(16:Int)≤(20:Int))) <|
         (XbS ((s.drop 16).take 4)).bind fun xg3=>
         (s[1]?).bind fun (b10:UInt8)=>
         (Xaj s 4 2).bind fun m2=>
         (s[6]?).bind fun (b11:UInt8)=>
         (s[8]?).bind fun (b12:UInt8)=>
         (s[9]?).bind fun (b13:UInt8)=>
         XaE (decide ((0:Int)≤t∧t≤(s.length:Int)∧(0:Int)≤(20:Int)∧(20:Int)≤(t.toNat:Int))) <|
         XaE (decide ((0:Int)≤m∧m≤(s.length:Int)∧(0:Int)≤t∧t≤(m.toNat:Int))) <|
         let t2:=(s.drop t.toNat).take (m.toNat - t.toNat)
         some ((Xak.mk (wI .i64 (b10.toNat:Int)) m2 ((b11.toNat:Int)==64) (wI .i64 (b12.toNat:Int)) (wI .i64 (b13.toNat:Int)) xg2.1 xg3.1 ((s.drop 20).take (t.toNat - 20)),t2,0))))))))))
def rx98 (x:Xak×(List UInt8)×Int):Xcw:=⟨.tuple ⟨[.agg ⟨[.int .i64 x.1.Class,.int .i64 x.1.Mark,.bool x.1.Whole,.int .i64 x.1.TTL,.int .i64 x.1.Proto,.bool x.1.Src.V6,.int .u64 x.1.Src.Hi,.int .u64 x.1.Src.Lo,.bool x.1.Dst.V6,.int .u64 x.1.Dst.Hi,.int .u64 x.1.Dst.Lo,.string ⟨⟨x.1.Options⟩⟩]⟩,.string ⟨⟨x.2.1⟩⟩,.int .i64 x.2.2]⟩,[],[]⟩
def r98 (g:(List UInt8)→Option (Xak×(List UInt8)×Int)):Dec:=dV asS fun (y0:List UInt8)=>Xdd (ofG (g y0) rx98)
theorem r98_c {g:(List UInt8)→Option (Xak×(List UInt8)×Int)} {y0:List UInt8} {x:Xak×(List UInt8)×Int} (hx:g y0=some x):r98 g [.string ⟨⟨y0⟩⟩] []=some (rx98 x):=(XaX (XcI)).trans (Xa3 hx)
def s98 (g:(List UInt8)→Option (Xak×(List UInt8)×Int)):Xbu:=⟨[.v],r98 g⟩
theorem XJN {g:(List UInt8)→Option (Xak×(List UInt8)×Int)} {y0:List UInt8} {x:Xak×(List UInt8)×Int} (hx:g y0=some x):(s98 g).run [.string ⟨⟨y0⟩⟩] []=some (rx98 x):=r98_c hx
abbrev XAV (Xaj:(List UInt8)→Int→Int→Option Int) (Xa9:(List UInt8)→Option Int) (XbS:(List UInt8)→Option (Xab×Bool)):List (Nat×Xbu):=[(44,s44 Xaj),(100,XCq Xa9),(122,XIR XbS)]
theorem XCV (Xaj:(List UInt8)→Int→Int→Option Int) (Xa9:(List UInt8)→Option Int) (XbS:(List UInt8)→Option (Xab×Bool)) (hS:Xah Tryz.prog (Xav (XAV Xaj Xa9 XbS))) (s:List UInt8) (res:Xak×(List UInt8)×Int) (h:Xjh Xaj Xa9 XbS s=some res) :
 XaK Tryz.prog 98 0 ⟨⟨98,97,[(0,.string ⟨⟨s⟩⟩)],[.code XzG],[],false,none⟩,[],[],0⟩ (fun v H _=>Res 0 (rx98 res) v H):=by
 unfold Xjh at h
 refine Xbi Xan hS true 3000 ?_
 conv=>whnf
 refine br.h h (by rfl) ?_ ?_
 ·clear h;intro hb h;conv=>whnf
  all_goals (cases h;exact Res.y)
 clear h;intro hb h;conv=>whnf
 replace h:=Xai.elim h;obtain ⟨b,hy,h⟩:=h
 refine rdS.intro hy ?_
 conv=>whnf
 let t:Int:=wI .i64 (4*(wI .i64 ((b.toNat:Int).tmod 16)))
 replace h:=Xai.elim h;obtain ⟨m,hy,h⟩:=h
 refine XaJ.p (XeO hy) ?_
 conv=>whnf
 replace h:=Xai.elim h;obtain ⟨b1,hy,h⟩:=h
 refine rdS.intro hy ?_
 conv=>whnf
 refine br.h h (by rfl) ?_ ?_
 ·clear h;intro hb h;conv=>whnf
  all_goals (cases h;exact Res.y)
 clear h;intro hb h;conv=>whnf
 refine br.h h (by rfl) ?_ ?_
 ·clear h;intro hb h;conv=>whnf
  all_goals (cases h;exact Res.y)
 clear h;intro hb h;conv=>whnf
 refine br.h h (by rfl) ?_ ?_
 ·clear h;intro hb h;conv=>whnf
  all_goals (cases h;exact Res.y)
 clear h;intro hb h;conv=>whnf
 refine br.h h (by rfl) ?_ ?_
 ·clear h;intro hb h;conv=>whnf
  all_goals (cases h;exact Res.y)
 clear h;intro hb h;conv=>whnf
 replace h:=XaE.elim h;obtain ⟨hb,h⟩:=h
 try (refine req.intro hb ?_;conv=>whnf)
 replace h:=Xai.elim h;obtain ⟨s1,hy,h⟩:=h
 refine XaJ.p (XnR hy) ?_
 conv=>whnf
 refine br.h h (by rfl) ?_ ?_
 ·clear h;intro hb h;conv=>whnf
  all_goals (cases h;exact Res.y)
 clear h;intro hb h;conv=>whnf
 replace h:=Xai.elim h;obtain ⟨b2,hy,h⟩:=h
 refine rdS.intro hy ?_
 conv=>whnf
 refine br.h2 h (by rfl) ?_ ?_
 ·clear h;intro hb h;conv=>whnf
  replace h:=Xai.elim h;obtain ⟨b9,hy,h⟩:=h
  refine rdS.intro hy ?_
  conv=>whnf
  refine br.h h (by rfl) ?_ ?_
  ·clear h;intro hb h;conv=>whnf
   all_goals (cases h;exact Res.y)
  clear h;intro hb h;conv=>whnf
  replace h:=XaE.elim h;obtain ⟨hb,h⟩:=h
  try (refine req.intro hb ?_;conv=>whnf)
  replace h:=Xai.elim h;obtain ⟨xg2,hy,h⟩:=h
  refine XaJ.p (Xlr hy) ?_
  conv=>whnf
  replace h:=XaE.elim h;obtain ⟨hb,h⟩:=h
  try (refine req.intro hb ?_;conv=>whnf)
  replace h:=Xai.elim h;obtain ⟨xg3,hy,h⟩:=h
  refine XaJ.p (Xlr hy) ?_
  conv=>whnf
  replace h:=Xai.elim h;obtain ⟨b10,hy,h⟩:=h
  refine rdS.intro hy ?_
  conv=>whnf
  replace h:=Xai.elim h;obtain ⟨m2,hy,h⟩:=h
  refine XaJ.p (XeO hy) ?_
  conv=>whnf
  replace h:=Xai.elim h;obtain ⟨b11,hy,h⟩:=h
  refine rdS.intro hy ?_
  conv=>whnf
  replace h:=Xai.elim h;obtain ⟨b12,hy,h⟩:=h
  refine rdS.intro hy ?_
  conv=>whnf
  replace h:=Xai.elim h;obtain ⟨b13,hy,h⟩:=h
  refine rdS.intro hy ?_
  conv=>whnf
  replace h:=XaE.elim h;obtain ⟨hb,h⟩:=h
  try (refine req.intro hb ?_;conv=>whnf)
  replace h:=XaE.elim h;obtain ⟨hb,h⟩:=h
  try (refine req.intro hb ?_;conv=>whnf)
  let t2:List UInt8:=(s.drop t.toNat).take (m.toNat - t.toNat)
  all_goals (cases h;exact Res.y)
 clear h;intro hb h;conv=>whnf
 replace h:=Xai.elim h;obtain ⟨b3,hy,h⟩:=h
 refine rdS.intro hy ?_
 conv=>whnf
 refine br.h h (by rfl) ?_ ?_
 ·clear h;intro hb h;conv=>whnf
  all_goals (cases h;exact Res.y)
 clear h;intro hb h;conv=>whnf
 replace h:=Xai.elim h;obtain ⟨b4,hy,h⟩:=h
 refine rdS.intro hy ?_
 conv=>whnf
 refine br.h h (by rfl) ?_ ?_
 ·clear h;intro hb h;conv=>whnf
  all_goals (cases h;exact Res.y)
 clear h;intro hb h;conv=>whnf
 replace h:=XaE.elim h;obtain ⟨hb,h⟩:=h
 try (refine req.intro hb ?_;conv=>whnf)
 replace h:=Xai.elim h;obtain ⟨xg,hy,h⟩:=h
 refine XaJ.p (Xlr hy) ?_
 conv=>whnf
 replace h:=XaE.elim h;obtain ⟨hb,h⟩:=h
 try (refine req.intro hb ?_;conv=>whnf)
 replace h:=Xai.elim h;obtain ⟨xg1,hy,h⟩:=h
 refine XaJ.p (Xlr hy) ?_
 conv=>whnf
 replace h:=Xai.elim h;obtain ⟨b5,hy,h⟩:=h
 refine rdS.intro hy ?_
 conv=>whnf
 replace h:=Xai.elim h;obtain ⟨m1,hy,h⟩:=h
 refine XaJ.p (XeO hy) ?_
 conv=>whnf
 replace h:=Xai.elim h;obtain ⟨b6,hy,h⟩:=h
 refine rdS.intro hy ?_
 conv=>whnf
 replace h:=Xai.elim h;obtain ⟨b7,hy,h⟩:=h
 refine rdS.intro hy ?_
 conv=>whnf
 replace h:=Xai.elim h;obtain ⟨b8,hy,h⟩:=h
 refine rdS.intro hy ?_
 conv=>whnf
 replace h:=XaE.elim h;obtain ⟨hb,h⟩:=h
 try (refine req.intro hb ?_;conv=>whnf)
 replace h:=XaE.elim h;obtain ⟨hb,h⟩:=h
 try (refine req.intro hb ?_;conv=>whnf)
 let t1:List UInt8:=(s.drop t.toNat).take (m.toNat - t.toNat)
 all_goals (cases h;exact Res.y)
theorem ok98 (Xaj:(List UInt8)→Int→Int→Option Int) (Xa9:(List UInt8)→Option Int) (XbS:(List UInt8)→Option (Xab×Bool)) (hS:Xah Tryz.prog (Xav (XAV Xaj Xa9 XbS))):Xar Tryz.prog 98 (s98 (Xjh Xaj Xa9 XbS)):=by
 refine Xar.Xax Xan (fun ar os r ha hr=>?_) ⟨Tryz.f98,rfl,by decide,rfl⟩
 replace hr:r98 (Xjh Xaj Xa9 XbS) ar (XaH os)=some r:=hr
 unfold r98 at hr
 generalize hc:XaH os=C at hr
 replace hr:=dV.elim hr;obtain ⟨v0,l1,y0,rfl,e0,hr⟩:=hr;obtain rfl:=XbM _ _ e0
 replace hr:=Xdw hr;obtain ⟨rfl,rfl,x,h,rfl⟩:=hr
 obtain rfl:=Xat hc
 exact ⟨_,rfl,XCV Xaj Xa9 XbS hS _ x h⟩
def Xes:(List UInt8)→Option (Xak×(List UInt8)×Int):=Xjh Xaj Xa9 XbS
theorem XLa:Xar Tryz.prog 98 (s98 Xes):=ok98 Xaj Xa9 XbS (Xah.Xa0 ⟨Xma,Xn0,XtP,trivial⟩)
end Go.Vm.Code
namespace Go.Vm.Code
open Go Go.Vm
def Xmb:Xak:=⟨0,0,false,0,0,⟨false,0,0⟩,⟨false,0,0⟩,[]⟩
def Xgx (s:List UInt8):Xak×List UInt8×Int:=
 if s.length<20 then (Xmb,[],2) else if vK s 0 1/16≠4 then (Xmb,[],3) else if vK s 0 1%16*4<20 then (Xmb,[],3) else if vK s 2 2<vK s 0 1%16*4 then (Xmb,[],3) else if (s.length:Int)<vK s 2 2 then (Xmb,[],2) else
  if norm (Xdp (s.take (vK s 0 1%16*4).toNat))≠65535 then (Xmb,[],4) else if vK s 6 2≠0∧vK s 6 2≠16384 then (Xmb,[],7) else
   (⟨vK s 1 1,vK s 4 2,vK s 6 2 !=0,vK s 8 1,vK s 9 1,XtO s 12,XtO s 16,(s.drop 20).take ((vK s 0 1%16*4).toNat - 20)⟩,(s.drop (vK s 0 1%16*4).toNat).take ((vK s 2 2).toNat - (vK s 0 1%16*4).toNat),0)
theorem Xu9 (s:List UInt8) (p:Nat):vK ((s.drop p).take 4) 0 4=vK s p 4:=by unfold vK;simp [List.take_take]
theorem XJo {s:List UInt8} {p:Nat} (h:p+4≤s.length):XaN ⟨⟨s.drop p,true,false⟩⟩=some (XtO s p,⟨s.drop (p+4),true,false⟩):=by
 unfold XaN Xb2
 rw [show (4:Int)=((4:Nat):Int) from rfl,Xob h,Option.bind_some,aget4 (by simp;omega),Option.bind_some,Xu9];rfl
theorem g5_eq {s:List UInt8} (hs:s.length<2^38):Xcf s=some (Xgx s):=by
 unfold Xcf Xf1 Xgx
 by_cases h0:s.length<20
 ·rw [XaZ (by omega),if_pos h0];rfl
 rw [XaO (by omega),if_neg h0,Xms,Option.bind_some]
 have N:∀ (p k:Nat),1≤k→k≤7→p+k≤20→Xad ⟨s.drop p,true,false⟩ (k:Int)=some (vK s p k,⟨s.drop (p+k),true,false⟩):=fun p k a b c=>Xzv a b (by omega) (by omega)
 have N0:Xad ⟨s,true,false⟩ 1=some (vK s 0 1,⟨s.drop 1,true,false⟩):=N 0 1 (by omega) (by omega) (by omega)
 have N1:Xad ⟨s.drop 1,true,false⟩ 1=some (vK s 1 1,⟨s.drop 2,true,false⟩):=N 1 1 (by omega) (by omega) (by omega)
 have N2:Xad ⟨s.drop 2,true,false⟩ 2=some (vK s 2 2,⟨s.drop 4,true,false⟩):=N 2 2 (by omega) (by omega) (by omega)
 have N4:Xad ⟨s.drop 4,true,false⟩ 2=some (vK s 4 2,⟨s.drop 6,true,false⟩):=N 4 2 (by omega) (by omega) (by omega)
 have N6:Xad ⟨s.drop 6,true,false⟩ 2=some (vK s 6 2,⟨s.drop 8,true,false⟩):=N 6 2 (by omega) (by omega) (by omega)
 have N8:Xad ⟨s.drop 8,true,false⟩ 1=some (vK s 8 1,⟨s.drop 9,true,false⟩):=N 8 1 (by omega) (by omega) (by omega)
 have N9:Xad ⟨s.drop 9,true,false⟩ 1=some (vK s 9 1,⟨s.drop 10,true,false⟩):=N 9 1 (by omega) (by omega) (by omega)
 have N10:Xad ⟨s.drop 10,true,false⟩ 2=some (vK s 10 2,⟨s.drop 12,true,false⟩):=N 10 2 (by omega) (by omega) (by omega)
 rw [N0,Option.bind_some,N1,Option.bind_some,N2,Option.bind_some]
 simp only []
 rw [N4]
 simp only [Option.bind_some]
 rw [N6,Xpb,show ((2:Int)^4)=16 from rfl]
 have r0:=XdE s 0 1 256 (by decide)
 have r2:=XdE s 2 2 65536 (by decide)
 have ea:Xjp .i64 (vK s 0 1) 15=vK s 0 1%16:=Xg7 4 rfl (by omega) (by omega) (by omega)
 rw [ea,XcC (n:=vK s 0 1%16*4) (by omega) (by omega)]
 have hz:(⟨0,0,false,0,0,⟨false,0,0⟩,⟨false,0,0⟩,[]⟩:Xak)=Xmb:=rfl
 rw [hz]
 by_cases g1:vK s 0 1/16=4
 ·rw [show (vK s 0 1/16 !=4)=false by simpa using g1,cond_false,if_neg (by simpa using g1)]
  obtain ⟨t,ht⟩:=Int.eq_ofNat_of_zero_le (show 0≤vK s 0 1%16*4 by omega)
  rw [ht]
  simp only [Option.bind_some,Int.toNat_natCast]
  by_cases g2:(t:Int)<20
  ·rw [XaZ g2,if_pos g2]
  rw [XaO g2,if_neg g2]
  by_cases g3:vK s 2 2<t
  ·rw [XaZ g3,if_pos g3]
  rw [XaO g3,if_neg g3]
  by_cases g4:(s.length:Int)<vK s 2 2
  ·rw [XaZ (by omega),if_pos g4]
  rw [XaO (by omega),if_neg g4,XaL (by omega),Xn2 (by simp;omega),Option.bind_some]
  by_cases g5:norm (Xdp (s.take t))=65535
  ·rw [if_neg (by simpa using g5),g5]
   simp only [show ((((65535:Nat):Int)==65535))=true from rfl,Bool.not_true,cond_false]
   have e6:=XuO (s:=s) (p:=6) (by omega)
   rw [show (XiD .i64 (vK s 6 2) 16384 !=0)=decide (vK s 6 2≠0∧vK s 6 2≠16384) by rw [e6];exact Xuv,Xxb]
   split
   ·rfl
   obtain ⟨m,hm⟩:=Int.eq_ofNat_of_zero_le r2.1
   rw [N8,Option.bind_some,N9,Option.bind_some,N10,Option.bind_some,XJo (by omega),Option.bind_some,XJo (by omega),Option.bind_some,XcC (n:=(t:Int) - 20) (by omega) (by omega),hm,XcC (n:=(m:Int) - t) (by omega) (by omega)]
   simp only []
   rw [show (t:Int) - 20=((t - 20:Nat):Int) by omega,show (m:Int) - t=((m - t:Nat):Int) by omega,Xob (by omega),Option.bind_some]
   simp only []
   rw [Xob (by omega),Option.bind_some,show 12+4+4+(t - 20)=t by omega,Int.toNat_natCast]
  ·rw [if_pos (by simpa using g5),show ((((norm (Xdp (s.take t)):Nat):Int)==65535))=false by simp;omega];rfl
 ·rw [show (vK s 0 1/16 !=4)=true by simpa using g1,cond_true,if_pos (by simpa using g1)]
theorem XJK {s:List UInt8} (hs:s.length<2^38):Xes s=some (Xgx s):=by
 unfold Xes Xjh Xgx
 by_cases h0:s.length<20
 ·rw [XaZ (by omega),if_pos h0];rfl
 rw [XaO (by omega),if_neg h0]
 have G:∀ i:Nat,(h:i<20)→s[i]?=some (s[i]'(by omega)):=fun i h=>List.getElem?_eq_getElem (by omega)
 have M:∀ (p k:Nat),1≤k→k≤7→p+k≤20→Xaj s (p:Int) (k:Int)=some (vK s p k):=fun p k a b c=>Xoh (by omega) a b (by omega)
 have M2:Xaj s 2 2=some (vK s 2 2):=M 2 2 (by omega) (by omega) (by omega)
 have M4:Xaj s 4 2=some (vK s 4 2):=M 4 2 (by omega) (by omega) (by omega)
 rw [G 0 (by omega),G 1 (by omega),G 6 (by omega),G 7 (by omega),G 8 (by omega),G 9 (by omega),M2,M4]
 have e0:=XiH (s:=s) (p:=0) (by omega)
 have e1:=XiH (s:=s) (p:=1) (by omega)
 have e8:=XiH (s:=s) (p:=8) (by omega)
 have e9:=XiH (s:=s) (p:=9) (by omega)
 have e6:vK s 6 2=(s[6].toNat*256+s[7].toNat:Int):=XuO (s:=s) (p:=6) (by omega)
 have r0:=XdE s 0 1 256 (by decide)
 have r1:=XdE s 1 1 256 (by decide)
 have r8:=XdE s 8 1 256 (by decide)
 have r9:=XdE s 9 1 256 (by decide)
 have r2:=XdE s 2 2 65536 (by decide)
 simp only [Option.bind_some]
 rw [←e0,←e1,←e8,←e9,Int.tmod_eq_emod_of_nonneg r0.1,Int.tdiv_eq_ediv_of_nonneg r0.1,XcC (n:=vK s 0 1%16) (by omega) (by omega),XcC (n:=4*(vK s 0 1%16)) (by omega) (by omega),wU8 (n:=vK s 0 1/16) (by omega) (by omega),XcC (n:=vK s 1 1) (by omega) (by omega),XcC (n:=vK s 8 1) (by omega) (by omega),XcC (n:=vK s 9 1) (by omega) (by omega)]
 have hz:(⟨0,0,false,0,0,⟨false,0,0⟩,⟨false,0,0⟩,[]⟩:Xak)=Xmb:=rfl
 rw [hz,Int.mul_comm 4]
 by_cases g1:vK s 0 1/16=4
 ·rw [show (vK s 0 1/16 !=4)=false by simpa using g1,cond_false,if_neg (by simpa using g1)]
  obtain ⟨t,ht⟩:=Int.eq_ofNat_of_zero_le (show 0≤vK s 0 1%16*4 by omega)
  rw [ht]
  simp only [Int.toNat_natCast]
  by_cases g2:(t:Int)<20
  ·rw [XaZ g2,if_pos g2]
  rw [XaO g2,if_neg g2]
  by_cases g3:vK s 2 2<t
  ·rw [XaZ g3,if_pos g3]
  rw [XaO g3,if_neg g3]
  by_cases g4:(s.length:Int)<vK s 2 2
  ·rw [XaZ (by omega),if_pos g4]
  rw [XaO (by omega),if_neg g4,XaL (by omega),Xlf (by simp;omega),Option.bind_some]
  by_cases g5:norm (Xdp (s.take t))=65535
  ·rw [if_neg (by simpa using g5),g5]
   simp only [show ((((65535:Nat):Int) !=65535))=false from rfl,cond_false]
   have a1:=XA8 (s:=(s.drop 12).take 4) (by simp;omega)
   have a2:=XA8 (s:=(s.drop 16).take 4) (by simp;omega)
   rw [a1,a2,Xu9,Xu9]
   obtain ⟨m,hm⟩:=Int.eq_ofNat_of_zero_le r2.1
   rw [hm]
   simp only [Option.bind_some,Int.toNat_natCast]
   rw [XaL (p:=(0:Int)≤16∧(16:Int)≤(s.length:Int)∧(0:Int)≤12∧(12:Int)≤16) (by omega),XaL (p:=(0:Int)≤20∧(20:Int)≤(s.length:Int)∧(0:Int)≤16∧(16:Int)≤20) (by omega),XaL (p:=(0:Int)≤(t:Int)∧(t:Int)≤(s.length:Int)∧(0:Int)≤20∧(20:Int)≤(t:Int)) (by omega),XaL (p:=(0:Int)≤(m:Int)∧(m:Int)≤(s.length:Int)∧(0:Int)≤(t:Int)∧(t:Int)≤(m:Int)) (by omega)]
   have b6:=s[6].toNat_lt
   have b7:=s[7].toNat_lt
   by_cases k6:(s[6].toNat:Int)=0
   ·rw [show ((s[6].toNat:Int) !=0)=false by simpa using k6,cond_false]
    by_cases k7:(s[7].toNat:Int)=0
    ·rw [show ((s[7].toNat:Int) !=0)=false by simpa using k7,cond_false,if_neg (by rw [e6];omega),show (vK s 6 2 !=0)=false by rw [e6,k6,k7];rfl,k6];rfl
    ·rw [show ((s[7].toNat:Int) !=0)=true by simpa using k7,cond_true,if_pos (by rw [e6];omega)]
   ·rw [show ((s[6].toNat:Int) !=0)=true by simpa using k6,cond_true]
    by_cases k8:(s[6].toNat:Int)=64
    ·rw [show ((s[6].toNat:Int) !=64)=false by rw [k8];rfl,cond_false]
     by_cases k7:(s[7].toNat:Int)=0
     ·rw [show ((s[7].toNat:Int) !=0)=false by simpa using k7,cond_false,if_neg (by rw [e6];omega),show (vK s 6 2 !=0)=true by rw [e6,k8,k7];rfl,k8];rfl
     ·rw [show ((s[7].toNat:Int) !=0)=true by simpa using k7,cond_true,if_pos (by rw [e6];omega)]
    ·rw [show ((s[6].toNat:Int) !=64)=true by simpa using k8,cond_true,if_pos (by rw [e6];omega)]
  ·rw [if_pos (by simpa using g5),show ((((norm (Xdp (s.take t)):Nat):Int) !=65535))=true by simp;omega];rfl
 ·rw [show (vK s 0 1/16 !=4)=true by simpa using g1,cond_true,if_pos (by simpa using g1)]
end Go.Vm.Code
namespace Go.Vm.Code
open Go Go.Vm Go.Proofs
set_option maxRecDepth 100000
set_option maxHeartbeats 4000000
set_option linter.unusedVariables false
def XgT (XbI:(List UInt8)→Option (Xab×Bool)) (Xay:(List UInt8)→Option Xaa) (Xaf:Xaa→Option (Bool×Xaa)) (Xad:Xaa→Int→Option (Int×Xaa)) (Xac:Xaa→Int→Option ((List UInt8)×Xaa)) (s:List UInt8):Option (Xao×(List UInt8)×Int):=
 (Xay s).bind fun n=>
 (Xad n 4).bind fun n1=>
 (Xad n1.2 2).bind fun n2=>
 (Xad n2.2 1).bind fun n3=>
 (Xad n3.2 1).bind fun n4=>
 (Xac n4.2 16).bind fun t=>
 (Xac t.2 16).bind fun t1=>
 (Xaf t1.2).bind fun b=>
 cond (b.1)
  (
  some ((Xao.mk 0 0 0 0 (Xab.mk false 0 0) (Xab.mk false 0 0),[],2)))
  (
  cond ((n1.1.fdiv (2^28)) !=6)
   (
   some ((Xao.mk 0 0 0 0 (Xab.mk false 0 0) (Xab.mk false 0 0),[],3)))
   (
   (XbI t.1).bind fun xg=>
   (XbI t1.1).bind fun xg1=>
   (Xac b.2 n2.1).bind fun t2=>
   (Xaf t2.2).bind fun b1=>
   cond (b1.1)
    (
    some ((Xao.mk 0 0 0 0 (Xab.mk false 0 0) (Xab.mk false 0 0),[],2)))
    (
    some ((Xao.mk (Xjp .i64 (n1.1.fdiv (2^20)) 255) (Xjp .i64 n1.1 1048575) n3.1 n4.1 xg.1 xg1.1,t2.1,0)))))
def XxN (x:Xao×(List UInt8)×Int):Xcw:=⟨.tuple ⟨[.agg ⟨[.int .i64 x.1.Class,.int .i64 x.1.Label,.int .i64 x.1.Next,.int .i64 x.1.Hop,.bool x.1.Src.V6,.int .u64 x.1.Src.Hi,.int .u64 x.1.Src.Lo,.bool x.1.Dst.V6,.int .u64 x.1.Dst.Hi,.int .u64 x.1.Dst.Lo]⟩,.string ⟨⟨x.2.1⟩⟩,.int .i64 x.2.2]⟩,[],[]⟩
def r130 (g:(List UInt8)→Option (Xao×(List UInt8)×Int)):Dec:=dV asS fun (y0:List UInt8)=>Xdd (ofG (g y0) XxN)
theorem XHq {g:(List UInt8)→Option (Xao×(List UInt8)×Int)} {y0:List UInt8} {x:Xao×(List UInt8)×Int} (hx:g y0=some x):r130 g [.string ⟨⟨y0⟩⟩] []=some (XxN x):=(XaX (XcI)).trans (Xa3 hx)
def s130 (g:(List UInt8)→Option (Xao×(List UInt8)×Int)):Xbu:=⟨[.v],r130 g⟩
theorem XFj {g:(List UInt8)→Option (Xao×(List UInt8)×Int)} {y0:List UInt8} {x:Xao×(List UInt8)×Int} (hx:g y0=some x):(s130 g).run [.string ⟨⟨y0⟩⟩] []=some (XxN x):=XHq hx
abbrev Xu0 (XbI:(List UInt8)→Option (Xab×Bool)) (Xay:(List UInt8)→Option Xaa) (Xaf:Xaa→Option (Bool×Xaa)) (Xad:Xaa→Int→Option (Int×Xaa)) (Xac:Xaa→Int→Option ((List UInt8)×Xaa)):List (Nat×Xbu):=[(135,XKG XbI),(61,s61 Xay),(63,s63 Xaf),(62,s62 Xad),(64,s64 Xac)]
theorem Xys (XbI:(List UInt8)→Option (Xab×Bool)) (Xay:(List UInt8)→Option Xaa) (Xaf:Xaa→Option (Bool×Xaa)) (Xad:Xaa→Int→Option (Int×Xaa)) (Xac:Xaa→Int→Option ((List UInt8)×Xaa)) (hS:Xah Tryz.prog (Xav (Xu0 XbI Xay Xaf Xad Xac))) (s:List UInt8) (res:Xao×(List UInt8)×Int) (h:XgT XbI Xay Xaf Xad Xac s=some res) :
 XaK Tryz.prog 130 0 ⟨⟨130,59,[(0,.string ⟨⟨s⟩⟩)],[.code Xvp],[],false,none⟩,[],[],0⟩ (fun v H _=>Res 0 (XxN res) v H):=by
 unfold XgT at h
 refine Xbi Xan hS true 3000 ?_
 conv=>whnf
 replace h:=Xai.elim h;obtain ⟨n,hy,h⟩:=h
 refine XaJ.Xbe [1] (Xaw (aqs:=[.string ⟨⟨s⟩⟩]) (ws:=[]) (n:=1) (m:=0) (t':=2) (Xau rfl rfl Xbg) rfl (by rfl) (XoW hy) rfl rfl rfl rfl Xbf (Xhw (rfl) Xbc) rfl) ?_
 conv=>whnf
 replace h:=Xai.elim h;obtain ⟨n1,hy,h⟩:=h
 refine XaJ.Xbe [1] (Xaw (aqs:=[.pointer (some ⟨0,0,none⟩),.int .i64 4]) (ws:=[.win 1 0 3 true]) (n:=0) (m:=0) (t':=2) (Xau rfl rfl (Xau rfl rfl Xbg)) rfl (by rfl) (XdC hy) rfl rfl rfl rfl (XbD rfl rfl rfl ⟨rfl,Nat.le_of_ble_eq_true rfl⟩ rfl rfl Xbf) Xbc rfl) ?_
 conv=>whnf
 replace h:=Xai.elim h;obtain ⟨n2,hy,h⟩:=h
 refine XaJ.Xbe [1] (Xaw (aqs:=[.pointer (some ⟨0,0,none⟩),.int .i64 2]) (ws:=[.win 1 0 3 true]) (n:=0) (m:=0) (t':=2) (Xau rfl rfl (Xau rfl rfl Xbg)) rfl (by rfl) (XdC hy) rfl rfl rfl rfl (XbD rfl rfl rfl ⟨rfl,Nat.le_of_ble_eq_true rfl⟩ rfl rfl Xbf) Xbc rfl) ?_
 conv=>whnf
 replace h:=Xai.elim h;obtain ⟨n3,hy,h⟩:=h
 refine XaJ.Xbe [1] (Xaw (aqs:=[.pointer (some ⟨0,0,none⟩),.int .i64 1]) (ws:=[.win 1 0 3 true]) (n:=0) (m:=0) (t':=2) (Xau rfl rfl (Xau rfl rfl Xbg)) rfl (by rfl) (XdC hy) rfl rfl rfl rfl (XbD rfl rfl rfl ⟨rfl,Nat.le_of_ble_eq_true rfl⟩ rfl rfl Xbf) Xbc rfl) ?_
 conv=>whnf
 replace h:=Xai.elim h;obtain ⟨n4,hy,h⟩:=h
 refine XaJ.Xbe [1] (Xaw (aqs:=[.pointer (some ⟨0,0,none⟩),.int .i64 1]) (ws:=[.win 1 0 3 true]) (n:=0) (m:=0) (t':=2) (Xau rfl rfl (Xau rfl rfl Xbg)) rfl (by rfl) (XdC hy) rfl rfl rfl rfl (XbD rfl rfl rfl ⟨rfl,Nat.le_of_ble_eq_true rfl⟩ rfl rfl Xbf) Xbc rfl) ?_
 conv=>whnf
 replace h:=Xai.elim h;obtain ⟨t,hy,h⟩:=h
 refine XaJ.Xbe [1] (Xaw (aqs:=[.pointer (some ⟨0,0,none⟩),.int .i64 16]) (ws:=[.win 1 0 3 true]) (n:=0) (m:=0) (t':=3) (Xau rfl rfl (Xau rfl rfl Xbg)) rfl (by rfl) (Xhl hy) rfl rfl rfl rfl (XbD rfl rfl rfl ⟨rfl,Nat.le_of_ble_eq_true rfl⟩ rfl rfl Xbf) Xbc rfl) ?_
 conv=>whnf
 replace h:=Xai.elim h;obtain ⟨t1,hy,h⟩:=h
 refine XaJ.Xbe [1] (Xaw (aqs:=[.pointer (some ⟨0,0,none⟩),.int .i64 16]) (ws:=[.win 1 0 3 true]) (n:=0) (m:=0) (t':=3) (Xau rfl rfl (Xau rfl rfl Xbg)) rfl (by rfl) (Xhl hy) rfl rfl rfl rfl (XbD rfl rfl rfl ⟨rfl,Nat.le_of_ble_eq_true rfl⟩ rfl rfl Xbf) Xbc rfl) ?_
 conv=>whnf
 replace h:=Xai.elim h;obtain ⟨b,hy,h⟩:=h
 refine XaJ.Xbe [1] (Xaw (aqs:=[.pointer (some ⟨0,0,none⟩)]) (ws:=[.win 1 0 3 true]) (n:=0) (m:=0) (t':=3) (Xau rfl rfl Xbg) rfl (by rfl) (XjI hy) rfl rfl rfl rfl (XbD rfl rfl rfl ⟨rfl,Nat.le_of_ble_eq_true rfl⟩ rfl rfl Xbf) Xbc rfl) ?_
 conv=>whnf
 refine br.h h (by rfl) ?_ ?_
 ·clear h;intro hb h;conv=>whnf
  all_goals (cases h;exact Res.y)
 clear h;intro hb h;conv=>whnf
 refine br.h h (by rfl) ?_ ?_
 ·clear h;intro hb h;conv=>whnf
  all_goals (cases h;exact Res.y)
 clear h;intro hb h;conv=>whnf
 replace h:=Xai.elim h;obtain ⟨xg,hy,h⟩:=h
 refine XaJ.p (Xp9 hy) ?_
 conv=>whnf
 replace h:=Xai.elim h;obtain ⟨xg1,hy,h⟩:=h
 refine XaJ.p (Xp9 hy) ?_
 conv=>whnf
 replace h:=Xai.elim h;obtain ⟨t2,hy,h⟩:=h
 refine XaJ.Xbe [1] (Xaw (aqs:=[.pointer (some ⟨0,0,none⟩),.int .i64 n2.1]) (ws:=[.win 1 0 3 true]) (n:=0) (m:=0) (t':=3) (Xau rfl rfl (Xau rfl rfl Xbg)) rfl (by rfl) (Xhl hy) rfl rfl rfl rfl (XbD rfl rfl rfl ⟨rfl,Nat.le_of_ble_eq_true rfl⟩ rfl rfl Xbf) Xbc rfl) ?_
 conv=>whnf
 replace h:=Xai.elim h;obtain ⟨b1,hy,h⟩:=h
 refine XaJ.Xbe [1] (Xaw (aqs:=[.pointer (some ⟨0,0,none⟩)]) (ws:=[.win 1 0 3 true]) (n:=0) (m:=0) (t':=3) (Xau rfl rfl Xbg) rfl (by rfl) (XjI hy) rfl rfl rfl rfl (XbD rfl rfl rfl ⟨rfl,Nat.le_of_ble_eq_true rfl⟩ rfl rfl Xbf) Xbc rfl) ?_
 conv=>whnf
 refine br.h h (by rfl) ?_ ?_
 ·clear h;intro hb h;conv=>whnf
  all_goals (cases h;exact Res.y)
 clear h;intro hb h;conv=>whnf
 all_goals (cases h;exact Res.y)
theorem ok130 (XbI:(List UInt8)→Option (Xab×Bool)) (Xay:(List UInt8)→Option Xaa) (Xaf:Xaa→Option (Bool×Xaa)) (Xad:Xaa→Int→Option (Int×Xaa)) (Xac:Xaa→Int→Option ((List UInt8)×Xaa)) (hS:Xah Tryz.prog (Xav (Xu0 XbI Xay Xaf Xad Xac))):Xar Tryz.prog 130 (s130 (XgT XbI Xay Xaf Xad Xac)):=by
 refine Xar.Xax Xan (fun ar os r ha hr=>?_) ⟨Tryz.f130,rfl,by decide,rfl⟩
 replace hr:r130 (XgT XbI Xay Xaf Xad Xac) ar (XaH os)=some r:=hr
 unfold r130 at hr
 generalize hc:XaH os=C at hr
 replace hr:=dV.elim hr;obtain ⟨v0,l1,y0,rfl,e0,hr⟩:=hr;obtain rfl:=XbM _ _ e0
 replace hr:=Xdw hr;obtain ⟨rfl,rfl,x,h,rfl⟩:=hr
 obtain rfl:=Xat hc
 exact ⟨_,rfl,Xys XbI Xay Xaf Xad Xac hS _ x h⟩
def XcK:(List UInt8)→Option (Xao×(List UInt8)×Int):=XgT XbI Xay Xaf Xad Xac
theorem XDa:Xar Tryz.prog 130 (s130 XcK):=ok130 XbI Xay Xaf Xad Xac (Xah.Xa0 ⟨XtA,XpX,XnI,Xnq,XlG,trivial⟩)
def Xje (Xaj:(List UInt8)→Int→Int→Option Int) (XbS:(List UInt8)→Option (Xab×Bool)) (s:List UInt8):Option (Xao×(List UInt8)×Int):=
 cond (decide ((s.length:Int)<40))
  (
  some ((Xao.mk 0 0 0 0 (Xab.mk false 0 0) (Xab.mk false 0 0),[],2)))
  (
  (Xaj s 0 4).bind fun m=>
  (Xaj s 4 2).bind fun m1=>
  cond ((wI .i64 (m.tdiv 268435456)) !=6)
   (
   some ((Xao.mk 0 0 0 0 (Xab.mk false 0 0) (Xab.mk false 0 0),[],3)))
   (
   let t:=decide ((wI .i64 ((s.length:Int) - 40))<m1)
   cond (t)
    (
    some ((Xao.mk 0 0 0 0 (Xab.mk false 0 0) (Xab.mk false 0 0),[],2)))
    (
    XaE (decide ((0:Int)≤(24:Int)∧(24:Int)≤(s.length:Int)∧(0:Int)≤(8:Int)∧(8:Int)≤(24:Int))) <|
    (XbS ((s.drop 8).take 16)).bind fun xg=>
    XaE (decide ((0:Int)≤(40:Int)∧(40:Int)≤(s.length:Int)∧(0:Int)≤(24:Int)∧(24:Int)≤(40:Int))) <|
    (XbS ((s.drop 24).take 16)).bind fun xg1=>
    (s[6]?).bind fun (b:UInt8)=>
    (s[7]?).bind fun (b1:UInt8)=>
    XaE (decide ((0:Int)≤(wI .i64 (40+m1))∧(wI .i64 (40+m1))≤(s.length:Int)∧(0:Int)≤(40:Int)∧(40:Int)≤((wI .i64 (40+m1)).toNat:Int))) <|
    let t1:=(s.drop 40).take ((wI .i64 (40+m1)).toNat - 40)
    some ((Xao.mk ((wI .i64 (m.tdiv 1048576)).tmod 256) (m.tmod 1048576) (wI .i64 (b.toNat:Int)) (wI .i64 (b1.toNat:Int)) xg.1 xg1.1,t1,0)))))
def rx99 (x:Xao×(List UInt8)×Int):Xcw:=⟨.tuple ⟨[.agg ⟨[.int .i64 x.1.Class,.int .i64 x.1.Label,.int .i64 x.1.Next,.int .i64 x.1.Hop,.bool x.1.Src.V6,.int .u64 x.1.Src.Hi,.int .u64 x.1.Src.Lo,.bool x.1.Dst.V6,.int .u64 x.1.Dst.Hi,.int .u64 x.1.Dst.Lo]⟩,.string ⟨⟨x.2.1⟩⟩,.int .i64 x.2.2]⟩,[],[]⟩
def r99 (g:(List UInt8)→Option (Xao×(List UInt8)×Int)):Dec:=dV asS fun (y0:List UInt8)=>Xdd (ofG (g y0) rx99)
theorem r99_c {g:(List UInt8)→Option (Xao×(List UInt8)×Int)} {y0:List UInt8} {x:Xao×(List UInt8)×Int} (hx:g y0=some x):r99 g [.string ⟨⟨y0⟩⟩] []=some (rx99 x):=(XaX (XcI)).trans (Xa3 hx)
def s99 (g:(List UInt8)→Option (Xao×(List UInt8)×Int)):Xbu:=⟨[.v],r99 g⟩
theorem XHk {g:(List UInt8)→Option (Xao×(List UInt8)×Int)} {y0:List UInt8} {x:Xao×(List UInt8)×Int} (hx:g y0=some x):(s99 g).run [.string ⟨⟨y0⟩⟩] []=some (rx99 x):=r99_c hx
abbrev XAc (Xaj:(List UInt8)→Int→Int→Option Int) (XbS:(List UInt8)→Option (Xab×Bool)):List (Nat×Xbu):=[(44,s44 Xaj),(122,XIR XbS)]
theorem XDx (Xaj:(List UInt8)→Int→Int→Option Int) (XbS:(List UInt8)→Option (Xab×Bool)) (hS:Xah Tryz.prog (Xav (XAc Xaj XbS))) (s:List UInt8) (res:Xao×(List UInt8)×Int) (h:Xje Xaj XbS s=some res) :
 XaK Tryz.prog 99 0 ⟨⟨99,59,[(0,.string ⟨⟨s⟩⟩)],[.code XAa],[],false,none⟩,[],[],0⟩ (fun v H _=>Res 0 (rx99 res) v H):=by
 unfold Xje at h
 refine Xbi Xan hS true 3000 ?_
 conv=>whnf
 refine br.h h (by rfl) ?_ ?_
 ·clear h;intro hb h;conv=>whnf
  all_goals (cases h;exact Res.y)
 clear h;intro hb h;conv=>whnf
 replace h:=Xai.elim h;obtain ⟨m,hy,h⟩:=h
 refine XaJ.p (XeO hy) ?_
 conv=>whnf
 replace h:=Xai.elim h;obtain ⟨m1,hy,h⟩:=h
 refine XaJ.p (XeO hy) ?_
 conv=>whnf
 refine br.h h (by rfl) ?_ ?_
 ·clear h;intro hb h;conv=>whnf
  all_goals (cases h;exact Res.y)
 clear h;intro hb h;conv=>whnf
 let t:Bool:=decide ((wI .i64 ((s.length:Int) - 40))<m1)
 refine br.h h (by rfl) ?_ ?_
 ·clear h;intro hb h;conv=>whnf
  all_goals (cases h;exact Res.y)
 clear h;intro hb h;conv=>whnf
 replace h:=XaE.elim h;obtain ⟨hb,h⟩:=h
 try (refine req.intro hb ?_;conv=>whnf)
 replace h:=Xai.elim h;obtain ⟨xg,hy,h⟩:=h
 refine XaJ.p (Xlr hy) ?_
 conv=>whnf
 replace h:=XaE.elim h;obtain ⟨hb,h⟩:=h
 try (refine req.intro hb ?_;conv=>whnf)
 replace h:=Xai.elim h;obtain ⟨xg1,hy,h⟩:=h
 refine XaJ.p (Xlr hy) ?_
 conv=>whnf
 replace h:=Xai.elim h;obtain ⟨b,hy,h⟩:=h
 refine rdS.intro hy ?_
 conv=>whnf
 replace h:=Xai.elim h;obtain ⟨b1,hy,h⟩:=h
 refine rdS.intro hy ?_
 conv=>whnf
 replace h:=XaE.elim h;obtain ⟨hb,h⟩:=h
 try (refine req.intro hb ?_;conv=>whnf)
 let t1:List UInt8:=(s.drop 40).take ((wI .i64 (40+m1)).toNat - 40)
 all_goals (cases h;exact Res.y)
theorem ok99 (Xaj:(List UInt8)→Int→Int→Option Int) (XbS:(List UInt8)→Option (Xab×Bool)) (hS:Xah Tryz.prog (Xav (XAc Xaj XbS))):Xar Tryz.prog 99 (s99 (Xje Xaj XbS)):=by
 refine Xar.Xax Xan (fun ar os r ha hr=>?_) ⟨Tryz.f99,rfl,by decide,rfl⟩
 replace hr:r99 (Xje Xaj XbS) ar (XaH os)=some r:=hr
 unfold r99 at hr
 generalize hc:XaH os=C at hr
 replace hr:=dV.elim hr;obtain ⟨v0,l1,y0,rfl,e0,hr⟩:=hr;obtain rfl:=XbM _ _ e0
 replace hr:=Xdw hr;obtain ⟨rfl,rfl,x,h,rfl⟩:=hr
 obtain rfl:=Xat hc
 exact ⟨_,rfl,XDx Xaj XbS hS _ x h⟩
def Xep:(List UInt8)→Option (Xao×(List UInt8)×Int):=Xje Xaj XbS
theorem XHY:Xar Tryz.prog 99 (s99 Xep):=ok99 Xaj XbS (Xah.Xa0 ⟨Xma,XtP,trivial⟩)
end Go.Vm.Code
namespace Go.Vm.Code
open Go Go.Vm
def zero6:Xao:=⟨0,0,0,0,⟨false,0,0⟩,⟨false,0,0⟩⟩
def XpC (s:List UInt8):Xao:=
 let m:=Xdf (s.take 4)
 ⟨((m/2^20%256:Nat):Int),((m%2^20:Nat):Int),((Xdf ((s.drop 6).take 1):Nat):Int),((Xdf ((s.drop 7).take 1):Nat):Int),Xsx ((s.drop 8).take 16),Xsx ((s.drop 24).take 16)⟩
def Xh5 (s:List UInt8):Xao×List UInt8×Int:=
 if s.length<40 then (zero6,[],2) else if Xdf (s.take 4)/2^28≠6 then (zero6,[],3) else if s.length - 40<Xdf ((s.drop 4).take 2) then (zero6,[],2) else
  (XpC s,(s.drop 40).take (Xdf ((s.drop 4).take 2)),0)
theorem XFB {s:List UInt8} (h:s.length<2^60):XcK s=some (Xh5 s):=by
 unfold XcK XgT
 rw [Xms,Option.bind_some]
 by_cases hs:s.length<40
 ·have e:Xh5 s=(zero6,[],2):=by unfold Xh5;rw [if_pos hs]
  rw [XfF rfl (by simp only [];omega),Option.bind_some]
  simp only []
  have b1:∀ (r:Xaa) (k:Int),(rdr r k).s.length≤r.s.length:=by intro r k;unfold rdr;split<;>simp
  have l1:=b1 ⟨s,true,false⟩ (if (4:Int)<1∨(4:Int)>7 then -1 else 4)
  simp only at l1
  generalize hr1:rdr ⟨s,true,false⟩ (if (4:Int)<1∨(4:Int)>7 then -1 else 4)=r1 at *
  have m1:r1.made=true:=by rw [←hr1];exact Xfs _ _
  rw [XfF m1 (by omega),Option.bind_some]
  simp only []
  have l2:=b1 r1 (if (2:Int)<1∨(2:Int)>7 then -1 else 2)
  generalize hr2:rdr r1 (if (2:Int)<1∨(2:Int)>7 then -1 else 2)=r2 at *
  have m2:r2.made=true:=by rw [←hr2];exact Xfs _ _
  rw [XfF m2 (by omega),Option.bind_some]
  simp only []
  have l3:=b1 r2 (if (1:Int)<1∨(1:Int)>7 then -1 else 1)
  generalize hr3:rdr r2 (if (1:Int)<1∨(1:Int)>7 then -1 else 1)=r3 at *
  have m3:r3.made=true:=by rw [←hr3];exact Xfs _ _
  rw [XfF m3 (by omega),Option.bind_some]
  simp only []
  have l4:=b1 r3 (if (1:Int)<1∨(1:Int)>7 then -1 else 1)
  generalize hr4:rdr r3 (if (1:Int)<1∨(1:Int)>7 then -1 else 1)=r4 at *
  have m4:r4.made=true:=by rw [←hr4];exact Xfs _ _
  rw [XeA m4,Option.bind_some]
  simp only []
  generalize hr5:rdr r4 16=r5 at *
  have m5:r5.made=true:=by rw [←hr5];exact Xfs _ _
  rw [XeA m5,Option.bind_some]
  simp only []
  generalize hr6:rdr r5 16=r6 at *
  have m6:r6.made=true:=by rw [←hr6];exact Xfs _ _
  rw [Xd4 m6,Option.bind_some]
  have hb:r6.bad=true:=by
   cases hb:r6.bad with
   | true=>rfl
   | false=>
     exfalso
     obtain ⟨a5,n6⟩:=Xge hr6 hb
     obtain ⟨a4,n5⟩:=Xge hr5 a5
     obtain ⟨a3,n4⟩:=Xge hr4 a4
     obtain ⟨a2,n3⟩:=Xge hr3 a3
     obtain ⟨a1,n2⟩:=Xge hr2 a2
     obtain ⟨a0,n1⟩:=Xge hr1 a1
     rw [show (if (4:Int)<1∨(4:Int)>7 then -1 else 4:Int)=4 by decide] at n1
     simp only at n1
     omega
  simp only [hb,cond_true]
  rw [e];rfl
 ·have i4:(if (4:Int)<1∨(4:Int)>7 then -1 else 4:Int)=4:=by decide
  have i2:(if (2:Int)<1∨(2:Int)>7 then -1 else 2:Int)=2:=by decide
  have i1:(if (1:Int)<1∨(1:Int)>7 then -1 else 1:Int)=1:=by decide
  have t4:(4:Int).toNat=4:=rfl
  have t2:(2:Int).toNat=2:=rfl
  have t1:(1:Int).toNat=1:=rfl
  have t16:(16:Int).toNat=16:=rfl
  rw [XfF rfl (by simp only [];omega),Option.bind_some]
  simp only [rdn,i4]
  rw [Xg1 (by omega) (by omega),Xg3 (by omega) (by omega),t4]
  rw [XfF rfl (by simp;omega),Option.bind_some]
  simp only [rdn,i2]
  rw [Xg1 (by omega) (by simp;omega),Xg3 (by omega) (by simp;omega),t2,List.drop_drop]
  rw [XfF rfl (by simp;omega),Option.bind_some]
  simp only [rdn,i1]
  rw [Xg1 (by omega) (by simp;omega),Xg3 (by omega) (by simp;omega),t1,List.drop_drop]
  rw [XfF rfl (by simp;omega),Option.bind_some]
  simp only [rdn,i1]
  rw [Xg1 (by omega) (by simp;omega),Xg3 (by omega) (by simp;omega),t1,List.drop_drop]
  rw [XeA rfl,Option.bind_some]
  simp only []
  rw [Xg1 (by omega) (by simp;omega),Xg3 (by omega) (by simp;omega),t16,List.drop_drop]
  rw [XeA rfl,Option.bind_some]
  simp only []
  rw [Xg1 (by omega) (by simp;omega),Xg3 (by omega) (by simp;omega),t16,List.drop_drop]
  rw [Xd4 rfl,Option.bind_some]
  simp only [cond_false,Nat.reduceAdd]
  have v4:Xdf (s.take 4)<2^32:=XcU _ (by decide)
  have v2:Xdf ((s.drop 4).take 2)<2^16:=XcU _ (by decide)
  unfold Xh5
  rw [if_neg hs]
  have e1:((((Xdf (s.take 4):Nat):Int).fdiv (2^28)) !=6)=decide (Xdf (s.take 4)/2^28≠6):=by
   rw [Xpb,Bool.eq_iff_iff,bne_iff_ne,decide_eq_true_eq];omega
  rw [e1]
  by_cases h6:Xdf (s.take 4)/2^28≠6
  ·rw [XaZ h6,if_pos h6];rfl
  rw [XaO h6,if_neg h6]
  rw [XnK (by simp;omega),XnK (by simp;omega)]
  simp only [Option.bind_some]
  rw [XeA rfl,Option.bind_some]
  by_cases hn:s.length - 40<Xdf ((s.drop 4).take 2)
  ·rw [Xd4 (Xfs _ _),Option.bind_some]
   have hb:(rdr ⟨s.drop 40,true,false⟩ ((Xdf ((s.drop 4).take 2):Nat):Int)).bad=true:=by
    cases hb:(rdr ⟨s.drop 40,true,false⟩ ((Xdf ((s.drop 4).take 2):Nat):Int)).bad with
    | true=>rfl
    | false=>
      exfalso
      obtain ⟨_,_,c⟩:=XqM.1 hb
      simp at c;omega
   simp only [hb,cond_true]
   rw [if_pos hn];rfl
  ·rw [Xg1 (by omega) (by simp;omega),Xg3 (by omega) (by simp;omega),Xd4 rfl,Option.bind_some]
   simp only [cond_false,Int.toNat_natCast]
   rw [if_neg hn]
   unfold XpC
   simp only []
   have e2:Xjp .i64 ((((Xdf (s.take 4):Nat):Int)).fdiv (2^20)) 255=((Xdf (s.take 4)/2^20%256:Nat):Int):=by
    rw [Xpb,Xg7 (m:=255) 8 (by decide) (by decide) (by omega) (by omega)];omega
   have e3:Xjp .i64 ((Xdf (s.take 4):Nat):Int) 1048575=((Xdf (s.take 4)%2^20:Nat):Int):=by
    rw [Xg7 (m:=1048575) 20 (by decide) (by decide) (by omega) (by omega)];omega
   rw [e2,e3]
theorem XyB {s:List UInt8} (h:s.length<2^60):Xep s=some (Xh5 s):=by
 unfold Xep Xje Xh5
 by_cases hs:s.length<40
 ·rw [XaZ (by omega),if_pos hs];rfl
 rw [XaO (by omega),if_neg hs]
 have v4:Xdf (s.take 4)<2^32:=XcU _ (by decide)
 have v2:Xdf ((s.drop 4).take 2)<2^16:=XcU _ (by decide)
 rw [Xf0 (by omega),Xf0 (by omega),XfE (p:=0) (k:=4) (by omega) (by omega) (by omega) (by omega),XfE (p:=4) (k:=2) (by omega) (by omega) (by omega) (by omega)]
 simp only [Option.bind_some,show (0:Int).toNat=0 from rfl,show (4:Int).toNat=4 from rfl,show (2:Int).toNat=2 from rfl,List.drop_zero]
 rw [XcC (n:=((Xdf (s.take 4):Nat):Int)) (by omega) (by omega),XcC (n:=((Xdf ((s.drop 4).take 2):Nat):Int)) (by omega) (by omega)]
 have e1:((wI .i64 ((((Xdf (s.take 4):Nat):Int)).tdiv 268435456)) !=6)=decide (Xdf (s.take 4)/2^28≠6):=by
  rw [Int.tdiv_eq_ediv_of_nonneg (by omega),XcC (by omega) (by omega),Bool.eq_iff_iff,bne_iff_ne,decide_eq_true_eq];omega
 rw [e1]
 by_cases h6:Xdf (s.take 4)/2^28≠6
 ·rw [XaZ h6,if_pos h6];rfl
 rw [XaO h6,if_neg h6,XcC (n:=(s.length:Int) - 40) (by omega) (by omega)]
 by_cases hn:s.length - 40<Xdf ((s.drop 4).take 2)
 ·rw [XaZ (by omega),if_pos hn];rfl
 rw [XaO (by omega),if_neg hn,XaL (by omega),XpB (by simp;omega),Option.bind_some,XaL (by omega),XpB (by simp;omega),Option.bind_some,List.getElem?_eq_getElem (by omega:6<s.length),Option.bind_some,
  List.getElem?_eq_getElem (by omega:7<s.length),Option.bind_some,XcC (n:=40+((Xdf ((s.drop 4).take 2):Nat):Int)) (by omega) (by omega),XaL (by omega)]
 have b6:=s[6].toNat_lt
 have b7:=s[7].toNat_lt
 have e6:(s.drop 6).take 1=[s[6]]:=by rw [List.drop_eq_getElem_cons (by omega:6<s.length)];rfl
 have e7:(s.drop 7).take 1=[s[7]]:=by rw [List.drop_eq_getElem_cons (by omega:7<s.length)];rfl
 have e8:(40+((Xdf ((s.drop 4).take 2):Nat):Int)).toNat - 40=Xdf ((s.drop 4).take 2):=by omega
 unfold XpC
 simp only [e6,e7,e8,XeE,XFF]
 rw [Int.tdiv_eq_ediv_of_nonneg (by omega),XcC (n:=((Xdf (s.take 4):Nat):Int)/1048576) (by omega) (by omega),Int.tmod_eq_emod_of_nonneg (by omega),Int.tmod_eq_emod_of_nonneg (by omega),XcC (n:=(s[6].toNat:Int)) (by omega) (by omega),XcC (n:=(s[7].toNat:Int)) (by omega) (by omega)]
 simp
end Go.Vm.Code
namespace Go.Vm.Code
open Go Go.Vm Go.Proofs
set_option maxRecDepth 100000
set_option maxHeartbeats 4000000
set_option linter.unusedVariables false
def XfY (text:List UInt8) (i:Int) (c:List XbJ):Option (Sum (Int×(List XbJ)) ((List XbJ)×Int)):=
 cond (decide (i<(text.length:Int)))
  (
  XaE (decide (0≤i)) <|
  (text[i.toNat]?).bind fun (b:UInt8)=>
  cond ((b.toNat:Int)==0)
   (
   some (.inr ((c,0))))
   (
   cond ((b.toNat:Int)==1)
    (
    some (.inl (wI .i64 (i+1),c)))
    (
    let t:=decide ((wI .i64 (i+1))<(text.length:Int))
    cond (t)
     (
     XaE (decide (0≤(wI .i64 (i+1)))) <|
     (text[(wI .i64 (i+1)).toNat]?).bind fun (b1:UInt8)=>
     cond (decide ((wI .i64 (b1.toNat:Int))<2))
      (
      some (.inr (([],3))))
      (
      let t1:=decide ((wI .i64 (b1.toNat:Int))>(wI .i64 ((text.length:Int) - i)))
      cond (t1)
       (
       some (.inr (([],3))))
       (
       XaE (decide (0≤i)) <|
       (text[i.toNat]?).bind fun (b2:UInt8)=>
       XaE (decide ((0:Int)≤(wI .i64 (i+(wI .i64 (b1.toNat:Int))))∧(wI .i64 (i+(wI .i64 (b1.toNat:Int))))≤(text.length:Int)∧(0:Int)≤(wI .i64 (i+2))∧(wI .i64 (i+2))≤((wI .i64 (i+(wI .i64 (b1.toNat:Int)))).toNat:Int))) <|
       let t2:=(text.drop (wI .i64 (i+2)).toNat).take ((wI .i64 (i+(wI .i64 (b1.toNat:Int)))).toNat - (wI .i64 (i+2)).toNat)
       cond (decide ((wI .i64 (i+2))<0))
        (
        some (.inr (([],3))))
        (
        XaE (decide ((c.length+1)*24≤2^47)) <|
        let row:=c++[XbJ.mk (wI .i64 (b2.toNat:Int)) t2]
        some (.inl (wI .i64 (i+(wI .i64 (b1.toNat:Int))),row))))))
     (
     some (.inr (([],3)))))))
  (
  some (.inr ((c,0))))
def XhJ (text:List UInt8):Option ((List XbJ)×Int):=
 iter (fun st=>XfY text st.1 st.2) FUEL (0,[])
def XqO (x:(List XbJ)×Int):Xcw:=⟨.tuple ⟨[.slice (some ⟨0,0,none⟩) x.1.length 2,.int .i64 x.2]⟩,[(vT Xgf x.1)],[]⟩
def r102 (g:(List UInt8)→Option ((List XbJ)×Int)):Dec:=dV asS fun (y0:List UInt8)=>Xdd (ofG (g y0) XqO)
theorem XKx {g:(List UInt8)→Option ((List XbJ)×Int)} {y0:List UInt8} {x:(List XbJ)×Int} (hx:g y0=some x):r102 g [.string ⟨⟨y0⟩⟩] []=some (XqO x):=(XaX (XcI)).trans (Xa3 hx)
def XHe (g:(List UInt8)→Option ((List XbJ)×Int)):Xbu:=⟨[.v],r102 g⟩
theorem XuE {g:(List UInt8)→Option ((List XbJ)×Int)} {y0:List UInt8} {x:(List XbJ)×Int} (hx:g y0=some x):(XHe g).run [.string ⟨⟨y0⟩⟩] []=some (XqO x):=XKx hx
abbrev XqR:List (Nat×Xbu):=[]
def Xh2 (text:List UInt8) (i:Int) (c:List XbJ):VM:=
 ⟨⟨125,62,[(0,.func (.yield 5) #[] #[]),(1,.pointer (some ⟨3,0,none⟩)),(3,.int .i64 i)],[.code XmB,.inLoop XmB,.inBlock 0],[],false,none⟩,[⟨102,18,[(2,.pointer (some ⟨0,0,none⟩)),(3,.pointer (some ⟨1,0,none⟩)),(4,.pointer (some ⟨2,0,none⟩))],[.inRangeFunc 5,.inBlock 0,.code Xvf],[4],false,none⟩],[(0,.cells [.slice none 0 0]),(1,.cells [.int .i64 0]),(2,.cells [.slice (some ⟨6,0,none⟩) c.length 2]),(3,.cells [.string ⟨⟨text⟩⟩]),(4,.marks),(5,.loop ⟨.ready,none,102,18,[(2,.pointer (some ⟨0,0,none⟩)),(3,.pointer (some ⟨1,0,none⟩)),(4,.pointer (some ⟨2,0,none⟩))],[8],XAo,Xvc,4⟩),(6,.row true (vT Xgf c))],7⟩
theorem Xwb (hS:Xah Tryz.prog (Xav (XqR))) (text:List UInt8) (res:(List XbJ)×Int):∀ fuel (st:Int×(List XbJ)) (o:(List XbJ)×Int),iter (fun st=>XfY text st.1 st.2) fuel st=some o→(o=res) →
 XaK Tryz.prog 102 0 (Xh2 text st.1 st.2) (fun v H t=>∃ v' H' t',Xs4 v H t v' H' t'∧Res 0 (XqO res) v' H'):=by
 intro fuel st o h hc
 refine XbY (head:=fun st=>Xh2 text st.1 st.2) (C:=fun o=>(o=res)) ?_ fuel st o h hc
 clear h hc o st fuel
 intro st o h hc
 obtain ⟨i,c⟩:=st
 replace h:XfY text i c=some o:=h
 show XaK Tryz.prog 102 0 (Xh2 text i c) (fun v H t=>∃ v' H' t',Xs4 v H t v' H' t'∧Res 0 (XqO res) v' H')
 unfold XfY at h
 refine Xbi Xan hS true 3000 ?_
 conv=>whnf
 refine br.h2 h (by rfl) ?_ ?_
 ·clear h;intro hb h;conv=>whnf
  all_goals (cases h;cases hc)
  all_goals exact ⟨_,_,_,(.refl _ _ _),Res.of [6] rfl (Xsc (Xqm Xb6) (Xix rfl) Xhe) (by decide) (Xsq (by decide) Xhc) Xhb⟩
 clear h;intro hb h;conv=>whnf
 replace h:=XaE.elim h;obtain ⟨hb,h⟩:=h
 try (refine req.intro hb ?_;conv=>whnf)
 replace h:=Xai.elim h;obtain ⟨b,hy,h⟩:=h
 refine rdS.intro hy ?_
 conv=>whnf
 refine br.h h (by rfl) ?_ ?_
 ·clear h;intro hb h;conv=>whnf
  all_goals (cases h;cases hc)
  all_goals exact ⟨_,_,_,(.refl _ _ _),Res.of [6] rfl (Xsc (Xqm Xb6) (Xix rfl) Xhe) (by decide) (Xsq (by decide) Xhc) Xhb⟩
 clear h;intro hb h;conv=>whnf
 refine br.h h (by rfl) ?_ ?_
 ·clear h;intro hb h;conv=>whnf
  cases h;simp only [Sum.elim_inl,Xh2] at hc
  exact Xs8 hc [(0,0),(1,1),(2,2),(3,3),(4,4),(5,5),(6,6)] rfl
 clear h;intro hb h;conv=>whnf
 let t:Bool:=decide ((wI .i64 (i+1))<(text.length:Int))
 refine br.h2 h (by rfl) ?_ ?_
 ·clear h;intro hb h;conv=>whnf
  all_goals (cases h;cases hc)
  all_goals exact ⟨_,_,_,(.val (.tup (.cons (.nil _ _) (.cons (.same _) .nil))) (.refl _ _ _)),Res.of [8] rfl (Xsc (Xqm Xb6) (Xix rfl) Xhe) (by decide) (Xsq (by decide) Xhc) Xhb⟩
 clear h;intro hb h;conv=>whnf
 replace h:=XaE.elim h;obtain ⟨hb,h⟩:=h
 try (refine req.intro hb ?_;conv=>whnf)
 replace h:=Xai.elim h;obtain ⟨b1,hy,h⟩:=h
 refine rdS.intro hy ?_
 conv=>whnf
 refine br.h h (by rfl) ?_ ?_
 ·clear h;intro hb h;conv=>whnf
  all_goals (cases h;cases hc)
  all_goals exact ⟨_,_,_,(.val (.tup (.cons (.nil _ _) (.cons (.same _) .nil))) (.refl _ _ _)),Res.of [8] rfl (Xsc (Xqm Xb6) (Xix rfl) Xhe) (by decide) (Xsq (by decide) Xhc) Xhb⟩
 clear h;intro hb h;conv=>whnf
 let t1:Bool:=decide ((wI .i64 (b1.toNat:Int))>(wI .i64 ((text.length:Int) - i)))
 refine br.h h (by rfl) ?_ ?_
 ·clear h;intro hb h;conv=>whnf
  all_goals (cases h;cases hc)
  all_goals exact ⟨_,_,_,(.val (.tup (.cons (.nil _ _) (.cons (.same _) .nil))) (.refl _ _ _)),Res.of [8] rfl (Xsc (Xqm Xb6) (Xix rfl) Xhe) (by decide) (Xsq (by decide) Xhc) Xhb⟩
 clear h;intro hb h;conv=>whnf
 replace h:=XaE.elim h;obtain ⟨hb,h⟩:=h
 try (refine req.intro hb ?_;conv=>whnf)
 replace h:=Xai.elim h;obtain ⟨b2,hy,h⟩:=h
 refine rdS.intro hy ?_
 conv=>whnf
 replace h:=XaE.elim h;obtain ⟨hb,h⟩:=h
 try (refine req.intro hb ?_;conv=>whnf)
 let t2:List UInt8:=(text.drop (wI .i64 (i+2)).toNat).take ((wI .i64 (i+(wI .i64 (b1.toNat:Int)))).toNat - (wI .i64 (i+2)).toNat)
 refine br.h h (by rfl) ?_ ?_
 ·clear h;intro hb h;conv=>whnf
  all_goals (cases h;cases hc)
  all_goals exact ⟨_,_,_,(.val (.tup (.cons (.nil _ _) (.cons (.same _) .nil))) (.refl _ _ _)),Res.of [24] rfl (Xsc (Xqm Xb6) (Xix rfl) Xhe) (by decide) (Xsq (by decide) Xhc) Xhb⟩
 clear h;intro hb h;conv=>whnf
 replace h:=XaE.elim h;obtain ⟨hb,h⟩:=h
 refine req.intro (Xvt (of_decide_eq_true hb) (by first|rfl|omega|(simp;done)|(simp;omega)|(simp at *;omega)) rfl (by first|rfl|omega|(simp;done)|(simp;omega)|(simp at *;omega)) (by first|rfl|exact XhN _ _|exact Xkg _|exact XkR _|exact XlD (by first|exact Xdt|exact XcY|exact XcO|exact Xcg|exact Xcx|exact Xch|exact XcN|exact Xdm|exact XdN|exact Xdl|exact XcZ|exact Xce|exact Xdu|exact Xb1|exact Xa7|exact Xdr|exact XdL) _|(rw [XfR];exact XhN _ _)|(simp [XhN,Xkg,XkR,Xls,Xlz,Xoe,Xop];done)|(simp;exact List.all_eq_true.1 (XlD (by first|exact Xdt|exact XcY|exact XcO|exact Xcg|exact Xcx|exact Xch|exact XcN|exact Xdm|exact XdN|exact Xdl|exact XcZ|exact Xce|exact Xdu|exact Xb1|exact Xa7|exact Xdr|exact XdL) _))) rfl) ?_
 conv=>whnf
 let row:List XbJ:=c++[XbJ.mk (wI .i64 (b2.toNat:Int)) t2]
 refine Xzx Xhq (xs:=c) (ys:=[XbJ.mk (wI .i64 (b2.toNat:Int)) t2]) rfl (by first|rfl|omega) (by first|rfl|omega|(simp;done)|(simp;omega)|(simp at *;omega)) (by first|rfl|omega|(simp;done)|(simp;omega)|(simp at *;omega)) ?_
 conv=>whnf
 cases h;simp only [Sum.elim_inl,Xh2] at hc
 exact Xs8 hc [(0,0),(1,1),(2,2),(3,3),(4,4),(5,5),(6,25)] rfl
theorem Xx8 (hS:Xah Tryz.prog (Xav (XqR))) (text:List UInt8) (res:(List XbJ)×Int) (h:XhJ text=some res) :
 XaK Tryz.prog 102 0 ⟨⟨102,18,[(0,.string ⟨⟨text⟩⟩)],[.code XtN],[],false,none⟩,[],[],0⟩ (fun v H _=>Res 0 (XqO res) v H):=by
 refine XaK.nilW (R:=fun v' H'=>Res 0 (XqO res) v' H') ?_
 unfold XhJ at h
 refine Xbi Xan hS true 3000 ?_
 conv=>whnf
 have hl:=Xwb hS _ res _ _ _ h rfl;simp only [Xh2] at hl
 refine XaK.nilC 2 0 2 ?_
 exact Xs8 hl [(0,0),(1,1),(2,2),(3,3),(4,4),(5,5),(6,6)] rfl
theorem ok102 (hS:Xah Tryz.prog (Xav (XqR))):Xar Tryz.prog 102 (XHe (XhJ)):=by
 refine Xar.Xax Xan (fun ar os r ha hr=>?_) ⟨Tryz.f102,rfl,by decide,rfl⟩
 replace hr:r102 (XhJ) ar (XaH os)=some r:=hr
 unfold r102 at hr
 generalize hc:XaH os=C at hr
 replace hr:=dV.elim hr;obtain ⟨v0,l1,y0,rfl,e0,hr⟩:=hr;obtain rfl:=XbM _ _ e0
 replace hr:=Xdw hr;obtain ⟨rfl,rfl,x,h,rfl⟩:=hr
 obtain rfl:=Xat hc
 exact ⟨_,rfl,Xx8 hS _ x h⟩
def XbH:(List UInt8)→Option ((List XbJ)×Int):=XhJ
theorem Xut:Xar Tryz.prog 102 (XHe XbH):=ok102 (Xah.Xa0 trivial)
def XfN (options:List UInt8) (i:Int) (out1:List XbA):Option (Sum (Int×(List XbA)) ((List XbA)×Int)):=
 cond (decide (i<(options.length:Int)))
  (
  XaE (decide (0≤i)) <|
  (options[i.toNat]?).bind fun (b:UInt8)=>
  cond ((b.toNat:Int) !=0)
   (
   XaE (decide (0≤i)) <|
   (options[i.toNat]?).bind fun (b1:UInt8)=>
   cond ((b1.toNat:Int)==1)
    (
    some (.inl (wI .i64 (i+1),out1)))
    (
    let t:=decide ((wI .i64 (i+1))≥(options.length:Int))
    cond (t)
     (
     some (.inr (([],3))))
     (
     XaE (decide (0≤(wI .i64 (i+1)))) <|
     (options[(wI .i64 (i+1)).toNat]?).bind fun (b2:UInt8)=>
     cond (decide ((b2.toNat:Int)<2))
      (
      some (.inr (([],3))))
      (
      XaE (decide (0≤(wI .i64 (i+1)))) <|
      (options[(wI .i64 (i+1)).toNat]?).bind fun (b3:UInt8)=>
      let t1:=decide ((wI .i64 (b3.toNat:Int))>(wI .i64 ((options.length:Int) - i)))
      cond (t1)
       (
       some (.inr (([],3))))
       (
       XaE (decide (0≤(wI .i64 (i+1)))) <|
       (options[(wI .i64 (i+1)).toNat]?).bind fun (b4:UInt8)=>
       XaE (decide (0≤i)) <|
       (options[i.toNat]?).bind fun (b5:UInt8)=>
       XaE (decide ((0:Int)≤(wI .i64 (i+(wI .i64 (b4.toNat:Int))))∧(wI .i64 (i+(wI .i64 (b4.toNat:Int))))≤(options.length:Int)∧(0:Int)≤(wI .i64 (i+2))∧(wI .i64 (i+2))≤((wI .i64 (i+(wI .i64 (b4.toNat:Int)))).toNat:Int))) <|
       let t2:=(options.drop (wI .i64 (i+2)).toNat).take ((wI .i64 (i+(wI .i64 (b4.toNat:Int)))).toNat - (wI .i64 (i+2)).toNat)
       XaE (decide ((out1.length+1)*32≤2^47)) <|
       let row:=out1++[XbA.mk (wI .i64 (b5.toNat:Int)) t2 (wI .i64 (i+2))]
       some (.inl (wI .i64 (i+(wI .i64 (b4.toNat:Int))),row)))))))
   (
   some (.inr ((out1,0)))))
  (
  some (.inr ((out1,0))))
def XhK (options:List UInt8):Option ((List XbA)×Int):=
 iter (fun st=>XfN options st.1 st.2) FUEL (0,[])
def Xqv (x:(List XbA)×Int):Xcw:=⟨.tuple ⟨[.slice (some ⟨0,0,none⟩) x.1.length 3,.int .i64 x.2]⟩,[(vT Xfv x.1)],[]⟩
def r101 (g:(List UInt8)→Option ((List XbA)×Int)):Dec:=dV asS fun (y0:List UInt8)=>Xdd (ofG (g y0) Xqv)
theorem XJd {g:(List UInt8)→Option ((List XbA)×Int)} {y0:List UInt8} {x:(List XbA)×Int} (hx:g y0=some x):r101 g [.string ⟨⟨y0⟩⟩] []=some (Xqv x):=(XaX (XcI)).trans (Xa3 hx)
def XLl (g:(List UInt8)→Option ((List XbA)×Int)):Xbu:=⟨[.v],r101 g⟩
theorem XvU {g:(List UInt8)→Option ((List XbA)×Int)} {y0:List UInt8} {x:(List XbA)×Int} (hx:g y0=some x):(XLl g).run [.string ⟨⟨y0⟩⟩] []=some (Xqv x):=XJd hx
abbrev Xqh:List (Nat×Xbu):=[]
def XhM (options:List UInt8) (i:Int) (out1:List XbA):VM:=
 ⟨⟨101,73,[(0,.string ⟨⟨options⟩⟩),(4,.slice (some ⟨0,0,none⟩) out1.length 3),(5,.int .i64 i)],[.code XqB,.inLoop XqB,.inBlock 0,.code Xu5],[],false,none⟩,[],[(0,.row true (vT Xfv out1))],1⟩
theorem XtB (hS:Xah Tryz.prog (Xav (Xqh))) (options:List UInt8) (res:(List XbA)×Int):∀ fuel (st:Int×(List XbA)) (o:(List XbA)×Int),iter (fun st=>XfN options st.1 st.2) fuel st=some o→(o=res) →
 XaK Tryz.prog 101 0 (XhM options st.1 st.2) (fun v H t=>∃ v' H' t',Xs4 v H t v' H' t'∧Res 0 (Xqv res) v' H'):=by
 intro fuel st o h hc
 refine XbY (head:=fun st=>XhM options st.1 st.2) (C:=fun o=>(o=res)) ?_ fuel st o h hc
 clear h hc o st fuel
 intro st o h hc
 obtain ⟨i,out1⟩:=st
 replace h:XfN options i out1=some o:=h
 show XaK Tryz.prog 101 0 (XhM options i out1) (fun v H t=>∃ v' H' t',Xs4 v H t v' H' t'∧Res 0 (Xqv res) v' H')
 unfold XfN at h
 refine Xbi Xan hS true 3000 ?_
 conv=>whnf
 refine br.h2 h (by rfl) ?_ ?_
 ·clear h;intro hb h;conv=>whnf
  all_goals (cases h;cases hc)
  all_goals exact ⟨_,_,_,(.refl _ _ _),Res.of [0] rfl (Xsc (Xqm Xcs) (Xix rfl) Xhe) (by decide) (Xsq (by decide) Xhc) Xhb⟩
 clear h;intro hb h;conv=>whnf
 replace h:=XaE.elim h;obtain ⟨hb,h⟩:=h
 try (refine req.intro hb ?_;conv=>whnf)
 replace h:=Xai.elim h;obtain ⟨b,hy,h⟩:=h
 refine rdS.intro hy ?_
 conv=>whnf
 refine br.h2 h (by rfl) ?_ ?_
 ·clear h;intro hb h;conv=>whnf
  all_goals (cases h;cases hc)
  all_goals exact ⟨_,_,_,(.refl _ _ _),Res.of [0] rfl (Xsc (Xqm Xcs) (Xix rfl) Xhe) (by decide) (Xsq (by decide) Xhc) Xhb⟩
 clear h;intro hb h;conv=>whnf
 replace h:=XaE.elim h;obtain ⟨hb,h⟩:=h
 try (refine req.intro hb ?_;conv=>whnf)
 replace h:=Xai.elim h;obtain ⟨b1,hy,h⟩:=h
 refine rdS.intro hy ?_
 conv=>whnf
 refine br.h h (by rfl) ?_ ?_
 ·clear h;intro hb h;conv=>whnf
  cases h;simp only [Sum.elim_inl,XhM] at hc
  exact XjC hc [(0,0)] rfl
 clear h;intro hb h;conv=>whnf
 let t:Bool:=decide ((wI .i64 (i+1))≥(options.length:Int))
 refine br.h h (by rfl) ?_ ?_
 ·clear h;intro hb h;conv=>whnf
  all_goals (cases h;cases hc)
  all_goals exact ⟨_,_,_,(.val (.tup (.cons (.nil _ _) (.cons (.same _) .nil))) (.refl _ _ _)),Res.of [1] rfl (Xsc (Xqm Xcs) (Xix rfl) Xhe) (by decide) (Xsq (by decide) Xhc) Xhb⟩
 clear h;intro hb h;conv=>whnf
 replace h:=XaE.elim h;obtain ⟨hb,h⟩:=h
 try (refine req.intro hb ?_;conv=>whnf)
 replace h:=Xai.elim h;obtain ⟨b2,hy,h⟩:=h
 refine rdS.intro hy ?_
 conv=>whnf
 refine br.h h (by rfl) ?_ ?_
 ·clear h;intro hb h;conv=>whnf
  all_goals (cases h;cases hc)
  all_goals exact ⟨_,_,_,(.val (.tup (.cons (.nil _ _) (.cons (.same _) .nil))) (.refl _ _ _)),Res.of [1] rfl (Xsc (Xqm Xcs) (Xix rfl) Xhe) (by decide) (Xsq (by decide) Xhc) Xhb⟩
 clear h;intro hb h;conv=>whnf
 replace h:=XaE.elim h;obtain ⟨hb,h⟩:=h
 try (refine req.intro hb ?_;conv=>whnf)
 replace h:=Xai.elim h;obtain ⟨b3,hy,h⟩:=h
 refine rdS.intro hy ?_
 conv=>whnf
 let t1:Bool:=decide ((wI .i64 (b3.toNat:Int))>(wI .i64 ((options.length:Int) - i)))
 refine br.h h (by rfl) ?_ ?_
 ·clear h;intro hb h;conv=>whnf
  all_goals (cases h;cases hc)
  all_goals exact ⟨_,_,_,(.val (.tup (.cons (.nil _ _) (.cons (.same _) .nil))) (.refl _ _ _)),Res.of [1] rfl (Xsc (Xqm Xcs) (Xix rfl) Xhe) (by decide) (Xsq (by decide) Xhc) Xhb⟩
 clear h;intro hb h;conv=>whnf
 replace h:=XaE.elim h;obtain ⟨hb,h⟩:=h
 try (refine req.intro hb ?_;conv=>whnf)
 replace h:=Xai.elim h;obtain ⟨b4,hy,h⟩:=h
 refine rdS.intro hy ?_
 conv=>whnf
 replace h:=XaE.elim h;obtain ⟨hb,h⟩:=h
 try (refine req.intro hb ?_;conv=>whnf)
 replace h:=Xai.elim h;obtain ⟨b5,hy,h⟩:=h
 refine rdS.intro hy ?_
 conv=>whnf
 replace h:=XaE.elim h;obtain ⟨hb,h⟩:=h
 try (refine req.intro hb ?_;conv=>whnf)
 let t2:List UInt8:=(options.drop (wI .i64 (i+2)).toNat).take ((wI .i64 (i+(wI .i64 (b4.toNat:Int)))).toNat - (wI .i64 (i+2)).toNat)
 replace h:=XaE.elim h;obtain ⟨hb,h⟩:=h
 refine req.intro (Xvt (of_decide_eq_true hb) (by first|rfl|omega|(simp;done)|(simp;omega)|(simp at *;omega)) rfl (by first|rfl|omega|(simp;done)|(simp;omega)|(simp at *;omega)) (by first|rfl|exact XhN _ _|exact Xkg _|exact XkR _|exact XlD (by first|exact Xdt|exact XcY|exact XcO|exact Xcg|exact Xcx|exact Xch|exact XcN|exact Xdm|exact XdN|exact Xdl|exact XcZ|exact Xce|exact Xdu|exact Xb1|exact Xa7|exact Xdr|exact XdL) _|(rw [XfR];exact XhN _ _)|(simp [XhN,Xkg,XkR,Xls,Xlz,Xoe,Xop];done)|(simp;exact List.all_eq_true.1 (XlD (by first|exact Xdt|exact XcY|exact XcO|exact Xcg|exact Xcx|exact Xch|exact XcN|exact Xdm|exact XdN|exact Xdl|exact XcZ|exact Xce|exact Xdu|exact Xb1|exact Xa7|exact Xdr|exact XdL) _))) rfl) ?_
 conv=>whnf
 let row:List XbA:=out1++[XbA.mk (wI .i64 (b5.toNat:Int)) t2 (wI .i64 (i+2))]
 refine Xzx Xdj (xs:=out1) (ys:=[XbA.mk (wI .i64 (b5.toNat:Int)) t2 (wI .i64 (i+2))]) rfl (by first|rfl|omega) (by first|rfl|omega|(simp;done)|(simp;omega)|(simp at *;omega)) (by first|rfl|omega|(simp;done)|(simp;omega)|(simp at *;omega)) ?_
 conv=>whnf
 cases h;simp only [Sum.elim_inl,XhM] at hc
 exact XjC hc [(0,18)] rfl
theorem Xza (hS:Xah Tryz.prog (Xav (Xqh))) (options:List UInt8) (res:(List XbA)×Int) (h:XhK options=some res) :
 XaK Tryz.prog 101 0 ⟨⟨101,73,[(0,.string ⟨⟨options⟩⟩)],[.code Xun],[],false,none⟩,[],[],0⟩ (fun v H _=>Res 0 (Xqv res) v H):=by
 refine XaK.nilW (R:=fun v' H'=>Res 0 (Xqv res) v' H') ?_
 unfold XhK at h
 refine Xbi Xan hS true 3000 ?_
 conv=>whnf
 have hl:=XtB hS _ res _ _ _ h rfl;simp only [XhM] at hl
 refine XaK.nilT 4 3 ?_
 exact XjC hl [(0,0)] rfl
theorem ok101 (hS:Xah Tryz.prog (Xav (Xqh))):Xar Tryz.prog 101 (XLl (XhK)):=by
 refine Xar.Xax Xan (fun ar os r ha hr=>?_) ⟨Tryz.f101,rfl,by decide,rfl⟩
 replace hr:r101 (XhK) ar (XaH os)=some r:=hr
 unfold r101 at hr
 generalize hc:XaH os=C at hr
 replace hr:=dV.elim hr;obtain ⟨v0,l1,y0,rfl,e0,hr⟩:=hr;obtain rfl:=XbM _ _ e0
 replace hr:=Xdw hr;obtain ⟨rfl,rfl,x,h,rfl⟩:=hr
 obtain rfl:=Xat hc
 exact ⟨_,rfl,Xza hS _ x h⟩
def XbG:(List UInt8)→Option ((List XbA)×Int):=XhK
theorem Xtm:Xar Tryz.prog 101 (XLl XbG):=ok101 (Xah.Xa0 trivial)
end Go.Vm.Code
namespace Go.Vm.Code
open Go Go.Vm
structure Xs2 where
 Kind:Int
 Data:List UInt8
 At:Int
def toR (o:Xs2):XbA:=⟨o.Kind,o.Data,o.At⟩
def ofR (o:XbA):Xs2:=⟨o.Kind,o.Data,o.At⟩
theorem Xt0 (c:List XbA):(c.map ofR).map toR=c:=by
 rw [List.map_map,show toR∘ofR=id from rfl,List.map_id]
def Xfk (s:List UInt8):Nat→Nat→List Xs2→List Xs2×Int
 | 0,_,out=>(out,0)
 | n+1,i,out=>match s[i]? with
   | none=>(out,0)
   | some b=>if b=0 then (out,0) else if b=1 then Xfk s n (i+1) out else match s[i+1]? with
     | none=>([],3)
     | some k=>if k.toNat<2 then ([],3) else if s.length - i<k.toNat then ([],3) else
        Xfk s (n+1 - k.toNat) (i+k.toNat) (out++[⟨(b.toNat:Int),(s.drop (i+2)).take (k.toNat - 2),((i+2:Nat):Int)⟩])
termination_by n=>n
decreasing_by all_goals omega
def Xi4 (s:List UInt8):List Xs2×Int:=Xfk s s.length 0 []
def strip (o:Xs2):XbJ:=⟨o.Kind,o.Data⟩
theorem XIj {s:List UInt8} (hs:s.length<2^20):XbG s=some ((Xi4 s).1.map toR,(Xi4 s).2):=by
 unfold XbG XhK Xi4
 have key:=iter_eq (step:=fun (st:Int×List XbA)=>XfN s st.1 st.2) (fun st=>((Xfk s (s.length - st.1.toNat) st.1.toNat (st.2.map ofR)).1.map toR,(Xfk s (s.length - st.1.toNat) st.1.toNat (st.2.map ofR)).2)) (fun st=>0≤st.1∧st.1≤s.length∧(st.2.length:Int)≤st.1) (fun st=>s.length - st.1.toNat) ?_ FUEL (0,[]) ⟨by simp,by simp,by simp⟩ (by rw [Xer];simp only;omega)
 ·rw [key];rfl
 rintro ⟨p,out⟩ ⟨g1,g2,g3⟩
 simp only at g1 g2 g3 ⊢
 obtain ⟨i,rfl⟩:=Int.eq_ofNat_of_zero_le g1
 simp only [Int.toNat_natCast]
 unfold XfN
 by_cases hi:i<s.length
 ·obtain ⟨n,hn⟩:∃ n,s.length - i=n+1:=⟨s.length - i - 1,by omega⟩
  have e:s[i]?=some s[i]:=List.getElem?_eq_getElem hi
  rw [XaZ (by omega),XaL (by omega),Int.toNat_natCast,e,Option.bind_some,hn,Xfk,e]
  by_cases h0:s[i]=0
  ·refine .inl ?_
   rw [show ((s[i].toNat:Int) !=0)=false by rw [h0];rfl,cond_false]
   simp only [h0,if_true,Xt0]
  rw [show ((s[i].toNat:Int) !=0)=true by simp;intro hx;exact h0 (UInt8.toNat_inj.1 (by simpa using hx)),cond_true,XaL (by omega),Option.bind_some]
  simp only [if_neg h0]
  by_cases h1:s[i]=1
  ·refine .inr ⟨(((i+1:Nat):Int),out),?_,⟨by simp only;omega,by simp only;omega,by simp only;omega⟩,by simp only;omega,?_⟩
   ·rw [show ((s[i].toNat:Int)==1)=true by rw [h1];rfl,cond_true,XcC (by omega) (by omega)];rfl
   ·simp only [Int.toNat_natCast,if_pos h1]
    rw [show s.length - (i+1)=n by omega]
  rw [show ((s[i].toNat:Int)==1)=false by simp;intro hx;exact h1 (UInt8.toNat_inj.1 (by simp;omega)),cond_false]
  simp only [if_neg h1]
  rw [XcC (n:=(i:Int)+1) (by omega) (by omega)]
  by_cases h2:s.length≤i+1
  ·refine .inl ?_
   rw [XaZ (by omega),List.getElem?_eq_none (by omega)];rfl
  have hi1:i+1<s.length:=by omega
  have e1:s[i+1]?=some s[i+1]:=List.getElem?_eq_getElem hi1
  have b1:=s[i+1].toNat_lt
  rw [XaO (by omega),show ((i:Int)+1).toNat=i+1 by omega,e1,XaL (by omega),Option.bind_some]
  simp only [Option.bind_some]
  by_cases h3:s[i+1].toNat<2
  ·refine .inl ?_
   rw [XaZ (by omega),if_pos h3];rfl
  rw [XaO (by omega),if_neg h3,XaL (by omega),XcC (n:=(s[i+1].toNat:Int)) (by omega) (by omega),XcC (n:=(s.length:Int) - i) (by omega) (by omega)]
  by_cases h4:s.length - i<s[i+1].toNat
  ·refine .inl ?_
   rw [XaZ (by omega),if_pos h4];rfl
  refine .inr ⟨(((i+s[i+1].toNat:Nat):Int),out++[⟨(s[i].toNat:Int),(s.drop (i+2)).take (s[i+1].toNat - 2),((i+2:Nat):Int)⟩]),?_,⟨by simp only;omega,by simp only;omega,by simp;omega⟩,by simp only;omega,?_⟩
  ·have b0:=s[i].toNat_lt
   rw [XaO (by omega),XaL (by omega),XaL (by omega),XcC (n:=(i:Int)+s[i+1].toNat) (by omega) (by omega),XcC (n:=(i:Int)+2) (by omega) (by omega),XcC (n:=(s[i].toNat:Int)) (by omega) (by omega),XaL (by omega),XaL (by omega),show ((i:Int)+s[i+1].toNat).toNat - ((i:Int)+2).toNat=s[i+1].toNat - 2 by omega,show ((i:Int)+2).toNat=i+2 by omega];rfl
  ·rw [if_neg h4]
   simp only [Int.toNat_natCast]
   rw [show s.length - (i+s[i+1].toNat)=n+1 - s[i+1].toNat by omega,List.map_append];rfl
 ·refine .inl ?_
  rw [XaO (by omega),show s.length - i=0 by omega,Xfk,Xt0]
theorem XsI (s:List UInt8):∀ (n i:Nat) (o1 o2:List Xs2),o1.map strip=o2.map strip→(Xfk s n i o1).1.map strip=(Xfk s n i o2).1.map strip∧(Xfk s n i o1).2=(Xfk s n i o2).2:=by
 intro n
 induction n using Nat.strongRecOn with
 | ind n ih=>
   intro i o1 o2 h
   cases n with
   | zero=>rw [Xfk,Xfk];exact ⟨h,rfl⟩
   | succ n=>
     rw [Xfk,Xfk]
     split
     ·exact ⟨h,rfl⟩
     split
     ·exact ⟨h,rfl⟩
     split
     ·exact ih n (by omega) _ _ _ h
     split
     ·exact ⟨rfl,rfl⟩
     split
     ·exact ⟨rfl,rfl⟩
     split
     ·exact ⟨rfl,rfl⟩
     exact ih _ (by omega) _ _ _ (by simp [h,strip])
def Xj9 (o:XbJ):Xs2:=⟨o.Kind,o.Data,0⟩
theorem XqZ (c:List XbJ):(c.map Xj9).map strip=c:=by
 rw [List.map_map,show strip∘Xj9=id from rfl,List.map_id]
theorem XIl {s:List UInt8} (hs:s.length<2^20):XbH s=some ((Xi4 s).1.map strip,(Xi4 s).2):=by
 unfold XbH XhJ Xi4
 have key:=iter_eq (step:=fun (st:Int×List XbJ)=>XfY s st.1 st.2) (fun st=>((Xfk s (s.length - st.1.toNat) st.1.toNat (st.2.map Xj9)).1.map strip,(Xfk s (s.length - st.1.toNat) st.1.toNat (st.2.map Xj9)).2)) (fun st=>0≤st.1∧st.1≤s.length∧(st.2.length:Int)≤st.1) (fun st=>s.length - st.1.toNat) ?_ FUEL (0,[]) ⟨by simp,by simp,by simp⟩ (by rw [Xer];simp only;omega)
 ·rw [key];rfl
 rintro ⟨p,out⟩ ⟨g1,g2,g3⟩
 simp only at g1 g2 g3 ⊢
 obtain ⟨i,rfl⟩:=Int.eq_ofNat_of_zero_le g1
 simp only [Int.toNat_natCast]
 unfold XfY
 by_cases hi:i<s.length
 ·obtain ⟨n,hn⟩:∃ n,s.length - i=n+1:=⟨s.length - i - 1,by omega⟩
  have e:s[i]?=some s[i]:=List.getElem?_eq_getElem hi
  rw [XaZ (by omega),XaL (by omega),Int.toNat_natCast,e,Option.bind_some,hn,Xfk,e]
  by_cases h0:s[i]=0
  ·refine .inl ?_
   rw [show ((s[i].toNat:Int)==0)=true by rw [h0];rfl,cond_true]
   simp only [h0,if_true,XqZ]
  rw [show ((s[i].toNat:Int)==0)=false by simp;intro hx;exact h0 (UInt8.toNat_inj.1 (by simpa using hx)),cond_false]
  simp only [if_neg h0]
  by_cases h1:s[i]=1
  ·refine .inr ⟨(((i+1:Nat):Int),out),?_,⟨by simp only;omega,by simp only;omega,by simp only;omega⟩,by simp only;omega,?_⟩
   ·rw [show ((s[i].toNat:Int)==1)=true by rw [h1];rfl,cond_true,XcC (by omega) (by omega)];rfl
   ·simp only [Int.toNat_natCast,if_pos h1]
    rw [show s.length - (i+1)=n by omega]
  rw [show ((s[i].toNat:Int)==1)=false by simp;intro hx;exact h1 (UInt8.toNat_inj.1 (by simp;omega)),cond_false]
  simp only [if_neg h1]
  rw [XcC (n:=(i:Int)+1) (by omega) (by omega)]
  by_cases h2:s.length≤i+1
  ·refine .inl ?_
   rw [XaO (by omega),List.getElem?_eq_none (by omega)];rfl
  have hi1:i+1<s.length:=by omega
  have e1:s[i+1]?=some s[i+1]:=List.getElem?_eq_getElem hi1
  have b1:=s[i+1].toNat_lt
  rw [XaZ (by omega),show ((i:Int)+1).toNat=i+1 by omega,e1,XaL (by omega),Option.bind_some]
  simp only [Option.bind_some]
  rw [XcC (n:=(s[i+1].toNat:Int)) (by omega) (by omega)]
  by_cases h3:s[i+1].toNat<2
  ·refine .inl ?_
   rw [XaZ (by omega),if_pos h3];rfl
  rw [XaO (by omega),if_neg h3,XcC (n:=(s.length:Int) - i) (by omega) (by omega)]
  by_cases h4:s.length - i<s[i+1].toNat
  ·refine .inl ?_
   rw [XaZ (by omega),if_pos h4];rfl
  refine .inr ⟨(((i+s[i+1].toNat:Nat):Int),out++[⟨(s[i].toNat:Int),(s.drop (i+2)).take (s[i+1].toNat - 2)⟩]),?_,⟨by simp only;omega,by simp only;omega,by simp;omega⟩,by simp only;omega,?_⟩
  ·have b0:=s[i].toNat_lt
   rw [XaO (by omega),XaL (by omega),XcC (n:=(i:Int)+s[i+1].toNat) (by omega) (by omega),XcC (n:=(i:Int)+2) (by omega) (by omega),XcC (n:=(s[i].toNat:Int)) (by omega) (by omega),XaL (by omega),XaO (by omega),XaL (by omega),show ((i:Int)+s[i+1].toNat).toNat - ((i:Int)+2).toNat=s[i+1].toNat - 2 by omega,show ((i:Int)+2).toNat=i+2 by omega];rfl
  ·rw [if_neg h4]
   simp only [Int.toNat_natCast]
   rw [show s.length - (i+s[i+1].toNat)=n+1 - s[i+1].toNat by omega]
   have:=XsI s (n+1 - s[i+1].toNat) (i+s[i+1].toNat) ((out++[(⟨(s[i].toNat:Int),(s.drop (i+2)).take (s[i+1].toNat - 2)⟩:XbJ)]).map Xj9) (out.map Xj9++[(⟨(s[i].toNat:Int),(s.drop (i+2)).take (s[i+1].toNat - 2),((i+2:Nat):Int)⟩:Xs2)]) (by simp [strip,Xj9])
   rw [this.1,this.2]
 ·refine .inl ?_
  rw [XaO (by omega),show s.length - i=0 by omega,Xfk,XqZ]
end Go.Vm.Code
namespace Go.Vm.Code
open Go Go.Vm Go.Proofs
set_option maxRecDepth 100000
set_option maxHeartbeats 4000000
set_option linter.unusedVariables false
def XfZ (Xay:(List UInt8)→Option Xaa) (Xad:Xaa→Int→Option (Int×Xaa)) (Xac:Xaa→Int→Option ((List UInt8)×Xaa)) (s:List UInt8) (size:Int):Option Xas:=
 (Xay s).bind fun n=>
 (Xad n 2).bind fun n1=>
 (Xad n1.2 2).bind fun n2=>
 (Xad n2.2 4).bind fun n3=>
 (Xad n3.2 4).bind fun n4=>
 (Xad n4.2 2).bind fun n5=>
 (Xad n5.2 2).bind fun n6=>
 (Xad n6.2 2).bind fun n7=>
 (Xad n7.2 2).bind fun n8=>
 (Xac n8.2 (wI .i64 (size - 20))).bind fun t=>
 some (Xas.mk n1.1 n2.1 (wI .u32 n3.1) (wI .u32 n4.1) (Xjp .i64 n5.1 255) n6.1 n8.1 t.1)
def Xyv (x:Xas):Xcw:=⟨.agg ⟨[.int .i64 x.SPort,.int .i64 x.DPort,.int .u32 x.Seq,.int .u32 x.Ack,.int .i64 x.Flags,.int .i64 x.Window,.int .i64 x.Urgent,.string ⟨⟨x.Options⟩⟩]⟩,[],[]⟩
def r132 (g:(List UInt8)→Int→Option Xas):Dec:=dV asS fun (y0:List UInt8)=>dV (asI .i64) fun (y1:Int)=>Xdd (ofG (g y0 y1) Xyv)
theorem XJh {g:(List UInt8)→Int→Option Xas} {y0:List UInt8} {y1:Int} {x:Xas} (hx:g y0 y1=some x):r132 g [.string ⟨⟨y0⟩⟩,.int .i64 y1] []=some (Xyv x):=(XaX (XcI)).trans ((XaX (Xcv _)).trans (Xa3 hx))
def s132 (g:(List UInt8)→Int→Option Xas):Xbu:=⟨[.v,.v],r132 g⟩
theorem XDi {g:(List UInt8)→Int→Option Xas} {y0:List UInt8} {y1:Int} {x:Xas} (hx:g y0 y1=some x):(s132 g).run [.string ⟨⟨y0⟩⟩,.int .i64 y1] []=some (Xyv x):=XJh hx
abbrev Xto (Xay:(List UInt8)→Option Xaa) (Xad:Xaa→Int→Option (Int×Xaa)) (Xac:Xaa→Int→Option ((List UInt8)×Xaa)):List (Nat×Xbu):=[(61,s61 Xay),(62,s62 Xad),(64,s64 Xac)]
theorem Xzf (Xay:(List UInt8)→Option Xaa) (Xad:Xaa→Int→Option (Int×Xaa)) (Xac:Xaa→Int→Option ((List UInt8)×Xaa)) (hS:Xah Tryz.prog (Xav (Xto Xay Xad Xac))) (s:List UInt8) (size:Int) (res:Xas) (h:XfZ Xay Xad Xac s size=some res) :
 XaK Tryz.prog 132 0 ⟨⟨132,38,[(0,.string ⟨⟨s⟩⟩),(1,.int .i64 size)],[.code Xvd],[],false,none⟩,[],[],0⟩ (fun v H _=>Res 0 (Xyv res) v H):=by
 unfold XfZ at h
 refine Xbi Xan hS true 3000 ?_
 conv=>whnf
 replace h:=Xai.elim h;obtain ⟨n,hy,h⟩:=h
 refine XaJ.Xbe [1] (Xaw (aqs:=[.string ⟨⟨s⟩⟩]) (ws:=[]) (n:=1) (m:=0) (t':=2) (Xau rfl rfl Xbg) rfl (by rfl) (XoW hy) rfl rfl rfl rfl Xbf (Xhw (rfl) Xbc) rfl) ?_
 conv=>whnf
 replace h:=Xai.elim h;obtain ⟨n1,hy,h⟩:=h
 refine XaJ.Xbe [1] (Xaw (aqs:=[.pointer (some ⟨0,0,none⟩),.int .i64 2]) (ws:=[.win 1 0 3 true]) (n:=0) (m:=0) (t':=2) (Xau rfl rfl (Xau rfl rfl Xbg)) rfl (by rfl) (XdC hy) rfl rfl rfl rfl (XbD rfl rfl rfl ⟨rfl,Nat.le_of_ble_eq_true rfl⟩ rfl rfl Xbf) Xbc rfl) ?_
 conv=>whnf
 replace h:=Xai.elim h;obtain ⟨n2,hy,h⟩:=h
 refine XaJ.Xbe [1] (Xaw (aqs:=[.pointer (some ⟨0,0,none⟩),.int .i64 2]) (ws:=[.win 1 0 3 true]) (n:=0) (m:=0) (t':=2) (Xau rfl rfl (Xau rfl rfl Xbg)) rfl (by rfl) (XdC hy) rfl rfl rfl rfl (XbD rfl rfl rfl ⟨rfl,Nat.le_of_ble_eq_true rfl⟩ rfl rfl Xbf) Xbc rfl) ?_
 conv=>whnf
 replace h:=Xai.elim h;obtain ⟨n3,hy,h⟩:=h
 refine XaJ.Xbe [1] (Xaw (aqs:=[.pointer (some ⟨0,0,none⟩),.int .i64 4]) (ws:=[.win 1 0 3 true]) (n:=0) (m:=0) (t':=2) (Xau rfl rfl (Xau rfl rfl Xbg)) rfl (by rfl) (XdC hy) rfl rfl rfl rfl (XbD rfl rfl rfl ⟨rfl,Nat.le_of_ble_eq_true rfl⟩ rfl rfl Xbf) Xbc rfl) ?_
 conv=>whnf
 replace h:=Xai.elim h;obtain ⟨n4,hy,h⟩:=h
 refine XaJ.Xbe [1] (Xaw (aqs:=[.pointer (some ⟨0,0,none⟩),.int .i64 4]) (ws:=[.win 1 0 3 true]) (n:=0) (m:=0) (t':=2) (Xau rfl rfl (Xau rfl rfl Xbg)) rfl (by rfl) (XdC hy) rfl rfl rfl rfl (XbD rfl rfl rfl ⟨rfl,Nat.le_of_ble_eq_true rfl⟩ rfl rfl Xbf) Xbc rfl) ?_
 conv=>whnf
 replace h:=Xai.elim h;obtain ⟨n5,hy,h⟩:=h
 refine XaJ.Xbe [1] (Xaw (aqs:=[.pointer (some ⟨0,0,none⟩),.int .i64 2]) (ws:=[.win 1 0 3 true]) (n:=0) (m:=0) (t':=3) (Xau rfl rfl (Xau rfl rfl Xbg)) rfl (by rfl) (XdC hy) rfl rfl rfl rfl (XbD rfl rfl rfl ⟨rfl,Nat.le_of_ble_eq_true rfl⟩ rfl rfl Xbf) Xbc rfl) ?_
 conv=>whnf
 replace h:=Xai.elim h;obtain ⟨n6,hy,h⟩:=h
 refine XaJ.Xbe [1] (Xaw (aqs:=[.pointer (some ⟨0,0,none⟩),.int .i64 2]) (ws:=[.win 1 0 3 true]) (n:=0) (m:=0) (t':=3) (Xau rfl rfl (Xau rfl rfl Xbg)) rfl (by rfl) (XdC hy) rfl rfl rfl rfl (XbD rfl rfl rfl ⟨rfl,Nat.le_of_ble_eq_true rfl⟩ rfl rfl Xbf) Xbc rfl) ?_
 conv=>whnf
 replace h:=Xai.elim h;obtain ⟨n7,hy,h⟩:=h
 refine XaJ.Xbe [1] (Xaw (aqs:=[.pointer (some ⟨0,0,none⟩),.int .i64 2]) (ws:=[.win 1 0 3 true]) (n:=0) (m:=0) (t':=3) (Xau rfl rfl (Xau rfl rfl Xbg)) rfl (by rfl) (XdC hy) rfl rfl rfl rfl (XbD rfl rfl rfl ⟨rfl,Nat.le_of_ble_eq_true rfl⟩ rfl rfl Xbf) Xbc rfl) ?_
 conv=>whnf
 replace h:=Xai.elim h;obtain ⟨n8,hy,h⟩:=h
 refine XaJ.Xbe [1] (Xaw (aqs:=[.pointer (some ⟨0,0,none⟩),.int .i64 2]) (ws:=[.win 1 0 3 true]) (n:=0) (m:=0) (t':=3) (Xau rfl rfl (Xau rfl rfl Xbg)) rfl (by rfl) (XdC hy) rfl rfl rfl rfl (XbD rfl rfl rfl ⟨rfl,Nat.le_of_ble_eq_true rfl⟩ rfl rfl Xbf) Xbc rfl) ?_
 conv=>whnf
 replace h:=Xai.elim h;obtain ⟨t,hy,h⟩:=h
 refine XaJ.Xbe [1] (Xaw (aqs:=[.pointer (some ⟨0,0,none⟩),.int .i64 (wI .i64 (size - 20))]) (ws:=[.win 1 0 3 true]) (n:=0) (m:=0) (t':=3) (Xau rfl rfl (Xau rfl rfl Xbg)) rfl (by rfl) (Xhl hy) rfl rfl rfl rfl (XbD rfl rfl rfl ⟨rfl,Nat.le_of_ble_eq_true rfl⟩ rfl rfl Xbf) Xbc rfl) ?_
 conv=>whnf
 all_goals (cases h;exact Res.y)
theorem ok132 (Xay:(List UInt8)→Option Xaa) (Xad:Xaa→Int→Option (Int×Xaa)) (Xac:Xaa→Int→Option ((List UInt8)×Xaa)) (hS:Xah Tryz.prog (Xav (Xto Xay Xad Xac))):Xar Tryz.prog 132 (s132 (XfZ Xay Xad Xac)):=by
 refine Xar.Xax Xan (fun ar os r ha hr=>?_) ⟨Tryz.f132,rfl,by decide,rfl⟩
 replace hr:r132 (XfZ Xay Xad Xac) ar (XaH os)=some r:=hr
 unfold r132 at hr
 generalize hc:XaH os=C at hr
 replace hr:=dV.elim hr;obtain ⟨v0,l1,y0,rfl,e0,hr⟩:=hr;obtain rfl:=XbM _ _ e0
 replace hr:=dV.elim hr;obtain ⟨v1,l2,y1,rfl,e1,hr⟩:=hr;obtain rfl:=XbF _ _ _ e1
 replace hr:=Xdw hr;obtain ⟨rfl,rfl,x,h,rfl⟩:=hr
 obtain rfl:=Xat hc
 exact ⟨_,rfl,Xzf Xay Xad Xac hS _ _ x h⟩
def Xcd:(List UInt8)→Int→Option Xas:=XfZ Xay Xad Xac
theorem XCs:Xar Tryz.prog 132 (s132 Xcd):=ok132 Xay Xad Xac (Xah.Xa0 ⟨XpX,Xnq,XlG,trivial⟩)
def Xjb (XaD:(List UInt8)→Option Bool) (XaS:Xab→Xab→Int→Int→Option (List UInt8)) (XbH:(List UInt8)→Option ((List XbJ)×Int)) (Xcd:(List UInt8)→Int→Option Xas) (s:List UInt8) (src:Xab) (dst:Xab):Option (Xas×(List UInt8)×Int):=
 cond (decide ((s.length:Int)<20))
  (
  some ((Xas.mk 0 0 0 0 0 0 0 [],[],2)))
  (
  (s[12]?).bind fun (b:UInt8)=>
  (s[12]?).bind fun (b1:UInt8)=>
  let t:=wI .i64 (4*(wI .i64 ((b.toNat:Int).fdiv (2^4))))
  cond (decide (t<20))
   (
   some ((Xas.mk 0 0 0 0 0 0 0 [],[],3)))
   (
   cond ((Xjp .u8 (b1.toNat:Int) 15) !=0)
    (
    some ((Xas.mk 0 0 0 0 0 0 0 [],[],3)))
    (
    cond (decide (t>(s.length:Int)))
     (
     some ((Xas.mk 0 0 0 0 0 0 0 [],[],2)))
     (
     (XaS src dst 6 (s.length:Int)).bind fun p=>
     cond (p==[])
      (
      some ((Xas.mk 0 0 0 0 0 0 0 [],[],1)))
      (
      XaE (decide (p.length+s.length<2^63)) <|
      (XaD (p++s)).bind fun xr=>
      cond (!xr)
       (
       some ((Xas.mk 0 0 0 0 0 0 0 [],[],4)))
       (
       (Xcd s t).bind fun p1=>
       (XbH p1.Options).bind fun l=>
       cond (l.2 !=0)
        (
        some ((Xas.mk 0 0 0 0 0 0 0 [],[],l.2)))
        (
        XaE (decide ((0:Int)≤t∧t≤(s.length:Int))) <|
        let t1:=(s.drop t.toNat).take (s.length - t.toNat)
        some ((p1,t1,0)))))))))
def Xy2 (x:Xas×(List UInt8)×Int):Xcw:=⟨.tuple ⟨[.agg ⟨[.int .i64 x.1.SPort,.int .i64 x.1.DPort,.int .u32 x.1.Seq,.int .u32 x.1.Ack,.int .i64 x.1.Flags,.int .i64 x.1.Window,.int .i64 x.1.Urgent,.string ⟨⟨x.1.Options⟩⟩]⟩,.string ⟨⟨x.2.1⟩⟩,.int .i64 x.2.2]⟩,[],[]⟩
def r107 (g:(List UInt8)→Xab→Xab→Option (Xas×(List UInt8)×Int)):Dec:=dV asS fun (y0:List UInt8)=>dV XbN fun (y1:Xab)=>dV XbN fun (y2:Xab)=>Xdd (ofG (g y0 y1 y2) Xy2)
theorem XHj {g:(List UInt8)→Xab→Xab→Option (Xas×(List UInt8)×Int)} {y0:List UInt8} {y1:Xab} {y2:Xab} {x:Xas×(List UInt8)×Int} (hx:g y0 y1 y2=some x):r107 g [.string ⟨⟨y0⟩⟩,.agg ⟨[.bool y1.V6,.int .u64 y1.Hi,.int .u64 y1.Lo]⟩,.agg ⟨[.bool y2.V6,.int .u64 y2.Hi,.int .u64 y2.Lo]⟩] []=some (Xy2 x):=(XaX (XcI)).trans ((XaX (XbC _)).trans ((XaX (XbC _)).trans (Xa3 hx)))
def s107 (g:(List UInt8)→Xab→Xab→Option (Xas×(List UInt8)×Int)):Xbu:=⟨[.v,.v,.v],r107 g⟩
theorem XFc {g:(List UInt8)→Xab→Xab→Option (Xas×(List UInt8)×Int)} {y0:List UInt8} {y1:Xab} {y2:Xab} {x:Xas×(List UInt8)×Int} (hx:g y0 y1 y2=some x):(s107 g).run [.string ⟨⟨y0⟩⟩,.agg ⟨[.bool y1.V6,.int .u64 y1.Hi,.int .u64 y1.Lo]⟩,.agg ⟨[.bool y2.V6,.int .u64 y2.Hi,.int .u64 y2.Lo]⟩] []=some (Xy2 x):=XHj hx
abbrev Xwl (XaD:(List UInt8)→Option Bool) (XaS:Xab→Xab→Int→Int→Option (List UInt8)) (XbH:(List UInt8)→Option ((List XbJ)×Int)) (Xcd:(List UInt8)→Int→Option Xas):List (Nat×Xbu):=[(131,XGC XaD),(109,XLm XaS),(102,XHe XbH),(132,s132 Xcd)]
theorem Xx6 (XaD:(List UInt8)→Option Bool) (XaS:Xab→Xab→Int→Int→Option (List UInt8)) (XbH:(List UInt8)→Option ((List XbJ)×Int)) (Xcd:(List UInt8)→Int→Option Xas) (hS:Xah Tryz.prog (Xav (Xwl XaD XaS XbH Xcd))) (s:List UInt8) (src:Xab) (dst:Xab) (res:Xas×(List UInt8)×Int) (h:Xjb XaD XaS XbH Xcd s src dst=some res) :
 XaK Tryz.prog 107 0 ⟨⟨107,76,[(0,.string ⟨⟨s⟩⟩),(1,.agg ⟨[.bool src.V6,.int .u64 src.Hi,.int .u64 src.Lo]⟩),(2,.agg ⟨[.bool dst.V6,.int .u64 dst.Hi,.int .u64 dst.Lo]⟩)],[.code Xv4],[],false,none⟩,[],[],0⟩ (fun v H _=>Res 0 (Xy2 res) v H):=by
 unfold Xjb at h
 refine Xbi Xan hS true 3000 ?_
 conv=>whnf
 refine br.h h (by rfl) ?_ ?_
 ·clear h;intro hb h;conv=>whnf
  all_goals (cases h;exact Res.y)
 clear h;intro hb h;conv=>whnf
 replace h:=Xai.elim h;obtain ⟨b,hy,h⟩:=h
 refine rdS.intro hy ?_
 conv=>whnf
 replace h:=Xai.elim h;obtain ⟨b1,hy,h⟩:=h
 refine rdS.intro hy ?_
 conv=>whnf
 let t:Int:=wI .i64 (4*(wI .i64 ((b.toNat:Int).fdiv (2^4))))
 refine br.h h (by rfl) ?_ ?_
 ·clear h;intro hb h;conv=>whnf
  all_goals (cases h;exact Res.y)
 clear h;intro hb h;conv=>whnf
 refine br.h h (by rfl) ?_ ?_
 ·clear h;intro hb h;conv=>whnf
  all_goals (cases h;exact Res.y)
 clear h;intro hb h;conv=>whnf
 refine br.h h (by rfl) ?_ ?_
 ·clear h;intro hb h;conv=>whnf
  all_goals (cases h;exact Res.y)
 clear h;intro hb h;conv=>whnf
 replace h:=Xai.elim h;obtain ⟨p,hy,h⟩:=h
 refine XaJ.p (Xuk hy) ?_
 conv=>whnf
 refine br.h h (by rfl) ?_ ?_
 ·clear h;intro hb h;conv=>whnf
  all_goals (cases h;exact Res.y)
 clear h;intro hb h;conv=>whnf
 replace h:=XaE.elim h;obtain ⟨hb,h⟩:=h
 try (refine req.intro hb ?_;conv=>whnf)
 replace h:=Xai.elim h;obtain ⟨xr,hy,h⟩:=h
 refine XaJ.p (Xoj hy) ?_
 conv=>whnf
 refine br.h h (by rfl) ?_ ?_
 ·clear h;intro hb h;conv=>whnf
  all_goals (cases h;exact Res.y)
 clear h;intro hb h;conv=>whnf
 replace h:=Xai.elim h;obtain ⟨p1,hy,h⟩:=h
 refine XaJ.p (XDi hy) ?_
 conv=>whnf
 replace h:=Xai.elim h;obtain ⟨l,hy,h⟩:=h
 refine XaJ.Xbe [] (Xaw (aqs:=[.string ⟨⟨p1.Options⟩⟩]) (ws:=[]) (n:=1) (m:=0) (t':=13) (Xau rfl rfl Xbg) rfl (by rfl) (XuE hy) rfl rfl rfl rfl Xbf (Xhw (Xqm Xb6) Xbc) rfl) ?_
 conv=>whnf
 refine br.h h (by rfl) ?_ ?_
 ·clear h;intro hb h;conv=>whnf
  all_goals (cases h;exact Res.y)
 clear h;intro hb h;conv=>whnf
 replace h:=XaE.elim h;obtain ⟨hb,h⟩:=h
 try (refine req.intro hb ?_;conv=>whnf)
 let t1:List UInt8:=(s.drop t.toNat).take (s.length - t.toNat)
 all_goals (cases h;exact Res.y)
theorem ok107 (XaD:(List UInt8)→Option Bool) (XaS:Xab→Xab→Int→Int→Option (List UInt8)) (XbH:(List UInt8)→Option ((List XbJ)×Int)) (Xcd:(List UInt8)→Int→Option Xas) (hS:Xah Tryz.prog (Xav (Xwl XaD XaS XbH Xcd))):Xar Tryz.prog 107 (s107 (Xjb XaD XaS XbH Xcd)):=by
 refine Xar.Xax Xan (fun ar os r ha hr=>?_) ⟨Tryz.f107,rfl,by decide,rfl⟩
 replace hr:r107 (Xjb XaD XaS XbH Xcd) ar (XaH os)=some r:=hr
 unfold r107 at hr
 generalize hc:XaH os=C at hr
 replace hr:=dV.elim hr;obtain ⟨v0,l1,y0,rfl,e0,hr⟩:=hr;obtain rfl:=XbM _ _ e0
 replace hr:=dV.elim hr;obtain ⟨v1,l2,y1,rfl,e1,hr⟩:=hr;obtain rfl:=Xbr _ _ e1
 replace hr:=dV.elim hr;obtain ⟨v2,l3,y2,rfl,e2,hr⟩:=hr;obtain rfl:=Xbr _ _ e2
 replace hr:=Xdw hr;obtain ⟨rfl,rfl,x,h,rfl⟩:=hr
 obtain rfl:=Xat hc
 exact ⟨_,rfl,Xx6 XaD XaS XbH Xcd hS _ _ _ x h⟩
def Xev:(List UInt8)→Xab→Xab→Option (Xas×(List UInt8)×Int):=Xjb XaD XaS XbH Xcd
theorem XEb:Xar Tryz.prog 107 (s107 Xev):=ok107 XaD XaS XbH Xcd (Xah.Xa0 ⟨Xqa,Xv2,Xut,XCs,trivial⟩)
def XkN (XaU:Int→Int→Option (List UInt8)) (n:Int) (k:Int):Option (List UInt8):=
 (XaU (wI .u64 n) k).bind fun p=>
 some (p)
def rx55 (x:List UInt8):Xcw:=⟨.string ⟨⟨x⟩⟩,[],[]⟩
def r55 (g:Int→Int→Option (List UInt8)):Dec:=dV (asI .i64) fun (y0:Int)=>dV (asI .i64) fun (y1:Int)=>Xdd (ofG (g y0 y1) rx55)
theorem r55_c {g:Int→Int→Option (List UInt8)} {y0:Int} {y1:Int} {x:List UInt8} (hx:g y0 y1=some x):r55 g [.int .i64 y0,.int .i64 y1] []=some (rx55 x):=(XaX (Xcv _)).trans ((XaX (Xcv _)).trans (Xa3 hx))
def s55 (g:Int→Int→Option (List UInt8)):Xbu:=⟨[.v,.v],r55 g⟩
theorem XiO {g:Int→Int→Option (List UInt8)} {y0:Int} {y1:Int} {x:List UInt8} (hx:g y0 y1=some x):(s55 g).run [.int .i64 y0,.int .i64 y1] []=some (rx55 x):=r55_c hx
abbrev XAS (XaU:Int→Int→Option (List UInt8)):List (Nat×Xbu):=[(85,s85 XaU)]
theorem XDQ (XaU:Int→Int→Option (List UInt8)) (hS:Xah Tryz.prog (Xav (XAS XaU))) (n:Int) (k:Int) (res:List UInt8) (h:XkN XaU n k=some res) :
 XaK Tryz.prog 55 0 ⟨⟨55,9,[(0,.int .i64 n),(1,.int .i64 k)],[.code XJE],[],false,none⟩,[],[],0⟩ (fun v H _=>Res 0 (rx55 res) v H):=by
 unfold XkN at h
 refine Xbi Xan hS true 3000 ?_
 conv=>whnf
 replace h:=Xai.elim h;obtain ⟨p,hy,h⟩:=h
 refine XaJ.p (Xmj hy) ?_
 conv=>whnf
 all_goals (cases h;exact Res.y)
theorem ok55 (XaU:Int→Int→Option (List UInt8)) (hS:Xah Tryz.prog (Xav (XAS XaU))):Xar Tryz.prog 55 (s55 (XkN XaU)):=by
 refine Xar.Xax Xan (fun ar os r ha hr=>?_) ⟨Tryz.f55,rfl,by decide,rfl⟩
 replace hr:r55 (XkN XaU) ar (XaH os)=some r:=hr
 unfold r55 at hr
 generalize hc:XaH os=C at hr
 replace hr:=dV.elim hr;obtain ⟨v0,l1,y0,rfl,e0,hr⟩:=hr;obtain rfl:=XbF _ _ _ e0
 replace hr:=dV.elim hr;obtain ⟨v1,l2,y1,rfl,e1,hr⟩:=hr;obtain rfl:=XbF _ _ _ e1
 replace hr:=Xdw hr;obtain ⟨rfl,rfl,x,h,rfl⟩:=hr
 obtain rfl:=Xat hc
 exact ⟨_,rfl,XDQ XaU hS _ _ x h⟩
def XbQ:Int→Int→Option (List UInt8):=XkN XaU
theorem XzP:Xar Tryz.prog 55 (s55 XbQ):=ok55 XaU (Xah.Xa0 ⟨Xpq,trivial⟩)
def XmF (n:Int) (most:Int):Option Bool:=
 cond (decide (n≥0))
  (
  some (decide (n≤most)))
  (
  some (false))
def Xx5 (x:Bool):Xcw:=⟨.bool x,[],[]⟩
def r121 (g:Int→Int→Option Bool):Dec:=dV (asI .i64) fun (y0:Int)=>dV (asI .i64) fun (y1:Int)=>Xdd (ofG (g y0 y1) Xx5)
theorem XIx {g:Int→Int→Option Bool} {y0:Int} {y1:Int} {x:Bool} (hx:g y0 y1=some x):r121 g [.int .i64 y0,.int .i64 y1] []=some (Xx5 x):=(XaX (Xcv _)).trans ((XaX (Xcv _)).trans (Xa3 hx))
def s121 (g:Int→Int→Option Bool):Xbu:=⟨[.v,.v],r121 g⟩
theorem Xmd {g:Int→Int→Option Bool} {y0:Int} {y1:Int} {x:Bool} (hx:g y0 y1=some x):(s121 g).run [.int .i64 y0,.int .i64 y1] []=some (Xx5 x):=XIx hx
abbrev Xvv:List (Nat×Xbu):=[]
theorem Xw5 (hS:Xah Tryz.prog (Xav (Xvv))) (n:Int) (most:Int) (res:Bool) (h:XmF n most=some res) :
 XaK Tryz.prog 121 0 ⟨⟨121,12,[(0,.int .i64 n),(1,.int .i64 most)],[.code XBw],[],false,none⟩,[],[],0⟩ (fun v H _=>Res 0 (Xx5 res) v H):=by
 unfold XmF at h
 refine Xbi Xan hS true 3000 ?_
 conv=>whnf
 refine br.h h (by rfl) ?_ ?_
 ·clear h;intro hb h;conv=>whnf
  all_goals (cases h;exact Res.y)
 clear h;intro hb h;conv=>whnf
 all_goals (cases h;exact Res.y)
theorem ok121 (hS:Xah Tryz.prog (Xav (Xvv))):Xar Tryz.prog 121 (s121 (XmF)):=by
 refine Xar.Xax Xan (fun ar os r ha hr=>?_) ⟨Tryz.f121,rfl,by decide,rfl⟩
 replace hr:r121 (XmF) ar (XaH os)=some r:=hr
 unfold r121 at hr
 generalize hc:XaH os=C at hr
 replace hr:=dV.elim hr;obtain ⟨v0,l1,y0,rfl,e0,hr⟩:=hr;obtain rfl:=XbF _ _ _ e0
 replace hr:=dV.elim hr;obtain ⟨v1,l2,y1,rfl,e1,hr⟩:=hr;obtain rfl:=XbF _ _ _ e1
 replace hr:=Xdw hr;obtain ⟨rfl,rfl,x,h,rfl⟩:=hr
 obtain rfl:=Xat hc
 exact ⟨_,rfl,Xw5 hS _ _ x h⟩
def Xft:Int→Int→Option Bool:=XmF
theorem XFs:Xar Tryz.prog 121 (s121 Xft):=ok121 (Xah.Xa0 trivial)
def XhS (Xft:Int→Int→Option Bool) (ha0:Xas):Option Bool:=
 (Xft ha0.SPort 65535).bind fun i=>
 cond (i)
  (
  (Xft ha0.DPort 65535).bind fun i1=>
  cond (i1)
   (
   (Xft ha0.Flags 255).bind fun i2=>
   cond (i2)
    (
    (Xft ha0.Window 65535).bind fun i3=>
    cond (i3)
     (
     (Xft ha0.Urgent 65535).bind fun i4=>
     cond (i4)
      (
      cond (decide ((ha0.Options.length:Int)≤40))
       (
       some (((ha0.Options.length:Int).tmod 4)==0))
       (
       some (false)))
      (
      some (false)))
     (
     some (false)))
    (
    some (false)))
   (
   some (false)))
  (
  some (false))
def rx96 (x:Bool):Xcw:=⟨.bool x,[],[]⟩
def r96 (g:Xas→Option Bool):Dec:=dV XhT fun (y0:Xas)=>Xdd (ofG (g y0) rx96)
theorem r96_c {g:Xas→Option Bool} {y0:Xas} {x:Bool} (hx:g y0=some x):r96 g [.agg ⟨[.int .i64 y0.SPort,.int .i64 y0.DPort,.int .u32 y0.Seq,.int .u32 y0.Ack,.int .i64 y0.Flags,.int .i64 y0.Window,.int .i64 y0.Urgent,.string ⟨⟨y0.Options⟩⟩]⟩] []=some (rx96 x):=(XaX (XlK _)).trans (Xa3 hx)
def s96 (g:Xas→Option Bool):Xbu:=⟨[.v],r96 g⟩
theorem XKR {g:Xas→Option Bool} {y0:Xas} {x:Bool} (hx:g y0=some x):(s96 g).run [.agg ⟨[.int .i64 y0.SPort,.int .i64 y0.DPort,.int .u32 y0.Seq,.int .u32 y0.Ack,.int .i64 y0.Flags,.int .i64 y0.Window,.int .i64 y0.Urgent,.string ⟨⟨y0.Options⟩⟩]⟩] []=some (rx96 x):=r96_c hx
abbrev XzS (Xft:Int→Int→Option Bool):List (Nat×Xbu):=[(121,s121 Xft)]
theorem XD7 (Xft:Int→Int→Option Bool) (hS:Xah Tryz.prog (Xav (XzS Xft))) (ha0:Xas) (res:Bool) (h:XhS Xft ha0=some res) :
 XaK Tryz.prog 96 0 ⟨⟨96,39,[(0,.agg ⟨[.int .i64 ha0.SPort,.int .i64 ha0.DPort,.int .u32 ha0.Seq,.int .u32 ha0.Ack,.int .i64 ha0.Flags,.int .i64 ha0.Window,.int .i64 ha0.Urgent,.string ⟨⟨ha0.Options⟩⟩]⟩)],[.code XLJ],[],false,none⟩,[],[],0⟩ (fun v H _=>Res 0 (rx96 res) v H):=by
 unfold XhS at h
 refine Xbi Xan hS true 3000 ?_
 conv=>whnf
 replace h:=Xai.elim h;obtain ⟨i,hy,h⟩:=h
 refine XaJ.p (Xmd hy) ?_
 conv=>whnf
 refine br.h2 h (by rfl) ?_ ?_
 ·clear h;intro hb h;conv=>whnf
  all_goals (cases h;exact Res.y)
 clear h;intro hb h;conv=>whnf
 replace h:=Xai.elim h;obtain ⟨i1,hy,h⟩:=h
 refine XaJ.p (Xmd hy) ?_
 conv=>whnf
 refine br.h2 h (by rfl) ?_ ?_
 ·clear h;intro hb h;conv=>whnf
  all_goals (cases h;exact Res.y)
 clear h;intro hb h;conv=>whnf
 replace h:=Xai.elim h;obtain ⟨i2,hy,h⟩:=h
 refine XaJ.p (Xmd hy) ?_
 conv=>whnf
 refine br.h2 h (by rfl) ?_ ?_
 ·clear h;intro hb h;conv=>whnf
  all_goals (cases h;exact Res.y)
 clear h;intro hb h;conv=>whnf
 replace h:=Xai.elim h;obtain ⟨i3,hy,h⟩:=h
 refine XaJ.p (Xmd hy) ?_
 conv=>whnf
 refine br.h2 h (by rfl) ?_ ?_
 ·clear h;intro hb h;conv=>whnf
  all_goals (cases h;exact Res.y)
 clear h;intro hb h;conv=>whnf
 replace h:=Xai.elim h;obtain ⟨i4,hy,h⟩:=h
 refine XaJ.p (Xmd hy) ?_
 conv=>whnf
 refine br.h2 h (by rfl) ?_ ?_
 ·clear h;intro hb h;conv=>whnf
  all_goals (cases h;exact Res.y)
 clear h;intro hb h;conv=>whnf
 refine br.h h (by rfl) ?_ ?_
 ·clear h;intro hb h;conv=>whnf
  all_goals (cases h;exact Res.y)
 clear h;intro hb h;conv=>whnf
 all_goals (cases h;exact Res.y)
theorem ok96 (Xft:Int→Int→Option Bool) (hS:Xah Tryz.prog (Xav (XzS Xft))):Xar Tryz.prog 96 (s96 (XhS Xft)):=by
 refine Xar.Xax Xan (fun ar os r ha hr=>?_) ⟨Tryz.f96,rfl,by decide,rfl⟩
 replace hr:r96 (XhS Xft) ar (XaH os)=some r:=hr
 unfold r96 at hr
 generalize hc:XaH os=C at hr
 replace hr:=dV.elim hr;obtain ⟨v0,l1,y0,rfl,e0,hr⟩:=hr;obtain rfl:=Xkw _ _ e0
 replace hr:=Xdw hr;obtain ⟨rfl,rfl,x,h,rfl⟩:=hr
 obtain rfl:=Xat hc
 exact ⟨_,rfl,XD7 Xft hS _ x h⟩
def Xc7:Xas→Option Bool:=XhS Xft
theorem XIG:Xar Tryz.prog 96 (s96 Xc7):=ok96 Xft (Xah.Xa0 ⟨XFs,trivial⟩)
def XkW (Xdg:(List UInt8)→Option Int) (Xck:(List UInt8)→Int→Int→Int→Option (List UInt8)) (XaR:Xab→Xab→Int→Int→Option (List UInt8)) (Xc7:Xas→Option Bool) (XbQ:Int→Int→Option (List UInt8)) (ha0:Xas) (src:Xab) (dst:Xab) (payload:List UInt8):Option ((List UInt8)×Int):=
 let t:=wI .i64 (20+(ha0.Options.length:Int))
 (XaR src dst 6 (wI .i64 (t+(payload.length:Int)))).bind fun p=>
 (Xc7 ha0).bind fun xr=>
 cond (!xr)
  (
  some (([],1)))
  (
  cond (p==[])
   (
   some (([],1)))
   (
   let t1:=decide ((payload.length:Int)>(wI .i64 (65535 - t)))
   cond (t1)
    (
    some (([],5)))
    (
    (XbQ ha0.SPort 2).bind fun n=>
    (XbQ ha0.DPort 2).bind fun n1=>
    XaE (decide (n.length+n1.length<2^63)) <|
    (XbQ (wI .i64 ha0.Seq) 4).bind fun n2=>
    XaE (decide ((n++n1).length+n2.length<2^63)) <|
    (XbQ (wI .i64 ha0.Ack) 4).bind fun n3=>
    XaE (decide (((n++n1)++n2).length+n3.length<2^63)) <|
    (XbQ (wI .i64 (4*t)) 1).bind fun n4=>
    XaE (decide ((((n++n1)++n2)++n3).length+n4.length<2^63)) <|
    (XbQ ha0.Flags 1).bind fun n5=>
    XaE (decide (((((n++n1)++n2)++n3)++n4).length+n5.length<2^63)) <|
    (XbQ ha0.Window 2).bind fun n6=>
    XaE (decide ((((((n++n1)++n2)++n3)++n4)++n5).length+n6.length<2^63)) <|
    let t2:=(((((n++n1)++n2)++n3)++n4)++n5)++n6
    (XbQ 0 2).bind fun n7=>
    XaE (decide (t2.length+n7.length<2^63)) <|
    (XbQ ha0.Urgent 2).bind fun n8=>
    XaE (decide ((t2++n7).length+n8.length<2^63)) <|
    XaE (decide (((t2++n7)++n8).length+ha0.Options.length<2^63)) <|
    XaE (decide ((((t2++n7)++n8)++ha0.Options).length+payload.length<2^63)) <|
    let t3:=(((t2++n7)++n8)++ha0.Options)++payload
    XaE (decide (p.length+t3.length<2^63)) <|
    (Xdg (p++t3)).bind fun xo=>
    (Xck t3 16 2 (wI .u64 xo)).bind fun s=>
    some ((s,0)))))
def rx53 (x:(List UInt8)×Int):Xcw:=⟨.tuple ⟨[.string ⟨⟨x.1⟩⟩,.int .i64 x.2]⟩,[],[]⟩
def r53 (g:Xas→Xab→Xab→(List UInt8)→Option ((List UInt8)×Int)):Dec:=dV XhT fun (y0:Xas)=>dV XbN fun (y1:Xab)=>dV XbN fun (y2:Xab)=>dV asS fun (y3:List UInt8)=>Xdd (ofG (g y0 y1 y2 y3) rx53)
theorem r53_c {g:Xas→Xab→Xab→(List UInt8)→Option ((List UInt8)×Int)} {y0:Xas} {y1:Xab} {y2:Xab} {y3:List UInt8} {x:(List UInt8)×Int} (hx:g y0 y1 y2 y3=some x):r53 g [.agg ⟨[.int .i64 y0.SPort,.int .i64 y0.DPort,.int .u32 y0.Seq,.int .u32 y0.Ack,.int .i64 y0.Flags,.int .i64 y0.Window,.int .i64 y0.Urgent,.string ⟨⟨y0.Options⟩⟩]⟩,.agg ⟨[.bool y1.V6,.int .u64 y1.Hi,.int .u64 y1.Lo]⟩,.agg ⟨[.bool y2.V6,.int .u64 y2.Hi,.int .u64 y2.Lo]⟩,.string ⟨⟨y3⟩⟩] []=some (rx53 x):=(XaX (XlK _)).trans ((XaX (XbC _)).trans ((XaX (XbC _)).trans ((XaX (XcI)).trans (Xa3 hx))))
def s53 (g:Xas→Xab→Xab→(List UInt8)→Option ((List UInt8)×Int)):Xbu:=⟨[.v,.v,.v,.v],r53 g⟩
theorem XKQ {g:Xas→Xab→Xab→(List UInt8)→Option ((List UInt8)×Int)} {y0:Xas} {y1:Xab} {y2:Xab} {y3:List UInt8} {x:(List UInt8)×Int} (hx:g y0 y1 y2 y3=some x):(s53 g).run [.agg ⟨[.int .i64 y0.SPort,.int .i64 y0.DPort,.int .u32 y0.Seq,.int .u32 y0.Ack,.int .i64 y0.Flags,.int .i64 y0.Window,.int .i64 y0.Urgent,.string ⟨⟨y0.Options⟩⟩]⟩,.agg ⟨[.bool y1.V6,.int .u64 y1.Hi,.int .u64 y1.Lo]⟩,.agg ⟨[.bool y2.V6,.int .u64 y2.Hi,.int .u64 y2.Lo]⟩,.string ⟨⟨y3⟩⟩] []=some (rx53 x):=r53_c hx
abbrev XB3 (Xdg:(List UInt8)→Option Int) (Xck:(List UInt8)→Int→Int→Int→Option (List UInt8)) (XaR:Xab→Xab→Int→Int→Option (List UInt8)) (Xc7:Xas→Option Bool) (XbQ:Int→Int→Option (List UInt8)):List (Nat×Xbu):=[(88,s88 Xdg),(87,s87 Xck),(95,s95 XaR),(96,s96 Xc7),(55,s55 XbQ)]
theorem XDB (Xdg:(List UInt8)→Option Int) (Xck:(List UInt8)→Int→Int→Int→Option (List UInt8)) (XaR:Xab→Xab→Int→Int→Option (List UInt8)) (Xc7:Xas→Option Bool) (XbQ:Int→Int→Option (List UInt8)) (hS:Xah Tryz.prog (Xav (XB3 Xdg Xck XaR Xc7 XbQ))) (ha0:Xas) (src:Xab) (dst:Xab) (payload:List UInt8) (res:(List UInt8)×Int) (h:XkW Xdg Xck XaR Xc7 XbQ ha0 src dst payload=some res) :
 XaK Tryz.prog 53 0 ⟨⟨53,83,[(0,.agg ⟨[.int .i64 ha0.SPort,.int .i64 ha0.DPort,.int .u32 ha0.Seq,.int .u32 ha0.Ack,.int .i64 ha0.Flags,.int .i64 ha0.Window,.int .i64 ha0.Urgent,.string ⟨⟨ha0.Options⟩⟩]⟩),(1,.agg ⟨[.bool src.V6,.int .u64 src.Hi,.int .u64 src.Lo]⟩),(2,.agg ⟨[.bool dst.V6,.int .u64 dst.Hi,.int .u64 dst.Lo]⟩),(3,.string ⟨⟨payload⟩⟩)],[.code XBm],[],false,none⟩,[],[],0⟩ (fun v H _=>Res 0 (rx53 res) v H):=by
 unfold XkW at h
 refine Xbi Xan hS true 3000 ?_
 conv=>whnf
 let t:Int:=wI .i64 (20+(ha0.Options.length:Int))
 replace h:=Xai.elim h;obtain ⟨p,hy,h⟩:=h
 refine XaJ.p (XuN hy) ?_
 conv=>whnf
 replace h:=Xai.elim h;obtain ⟨xr,hy,h⟩:=h
 refine XaJ.p (XKR hy) ?_
 conv=>whnf
 refine br.h h (by rfl) ?_ ?_
 ·clear h;intro hb h;conv=>whnf
  all_goals (cases h;exact Res.y)
 clear h;intro hb h;conv=>whnf
 refine br.h h (by rfl) ?_ ?_
 ·clear h;intro hb h;conv=>whnf
  all_goals (cases h;exact Res.y)
 clear h;intro hb h;conv=>whnf
 let t1:Bool:=decide ((payload.length:Int)>(wI .i64 (65535 - t)))
 refine br.h h (by rfl) ?_ ?_
 ·clear h;intro hb h;conv=>whnf
  all_goals (cases h;exact Res.y)
 clear h;intro hb h;conv=>whnf
 replace h:=Xai.elim h;obtain ⟨n,hy,h⟩:=h
 refine XaJ.p (XiO hy) ?_
 conv=>whnf
 replace h:=Xai.elim h;obtain ⟨n1,hy,h⟩:=h
 refine XaJ.p (XiO hy) ?_
 conv=>whnf
 replace h:=XaE.elim h;obtain ⟨hb,h⟩:=h
 try (refine req.intro hb ?_;conv=>whnf)
 replace h:=Xai.elim h;obtain ⟨n2,hy,h⟩:=h
 refine XaJ.p (XiO hy) ?_
 conv=>whnf
 replace h:=XaE.elim h;obtain ⟨hb,h⟩:=h
 try (refine req.intro hb ?_;conv=>whnf)
 replace h:=Xai.elim h;obtain ⟨n3,hy,h⟩:=h
 refine XaJ.p (XiO hy) ?_
 conv=>whnf
 replace h:=XaE.elim h;obtain ⟨hb,h⟩:=h
 try (refine req.intro hb ?_;conv=>whnf)
 replace h:=Xai.elim h;obtain ⟨n4,hy,h⟩:=h
 refine XaJ.p (XiO hy) ?_
 conv=>whnf
 replace h:=XaE.elim h;obtain ⟨hb,h⟩:=h
 try (refine req.intro hb ?_;conv=>whnf)
 replace h:=Xai.elim h;obtain ⟨n5,hy,h⟩:=h
 refine XaJ.p (XiO hy) ?_
 conv=>whnf
 replace h:=XaE.elim h;obtain ⟨hb,h⟩:=h
 try (refine req.intro hb ?_;conv=>whnf)
 replace h:=Xai.elim h;obtain ⟨n6,hy,h⟩:=h
 refine XaJ.p (XiO hy) ?_
 conv=>whnf
 replace h:=XaE.elim h;obtain ⟨hb,h⟩:=h
 try (refine req.intro hb ?_;conv=>whnf)
 let t2:List UInt8:=(((((n++n1)++n2)++n3)++n4)++n5)++n6
 replace h:=Xai.elim h;obtain ⟨n7,hy,h⟩:=h
 refine XaJ.p (XiO hy) ?_
 conv=>whnf
 replace h:=XaE.elim h;obtain ⟨hb,h⟩:=h
 try (refine req.intro hb ?_;conv=>whnf)
 replace h:=Xai.elim h;obtain ⟨n8,hy,h⟩:=h
 refine XaJ.p (XiO hy) ?_
 conv=>whnf
 replace h:=XaE.elim h;obtain ⟨hb,h⟩:=h
 try (refine req.intro hb ?_;conv=>whnf)
 replace h:=XaE.elim h;obtain ⟨hb,h⟩:=h
 try (refine req.intro hb ?_;conv=>whnf)
 replace h:=XaE.elim h;obtain ⟨hb,h⟩:=h
 try (refine req.intro hb ?_;conv=>whnf)
 let t3:List UInt8:=(((t2++n7)++n8)++ha0.Options)++payload
 replace h:=XaE.elim h;obtain ⟨hb,h⟩:=h
 try (refine req.intro hb ?_;conv=>whnf)
 replace h:=Xai.elim h;obtain ⟨xo,hy,h⟩:=h
 refine XaJ.p (Xth hy) ?_
 conv=>whnf
 replace h:=Xai.elim h;obtain ⟨s,hy,h⟩:=h
 refine XaJ.p (XvG hy) ?_
 conv=>whnf
 all_goals (cases h;exact Res.y)
theorem ok53 (Xdg:(List UInt8)→Option Int) (Xck:(List UInt8)→Int→Int→Int→Option (List UInt8)) (XaR:Xab→Xab→Int→Int→Option (List UInt8)) (Xc7:Xas→Option Bool) (XbQ:Int→Int→Option (List UInt8)) (hS:Xah Tryz.prog (Xav (XB3 Xdg Xck XaR Xc7 XbQ))):Xar Tryz.prog 53 (s53 (XkW Xdg Xck XaR Xc7 XbQ)):=by
 refine Xar.Xax Xan (fun ar os r ha hr=>?_) ⟨Tryz.f53,rfl,by decide,rfl⟩
 replace hr:r53 (XkW Xdg Xck XaR Xc7 XbQ) ar (XaH os)=some r:=hr
 unfold r53 at hr
 generalize hc:XaH os=C at hr
 replace hr:=dV.elim hr;obtain ⟨v0,l1,y0,rfl,e0,hr⟩:=hr;obtain rfl:=Xkw _ _ e0
 replace hr:=dV.elim hr;obtain ⟨v1,l2,y1,rfl,e1,hr⟩:=hr;obtain rfl:=Xbr _ _ e1
 replace hr:=dV.elim hr;obtain ⟨v2,l3,y2,rfl,e2,hr⟩:=hr;obtain rfl:=Xbr _ _ e2
 replace hr:=dV.elim hr;obtain ⟨v3,l4,y3,rfl,e3,hr⟩:=hr;obtain rfl:=XbM _ _ e3
 replace hr:=Xdw hr;obtain ⟨rfl,rfl,x,h,rfl⟩:=hr
 obtain rfl:=Xat hc
 exact ⟨_,rfl,XDB Xdg Xck XaR Xc7 XbQ hS _ _ _ _ x h⟩
def XeU:Xas→Xab→Xab→(List UInt8)→Option ((List UInt8)×Int):=XkW Xdg Xck XaR Xc7 XbQ
theorem XLj:Xar Tryz.prog 53 (s53 XeU):=ok53 Xdg Xck XaR Xc7 XbQ (Xah.Xa0 ⟨Xz9,XBg,XtF,XIG,XzP,trivial⟩)
end Go.Vm.Code
