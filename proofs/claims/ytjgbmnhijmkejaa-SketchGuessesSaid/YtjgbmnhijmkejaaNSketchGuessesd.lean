import Derived.Test.YtjgbmnhijmkejaaNSketchGuessesc
namespace Go.Vm.Code
open Go Go.Vm
theorem XlY (k:Nat) {a b:Int} (h0:0≤a) (h1:a*2^k<18446744073709551616) (hb0:0≤b) (hb:b<2^k) (hb1:b<18446744073709551616):Xrn .u64 b (a*2^k)=a*2^k+b:=by
 obtain ⟨n,rfl⟩:=Int.eq_ofNat_of_zero_le h0
 obtain ⟨m,rfl⟩:=Int.eq_ofNat_of_zero_le hb0
 have e:((n:Int)*2^k)=((n*2^k:Nat):Int):=by push_cast;rfl
 rw [e] at h1 ⊢
 rw [XDJ (by omega) (by omega),Nat.or_comm,XCY (by exact_mod_cast hb)];push_cast;rfl
def wrd:List UInt8→Nat
 | []=>0
 | b::l=>b.toNat+256*wrd l
theorem XtR:∀ l:List UInt8,wrd l<256^l.length
 | []=>by simp [wrd]
 | b::l=>by
   have:=XtR l
   have hb:=b.toNat_lt
   rw [wrd,List.length_cons,Nat.pow_succ];omega
theorem Xqd:∀ (l:List UInt8) (b:UInt8),wrd (l++[b])=wrd l+256^l.length*b.toNat
 | [],b=>by simp [wrd]
 | c::l,b=>by
   have:=Xqd l b
   rw [List.cons_append,wrd,this,wrd,List.length_cons,Nat.pow_succ,Nat.mul_add,Nat.mul_comm (256^l.length) 256,Nat.mul_assoc];omega
theorem XwL {j:Nat} (h:j≤8):256^j≤18446744073709551616:=by
 have:(256:Nat)^j≤256^8:=Nat.pow_le_pow_right (by decide) h
 simpa using this
theorem Xq7 {s:List UInt8} (hs:s.length≤8):Xds s=some (wrd s:Int):=by
 unfold Xds XmC
 rw [Xf1 (by omega) (by omega)]
 have key:=iter_eq (step:=fun (st:Int×Int)=>Xip s st.1 st.2) (fun st=>((st.1.toNat*256^(st.2+1).toNat+wrd (s.take (st.2+1).toNat):Nat):Int)) (fun st=>0≤st.1∧-1≤st.2∧st.2<s.length∧st.1.toNat<256^(s.length - (st.2+1).toNat)) (fun st=>(st.2+1).toNat) ?_ FUEL (0,(s.length:Int) - 1) ⟨by simp,by simp only;omega,by simp only;omega,by simp⟩ (by rw [Xd0];simp only;omega)
 ·rw [key]
  have e:((s.length:Int) - 1+1).toNat=s.length:=by omega
  simp only [e];simp
 rintro ⟨n,i⟩ ⟨g1,g2,g3,g4⟩
 simp only at g1 g2 g3 g4 ⊢
 obtain ⟨v,rfl⟩:=Int.eq_ofNat_of_zero_le g1
 simp only [Int.toNat_natCast] at g4 ⊢
 unfold Xip
 by_cases hi:i≥0
 ·obtain ⟨j,rfl⟩:=Int.eq_ofNat_of_zero_le hi
  have e1:((j:Int)+1).toNat=j+1:=by omega
  have e2:((j:Int) - 1+1).toNat=j:=by omega
  rw [e1] at g4 ⊢
  have hj:j<s.length:=by omega
  have hb:=s[j].toNat_lt
  have hv:v*256+s[j].toNat<256^(s.length - j):=by
   rw [show s.length - j=(s.length - (j+1))+1 by omega,Nat.pow_succ];omega
  have hv2:=XwL (j:=s.length - j) (by omega)
  refine .inr ⟨(((v*256+s[j].toNat:Nat):Int),(j:Int) - 1),?_,⟨by simp only;omega,by simp only;omega,by simp only;omega,?_⟩,by simp only;omega,?_⟩
  ·rw [Xbd hi,XaH hi,Int.toNat_natCast,List.getElem?_eq_getElem hj,Option.bind_some,Xoo (n:=(v:Int)*2^8) (by omega) (by omega),Xoo (n:=(s[j].toNat:Int)) (by omega) (by omega),Xoo (by omega) (by omega),Xf1 (by omega) (by omega)]
   simp only []
   congr 3<;>omega
  ·simp only [e2,Int.toNat_natCast];exact hv
  ·simp only [e2,Int.toNat_natCast]
   rw [List.take_succ_eq_append_getElem hj,Xqd,List.length_take,Nat.min_eq_left (by omega),Nat.pow_succ,Nat.add_mul,Nat.mul_assoc,Nat.mul_comm (256^j) 256,Nat.mul_comm (256^j) s[j].toNat]
   congr 1
   omega
 ·refine .inl ?_
  rw [Xa7 hi]
  have e1:(i+1).toNat=0:=by omega
  rw [e1];simp [wrd]
def XB8 (q:XaN):Int:=
 let m:=Xzc 4 ⟨q.e0,q.e1,XdH .u64 q.e2 255,q.e3⟩
 XdH .u64 (XdH .u64 (XdH .u64 m.e0 m.e1) m.e2) m.e3
theorem XrX (T:XaN→Int→XaN):∀ (l:List UInt8) (h:XaR) (j v:Nat),h.count.toNat%8=j→0≤h.count→h.last=(v:Int)→v<256^j→j+l.length<8→l.foldl (wrT T) h=⟨h.made,h.s,((v+256^j*wrd l:Nat):Int),h.count+l.length⟩
 | [],h,j,v,hj,h0,hv,hlt,hl=>by
   obtain ⟨m,s,la,c⟩:=h
   simp only at hv;subst hv
   simp [wrd]
 | b::l,h,j,v,hj,h0,hv,hlt,hl=>by
   rw [List.length_cons] at hl
   have hb:=b.toNat_lt
   have hp:(256:Nat)^j=2^(8*j):=by rw [Nat.pow_mul]
   have hp2:=XwL (j:=j+1) (by omega)
   rw [Nat.pow_succ] at hp2
   have hb2:b.toNat*256^j≤255*256^j:=Nat.mul_le_mul_right _ (by omega)
   have hpI:(2:Int)^(8*j)=((256^j:Nat):Int):=by rw [hp];push_cast;rfl
   have e1:wI .u64 ((b.toNat:Int)*2^(8*j))=(b.toNat:Int)*2^(8*j):=by
    rw [hpI,←Int.natCast_mul];exact Xoo (by omega) (by omega)
   have e2:Xrn .u64 (v:Int) ((b.toNat:Int)*2^(8*j))=((v+256^j*b.toNat:Nat):Int):=by
    rw [XlY (8*j) (by omega) (by rw [hpI,←Int.natCast_mul];omega) (by omega) (by rw [hpI];omega) (by omega),hpI,←Int.natCast_mul,Nat.mul_comm];omega
   have hw:wrT T h b=⟨h.made,h.s,((v+256^j*b.toNat:Nat):Int),h.count+1⟩:=by
    unfold wrT
    rw [hj,hv,if_neg (by omega),e1,e2]
   rw [List.foldl_cons,hw,XrX T l _ (j+1) (v+256^j*b.toNat) (by simp only;omega) (by simp only;omega) rfl (by rw [Nat.pow_succ,Nat.mul_comm (256^j) b.toNat];omega) (by omega)]
   simp only [wrd,Nat.pow_succ,List.length_cons]
   congr 1
   ·rw [Nat.mul_add,←Nat.mul_assoc,Nat.add_assoc]
   ·omega
theorem XF5 (T:XaN→Int→XaN) {l:List UInt8} {h:XaR} (hl:l.length=8) (hc:h.count.toNat%8=0) (h0:0≤h.count) (hv:h.last=0):l.foldl (wrT T) h=⟨h.made,T h.s (wrd l:Int),0,h.count+8⟩:=by
 obtain ⟨l7,b,rfl⟩:∃ l7 b,l=l7++[b]:=⟨l.dropLast,l.getLast (by intro e;rw [e] at hl;simp at hl),(List.dropLast_concat_getLast _).symm⟩
 have h7:l7.length=7:=by simp at hl;omega
 have hb:=b.toNat_lt
 have hw:=XtR l7
 rw [h7] at hw
 rw [List.foldl_append,XrX T l7 h 0 0 hc h0 (by rw [hv];rfl) (by simp) (by omega),h7,Xqd,h7]
 simp only [List.foldl_cons,List.foldl_nil,wrT,Nat.pow_zero,Nat.one_mul,Nat.zero_add]
 have e0:(h.count+((7:Nat):Int)).toNat%8=7:=by omega
 have e00:((h.count+((7:Nat):Int)).toNat+1)%8=0:=by omega
 rw [e0,if_pos e00]
 have e1:wI .u64 ((b.toNat:Int)*2^(8*7))=(b.toNat:Int)*2^(8*7):=Xoo (by omega) (by omega)
 have e2:Xrn .u64 (wrd l7:Int) ((b.toNat:Int)*2^(8*7))=((wrd l7+256^7*b.toNat:Nat):Int):=by
  rw [XlY (8*7) (by omega) (by omega) (by omega) (by omega) (by omega)];omega
 rw [e1,e2]
 congr 1
 omega
def XlU (T:XaN→Int→XaN) (fin:XaN→Int) (n:Nat) (q:XaN) (l:List UInt8):Int:=
 if h:8≤l.length then XlU T fin n (T q (wrd (l.take 8):Int)) (l.drop 8) else fin (T q ((wrd l+n%256*2^56:Nat):Int))
termination_by l.length
decreasing_by simp;omega
theorem Xvq (T:XaN→Int→XaN) (fin:XaN→Int):∀ (k:Nat) (l:List UInt8) (h:XaR),l.length≤k→h.count.toNat%8=0→0≤h.count→h.last=0→∀ n:Nat,(n:Int)=h.count+l.length →
 fin (T (l.foldl (wrT T) h).s (Xrn .u64 (l.foldl (wrT T) h).last (wI .u64 ((wI .u64 (l.foldl (wrT T) h).count)*2^56))))=XlU T fin n h.s l:=by
 intro k
 induction k with
 | zero=>
   intro l h hl hc h0 hv n hn
   obtain rfl:l=[]:=List.length_eq_zero_iff.1 (by omega)
   rw [XlU,dif_neg (by simp)]
   simp only [List.foldl_nil,hv,wrd]
   congr 2
   simp at hn
   rw [←hn]
   have e1:wI .u64 ((wI .u64 (n:Int))*2^56)=((n%256:Nat):Int)*2^56:=by rw [XqL,XqL];omega
   rw [e1,XlY 56 (by omega) (by omega) (by omega) (by omega) (by omega)];omega
 | succ k ih=>
   intro l h hl hc h0 hv n hn
   by_cases h8:8≤l.length
   ·rw [XlU,dif_pos h8]
    have hs:l.foldl (wrT T) h=(l.drop 8).foldl (wrT T) ⟨h.made,T h.s (wrd (l.take 8):Int),0,h.count+8⟩:=by
     rw [←XF5 T (l:=l.take 8) (by simp;omega) hc h0 hv,←List.foldl_append,List.take_append_drop]
    rw [hs]
    exact ih (l.drop 8) ⟨h.made,T h.s (wrd (l.take 8):Int),0,h.count+8⟩ (by simp;omega) (by simp only;omega) (by simp only;omega) rfl n (by simp;omega)
   ·rw [XlU,dif_neg h8,XrX T l h 0 0 hc h0 (by rw [hv];rfl) (by simp) (by omega)]
    simp only [Nat.zero_add,Nat.pow_zero,Nat.one_mul]
    congr 2
    rw [←hn]
    have hw:wrd l<256^7:=Nat.lt_of_lt_of_le (XtR l) (Nat.pow_le_pow_right (by decide) (by omega))
    have e1:wI .u64 ((wI .u64 (n:Int))*2^56)=((n%256:Nat):Int)*2^56:=by rw [XqL,XqL];omega
    rw [e1,XlY 56 (by omega) (by omega) (by omega) (by omega) (by omega)];omega
theorem XBH (r:XaN→XaN) (s:List UInt8) (t i a b c d m:Int) (hi:0≤i∧i<2^62):iter (fun (st:Int×Int×Int×Int×Int×Int)=>XeJ (fun a b c d=>some ((r ⟨a,b,c,d⟩).e0,(r ⟨a,b,c,d⟩).e1,(r ⟨a,b,c,d⟩).e2,(r ⟨a,b,c,d⟩).e3)) s t i st.1 st.2.1 st.2.2.1 st.2.2.2.1 st.2.2.2.2.1 st.2.2.2.2.2) FUEL (a,b,c,d,m,0) =
 some (.inl (XdH .u64 (r (r ⟨a,b,c,d⟩)).e0 m,(r (r ⟨a,b,c,d⟩)).e1,(r (r ⟨a,b,c,d⟩)).e2,(r (r ⟨a,b,c,d⟩)).e3,i+8)):=by
 have e8:wI .i64 (i+8)=i+8:=Xf1 (by omega) (by omega)
 show iter _ (18446744073709551613+1+1+1) _=_
 rw [iter]
 have s1:∀ (a b c d n:Int),n<2→0≤n→XeJ (fun a b c d=>some ((r ⟨a,b,c,d⟩).e0,(r ⟨a,b,c,d⟩).e1,(r ⟨a,b,c,d⟩).e2,(r ⟨a,b,c,d⟩).e3)) s t i a b c d m n=some (.inl ((r ⟨a,b,c,d⟩).e0,(r ⟨a,b,c,d⟩).e1,(r ⟨a,b,c,d⟩).e2,(r ⟨a,b,c,d⟩).e3,m,n+1)):=by
  intro a b c d n h1 h0
  unfold XeJ
  rw [Xbd h1,Option.bind_some,Xf1 (n:=n+1) (by omega) (by omega)]
 have s2:∀ (a b c d:Int),XeJ (fun a b c d=>some ((r ⟨a,b,c,d⟩).e0,(r ⟨a,b,c,d⟩).e1,(r ⟨a,b,c,d⟩).e2,(r ⟨a,b,c,d⟩).e3)) s t i a b c d m 2=some (.inr (.inl (XdH .u64 a m,b,c,d,i+8))):=by
  intro a b c d
  unfold XeJ
  rw [Xa7 (by decide),e8]
 rw [s1 a b c d 0 (by decide) (by decide)]
 simp only []
 rw [iter]
 simp only [show (0:Int)+1=1 from rfl]
 rw [s1 _ _ _ _ 1 (by decide) (by decide)]
 simp only []
 rw [iter]
 simp only [show (1:Int)+1=2 from rfl]
 rw [s2]
theorem Xye (s:List UInt8) (t i a b c d m:Int) (hi:0≤i∧i<2^62):iter (fun (st:Int×Int×Int×Int×Int×Int)=>XeJ Xa9 s t i st.1 st.2.1 st.2.2.1 st.2.2.2.1 st.2.2.2.2.1 st.2.2.2.2.2) FUEL (a,b,c,XdH .u64 d m,m,0) =
 some (.inl ((tak ⟨a,b,c,d⟩ m).e0,(tak ⟨a,b,c,d⟩ m).e1,(tak ⟨a,b,c,d⟩ m).e2,(tak ⟨a,b,c,d⟩ m).e3,i+8)):=by
 have e:Xa9=fun a b c d=>some ((rnd ⟨a,b,c,d⟩).e0,(rnd ⟨a,b,c,d⟩).e1,(rnd ⟨a,b,c,d⟩).e2,(rnd ⟨a,b,c,d⟩).e3):=by
  funext a b c d;exact XuN a b c d
 rw [e,XBH rnd s t i a b c (XdH .u64 d m) m hi]
 simp only [tak,Xzc]
theorem XrC {k:Xau} {s:List UInt8} (h:s.length<2^60):XhD k s=some (XlU tak XB8 s.length (newV k).s s):=by
 unfold XhD XmB
 have ew:wI .i64 ((wI .i64 ((s.length:Int).tdiv 8))*8)=((s.length/8*8:Nat):Int):=by
  rw [Int.tdiv_eq_ediv_of_nonneg (by omega),Xf1 (n:=(s.length:Int)/8) (by omega) (by omega),Xf1 (by omega) (by omega)];omega
 rw [ew]
 simp only []
 generalize hw:s.length/8*8=w
 have hw1:w≤s.length∧s.length<w+8∧w%8=0:=by omega
 have key:=iter_eq (step:=fun (st:Int×Int×Int×Int×Int)=>Xin XeA Xa9 Xds s (w:Int) st.1 st.2.1 st.2.2.1 st.2.2.2.1 st.2.2.2.2)
  (fun st=>if st.2.2.2.2≤w then XlU tak XB8 s.length ⟨st.1,st.2.1,st.2.2.1,st.2.2.2.1⟩ (s.drop st.2.2.2.2.toNat) else XB8 ⟨st.1,st.2.1,st.2.2.1,st.2.2.2.1⟩)
  (fun st=>∃ i:Nat,st.2.2.2.2=i∧i%8=0∧i≤w+8) (fun st=>(w+8 - st.2.2.2.2).toNat) ?_ FUEL ((newV k).s.e0,(newV k).s.e1,(newV k).s.e2,(newV k).s.e3,0) ⟨0,rfl,by omega,by omega⟩ (by rw [Xd0];simp only;omega)
 ·refine Eq.trans key ?_
  simp only [Int.toNat_zero,List.drop_zero]
  rw [if_pos (by omega)]
 rintro ⟨a,b,c,d,p⟩ ⟨i,g1,g2,g3⟩
 simp only at g1 ⊢
 subst g1
 unfold Xin
 by_cases hi:i≤w
 ·rw [Xbd (by omega),if_pos (show (i:Int)≤w by omega),Int.toNat_natCast]
  have e8:wI .i64 ((i:Int)+8)=(i:Int)+8:=Xf1 (by omega) (by omega)
  by_cases hl:i=w
  ·subst hl
   have e1:(if (s.length:Int)<(i:Int)+8 then (s.length:Int) else (i:Int)+8)=s.length:=by rw [if_pos (by omega)]
   have hlen:(s.drop i).length≤7:=by simp;omega
   have et:(s.drop i).take (s.length - i)=s.drop i:=List.take_of_length_le (by simp)
   have hv:wrd (s.drop i)<256^7:=Nat.lt_of_lt_of_le (XtR _) (Nat.pow_le_pow_right (by decide) hlen)
   have em:wI .u64 ((wrd (s.drop i):Int)+wI .u64 ((wI .u64 ((s.length:Int).tmod 256))*2^56))=((wrd (s.drop i)+s.length%256*2^56:Nat):Int):=by
    rw [Int.tmod_eq_emod_of_nonneg (by omega),Xoo (n:=(s.length:Int)%256) (by omega) (by omega),Xoo (n:=(s.length:Int)%256*2^56) (by omega) (by omega),Xoo (by omega) (by omega)];omega
   refine .inr ⟨((tak ⟨a,b,c,d⟩ ((wrd (s.drop i)+s.length%256*2^56:Nat):Int)).e0,(tak ⟨a,b,c,d⟩ ((wrd (s.drop i)+s.length%256*2^56:Nat):Int)).e1,(tak ⟨a,b,c,d⟩ ((wrd (s.drop i)+s.length%256*2^56:Nat):Int)).e2,(tak ⟨a,b,c,d⟩ ((wrd (s.drop i)+s.length%256*2^56:Nat):Int)).e3,(i:Int)+8),?_,⟨i+8,by simp only;omega,by omega,by omega⟩,by simp only;omega,?_⟩
   ·simp only [e8,e1]
    rw [XaH (by omega),Int.toNat_natCast,et,Xq7 (by omega),Option.bind_some,beq_self_eq_true,cond_true,XaH (by omega),Option.bind_some,em]
    exact Xye s (i:Int) (i:Int) a b c d _ (by omega)
   ·simp only []
    rw [if_neg (show ¬ (i:Int)+8≤i by omega),XlU,dif_neg (by omega)]
  ·have h8:i+8≤s.length:=by omega
   have e1:(if (s.length:Int)<(i:Int)+8 then (s.length:Int) else (i:Int)+8)=(i:Int)+8:=by
    split
    ·omega
    ·rfl
   have e2:((i:Int)+8).toNat - i=8:=by omega
   have e3:((i:Int)==(w:Int))=false:=by rw [beq_eq_false_iff_ne];omega
   refine .inr ⟨((tak ⟨a,b,c,d⟩ (wrd ((s.drop i).take 8):Int)).e0,(tak ⟨a,b,c,d⟩ (wrd ((s.drop i).take 8):Int)).e1,(tak ⟨a,b,c,d⟩ (wrd ((s.drop i).take 8):Int)).e2,(tak ⟨a,b,c,d⟩ (wrd ((s.drop i).take 8):Int)).e3,(i:Int)+8),?_,⟨i+8,by simp only;omega,by omega,by omega⟩,by simp only;omega,?_⟩
   ·simp only [e8,e1]
    rw [XaH (by omega),e2,Xq7 (by rw [List.length_take];omega),Option.bind_some,e3,cond_false]
    exact Xye s (w:Int) (i:Int) a b c d _ (by omega)
   ·simp only []
    rw [if_pos (show (i:Int)+8≤w by omega),show ((i:Int)+8).toNat=i+8 by omega]
    conv=>rhs;rw [XlU,dif_pos (by simp;omega),List.drop_drop]
 ·refine .inl ?_
  rw [Xa7 (by omega),if_neg (show ¬ (i:Int)≤w by omega),XG9,Option.bind_some,show cnt 4=4 from rfl]
  rfl
end Go.Vm.Code
namespace Go.Vm.Code
open Go Go.Vm Go.Proofs
set_option maxRecDepth 100000
set_option maxHeartbeats 4000000
set_option linter.unusedVariables false
def Xml (XcG:Xdx) (XbH:XcX) (XiS:Xh4) (k:Xau) (s:List UInt8):Option Int:=
 (XiS k).bind fun n=>
 (XbH n s).bind fun w=>
 (XcG w).bind fun s1=>
 some (s1.1)
def rx47 (x:Int):Xdu:=⟨.int .u64 x,[],[]⟩
abbrev Xbl:=Xau→(List UInt8)→Option Int
def r47 (g:Xbl):Dec:=dV XhK fun (y0:Xau)=>dV asS fun (y1:List UInt8)=>XeC (ofG (g y0 y1) rx47)
theorem r47_c {g:Xbl} {y0:Xau} {y1:List UInt8} {x:Int} (hx:g y0 y1=some x):r47 g [.agg ⟨[.int .u64 y0.A,.int .u64 y0.B]⟩,.string ⟨⟨y1⟩⟩] []=some (rx47 x):=(Xbz (Xiq _)).trans ((Xbz (XhC)).trans (Xbc hx))
def s47 (g:Xbl):XcS:=⟨[.v,.v],r47 g⟩
theorem Xnq {g:Xbl} {y0:Xau} {y1:List UInt8} {x:Int} (hx:g y0 y1=some x):(s47 g).run [.agg ⟨[.int .u64 y0.A,.int .u64 y0.B]⟩,.string ⟨⟨y1⟩⟩] []=some (rx47 x):=r47_c hx
abbrev XG2 (XcG:Xdx) (XbH:XcX) (XiS:Xh4):List (Nat×XcS):=[(63,s63 XcG),(62,s62 XbH),(61,s61 XiS)]
theorem XFi (XcG:Xdx) (XbH:XcX) (XiS:Xh4) (hS:XaF Try.prog (XaP (XG2 XcG XbH XiS))) (k:Xau) (s:List UInt8) (res:Int) (h:Xml XcG XbH XiS k s=some res) :
 XaU Try.prog 47 0 ⟨⟨47,13,[(0,.agg ⟨[.int .u64 k.A,.int .u64 k.B]⟩),(1,.string ⟨⟨s⟩⟩)],[.code XJn],[],false,none⟩,[],[],0⟩ (fun v H _=>Res 0 (rx47 res) v H):=by
 unfold Xml at h
 have R1:=@XG3 XiS
 have R2:=@XHi XbH
 have R3:=@XHK XcG
 refine Xa4 XaM hS true 3000 ?_
 conv=>whnf
 exact W
def XaW:Xbl:=Xml XcG XbH XiS
theorem Xnk:XeH Try.prog 47 (s47 XaW):=by
 have hL:=XFi XcG XbH XiS (XaF.Xba ⟨XHM,XJL,XID,trivial⟩)
 exact okA ⟨Try.f47,rfl,by decide,rfl⟩
end Go.Vm.Code
namespace Go.Vm.Code
open Go Go.Vm
theorem XEv {k:Xau} {s:List UInt8} (h:s.length<2^61):XaW k s=some (sumV (s.foldl wrB (newV k))):=by
 unfold XaW Xml
 rw [XIJ,Option.bind_some,XBm rfl (by simp [newV]) (by simp [newV];omega),Option.bind_some,XJs (by rw [(wrL s _).1];rfl)];rfl
theorem XJu {k:Xau} {s:List UInt8} (h:s.length<2^61):XaW k s=some (XlU tak XB8 s.length (newV k).s s):=by
 rw [XEv h]
 congr 1
 exact Xvq tak XB8 s.length s (newV k) (Nat.le_refl _) rfl (by simp [newV]) rfl s.length (by simp [newV])
theorem XBB (a b:Int):0≤XdH .u64 a b∧XdH .u64 a b<2^64:=by
 have:=XqL (((BitVec.ofInt (IntKind.bits .u64) a ^^^ BitVec.ofInt (IntKind.bits .u64) b).toNat:Nat):Int)
 have e:XdH .u64 a b=wI .u64 (((BitVec.ofInt (IntKind.bits .u64) a ^^^ BitVec.ofInt (IntKind.bits .u64) b).toNat:Nat):Int):=rfl
 rw [e,this];omega
theorem XB2 (q:XaN):0≤XB8 q∧XB8 q<2^64:=XBB _ _
theorem XqZ (T:XaN→Int→XaN) (fin:XaN→Int) (hf:∀ q,0≤fin q∧fin q<2^64) (n:Nat):∀ (k:Nat) (l:List UInt8) (q:XaN),l.length≤k→0≤XlU T fin n q l∧XlU T fin n q l<2^64
 | 0,l,q,h=>by
   rw [XlU,dif_neg (by omega)];exact hf _
 | k+1,l,q,h=>by
   rw [XlU]
   split
   ·exact XqZ T fin hf n k _ _ (by simp;omega)
   ·exact hf _
end Go.Vm.Code
namespace Go.Vm.Code
open Go Go.Vm Go.Proofs
set_option maxRecDepth 100000
set_option maxHeartbeats 4000000
set_option linter.unusedVariables false
def XhO (x:Int) (y:Int):Option (Int×Int):=
 let t:=wI .u64 ((Xwb .u64 x 4294967295)*(Xwb .u64 y 4294967295))
 let t1:=wI .u64 ((x.fdiv (2^32))*(Xwb .u64 y 4294967295))
 let t2:=Xwb .u64 (wI .u64 (t1+(t.fdiv (2^32)))) 4294967295
 let t3:=(wI .u64 (t1+(t.fdiv (2^32)))).fdiv (2^32)
 let t4:=wI .u64 ((Xwb .u64 x 4294967295)*(y.fdiv (2^32)))
 let t5:=wI .u64 ((x.fdiv (2^32))*(y.fdiv (2^32)))
 let t6:=wI .u64 ((wI .u64 (t5+t3))+((wI .u64 (t2+t4)).fdiv (2^32)))
 some ((t6,wI .u64 (x*y)))
def rx71 (x:Int×Int):Xdu:=⟨.tuple ⟨[.int .u64 x.1,.int .u64 x.2]⟩,[],[]⟩
abbrev Xdo:=Int→Int→Option (Int×Int)
def r71 (g:Xdo):Dec:=dV (asI .u64) fun (y0:Int)=>dV (asI .u64) fun (y1:Int)=>XeC (ofG (g y0 y1) rx71)
theorem r71_c {g:Xdo} {y0:Int} {y1:Int} {x:Int×Int} (hx:g y0 y1=some x):r71 g [.int .u64 y0,.int .u64 y1] []=some (rx71 x):=(Xbz (Xd1 _)).trans ((Xbz (Xd1 _)).trans (Xbc hx))
def s71 (g:Xdo):XcS:=⟨[.v,.v],r71 g⟩
theorem XHE {g:Xdo} {y0:Int} {y1:Int} {x:Int×Int} (hx:g y0 y1=some x):(s71 g).run [.int .u64 y0,.int .u64 y1] []=some (rx71 x):=r71_c hx
abbrev XIX:List (Nat×XcS):=[]
theorem XD2 (hS:XaF Try.prog (XaP (XIX))) (x:Int) (y:Int) (res:Int×Int) (h:XhO x y=some res) :
 XaU Try.prog 71 0 ⟨⟨71,51,[(0,.int .u64 x),(1,.int .u64 y)],[.code XCK],[],false,none⟩,[],[],0⟩ (fun v H _=>Res 0 (rx71 res) v H):=by
 unfold XhO at h
 refine Xa4 XaM hS true 3000 ?_
 conv=>whnf
 exact W
def Xb7:Xdo:=XhO
theorem XJD:XeH Try.prog 71 (s71 Xb7):=by
 have hL:=XD2 (XaF.Xba trivial)
 exact okA ⟨Try.f71,rfl,by decide,rfl⟩
def Xjs (Xb7:Xdo) (a:Int) (b:Int):Option Xgx:=
 (Xb7 a b).bind fun m=>
 some (Xgx.mk m.1 m.2)
def rx60 (x:Xgx):Xdu:=⟨.agg ⟨[.int .u64 x.e0,.int .u64 x.e1]⟩,[],[]⟩
abbrev XeF:=Int→Int→Option Xgx
def r60 (g:XeF):Dec:=dV (asI .u64) fun (y0:Int)=>dV (asI .u64) fun (y1:Int)=>XeC (ofG (g y0 y1) rx60)
theorem r60_c {g:XeF} {y0:Int} {y1:Int} {x:Xgx} (hx:g y0 y1=some x):r60 g [.int .u64 y0,.int .u64 y1] []=some (rx60 x):=(Xbz (Xd1 _)).trans ((Xbz (Xd1 _)).trans (Xbc hx))
def s60 (g:XeF):XcS:=⟨[.v,.v],r60 g⟩
theorem XJa {g:XeF} {y0:Int} {y1:Int} {x:Xgx} (hx:g y0 y1=some x):(s60 g).run [.int .u64 y0,.int .u64 y1] []=some (rx60 x):=r60_c hx
abbrev XIQ (Xb7:Xdo):List (Nat×XcS):=[(71,s71 Xb7)]
theorem XGD (Xb7:Xdo) (hS:XaF Try.prog (XaP (XIQ Xb7))) (a:Int) (b:Int) (res:Xgx) (h:Xjs Xb7 a b=some res) :
 XaU Try.prog 60 0 ⟨⟨60,16,[(0,.int .u64 a),(1,.int .u64 b)],[.code XJB],[],false,none⟩,[],[],0⟩ (fun v H _=>Res 0 (rx60 res) v H):=by
 unfold Xjs at h
 have R1:=@XHE Xb7
 refine Xa4 XaM hS true 3000 ?_
 conv=>whnf
 exact W
def Xeo:XeF:=Xjs Xb7
theorem XJd:XeH Try.prog 60 (s60 Xeo):=by
 have hL:=XGD Xb7 (XaF.Xba ⟨XJD,trivial⟩)
 exact okA ⟨Try.f60,rfl,by decide,rfl⟩
def Xlc (Xeo:XeF) (x:Int) (n:Int):Option Int:=
 cond (decide (n<1))
  (
  some (0))
  (
  cond (decide (n>2147483648))
   (
   some (0))
   (
   (Xeo x (wI .u64 n)).bind fun p=>
   some (wI .i64 p.e0)))
def rx46 (x:Int):Xdu:=⟨.int .i64 x,[],[]⟩
abbrev Xbe:=Int→Int→Option Int
def r46 (g:Xbe):Dec:=dV (asI .u64) fun (y0:Int)=>dV (asI .i64) fun (y1:Int)=>XeC (ofG (g y0 y1) rx46)
theorem r46_c {g:Xbe} {y0:Int} {y1:Int} {x:Int} (hx:g y0 y1=some x):r46 g [.int .u64 y0,.int .i64 y1] []=some (rx46 x):=(Xbz (Xd1 _)).trans ((Xbz (Xd1 _)).trans (Xbc hx))
def s46 (g:Xbe):XcS:=⟨[.v,.v],r46 g⟩
theorem Xnf {g:Xbe} {y0:Int} {y1:Int} {x:Int} (hx:g y0 y1=some x):(s46 g).run [.int .u64 y0,.int .i64 y1] []=some (rx46 x):=r46_c hx
abbrev XHW (Xeo:XeF):List (Nat×XcS):=[(60,s60 Xeo)]
theorem XFO (Xeo:XeF) (hS:XaF Try.prog (XaP (XHW Xeo))) (x:Int) (n:Int) (res:Int) (h:Xlc Xeo x n=some res) :
 XaU Try.prog 46 0 ⟨⟨46,17,[(0,.int .u64 x),(1,.int .i64 n)],[.code XIo],[],false,none⟩,[],[],0⟩ (fun v H _=>Res 0 (rx46 res) v H):=by
 unfold Xlc at h
 have R1:=@XJa Xeo
 refine Xa4 XaM hS true 3000 ?_
 conv=>whnf
 exact W
def XaD:Xbe:=Xlc Xeo
theorem Xm6:XeH Try.prog 46 (s46 XaD):=by
 have hL:=XFO Xeo (XaF.Xba ⟨XJd,trivial⟩)
 exact okA ⟨Try.f46,rfl,by decide,rfl⟩
end Go.Vm.Code
namespace Go.Vm.Code
open Go Go.Vm
theorem XAW {x y:Int} (hx:0≤x∧x<2^64) (hy:0≤y∧y<2^32):Xb7 x y=some (x*y/2^64,wI .u64 (x*y)):=by
 unfold Xb7 XhO
 rw [show (4294967295:Int)=2^32 - 1 from rfl,Xj5 32 rfl (by decide) hx.1 hx.2,Xj5 32 rfl (by decide) hy.1 (by omega),Xwo,Xwo y]
 have hy1:y/2^32=0:=Int.ediv_eq_zero_of_lt hy.1 hy.2
 have hy0:y%2^32=y:=Int.emod_eq_of_lt hy.1 hy.2
 rw [hy1,hy0]
 have e:x*y=x/2^32*y*2^32+x%2^32*y:=by
  have:x=x/2^32*2^32+x%2^32:=by omega
  conv=>lhs;rw [this]
  rw [Int.add_mul,Int.mul_right_comm]
 have b1:0≤x/2^32*y:=Int.mul_nonneg (by omega) hy.1
 have b2:0≤x%2^32*y:=Int.mul_nonneg (by omega) hy.1
 have b3:x/2^32*y≤(2^32 - 1)*(2^32 - 1):=Int.mul_le_mul (by omega) (by omega) hy.1 (by omega)
 have b4:x%2^32*y≤(2^32 - 1)*(2^32 - 1):=Int.mul_le_mul (by omega) (by omega) hy.1 (by omega)
 generalize x/2^32*y=p at *
 generalize x%2^32*y=q at *
 rw [Int.mul_zero,Int.mul_zero,Xoo b2 (by omega),Xoo b1 (by omega),e]
 simp only [Xwo]
 rw [Xoo (n:=0) (by decide) (by decide),Xoo (n:=p+q/2^32) (by omega) (by omega),Xj5 32 rfl (by decide) (by omega) (by omega),Int.add_zero,Int.zero_add,
  Xoo (n:=(p+q/2^32)%2^32) (by omega) (by omega),Xoo (n:=(p+q/2^32)/2^32) (by omega) (by omega),Xoo (by omega) (by omega)]
 congr 2;omega
def scl (x n:Int):Int:=x*n/2^64
theorem XnU {x n:Int} (hx:0≤x∧x<2^64) (hn:1≤n):0≤scl x n∧scl x n<n:=by
 unfold scl
 refine ⟨Int.ediv_nonneg (Int.mul_nonneg hx.1 (by omega)) (by decide),Int.ediv_lt_of_lt_mul (by decide) ?_⟩
 rw [Int.mul_comm];exact Int.mul_lt_mul_of_pos_left hx.2 (by omega)
theorem XBP {x n:Int} (hx:0≤x∧x<2^64) (h1:1≤n) (h2:n≤2147483648):XaD x n=some (scl x n):=by
 unfold XaD Xlc Xeo Xjs
 rw [Xa7 (by omega),Xa7 (by omega),Xoo (by omega) (by omega),XAW hx (by omega)]
 have:=XnU hx h1
 simp only [Option.bind_some]
 show some (wI .i64 (scl x n))=_
 rw [Xf1 (by omega) (by omega)]
theorem Xd3 {S ρ:Type} {step:S→Option (Sum S ρ)} (f:Nat→S) (r:ρ):∀ (n:Nat) (_:∀ j,j<n→step (f j)=some (.inl (f (j+1)))) (_:step (f n)=some (.inr r)) {F:Nat} (_:n<F),iter step F (f 0)=some r:=by
 intro n h1 h2 F hF
 have key:∀ d j F,j+d=n→d<F→iter step F (f j)=some r:=by
  intro d
  induction d with
  | zero=>intro j F hj hF;obtain rfl:j=n:=by omega
          obtain ⟨F,rfl⟩:∃ G,F=G+1:=⟨F - 1,by omega⟩
          rw [iter,h2]
  | succ d ih=>
    intro j F hj hF
    obtain ⟨F,rfl⟩:∃ G,F=G+1:=⟨F - 1,by omega⟩
    rw [iter,h1 j (by omega)];exact ih (j+1) F (by omega) (by omega)
 exact key n 0 F (by omega) hF
def cap (n:Int):Int:=if n<1099511627776 then n else 1099511627776
def Xj8 (e:Xay):Bool:=decide (0≤e.N∧e.N≤1048576)
def XGW (k:Xau) (i:Nat) (t:List UInt8):Int:=XlU tak XB8 t.length (newV ⟨wI .u64 (k.A+wI .u64 (i:Int)),k.B⟩).s t
theorem Xku {k:Xau} {i:Nat} {t:List UInt8} (h:t.length≤20):XaW ⟨wI .u64 (k.A+wI .u64 (i:Int)),k.B⟩ t=some (XGW k i t):=XJu (by omega)
theorem XlZ (k:Xau) (i:Nat) (t:List UInt8):0≤XGW k i t∧XGW k i t<2^64:=XqZ tak XB8 XB2 _ _ _ _ (Nat.le_refl _)
def plN (k:Xau) (p i:Nat) (t:List UInt8):Nat:=(scl (XGW k i t) p).toNat
theorem XdC {p:Nat} (hp:1≤p) (k:Xau) (i:Nat) (t:List UInt8):plN k p i t<p:=by
 have:=XnU (XlZ k i t) (n:=p) (by omega)
 unfold plN;omega
theorem Xd2 {p:Nat} (hp:1≤p) (hp2:p≤4096) (k:Xau) (i:Nat) (t:List UInt8):XaD (XGW k i t) (p:Int)=some (plN k p i t:Int):=by
 have:=XnU (XlZ k i t) (n:=p) (by omega)
 rw [XBP (XlZ k i t) (by omega) (by omega)]
 unfold plN;congr 1;omega
structure SkS where
 R:Nat→List Int
 tot:Int
def Xsf (k:Xau) (p:Nat) (t:List UInt8) (N:Int) (i:Nat) (row:List Int):List Int:=row.set (plN k p i t) (cap (row.getD (plN k p i t) 0+N))
def stepS (k:Xau) (p:Nat) (x:SkS) (e:Xay):SkS:=if Xj8 e=true then ⟨fun i=>Xsf k p e.Text e.N i (x.R i),cap (x.tot+e.N)⟩ else x
def newS (p:Nat):SkS:=⟨fun _=>List.replicate p 0,0⟩
def SK (k:Xau) (p:Nat) (l:List Xay):SkS:=l.foldl (stepS k p) (newS p)
theorem XhH (k:Xau) (p:Nat) {l:List Xay} {j:Nat} (h:j<l.length):SK k p (l.take (j+1))=stepS k p (SK k p (l.take j)) l[j]:=by
 unfold SK;rw [List.take_succ_eq_append_getElem h,List.foldl_append];rfl
structure Xdl (p:Nat) (x:SkS):Prop where
 len:∀ i,(x.R i).length=p
 rng:∀ i,∀ e∈x.R i,0≤e∧e≤1099511627776
 tot:0≤x.tot∧x.tot≤1099511627776
theorem Xov {n:Int} (h:0≤n):0≤cap n∧cap n≤1099511627776:=by unfold cap;split<;>omega
theorem Xdl.new (p:Nat):Xdl p (newS p):=⟨fun _=>List.length_replicate,fun _ e h=>by rw [(List.mem_replicate.1 h).2];decide,⟨Int.le_refl 0,by show (0:Int)≤_;decide⟩⟩
theorem Xdl.getD {p:Nat} {x:SkS} (h:Xdl p x) (i q:Nat):0≤(x.R i).getD q 0∧(x.R i).getD q 0≤1099511627776:=by
 rw [List.getD_eq_getElem?_getD]
 cases hq:(x.R i)[q]? with
 | none=>exact ⟨Int.le_refl _,by decide⟩
 | some e=>exact h.rng i e (List.mem_of_getElem? hq)
theorem Xdl.step {p:Nat} {x:SkS} (h:Xdl p x) (k:Xau) (e:Xay):Xdl p (stepS k p x e):=by
 unfold stepS
 split
 ·rename_i hm
  have hN:0≤e.N∧e.N≤1048576:=of_decide_eq_true hm
  refine ⟨fun i=>by simp [Xsf,h.len i],fun i v hv=>?_,Xov (by have:=h.tot;omega)⟩
  rcases List.mem_or_eq_of_mem_set hv with hv|rfl
  ·exact h.rng i v hv
  ·exact Xov (by have:=(h.getD i (plN k p i e.Text)).1;omega)
 ·exact h
theorem Xdl.SK (k:Xau) (p:Nat) (l:List Xay):Xdl p (SK k p l):=by
 have:∀ (l:List Xay) x,Xdl p x→Xdl p (l.foldl (stepS k p) x):=by
  intro l
  induction l with
  | nil=>exact fun x h=>h
  | cons e l ih=>exact fun x h=>ih _ (h.step k e)
 exact this l _ (.new p)
def Xly (k:Xau) (p:Nat) (x:SkS) (t:List UInt8):Nat→Int
 | 0=>1099511627776
 | i+1=>if (x.R i).getD (plN k p i t) 0<Xly k p x t i then (x.R i).getD (plN k p i t) 0 else Xly k p x t i
end Go.Vm.Code
namespace Go.Vm.Code
open Go Go.Vm Go.Proofs
set_option maxRecDepth 100000
set_option maxHeartbeats 4000000
set_option linter.unusedVariables false
def Xjd (rows:Int) (places:Int) (k:Xau):Option Xbt:=
 cond (decide (rows<1))
  (
  some (Xbt.nil))
  (
  cond (decide (rows>8))
   (
   some (Xbt.nil))
   (
   cond (decide (places<1))
    (
    some (Xbt.nil))
    (
    cond (decide (places>4096))
     (
     some (Xbt.nil))
     (
     cond (decide (0<rows))
      (
      XaQ (decide (0≤places∧places≤places∧places<2^63∧(8:Int)*places≤2^48)) <|
      cond (decide (1<rows))
       (
       XaQ (decide (0≤places∧places≤places∧places<2^63∧(8:Int)*places≤2^48)) <|
       cond (decide (2<rows))
        (
        XaQ (decide (0≤places∧places≤places∧places<2^63∧(8:Int)*places≤2^48)) <|
        cond (decide (3<rows))
         (
         XaQ (decide (0≤places∧places≤places∧places<2^63∧(8:Int)*places≤2^48)) <|
         cond (decide (4<rows))
          (
          XaQ (decide (0≤places∧places≤places∧places<2^63∧(8:Int)*places≤2^48)) <|
          cond (decide (5<rows))
           (
           XaQ (decide (0≤places∧places≤places∧places<2^63∧(8:Int)*places≤2^48)) <|
           cond (decide (6<rows))
            (
            XaQ (decide (0≤places∧places≤places∧places<2^63∧(8:Int)*places≤2^48)) <|
            cond (decide (7<rows))
             (
             XaQ (decide (0≤places∧places≤places∧places<2^63∧(8:Int)*places≤2^48)) <|
             cond (decide (8<rows))
              (
              XaQ (decide (0≤places∧places≤places∧places<2^63∧(8:Int)*places≤2^48)) <|
              none)
              (
              some (Xbt.v8 (Xak.mk k (XbC.mk (List.replicate places.toNat (0)) (List.replicate places.toNat (0)) (List.replicate places.toNat (0)) (List.replicate places.toNat (0)) (List.replicate places.toNat (0)) (List.replicate places.toNat (0)) (List.replicate places.toNat (0)) (List.replicate places.toNat (0)) places.toNat places.toNat places.toNat places.toNat places.toNat places.toNat places.toNat places.toNat) 0))))
             (
             some (Xbt.v7 (Xal.mk k (XbV.mk (List.replicate places.toNat (0)) (List.replicate places.toNat (0)) (List.replicate places.toNat (0)) (List.replicate places.toNat (0)) (List.replicate places.toNat (0)) (List.replicate places.toNat (0)) (List.replicate places.toNat (0)) places.toNat places.toNat places.toNat places.toNat places.toNat places.toNat places.toNat) 0))))
            (
            some (Xbt.v6 (Xan.mk k (Xb8.mk (List.replicate places.toNat (0)) (List.replicate places.toNat (0)) (List.replicate places.toNat (0)) (List.replicate places.toNat (0)) (List.replicate places.toNat (0)) (List.replicate places.toNat (0)) places.toNat places.toNat places.toNat places.toNat places.toNat places.toNat) 0))))
           (
           some (Xbt.v5 (Xap.mk k (XcH.mk (List.replicate places.toNat (0)) (List.replicate places.toNat (0)) (List.replicate places.toNat (0)) (List.replicate places.toNat (0)) (List.replicate places.toNat (0)) places.toNat places.toNat places.toNat places.toNat places.toNat) 0))))
          (
          some (Xbt.v4 (Xar.mk k (Xc7.mk (List.replicate places.toNat (0)) (List.replicate places.toNat (0)) (List.replicate places.toNat (0)) (List.replicate places.toNat (0)) places.toNat places.toNat places.toNat places.toNat) 0))))
         (
         some (Xbt.v3 (Xav.mk k (Xdr.mk (List.replicate places.toNat (0)) (List.replicate places.toNat (0)) (List.replicate places.toNat (0)) places.toNat places.toNat places.toNat) 0))))
        (
        some (Xbt.v2 (Xax.mk k (XdA.mk (List.replicate places.toNat (0)) (List.replicate places.toNat (0)) places.toNat places.toNat) 0))))
       (
       some (Xbt.v1 (XaA.mk k (Xd4.mk (List.replicate places.toNat (0)) places.toNat) 0))))
      (
      none)))))
def rx10 (x:Xbt):Xdu:=match x with
 | .nil=>⟨.pointer none,[],[]⟩
 | .v1 x=>⟨.pointer (some ⟨0,0,none⟩),[[.int .u64 x.key.A,.int .u64 x.key.B,.slice (some ⟨1,0,none⟩) 1 1,.int .i64 x.total],[.slice (some ⟨2,0,none⟩) x.rows.m0 1],(vI .i64 x.rows.e0)],[]⟩
 | .v2 x=>⟨.pointer (some ⟨0,0,none⟩),[[.int .u64 x.key.A,.int .u64 x.key.B,.slice (some ⟨1,0,none⟩) 2 1,.int .i64 x.total],[.slice (some ⟨2,0,none⟩) x.rows.m0 1,.slice (some ⟨3,0,none⟩) x.rows.m1 1],(vI .i64 x.rows.e0),(vI .i64 x.rows.e1)],[]⟩
 | .v3 x=>⟨.pointer (some ⟨0,0,none⟩),[[.int .u64 x.key.A,.int .u64 x.key.B,.slice (some ⟨1,0,none⟩) 3 1,.int .i64 x.total],[.slice (some ⟨2,0,none⟩) x.rows.m0 1,.slice (some ⟨3,0,none⟩) x.rows.m1 1,.slice (some ⟨4,0,none⟩) x.rows.m2 1],(vI .i64 x.rows.e0),(vI .i64 x.rows.e1),(vI .i64 x.rows.e2)],[]⟩
 | .v4 x=>⟨.pointer (some ⟨0,0,none⟩),[[.int .u64 x.key.A,.int .u64 x.key.B,.slice (some ⟨1,0,none⟩) 4 1,.int .i64 x.total],[.slice (some ⟨2,0,none⟩) x.rows.m0 1,.slice (some ⟨3,0,none⟩) x.rows.m1 1,.slice (some ⟨4,0,none⟩) x.rows.m2 1,.slice (some ⟨5,0,none⟩) x.rows.m3 1],(vI .i64 x.rows.e0),(vI .i64 x.rows.e1),(vI .i64 x.rows.e2),(vI .i64 x.rows.e3)],[]⟩
 | .v5 x=>⟨.pointer (some ⟨0,0,none⟩),[[.int .u64 x.key.A,.int .u64 x.key.B,.slice (some ⟨1,0,none⟩) 5 1,.int .i64 x.total],[.slice (some ⟨2,0,none⟩) x.rows.m0 1,.slice (some ⟨3,0,none⟩) x.rows.m1 1,.slice (some ⟨4,0,none⟩) x.rows.m2 1,.slice (some ⟨5,0,none⟩) x.rows.m3 1,.slice (some ⟨6,0,none⟩) x.rows.m4 1],(vI .i64 x.rows.e0),(vI .i64 x.rows.e1),(vI .i64 x.rows.e2),(vI .i64 x.rows.e3),(vI .i64 x.rows.e4)],[]⟩
 | .v6 x=>⟨.pointer (some ⟨0,0,none⟩),[[.int .u64 x.key.A,.int .u64 x.key.B,.slice (some ⟨1,0,none⟩) 6 1,.int .i64 x.total],[.slice (some ⟨2,0,none⟩) x.rows.m0 1,.slice (some ⟨3,0,none⟩) x.rows.m1 1,.slice (some ⟨4,0,none⟩) x.rows.m2 1,.slice (some ⟨5,0,none⟩) x.rows.m3 1,.slice (some ⟨6,0,none⟩) x.rows.m4 1,.slice (some ⟨7,0,none⟩) x.rows.m5 1],(vI .i64 x.rows.e0),(vI .i64 x.rows.e1),(vI .i64 x.rows.e2),(vI .i64 x.rows.e3),(vI .i64 x.rows.e4),(vI .i64 x.rows.e5)],[]⟩
 | .v7 x=>⟨.pointer (some ⟨0,0,none⟩),[[.int .u64 x.key.A,.int .u64 x.key.B,.slice (some ⟨1,0,none⟩) 7 1,.int .i64 x.total],[.slice (some ⟨2,0,none⟩) x.rows.m0 1,.slice (some ⟨3,0,none⟩) x.rows.m1 1,.slice (some ⟨4,0,none⟩) x.rows.m2 1,.slice (some ⟨5,0,none⟩) x.rows.m3 1,.slice (some ⟨6,0,none⟩) x.rows.m4 1,.slice (some ⟨7,0,none⟩) x.rows.m5 1,.slice (some ⟨8,0,none⟩) x.rows.m6 1],(vI .i64 x.rows.e0),(vI .i64 x.rows.e1),(vI .i64 x.rows.e2),(vI .i64 x.rows.e3),(vI .i64 x.rows.e4),(vI .i64 x.rows.e5),(vI .i64 x.rows.e6)],[]⟩
 | .v8 x=>⟨.pointer (some ⟨0,0,none⟩),[[.int .u64 x.key.A,.int .u64 x.key.B,.slice (some ⟨1,0,none⟩) 8 1,.int .i64 x.total],[.slice (some ⟨2,0,none⟩) x.rows.m0 1,.slice (some ⟨3,0,none⟩) x.rows.m1 1,.slice (some ⟨4,0,none⟩) x.rows.m2 1,.slice (some ⟨5,0,none⟩) x.rows.m3 1,.slice (some ⟨6,0,none⟩) x.rows.m4 1,.slice (some ⟨7,0,none⟩) x.rows.m5 1,.slice (some ⟨8,0,none⟩) x.rows.m6 1,.slice (some ⟨9,0,none⟩) x.rows.m7 1],(vI .i64 x.rows.e0),(vI .i64 x.rows.e1),(vI .i64 x.rows.e2),(vI .i64 x.rows.e3),(vI .i64 x.rows.e4),(vI .i64 x.rows.e5),(vI .i64 x.rows.e6),(vI .i64 x.rows.e7)],[]⟩
abbrev XaT:=Int→Int→Xau→Option Xbt
def r10 (g:XaT):Dec:=dV (asI .i64) fun (y0:Int)=>dV (asI .i64) fun (y1:Int)=>dV XhK fun (y2:Xau)=>XeC (ofG (g y0 y1 y2) rx10)
theorem r10_c {g:XaT} {y0:Int} {y1:Int} {y2:Xau} {x:Xbt} (hx:g y0 y1 y2=some x):r10 g [.int .i64 y0,.int .i64 y1,.agg ⟨[.int .u64 y2.A,.int .u64 y2.B]⟩] []=some (rx10 x):=(Xbz (Xd1 _)).trans ((Xbz (Xd1 _)).trans ((Xbz (Xiq _)).trans (Xbc hx)))
def s10 (g:XaT):XcS:=⟨[.v,.v,.v],r10 g⟩
theorem Xe9 {g:XaT} {y0:Int} {y1:Int} {y2:Xau} {x:Xbt} (hx:g y0 y1 y2=some x):(s10 g).run [.int .i64 y0,.int .i64 y1,.agg ⟨[.int .u64 y2.A,.int .u64 y2.B]⟩] []=some (rx10 x):=r10_c hx
abbrev XJk:List (Nat×XcS):=[]
theorem XFB (hS:XaF Try.prog (XaP (XJk))) (rows:Int) (places:Int) (k:Xau) (res:Xbt) (h:Xjd rows places k=some res) :
 XaU Try.prog 10 0 ⟨⟨10,41,[(0,.int .i64 rows),(1,.int .i64 places),(2,.agg ⟨[.int .u64 k.A,.int .u64 k.B]⟩)],[.code XDy],[],false,none⟩,[],[],0⟩ (fun v H _=>Res 0 (rx10 res) v H):=by
 unfold Xjd at h
 refine Xa4 XaM hS true 3000 ?_
 conv=>whnf
 refine br.h h (by rfl) ?_ ?_
 ·clear h;intro hb h;conv=>whnf
  all_goals (cases h;exact Res.y)
 clear h;intro hb h;conv=>whnf
 refine br.h h (by rfl) ?_ ?_
 ·clear h;intro hb h;conv=>whnf
  all_goals (cases h;exact Res.y)
 clear h;intro hb h;conv=>whnf
 refine br.h h (by rfl) ?_ ?_
 ·clear h;intro hb h;conv=>whnf
  all_goals (cases h;exact Res.y)
 clear h;intro hb h;conv=>whnf
 refine br.h h (by rfl) ?_ ?_
 ·clear h;intro hb h;conv=>whnf
  all_goals (cases h;exact Res.y)
 clear h;intro hb h;conv=>whnf
 refine Xa4 XaM hS true 3000 ?_
 conv=>whnf
 refine br.h2 h (by rfl) ?_ ?_
 ·clear h;intro hb h;conv=>whnf
  exact W
 clear h;intro hb h;conv=>whnf
 replace h:=XaQ.elim h;obtain ⟨hb,h⟩:=h
 try (refine req.intro hb ?_;conv=>whnf)
 refine XmE ?_
 conv=>whnf
 refine ⟨[.slice (some ⟨8,0,none⟩) places.toNat 1],1,rfl,rfl,?_⟩
 conv=>whnf
 refine Xa4 XaM hS true 3000 ?_
 conv=>whnf
 refine br.h2 h (by rfl) ?_ ?_
 ·clear h;intro hb h;conv=>whnf
  all_goals (cases h)
  all_goals exact Res.of [1,12,8] rfl (Xiv (rfl) (Xhc rfl) (Xiv (rfl) (XcV rfl) (Xiv (Xjg) (XcV rfl) Xt8))) (by decide) (Xiw (by decide) (Xiw (by decide) (Xiw (by decide) Xuy))) Xuu
 clear h;intro hb h;conv=>whnf
 replace h:=XaQ.elim h;obtain ⟨hb,h⟩:=h
 try (refine req.intro hb ?_;conv=>whnf)
 refine XmE ?_
 conv=>whnf
 refine ⟨[.slice (some ⟨8,0,none⟩) places.toNat 1,.slice (some ⟨20,0,none⟩) places.toNat 1],2,rfl,rfl,?_⟩
 conv=>whnf
 refine Xa4 XaM hS true 3000 ?_
 conv=>whnf
 refine br.h2 h (by rfl) ?_ ?_
 ·clear h;intro hb h;conv=>whnf
  all_goals (cases h)
  all_goals exact Res.of [1,24,8,20] rfl (Xiv (rfl) (Xhc rfl) (Xiv (rfl) (XcV rfl) (Xiv (Xjg) (XcV rfl) (Xiv (Xjg) (XcV rfl) Xt8)))) (by decide) (Xiw (by decide) (Xiw (by decide) (Xiw (by decide) (Xiw (by decide) Xuy)))) Xuu
 clear h;intro hb h;conv=>whnf
 replace h:=XaQ.elim h;obtain ⟨hb,h⟩:=h
 try (refine req.intro hb ?_;conv=>whnf)
 refine XmE ?_
 conv=>whnf
 refine ⟨[.slice (some ⟨8,0,none⟩) places.toNat 1,.slice (some ⟨20,0,none⟩) places.toNat 1,.slice (some ⟨32,0,none⟩) places.toNat 1],3,rfl,rfl,?_⟩
 conv=>whnf
 refine Xa4 XaM hS true 3000 ?_
 conv=>whnf
 refine br.h2 h (by rfl) ?_ ?_
 ·clear h;intro hb h;conv=>whnf
  all_goals (cases h)
  all_goals exact Res.of [1,36,8,20,32] rfl (Xiv (rfl) (Xhc rfl) (Xiv (rfl) (XcV rfl) (Xiv (Xjg) (XcV rfl) (Xiv (Xjg) (XcV rfl) (Xiv (Xjg) (XcV rfl) Xt8))))) (by decide) (Xiw (by decide) (Xiw (by decide) (Xiw (by decide) (Xiw (by decide) (Xiw (by decide) Xuy))))) Xuu
 clear h;intro hb h;conv=>whnf
 replace h:=XaQ.elim h;obtain ⟨hb,h⟩:=h
 try (refine req.intro hb ?_;conv=>whnf)
 refine XmE ?_
 conv=>whnf
 refine ⟨[.slice (some ⟨8,0,none⟩) places.toNat 1,.slice (some ⟨20,0,none⟩) places.toNat 1,.slice (some ⟨32,0,none⟩) places.toNat 1,.slice (some ⟨44,0,none⟩) places.toNat 1],4,rfl,rfl,?_⟩
 conv=>whnf
 refine Xa4 XaM hS true 3000 ?_
 conv=>whnf
 refine br.h2 h (by rfl) ?_ ?_
 ·clear h;intro hb h;conv=>whnf
  all_goals (cases h)
  all_goals exact Res.of [1,48,8,20,32,44] rfl (Xiv (rfl) (Xhc rfl) (Xiv (rfl) (XcV rfl) (Xiv (Xjg) (XcV rfl) (Xiv (Xjg) (XcV rfl) (Xiv (Xjg) (XcV rfl) (Xiv (Xjg) (XcV rfl) Xt8)))))) (by decide) (Xiw (by decide) (Xiw (by decide) (Xiw (by decide) (Xiw (by decide) (Xiw (by decide) (Xiw (by decide) Xuy)))))) Xuu
 clear h;intro hb h;conv=>whnf
 replace h:=XaQ.elim h;obtain ⟨hb,h⟩:=h
 try (refine req.intro hb ?_;conv=>whnf)
 refine XmE ?_
 conv=>whnf
 refine ⟨[.slice (some ⟨8,0,none⟩) places.toNat 1,.slice (some ⟨20,0,none⟩) places.toNat 1,.slice (some ⟨32,0,none⟩) places.toNat 1,.slice (some ⟨44,0,none⟩) places.toNat 1,.slice (some ⟨56,0,none⟩) places.toNat 1],5,rfl,rfl,?_⟩
 conv=>whnf
 refine Xa4 XaM hS true 3000 ?_
 conv=>whnf
 refine br.h2 h (by rfl) ?_ ?_
 ·clear h;intro hb h;conv=>whnf
  all_goals (cases h)
  all_goals exact Res.of [1,60,8,20,32,44,56] rfl (Xiv (rfl) (Xhc rfl) (Xiv (rfl) (XcV rfl) (Xiv (Xjg) (XcV rfl) (Xiv (Xjg) (XcV rfl) (Xiv (Xjg) (XcV rfl) (Xiv (Xjg) (XcV rfl) (Xiv (Xjg) (XcV rfl) Xt8))))))) (by decide) (Xiw (by decide) (Xiw (by decide) (Xiw (by decide) (Xiw (by decide) (Xiw (by decide) (Xiw (by decide) (Xiw (by decide) Xuy))))))) Xuu
 clear h;intro hb h;conv=>whnf
 replace h:=XaQ.elim h;obtain ⟨hb,h⟩:=h
 try (refine req.intro hb ?_;conv=>whnf)
 refine XmE ?_
 conv=>whnf
 refine ⟨[.slice (some ⟨8,0,none⟩) places.toNat 1,.slice (some ⟨20,0,none⟩) places.toNat 1,.slice (some ⟨32,0,none⟩) places.toNat 1,.slice (some ⟨44,0,none⟩) places.toNat 1,.slice (some ⟨56,0,none⟩) places.toNat 1,.slice (some ⟨68,0,none⟩) places.toNat 1],6,rfl,rfl,?_⟩
 conv=>whnf
 refine Xa4 XaM hS true 3000 ?_
 conv=>whnf
 refine br.h2 h (by rfl) ?_ ?_
 ·clear h;intro hb h;conv=>whnf
  all_goals (cases h)
  all_goals exact Res.of [1,72,8,20,32,44,56,68] rfl (Xiv (rfl) (Xhc rfl) (Xiv (rfl) (XcV rfl) (Xiv (Xjg) (XcV rfl) (Xiv (Xjg) (XcV rfl) (Xiv (Xjg) (XcV rfl) (Xiv (Xjg) (XcV rfl) (Xiv (Xjg) (XcV rfl) (Xiv (Xjg) (XcV rfl) Xt8)))))))) (by decide) (Xiw (by decide) (Xiw (by decide) (Xiw (by decide) (Xiw (by decide) (Xiw (by decide) (Xiw (by decide) (Xiw (by decide) (Xiw (by decide) Xuy)))))))) Xuu
 clear h;intro hb h;conv=>whnf
 replace h:=XaQ.elim h;obtain ⟨hb,h⟩:=h
 try (refine req.intro hb ?_;conv=>whnf)
 refine XmE ?_
 conv=>whnf
 refine ⟨[.slice (some ⟨8,0,none⟩) places.toNat 1,.slice (some ⟨20,0,none⟩) places.toNat 1,.slice (some ⟨32,0,none⟩) places.toNat 1,.slice (some ⟨44,0,none⟩) places.toNat 1,.slice (some ⟨56,0,none⟩) places.toNat 1,.slice (some ⟨68,0,none⟩) places.toNat 1,.slice (some ⟨80,0,none⟩) places.toNat 1],7,rfl,rfl,?_⟩
 conv=>whnf
 refine Xa4 XaM hS true 3000 ?_
 conv=>whnf
 refine br.h2 h (by rfl) ?_ ?_
 ·clear h;intro hb h;conv=>whnf
  all_goals (cases h)
  all_goals exact Res.of [1,84,8,20,32,44,56,68,80] rfl (Xiv (rfl) (Xhc rfl) (Xiv (rfl) (XcV rfl) (Xiv (Xjg) (XcV rfl) (Xiv (Xjg) (XcV rfl) (Xiv (Xjg) (XcV rfl) (Xiv (Xjg) (XcV rfl) (Xiv (Xjg) (XcV rfl) (Xiv (Xjg) (XcV rfl) (Xiv (Xjg) (XcV rfl) Xt8))))))))) (by decide) (Xiw (by decide) (Xiw (by decide) (Xiw (by decide) (Xiw (by decide) (Xiw (by decide) (Xiw (by decide) (Xiw (by decide) (Xiw (by decide) (Xiw (by decide) Xuy))))))))) Xuu
 clear h;intro hb h;conv=>whnf
 replace h:=XaQ.elim h;obtain ⟨hb,h⟩:=h
 try (refine req.intro hb ?_;conv=>whnf)
 refine XmE ?_
 conv=>whnf
 refine ⟨[.slice (some ⟨8,0,none⟩) places.toNat 1,.slice (some ⟨20,0,none⟩) places.toNat 1,.slice (some ⟨32,0,none⟩) places.toNat 1,.slice (some ⟨44,0,none⟩) places.toNat 1,.slice (some ⟨56,0,none⟩) places.toNat 1,.slice (some ⟨68,0,none⟩) places.toNat 1,.slice (some ⟨80,0,none⟩) places.toNat 1,.slice (some ⟨92,0,none⟩) places.toNat 1],8,rfl,rfl,?_⟩
 conv=>whnf
 refine Xa4 XaM hS true 3000 ?_
 conv=>whnf
 refine br.h2 h (by rfl) ?_ ?_
 ·clear h;intro hb h;conv=>whnf
  all_goals (cases h)
  all_goals exact Res.of [1,96,8,20,32,44,56,68,80,92] rfl (Xiv (rfl) (Xhc rfl) (Xiv (rfl) (XcV rfl) (Xiv (Xjg) (XcV rfl) (Xiv (Xjg) (XcV rfl) (Xiv (Xjg) (XcV rfl) (Xiv (Xjg) (XcV rfl) (Xiv (Xjg) (XcV rfl) (Xiv (Xjg) (XcV rfl) (Xiv (Xjg) (XcV rfl) (Xiv (Xjg) (XcV rfl) Xt8)))))))))) (by decide) (Xiw (by decide) (Xiw (by decide) (Xiw (by decide) (Xiw (by decide) (Xiw (by decide) (Xiw (by decide) (Xiw (by decide) (Xiw (by decide) (Xiw (by decide) (Xiw (by decide) Xuy)))))))))) Xuu
 clear h;intro hb h;conv=>whnf
 replace h:=XaQ.elim h;obtain ⟨hb,h⟩:=h
 try (refine req.intro hb ?_;conv=>whnf)
 refine XmE ?_
 conv=>whnf
 refine ⟨[.slice (some ⟨8,0,none⟩) places.toNat 1,.slice (some ⟨20,0,none⟩) places.toNat 1,.slice (some ⟨32,0,none⟩) places.toNat 1,.slice (some ⟨44,0,none⟩) places.toNat 1,.slice (some ⟨56,0,none⟩) places.toNat 1,.slice (some ⟨68,0,none⟩) places.toNat 1,.slice (some ⟨80,0,none⟩) places.toNat 1,.slice (some ⟨92,0,none⟩) places.toNat 1,.slice (some ⟨104,0,none⟩) places.toNat 1],9,rfl,rfl,?_⟩
 conv=>whnf
 exact W
def Xao:XaT:=Xjd
theorem XHp:XeH Try.prog 10 (s10 Xao):=by
 have hL:=XFB (XaF.Xba trivial)
 exact okA ⟨Try.f10,rfl,by decide,rfl⟩
def Xg4:Option Bool:=
 some (false)
def XwD (x:Bool):Xdu:=⟨.bool x,[],[none,none,none,none,none,none,none,none,none,none]⟩
abbrev Xft:=Option Bool
def r38vn (g:Xft):Dec:=dNl 10<|XeC (ofG (g) XwD)
abbrev XB5:List (Nat×XcS):=[]
theorem Xxn (hS:XaF Try.prog (XaP (XB5))) (res:Bool) (h:Xg4=some res) :
 XaU Try.prog 38 10 ⟨⟨38,13,[(0,.pointer none)],[.code Xn1],[],false,none⟩,[],[],10⟩ (fun v H _=>Res 10 (XwD res) v H):=by
 unfold Xg4 at h
 refine Xa4 XaM hS true 3000 ?_
 conv=>whnf
 exact W
def Xhb (s:Xaz):Option Bool:=
 some (false)
def Xxq (x:Bool):Xdu:=⟨.bool x,[],[none,none,none,none,none,none,none,none,none,none]⟩
abbrev Xfx:=Xaz→Option Bool
def r38v0 (g:Xfx):Dec:=dTr 10 (XcF 0) fun (y0:Xaz)=>XeC (ofG (g y0) Xxq)
abbrev XA0:List (Nat×XcS):=[]
theorem XwH (hS:XaF Try.prog (XaP (XA0))) (s:Xaz) (res:Bool) (h:Xhb s=some res) :
 XaU Try.prog 38 10 ⟨⟨38,13,[(0,.pointer (some ⟨0,0,none⟩))],[.code Xn1],[],false,none⟩,[],[(0,.row false [.int .u64 s.key.A,.int .u64 s.key.B,.slice none 0 0,.int .i64 s.total])],10⟩ (fun v H _=>Res 10 (Xxq res) v H):=by
 unfold Xhb at h
 have J:=js []
 refine Xa4 XaM hS true 3000 ?_
 conv=>whnf
 exact W
def Xha (s:XaA):Option Bool:=
 some (true)
def XwS (x:Bool):Xdu:=⟨.bool x,[],[none,none,none,none,none,none,none,none,none,none]⟩
abbrev Xgd:=XaA→Option Bool
def r38v1 (g:Xgd):Dec:=dTr 10 (XbE 0) fun (y0:XaA)=>XeC (ofG (g y0) XwS)
abbrev XB4:List (Nat×XcS):=[]
theorem Xx3 (hS:XaF Try.prog (XaP (XB4))) (s:XaA) (res:Bool) (h:Xha s=some res) :
 XaU Try.prog 38 10 ⟨⟨38,13,[(0,.pointer (some ⟨0,0,none⟩))],[.code Xn1],[],false,none⟩,[],[(0,.row false [.int .u64 s.key.A,.int .u64 s.key.B,.slice (some ⟨1,0,none⟩) 1 1,.int .i64 s.total]),(1,.row false [.slice (some ⟨2,0,none⟩) s.rows.m0 1]),(2,.row false (vI .i64 s.rows.e0))],10⟩ (fun v H _=>Res 10 (XwS res) v H):=by
 unfold Xha at h
 have J:=js []
 refine Xa4 XaM hS true 3000 ?_
 conv=>whnf
 exact W
def XgZ (s:Xax):Option Bool:=
 some (true)
def XyG (x:Bool):Xdu:=⟨.bool x,[],[none,none,none,none,none,none,none,none,none,none]⟩
abbrev XfN:=Xax→Option Bool
def r38v2 (g:XfN):Dec:=dTr 10 (XbL 0) fun (y0:Xax)=>XeC (ofG (g y0) XyG)
abbrev XBM:List (Nat×XcS):=[]
theorem XyN (hS:XaF Try.prog (XaP (XBM))) (s:Xax) (res:Bool) (h:XgZ s=some res) :
 XaU Try.prog 38 10 ⟨⟨38,13,[(0,.pointer (some ⟨0,0,none⟩))],[.code Xn1],[],false,none⟩,[],[(0,.row false [.int .u64 s.key.A,.int .u64 s.key.B,.slice (some ⟨1,0,none⟩) 2 1,.int .i64 s.total]),(1,.row false [.slice (some ⟨2,0,none⟩) s.rows.m0 1,.slice (some ⟨3,0,none⟩) s.rows.m1 1]),(2,.row false (vI .i64 s.rows.e0)),(3,.row false (vI .i64 s.rows.e1))],10⟩ (fun v H _=>Res 10 (XyG res) v H):=by
 unfold XgZ at h
 have J:=js []
 refine Xa4 XaM hS true 3000 ?_
 conv=>whnf
 exact W
def XgD (s:Xav):Option Bool:=
 some (true)
def Xxm (x:Bool):Xdu:=⟨.bool x,[],[none,none,none,none,none,none,none,none,none,none]⟩
abbrev XfQ:=Xav→Option Bool
def r38v3 (g:XfQ):Dec:=dTr 10 (XbM 0) fun (y0:Xav)=>XeC (ofG (g y0) Xxm)
abbrev XCh:List (Nat×XcS):=[]
theorem XwK (hS:XaF Try.prog (XaP (XCh))) (s:Xav) (res:Bool) (h:XgD s=some res) :
 XaU Try.prog 38 10 ⟨⟨38,13,[(0,.pointer (some ⟨0,0,none⟩))],[.code Xn1],[],false,none⟩,[],[(0,.row false [.int .u64 s.key.A,.int .u64 s.key.B,.slice (some ⟨1,0,none⟩) 3 1,.int .i64 s.total]),(1,.row false [.slice (some ⟨2,0,none⟩) s.rows.m0 1,.slice (some ⟨3,0,none⟩) s.rows.m1 1,.slice (some ⟨4,0,none⟩) s.rows.m2 1]),(2,.row false (vI .i64 s.rows.e0)),(3,.row false (vI .i64 s.rows.e1)),(4,.row false (vI .i64 s.rows.e2))],10⟩ (fun v H _=>Res 10 (Xxm res) v H):=by
 unfold XgD at h
 have J:=js []
 refine Xa4 XaM hS true 3000 ?_
 conv=>whnf
 exact W
def XgY (s:Xar):Option Bool:=
 some (true)
def XwQ (x:Bool):Xdu:=⟨.bool x,[],[none,none,none,none,none,none,none,none,none,none]⟩
abbrev XfO:=Xar→Option Bool
def r38v4 (g:XfO):Dec:=dTr 10 (XbG 0) fun (y0:Xar)=>XeC (ofG (g y0) XwQ)
abbrev XBY:List (Nat×XcS):=[]
theorem Xzv (hS:XaF Try.prog (XaP (XBY))) (s:Xar) (res:Bool) (h:XgY s=some res) :
 XaU Try.prog 38 10 ⟨⟨38,13,[(0,.pointer (some ⟨0,0,none⟩))],[.code Xn1],[],false,none⟩,[],[(0,.row false [.int .u64 s.key.A,.int .u64 s.key.B,.slice (some ⟨1,0,none⟩) 4 1,.int .i64 s.total]),(1,.row false [.slice (some ⟨2,0,none⟩) s.rows.m0 1,.slice (some ⟨3,0,none⟩) s.rows.m1 1,.slice (some ⟨4,0,none⟩) s.rows.m2 1,.slice (some ⟨5,0,none⟩) s.rows.m3 1]),(2,.row false (vI .i64 s.rows.e0)),(3,.row false (vI .i64 s.rows.e1)),(4,.row false (vI .i64 s.rows.e2)),(5,.row false (vI .i64 s.rows.e3))],10⟩ (fun v H _=>Res 10 (XwQ res) v H):=by
 unfold XgY at h
 have J:=js []
 refine Xa4 XaM hS true 3000 ?_
 conv=>whnf
 exact W
def Xg8 (s:Xap):Option Bool:=
 some (true)
def Xwx (x:Bool):Xdu:=⟨.bool x,[],[none,none,none,none,none,none,none,none,none,none]⟩
abbrev XfZ:=Xap→Option Bool
def r38v5 (g:XfZ):Dec:=dTr 10 (XbK 0) fun (y0:Xap)=>XeC (ofG (g y0) Xwx)
abbrev XBO:List (Nat×XcS):=[]
theorem XxI (hS:XaF Try.prog (XaP (XBO))) (s:Xap) (res:Bool) (h:Xg8 s=some res) :
 XaU Try.prog 38 10 ⟨⟨38,13,[(0,.pointer (some ⟨0,0,none⟩))],[.code Xn1],[],false,none⟩,[],[(0,.row false [.int .u64 s.key.A,.int .u64 s.key.B,.slice (some ⟨1,0,none⟩) 5 1,.int .i64 s.total]),(1,.row false [.slice (some ⟨2,0,none⟩) s.rows.m0 1,.slice (some ⟨3,0,none⟩) s.rows.m1 1,.slice (some ⟨4,0,none⟩) s.rows.m2 1,.slice (some ⟨5,0,none⟩) s.rows.m3 1,.slice (some ⟨6,0,none⟩) s.rows.m4 1]),(2,.row false (vI .i64 s.rows.e0)),(3,.row false (vI .i64 s.rows.e1)),(4,.row false (vI .i64 s.rows.e2)),(5,.row false (vI .i64 s.rows.e3)),(6,.row false (vI .i64 s.rows.e4))],10⟩ (fun v H _=>Res 10 (Xwx res) v H):=by
 unfold Xg8 at h
 have J:=js []
 refine Xa4 XaM hS true 3000 ?_
 conv=>whnf
 exact W
def XgG (s:Xan):Option Bool:=
 some (true)
def XzT (x:Bool):Xdu:=⟨.bool x,[],[none,none,none,none,none,none,none,none,none,none]⟩
abbrev XfE:=Xan→Option Bool
def r38v6 (g:XfE):Dec:=dTr 10 (XbF 0) fun (y0:Xan)=>XeC (ofG (g y0) XzT)
abbrev XBy:List (Nat×XcS):=[]
theorem Xze (hS:XaF Try.prog (XaP (XBy))) (s:Xan) (res:Bool) (h:XgG s=some res) :
 XaU Try.prog 38 10 ⟨⟨38,13,[(0,.pointer (some ⟨0,0,none⟩))],[.code Xn1],[],false,none⟩,[],[(0,.row false [.int .u64 s.key.A,.int .u64 s.key.B,.slice (some ⟨1,0,none⟩) 6 1,.int .i64 s.total]),(1,.row false [.slice (some ⟨2,0,none⟩) s.rows.m0 1,.slice (some ⟨3,0,none⟩) s.rows.m1 1,.slice (some ⟨4,0,none⟩) s.rows.m2 1,.slice (some ⟨5,0,none⟩) s.rows.m3 1,.slice (some ⟨6,0,none⟩) s.rows.m4 1,.slice (some ⟨7,0,none⟩) s.rows.m5 1]),(2,.row false (vI .i64 s.rows.e0)),(3,.row false (vI .i64 s.rows.e1)),(4,.row false (vI .i64 s.rows.e2)),(5,.row false (vI .i64 s.rows.e3)),(6,.row false (vI .i64 s.rows.e4)),(7,.row false (vI .i64 s.rows.e5))],10⟩ (fun v H _=>Res 10 (XzT res) v H):=by
 unfold XgG at h
 have J:=js []
 refine Xa4 XaM hS true 3000 ?_
 conv=>whnf
 exact W
def XgS (s:Xal):Option Bool:=
 some (true)
def Xz4 (x:Bool):Xdu:=⟨.bool x,[],[none,none,none,none,none,none,none,none,none,none]⟩
abbrev XfU:=Xal→Option Bool
def r38v7 (g:XfU):Dec:=dTr 10 (XbJ 0) fun (y0:Xal)=>XeC (ofG (g y0) Xz4)
abbrev XAT:List (Nat×XcS):=[]
theorem XwT (hS:XaF Try.prog (XaP (XAT))) (s:Xal) (res:Bool) (h:XgS s=some res) :
 XaU Try.prog 38 10 ⟨⟨38,13,[(0,.pointer (some ⟨0,0,none⟩))],[.code Xn1],[],false,none⟩,[],[(0,.row false [.int .u64 s.key.A,.int .u64 s.key.B,.slice (some ⟨1,0,none⟩) 7 1,.int .i64 s.total]),(1,.row false [.slice (some ⟨2,0,none⟩) s.rows.m0 1,.slice (some ⟨3,0,none⟩) s.rows.m1 1,.slice (some ⟨4,0,none⟩) s.rows.m2 1,.slice (some ⟨5,0,none⟩) s.rows.m3 1,.slice (some ⟨6,0,none⟩) s.rows.m4 1,.slice (some ⟨7,0,none⟩) s.rows.m5 1,.slice (some ⟨8,0,none⟩) s.rows.m6 1]),(2,.row false (vI .i64 s.rows.e0)),(3,.row false (vI .i64 s.rows.e1)),(4,.row false (vI .i64 s.rows.e2)),(5,.row false (vI .i64 s.rows.e3)),(6,.row false (vI .i64 s.rows.e4)),(7,.row false (vI .i64 s.rows.e5)),(8,.row false (vI .i64 s.rows.e6))],10⟩ (fun v H _=>Res 10 (Xz4 res) v H):=by
 unfold XgS at h
 have J:=js []
 refine Xa4 XaM hS true 3000 ?_
 conv=>whnf
 exact W
def XgI (s:Xak):Option Bool:=
 some (true)
def Xwr (x:Bool):Xdu:=⟨.bool x,[],[none,none,none,none,none,none,none,none,none,none]⟩
abbrev Xf6:=Xak→Option Bool
def r38v8 (g:Xf6):Dec:=dTr 10 (XbI 0) fun (y0:Xak)=>XeC (ofG (g y0) Xwr)
abbrev XAN:List (Nat×XcS):=[]
theorem Xw5 (hS:XaF Try.prog (XaP (XAN))) (s:Xak) (res:Bool) (h:XgI s=some res) :
 XaU Try.prog 38 10 ⟨⟨38,13,[(0,.pointer (some ⟨0,0,none⟩))],[.code Xn1],[],false,none⟩,[],[(0,.row false [.int .u64 s.key.A,.int .u64 s.key.B,.slice (some ⟨1,0,none⟩) 8 1,.int .i64 s.total]),(1,.row false [.slice (some ⟨2,0,none⟩) s.rows.m0 1,.slice (some ⟨3,0,none⟩) s.rows.m1 1,.slice (some ⟨4,0,none⟩) s.rows.m2 1,.slice (some ⟨5,0,none⟩) s.rows.m3 1,.slice (some ⟨6,0,none⟩) s.rows.m4 1,.slice (some ⟨7,0,none⟩) s.rows.m5 1,.slice (some ⟨8,0,none⟩) s.rows.m6 1,.slice (some ⟨9,0,none⟩) s.rows.m7 1]),(2,.row false (vI .i64 s.rows.e0)),(3,.row false (vI .i64 s.rows.e1)),(4,.row false (vI .i64 s.rows.e2)),(5,.row false (vI .i64 s.rows.e3)),(6,.row false (vI .i64 s.rows.e4)),(7,.row false (vI .i64 s.rows.e5)),(8,.row false (vI .i64 s.rows.e6)),(9,.row false (vI .i64 s.rows.e7))],10⟩ (fun v H _=>Res 10 (Xwr res) v H):=by
 unfold XgI at h
 have J:=js []
 refine Xa4 XaM hS true 3000 ?_
 conv=>whnf
 exact W
structure Xag where
 vn:Xft
 v0:Xfx
 v1:Xgd
 v2:XfN
 v3:XfQ
 v4:XfO
 v5:XfZ
 v6:XfE
 v7:XfU
 v8:Xf6
def s38 (g:Xag):XcS:=⟨[.tr [⟨none,0,0,0,none⟩,⟨some 0,2,0,0,none⟩,⟨some 1,0,0,0,none⟩,⟨some 1,1,0,0,none⟩,⟨some 1,2,0,0,none⟩,⟨some 1,3,0,0,none⟩,⟨some 1,4,0,0,none⟩,⟨some 1,5,0,0,none⟩,⟨some 1,6,0,0,none⟩,⟨some 1,7,0,0,none⟩]],orD (r38vn g.vn) (orD (r38v0 g.v0) (orD (r38v1 g.v1) (orD (r38v2 g.v2) (orD (r38v3 g.v3) (orD (r38v4 g.v4) (orD (r38v5 g.v5) (orD (r38v6 g.v6) (orD (r38v7 g.v7) (r38v8 g.v8)))))))))⟩
theorem Xpu {g:Xag} {x:Bool} (hx:g.vn=some x):(s38 g).run [.pointer none] [none,none,none,none,none,none,none,none,none,none]=some (XwD x):=by dsimp only [s38];exact (XdM ((Xuz).trans (Xbc hx)))
theorem XnA {g:Xag} {y0:Xaz} {x:Bool} (hx:g.v0 y0=some x):(s38 g).run [.pointer (some ⟨0,0,none⟩)] [some [.int .u64 y0.key.A,.int .u64 y0.key.B,.slice none 0 0,.int .i64 y0.total],none,none,none,none,none,none,none,none,none]=some (Xxq x):=by dsimp only [s38];exact (XaL rfl (XdM ((Xbn rfl rfl (Xe8 0 _)).trans (Xbc hx))))
theorem Xmg {g:Xag} {y0:XaA} {x:Bool} (hx:g.v1 y0=some x):(s38 g).run [.pointer (some ⟨0,0,none⟩)] [some [.int .u64 y0.key.A,.int .u64 y0.key.B,.slice (some ⟨1,0,none⟩) 1 1,.int .i64 y0.total],some [.slice (some ⟨2,0,none⟩) y0.rows.m0 1],some (vI .i64 y0.rows.e0),none,none,none,none,none,none,none]=some (XwS x):=by dsimp only [s38];exact (XaL rfl (XaL rfl (XdM ((Xbn rfl rfl (XcK 0 _)).trans (Xbc hx)))))
theorem Xl4 {g:Xag} {y0:Xax} {x:Bool} (hx:g.v2 y0=some x):(s38 g).run [.pointer (some ⟨0,0,none⟩)] [some [.int .u64 y0.key.A,.int .u64 y0.key.B,.slice (some ⟨1,0,none⟩) 2 1,.int .i64 y0.total],some [.slice (some ⟨2,0,none⟩) y0.rows.m0 1,.slice (some ⟨3,0,none⟩) y0.rows.m1 1],some (vI .i64 y0.rows.e0),some (vI .i64 y0.rows.e1),none,none,none,none,none,none]=some (XyG x):=by dsimp only [s38];exact (XaL rfl (XaL rfl (XaL rfl (XdM ((Xbn rfl rfl (XcM 0 _)).trans (Xbc hx))))))
theorem Xmw {g:Xag} {y0:Xav} {x:Bool} (hx:g.v3 y0=some x):(s38 g).run [.pointer (some ⟨0,0,none⟩)] [some [.int .u64 y0.key.A,.int .u64 y0.key.B,.slice (some ⟨1,0,none⟩) 3 1,.int .i64 y0.total],some [.slice (some ⟨2,0,none⟩) y0.rows.m0 1,.slice (some ⟨3,0,none⟩) y0.rows.m1 1,.slice (some ⟨4,0,none⟩) y0.rows.m2 1],some (vI .i64 y0.rows.e0),some (vI .i64 y0.rows.e1),some (vI .i64 y0.rows.e2),none,none,none,none,none]=some (Xxm x):=by dsimp only [s38];exact (XaL rfl (XaL rfl (XaL rfl (XaL rfl (XdM ((Xbn rfl rfl (XcO 0 _)).trans (Xbc hx)))))))
theorem Xmp {g:Xag} {y0:Xar} {x:Bool} (hx:g.v4 y0=some x):(s38 g).run [.pointer (some ⟨0,0,none⟩)] [some [.int .u64 y0.key.A,.int .u64 y0.key.B,.slice (some ⟨1,0,none⟩) 4 1,.int .i64 y0.total],some [.slice (some ⟨2,0,none⟩) y0.rows.m0 1,.slice (some ⟨3,0,none⟩) y0.rows.m1 1,.slice (some ⟨4,0,none⟩) y0.rows.m2 1,.slice (some ⟨5,0,none⟩) y0.rows.m3 1],some (vI .i64 y0.rows.e0),some (vI .i64 y0.rows.e1),some (vI .i64 y0.rows.e2),some (vI .i64 y0.rows.e3),none,none,none,none]=some (XwQ x):=by dsimp only [s38];exact (XaL rfl (XaL rfl (XaL rfl (XaL rfl (XaL rfl (XdM ((Xbn rfl rfl (XcR 0 _)).trans (Xbc hx))))))))
theorem Xl3 {g:Xag} {y0:Xap} {x:Bool} (hx:g.v5 y0=some x):(s38 g).run [.pointer (some ⟨0,0,none⟩)] [some [.int .u64 y0.key.A,.int .u64 y0.key.B,.slice (some ⟨1,0,none⟩) 5 1,.int .i64 y0.total],some [.slice (some ⟨2,0,none⟩) y0.rows.m0 1,.slice (some ⟨3,0,none⟩) y0.rows.m1 1,.slice (some ⟨4,0,none⟩) y0.rows.m2 1,.slice (some ⟨5,0,none⟩) y0.rows.m3 1,.slice (some ⟨6,0,none⟩) y0.rows.m4 1],some (vI .i64 y0.rows.e0),some (vI .i64 y0.rows.e1),some (vI .i64 y0.rows.e2),some (vI .i64 y0.rows.e3),some (vI .i64 y0.rows.e4),none,none,none]=some (Xwx x):=by dsimp only [s38];exact (XaL rfl (XaL rfl (XaL rfl (XaL rfl (XaL rfl (XaL rfl (XdM ((Xbn rfl rfl (XcN 0 _)).trans (Xbc hx)))))))))
theorem XmD {g:Xag} {y0:Xan} {x:Bool} (hx:g.v6 y0=some x):(s38 g).run [.pointer (some ⟨0,0,none⟩)] [some [.int .u64 y0.key.A,.int .u64 y0.key.B,.slice (some ⟨1,0,none⟩) 6 1,.int .i64 y0.total],some [.slice (some ⟨2,0,none⟩) y0.rows.m0 1,.slice (some ⟨3,0,none⟩) y0.rows.m1 1,.slice (some ⟨4,0,none⟩) y0.rows.m2 1,.slice (some ⟨5,0,none⟩) y0.rows.m3 1,.slice (some ⟨6,0,none⟩) y0.rows.m4 1,.slice (some ⟨7,0,none⟩) y0.rows.m5 1],some (vI .i64 y0.rows.e0),some (vI .i64 y0.rows.e1),some (vI .i64 y0.rows.e2),some (vI .i64 y0.rows.e3),some (vI .i64 y0.rows.e4),some (vI .i64 y0.rows.e5),none,none]=some (XzT x):=by dsimp only [s38];exact (XaL rfl (XaL rfl (XaL rfl (XaL rfl (XaL rfl (XaL rfl (XaL rfl (XdM ((Xbn rfl rfl (XcQ 0 _)).trans (Xbc hx))))))))))
theorem XmH {g:Xag} {y0:Xal} {x:Bool} (hx:g.v7 y0=some x):(s38 g).run [.pointer (some ⟨0,0,none⟩)] [some [.int .u64 y0.key.A,.int .u64 y0.key.B,.slice (some ⟨1,0,none⟩) 7 1,.int .i64 y0.total],some [.slice (some ⟨2,0,none⟩) y0.rows.m0 1,.slice (some ⟨3,0,none⟩) y0.rows.m1 1,.slice (some ⟨4,0,none⟩) y0.rows.m2 1,.slice (some ⟨5,0,none⟩) y0.rows.m3 1,.slice (some ⟨6,0,none⟩) y0.rows.m4 1,.slice (some ⟨7,0,none⟩) y0.rows.m5 1,.slice (some ⟨8,0,none⟩) y0.rows.m6 1],some (vI .i64 y0.rows.e0),some (vI .i64 y0.rows.e1),some (vI .i64 y0.rows.e2),some (vI .i64 y0.rows.e3),some (vI .i64 y0.rows.e4),some (vI .i64 y0.rows.e5),some (vI .i64 y0.rows.e6),none]=some (Xz4 x):=by dsimp only [s38];exact (XaL rfl (XaL rfl (XaL rfl (XaL rfl (XaL rfl (XaL rfl (XaL rfl (XaL rfl (XdM ((Xbn rfl rfl (XcL 0 _)).trans (Xbc hx)))))))))))
theorem Xl5 {g:Xag} {y0:Xak} {x:Bool} (hx:g.v8 y0=some x):(s38 g).run [.pointer (some ⟨0,0,none⟩)] [some [.int .u64 y0.key.A,.int .u64 y0.key.B,.slice (some ⟨1,0,none⟩) 8 1,.int .i64 y0.total],some [.slice (some ⟨2,0,none⟩) y0.rows.m0 1,.slice (some ⟨3,0,none⟩) y0.rows.m1 1,.slice (some ⟨4,0,none⟩) y0.rows.m2 1,.slice (some ⟨5,0,none⟩) y0.rows.m3 1,.slice (some ⟨6,0,none⟩) y0.rows.m4 1,.slice (some ⟨7,0,none⟩) y0.rows.m5 1,.slice (some ⟨8,0,none⟩) y0.rows.m6 1,.slice (some ⟨9,0,none⟩) y0.rows.m7 1],some (vI .i64 y0.rows.e0),some (vI .i64 y0.rows.e1),some (vI .i64 y0.rows.e2),some (vI .i64 y0.rows.e3),some (vI .i64 y0.rows.e4),some (vI .i64 y0.rows.e5),some (vI .i64 y0.rows.e6),some (vI .i64 y0.rows.e7)]=some (Xwr x):=by dsimp only [s38];exact (XaL rfl (XaL rfl (XaL rfl (XaL rfl (XaL rfl (XaL rfl (XaL rfl (XaL rfl (XaL rfl ((Xbn rfl rfl (XcP 0 _)).trans (Xbc hx)))))))))))
def Xkr:Xft:=Xg4
def XkC:Xfx:=Xhb
def Xkj:Xgd:=Xha
def Xks:XfN:=XgZ
def Xk1:XfQ:=XgD
def Xkl:XfO:=XgY
def Xkp:XfZ:=Xg8
def XkL:XfE:=XgG
def XkH:XfU:=XgS
def XkD:Xf6:=XgI
def Xaa:Xag:=⟨Xkr,XkC,Xkj,Xks,Xk1,Xkl,Xkp,XkL,XkH,XkD⟩
theorem Xc9:XeH Try.prog 38 (s38 Xaa):=by
 have L0:=Xxn (XaF.Xba trivial)
 have L1:=XwH (XaF.Xba trivial)
 have L2:=Xx3 (XaF.Xba trivial)
 have L3:=XyN (XaF.Xba trivial)
 have L4:=XwK (XaF.Xba trivial)
 have L5:=Xzv (XaF.Xba trivial)
 have L6:=XxI (XaF.Xba trivial)
 have L7:=Xze (XaF.Xba trivial)
 have L8:=XwT (XaF.Xba trivial)
 have L9:=Xw5 (XaF.Xba trivial)
 refine XeH.Xjm XaM (fun ar os r ha hr=>?_) ⟨Try.f38,rfl,by decide,rfl⟩
 generalize hc:XiR os=C at hr
 replace hr:=orD.elim hr;rcases hr with hr|hr
 ·have LL:=L0;exact okB
 replace hr:=orD.elim hr;rcases hr with hr|hr
 ·have LL:=L1;have U1:=@XdZ;exact okB
 replace hr:=orD.elim hr;rcases hr with hr|hr
 ·have LL:=L2;have U1:=@XcW;exact okB
 replace hr:=orD.elim hr;rcases hr with hr|hr
 ·have LL:=L3;have U1:=@XcZ;exact okB
 replace hr:=orD.elim hr;rcases hr with hr|hr
 ·have LL:=L4;have U1:=@Xc2;exact okB
 replace hr:=orD.elim hr;rcases hr with hr|hr
 ·have LL:=L5;have U1:=@Xc0;exact okB
 replace hr:=orD.elim hr;rcases hr with hr|hr
 ·have LL:=L6;have U1:=@XcY;exact okB
 replace hr:=orD.elim hr;rcases hr with hr|hr
 ·have LL:=L7;have U1:=@Xc3;exact okB
 replace hr:=orD.elim hr;rcases hr with hr|hr
 ·have LL:=L8;have U1:=@Xc6;exact okB
 have LL:=L9;have U1:=@Xc1;exact okB
def XgH (Xaa:Xag) (i:Int) (text:List UInt8):Option Int:=
 (Xaa.vn).bind fun n=>
 cond (!n)
  (
  some ((-1)))
  (
  cond (decide (i<0))
   (
   some ((-1)))
   (
   none))
def XxH (x:Int):Xdu:=⟨.int .i64 x,[],[none,none,none,none,none,none,none,none,none,none]⟩
abbrev Xfs:=Int→(List UInt8)→Option Int
def r20vn (g:Xfs):Dec:=dNl 10<|dV (asI .i64) fun (y1:Int)=>dV asS fun (y2:List UInt8)=>XeC (ofG (g y1 y2) XxH)
abbrev XAo (Xaa:Xag):List (Nat×XcS):=[(38,s38 Xaa)]
theorem Xzd (Xaa:Xag) (hS:XaF Try.prog (XaP (XAo Xaa))) (i:Int) (text:List UInt8) (res:Int) (h:XgH Xaa i text=some res) :
 XaU Try.prog 20 10 ⟨⟨20,50,[(0,.pointer none),(1,.int .i64 i),(2,.string ⟨⟨text⟩⟩)],[.code Xlp],[],false,none⟩,[],[],10⟩ (fun v H _=>Res 10 (XxH res) v H):=by
 unfold XgH at h
 have R1:=@Xpu Xaa
 refine Xa4 XaM hS true 3000 ?_
 conv=>whnf
 exact W
def XdP (XaD:Xbe) (XaW:Xbl) (Xaa:Xag) (s:XaA) (i:Int) (text:List UInt8):Option Int:=
 (Xaa.v1 s).bind fun x1=>
 cond (!x1)
  (
  some ((-1)))
  (
  cond (decide (i<0))
   (
   some ((-1)))
   (
   cond (decide (i≥1))
    (
    some ((-1)))
    (
    (XaW (Xau.mk (wI .u64 (s.key.A+(wI .u64 i))) s.key.B) text).bind fun xh=>
    XaQ (decide ((0:Int)≤i∧i<(1:Int))) <|
    cond (i.toNat==0)
     (
     (XaD xh (s.rows.m0:Int)).bind fun s1=>
     some (s1))
     (
     none))))
def Xy9 (x:Int):Xdu:=⟨.int .i64 x,[],[none,none,none,none,none,none,none,none,none,none]⟩
abbrev Xf3:=XaA→Int→(List UInt8)→Option Int
def r20v1 (g:Xf3):Dec:=dTr 10 (XbE 0) fun (y0:XaA)=>dV (asI .i64) fun (y1:Int)=>dV asS fun (y2:List UInt8)=>XeC (ofG (g y0 y1 y2) Xy9)
abbrev XAA (XaD:Xbe) (XaW:Xbl) (Xaa:Xag):List (Nat×XcS):=[(46,s46 XaD),(47,s47 XaW),(38,s38 Xaa)]
theorem Xyi (XaD:Xbe) (XaW:Xbl) (Xaa:Xag) (hS:XaF Try.prog (XaP (XAA XaD XaW Xaa))) (s:XaA) (i:Int) (text:List UInt8) (res:Int) (h:XdP XaD XaW Xaa s i text=some res) :
 XaU Try.prog 20 10 ⟨⟨20,50,[(0,.pointer (some ⟨0,0,none⟩)),(1,.int .i64 i),(2,.string ⟨⟨text⟩⟩)],[.code Xlp],[],false,none⟩,[],[(0,.row false [.int .u64 s.key.A,.int .u64 s.key.B,.slice (some ⟨1,0,none⟩) 1 1,.int .i64 s.total]),(1,.row false [.slice (some ⟨2,0,none⟩) s.rows.m0 1]),(2,.row false (vI .i64 s.rows.e0))],10⟩ (fun v H _=>Res 10 (Xy9 res) v H):=by
 unfold XdP at h
 have R1:=@Xmg Xaa
 have R2:=@Xnq XaW
 have R3:=@Xnf XaD
 have J:=js []
 refine Xa4 XaM hS true 3000 ?_
 conv=>whnf
 exact W
def XdW (XaD:Xbe) (XaW:Xbl) (Xaa:Xag) (s:Xax) (i:Int) (text:List UInt8):Option Int:=
 (Xaa.v2 s).bind fun x2=>
 cond (!x2)
  (
  some ((-1)))
  (
  cond (decide (i<0))
   (
   some ((-1)))
   (
   cond (decide (i≥2))
    (
    some ((-1)))
    (
    (XaW (Xau.mk (wI .u64 (s.key.A+(wI .u64 i))) s.key.B) text).bind fun xh=>
    XaQ (decide ((0:Int)≤i∧i<(2:Int))) <|
    cond (i.toNat==0)
     (
     (XaD xh (s.rows.m0:Int)).bind fun s1=>
     some (s1))
     (
     cond (i.toNat==1)
      (
      (XaD xh (s.rows.m1:Int)).bind fun s2=>
      some (s2))
      (
      none)))))
def Xxj (x:Int):Xdu:=⟨.int .i64 x,[],[none,none,none,none,none,none,none,none,none,none]⟩
abbrev XfG:=Xax→Int→(List UInt8)→Option Int
def r20v2 (g:XfG):Dec:=dTr 10 (XbL 0) fun (y0:Xax)=>dV (asI .i64) fun (y1:Int)=>dV asS fun (y2:List UInt8)=>XeC (ofG (g y0 y1 y2) Xxj)
abbrev XAF (XaD:Xbe) (XaW:Xbl) (Xaa:Xag):List (Nat×XcS):=[(46,s46 XaD),(47,s47 XaW),(38,s38 Xaa)]
theorem Xws (XaD:Xbe) (XaW:Xbl) (Xaa:Xag) (hS:XaF Try.prog (XaP (XAF XaD XaW Xaa))) (s:Xax) (i:Int) (text:List UInt8) (res:Int) (h:XdW XaD XaW Xaa s i text=some res) :
 XaU Try.prog 20 10 ⟨⟨20,50,[(0,.pointer (some ⟨0,0,none⟩)),(1,.int .i64 i),(2,.string ⟨⟨text⟩⟩)],[.code Xlp],[],false,none⟩,[],[(0,.row false [.int .u64 s.key.A,.int .u64 s.key.B,.slice (some ⟨1,0,none⟩) 2 1,.int .i64 s.total]),(1,.row false [.slice (some ⟨2,0,none⟩) s.rows.m0 1,.slice (some ⟨3,0,none⟩) s.rows.m1 1]),(2,.row false (vI .i64 s.rows.e0)),(3,.row false (vI .i64 s.rows.e1))],10⟩ (fun v H _=>Res 10 (Xxj res) v H):=by
 unfold XdW at h
 have R1:=@Xl4 Xaa
 have R2:=@Xnq XaW
 have R3:=@Xnf XaD
 have J:=js []
 refine Xa4 XaM hS true 3000 ?_
 conv=>whnf
 exact W
def XdR (XaD:Xbe) (XaW:Xbl) (Xaa:Xag) (s:Xav) (i:Int) (text:List UInt8):Option Int:=
 (Xaa.v3 s).bind fun x3=>
 cond (!x3)
  (
  some ((-1)))
  (
  cond (decide (i<0))
   (
   some ((-1)))
   (
   cond (decide (i≥3))
    (
    some ((-1)))
    (
    (XaW (Xau.mk (wI .u64 (s.key.A+(wI .u64 i))) s.key.B) text).bind fun xh=>
    XaQ (decide ((0:Int)≤i∧i<(3:Int))) <|
    cond (i.toNat==0)
     (
     (XaD xh (s.rows.m0:Int)).bind fun s1=>
     some (s1))
     (
     cond (i.toNat==1)
      (
      (XaD xh (s.rows.m1:Int)).bind fun s2=>
      some (s2))
      (
      cond (i.toNat==2)
       (
       (XaD xh (s.rows.m2:Int)).bind fun s3=>
       some (s3))
       (
       none))))))
def Xx4 (x:Int):Xdu:=⟨.int .i64 x,[],[none,none,none,none,none,none,none,none,none,none]⟩
abbrev XfL:=Xav→Int→(List UInt8)→Option Int
def r20v3 (g:XfL):Dec:=dTr 10 (XbM 0) fun (y0:Xav)=>dV (asI .i64) fun (y1:Int)=>dV asS fun (y2:List UInt8)=>XeC (ofG (g y0 y1 y2) Xx4)
abbrev XAZ (XaD:Xbe) (XaW:Xbl) (Xaa:Xag):List (Nat×XcS):=[(46,s46 XaD),(47,s47 XaW),(38,s38 Xaa)]
theorem XyT (XaD:Xbe) (XaW:Xbl) (Xaa:Xag) (hS:XaF Try.prog (XaP (XAZ XaD XaW Xaa))) (s:Xav) (i:Int) (text:List UInt8) (res:Int) (h:XdR XaD XaW Xaa s i text=some res) :
 XaU Try.prog 20 10 ⟨⟨20,50,[(0,.pointer (some ⟨0,0,none⟩)),(1,.int .i64 i),(2,.string ⟨⟨text⟩⟩)],[.code Xlp],[],false,none⟩,[],[(0,.row false [.int .u64 s.key.A,.int .u64 s.key.B,.slice (some ⟨1,0,none⟩) 3 1,.int .i64 s.total]),(1,.row false [.slice (some ⟨2,0,none⟩) s.rows.m0 1,.slice (some ⟨3,0,none⟩) s.rows.m1 1,.slice (some ⟨4,0,none⟩) s.rows.m2 1]),(2,.row false (vI .i64 s.rows.e0)),(3,.row false (vI .i64 s.rows.e1)),(4,.row false (vI .i64 s.rows.e2))],10⟩ (fun v H _=>Res 10 (Xx4 res) v H):=by
 unfold XdR at h
 have R1:=@Xmw Xaa
 have R2:=@Xnq XaW
 have R3:=@Xnf XaD
 have J:=js []
 refine Xa4 XaM hS true 3000 ?_
 conv=>whnf
 exact W
def XdT (XaD:Xbe) (XaW:Xbl) (Xaa:Xag) (s:Xar) (i:Int) (text:List UInt8):Option Int:=
 (Xaa.v4 s).bind fun x4=>
 cond (!x4)
  (
  some ((-1)))
  (
  cond (decide (i<0))
   (
   some ((-1)))
   (
   cond (decide (i≥4))
    (
    some ((-1)))
    (
    (XaW (Xau.mk (wI .u64 (s.key.A+(wI .u64 i))) s.key.B) text).bind fun xh=>
    XaQ (decide ((0:Int)≤i∧i<(4:Int))) <|
    cond (i.toNat==0)
     (
     (XaD xh (s.rows.m0:Int)).bind fun s1=>
     some (s1))
     (
     cond (i.toNat==1)
      (
      (XaD xh (s.rows.m1:Int)).bind fun s2=>
      some (s2))
      (
      cond (i.toNat==2)
       (
       (XaD xh (s.rows.m2:Int)).bind fun s3=>
       some (s3))
       (
       cond (i.toNat==3)
        (
        (XaD xh (s.rows.m3:Int)).bind fun s4=>
        some (s4))
        (
        none)))))))
def Xw6 (x:Int):Xdu:=⟨.int .i64 x,[],[none,none,none,none,none,none,none,none,none,none]⟩
abbrev XfX:=Xar→Int→(List UInt8)→Option Int
def r20v4 (g:XfX):Dec:=dTr 10 (XbG 0) fun (y0:Xar)=>dV (asI .i64) fun (y1:Int)=>dV asS fun (y2:List UInt8)=>XeC (ofG (g y0 y1 y2) Xw6)
abbrev XCG (XaD:Xbe) (XaW:Xbl) (Xaa:Xag):List (Nat×XcS):=[(46,s46 XaD),(47,s47 XaW),(38,s38 Xaa)]
theorem Xxp (XaD:Xbe) (XaW:Xbl) (Xaa:Xag) (hS:XaF Try.prog (XaP (XCG XaD XaW Xaa))) (s:Xar) (i:Int) (text:List UInt8) (res:Int) (h:XdT XaD XaW Xaa s i text=some res) :
 XaU Try.prog 20 10 ⟨⟨20,50,[(0,.pointer (some ⟨0,0,none⟩)),(1,.int .i64 i),(2,.string ⟨⟨text⟩⟩)],[.code Xlp],[],false,none⟩,[],[(0,.row false [.int .u64 s.key.A,.int .u64 s.key.B,.slice (some ⟨1,0,none⟩) 4 1,.int .i64 s.total]),(1,.row false [.slice (some ⟨2,0,none⟩) s.rows.m0 1,.slice (some ⟨3,0,none⟩) s.rows.m1 1,.slice (some ⟨4,0,none⟩) s.rows.m2 1,.slice (some ⟨5,0,none⟩) s.rows.m3 1]),(2,.row false (vI .i64 s.rows.e0)),(3,.row false (vI .i64 s.rows.e1)),(4,.row false (vI .i64 s.rows.e2)),(5,.row false (vI .i64 s.rows.e3))],10⟩ (fun v H _=>Res 10 (Xw6 res) v H):=by
 unfold XdT at h
 have R1:=@Xmp Xaa
 have R2:=@Xnq XaW
 have R3:=@Xnf XaD
 have J:=js []
 refine Xa4 XaM hS true 3000 ?_
 conv=>whnf
 exact W
def XdV (XaD:Xbe) (XaW:Xbl) (Xaa:Xag) (s:Xap) (i:Int) (text:List UInt8):Option Int:=
 (Xaa.v5 s).bind fun x5=>
 cond (!x5)
  (
  some ((-1)))
  (
  cond (decide (i<0))
   (
   some ((-1)))
   (
   cond (decide (i≥5))
    (
    some ((-1)))
    (
    (XaW (Xau.mk (wI .u64 (s.key.A+(wI .u64 i))) s.key.B) text).bind fun xh=>
    XaQ (decide ((0:Int)≤i∧i<(5:Int))) <|
    cond (i.toNat==0)
     (
     (XaD xh (s.rows.m0:Int)).bind fun s1=>
     some (s1))
     (
     cond (i.toNat==1)
      (
      (XaD xh (s.rows.m1:Int)).bind fun s2=>
      some (s2))
      (
      cond (i.toNat==2)
       (
       (XaD xh (s.rows.m2:Int)).bind fun s3=>
       some (s3))
       (
       cond (i.toNat==3)
        (
        (XaD xh (s.rows.m3:Int)).bind fun s4=>
        some (s4))
        (
        cond (i.toNat==4)
         (
         (XaD xh (s.rows.m4:Int)).bind fun s5=>
         some (s5))
         (
         none))))))))
def Xy0 (x:Int):Xdu:=⟨.int .i64 x,[],[none,none,none,none,none,none,none,none,none,none]⟩
abbrev Xgb:=Xap→Int→(List UInt8)→Option Int
def r20v5 (g:Xgb):Dec:=dTr 10 (XbK 0) fun (y0:Xap)=>dV (asI .i64) fun (y1:Int)=>dV asS fun (y2:List UInt8)=>XeC (ofG (g y0 y1 y2) Xy0)
abbrev XAE (XaD:Xbe) (XaW:Xbl) (Xaa:Xag):List (Nat×XcS):=[(46,s46 XaD),(47,s47 XaW),(38,s38 Xaa)]
theorem Xy6 (XaD:Xbe) (XaW:Xbl) (Xaa:Xag) (hS:XaF Try.prog (XaP (XAE XaD XaW Xaa))) (s:Xap) (i:Int) (text:List UInt8) (res:Int) (h:XdV XaD XaW Xaa s i text=some res) :
 XaU Try.prog 20 10 ⟨⟨20,50,[(0,.pointer (some ⟨0,0,none⟩)),(1,.int .i64 i),(2,.string ⟨⟨text⟩⟩)],[.code Xlp],[],false,none⟩,[],[(0,.row false [.int .u64 s.key.A,.int .u64 s.key.B,.slice (some ⟨1,0,none⟩) 5 1,.int .i64 s.total]),(1,.row false [.slice (some ⟨2,0,none⟩) s.rows.m0 1,.slice (some ⟨3,0,none⟩) s.rows.m1 1,.slice (some ⟨4,0,none⟩) s.rows.m2 1,.slice (some ⟨5,0,none⟩) s.rows.m3 1,.slice (some ⟨6,0,none⟩) s.rows.m4 1]),(2,.row false (vI .i64 s.rows.e0)),(3,.row false (vI .i64 s.rows.e1)),(4,.row false (vI .i64 s.rows.e2)),(5,.row false (vI .i64 s.rows.e3)),(6,.row false (vI .i64 s.rows.e4))],10⟩ (fun v H _=>Res 10 (Xy0 res) v H):=by
 unfold XdV at h
 have R1:=@Xl3 Xaa
 have R2:=@Xnq XaW
 have R3:=@Xnf XaD
 have J:=js []
 refine Xa4 XaM hS true 3000 ?_
 conv=>whnf
 exact W
def XdS (XaD:Xbe) (XaW:Xbl) (Xaa:Xag) (s:Xan) (i:Int) (text:List UInt8):Option Int:=
 (Xaa.v6 s).bind fun x6=>
 cond (!x6)
  (
  some ((-1)))
  (
  cond (decide (i<0))
   (
   some ((-1)))
   (
   cond (decide (i≥6))
    (
    some ((-1)))
    (
    (XaW (Xau.mk (wI .u64 (s.key.A+(wI .u64 i))) s.key.B) text).bind fun xh=>
    XaQ (decide ((0:Int)≤i∧i<(6:Int))) <|
    cond (i.toNat==0)
     (
     (XaD xh (s.rows.m0:Int)).bind fun s1=>
     some (s1))
     (
     cond (i.toNat==1)
      (
      (XaD xh (s.rows.m1:Int)).bind fun s2=>
      some (s2))
      (
      cond (i.toNat==2)
       (
       (XaD xh (s.rows.m2:Int)).bind fun s3=>
       some (s3))
       (
       cond (i.toNat==3)
        (
        (XaD xh (s.rows.m3:Int)).bind fun s4=>
        some (s4))
        (
        cond (i.toNat==4)
         (
         (XaD xh (s.rows.m4:Int)).bind fun s5=>
         some (s5))
         (
         cond (i.toNat==5)
          (
          (XaD xh (s.rows.m5:Int)).bind fun s6=>
          some (s6))
          (
          none)))))))))
def XzK (x:Int):Xdu:=⟨.int .i64 x,[],[none,none,none,none,none,none,none,none,none,none]⟩
abbrev Xga:=Xan→Int→(List UInt8)→Option Int
def r20v6 (g:Xga):Dec:=dTr 10 (XbF 0) fun (y0:Xan)=>dV (asI .i64) fun (y1:Int)=>dV asS fun (y2:List UInt8)=>XeC (ofG (g y0 y1 y2) XzK)
abbrev XBK (XaD:Xbe) (XaW:Xbl) (Xaa:Xag):List (Nat×XcS):=[(46,s46 XaD),(47,s47 XaW),(38,s38 Xaa)]
theorem Xy4 (XaD:Xbe) (XaW:Xbl) (Xaa:Xag) (hS:XaF Try.prog (XaP (XBK XaD XaW Xaa))) (s:Xan) (i:Int) (text:List UInt8) (res:Int) (h:XdS XaD XaW Xaa s i text=some res) :
 XaU Try.prog 20 10 ⟨⟨20,50,[(0,.pointer (some ⟨0,0,none⟩)),(1,.int .i64 i),(2,.string ⟨⟨text⟩⟩)],[.code Xlp],[],false,none⟩,[],[(0,.row false [.int .u64 s.key.A,.int .u64 s.key.B,.slice (some ⟨1,0,none⟩) 6 1,.int .i64 s.total]),(1,.row false [.slice (some ⟨2,0,none⟩) s.rows.m0 1,.slice (some ⟨3,0,none⟩) s.rows.m1 1,.slice (some ⟨4,0,none⟩) s.rows.m2 1,.slice (some ⟨5,0,none⟩) s.rows.m3 1,.slice (some ⟨6,0,none⟩) s.rows.m4 1,.slice (some ⟨7,0,none⟩) s.rows.m5 1]),(2,.row false (vI .i64 s.rows.e0)),(3,.row false (vI .i64 s.rows.e1)),(4,.row false (vI .i64 s.rows.e2)),(5,.row false (vI .i64 s.rows.e3)),(6,.row false (vI .i64 s.rows.e4)),(7,.row false (vI .i64 s.rows.e5))],10⟩ (fun v H _=>Res 10 (XzK res) v H):=by
 unfold XdS at h
 have R1:=@XmD Xaa
 have R2:=@Xnq XaW
 have R3:=@Xnf XaD
 have J:=js []
 refine Xa4 XaM hS true 3000 ?_
 conv=>whnf
 exact W
def XdO (XaD:Xbe) (XaW:Xbl) (Xaa:Xag) (s:Xal) (i:Int) (text:List UInt8):Option Int:=
 (Xaa.v7 s).bind fun x7=>
 cond (!x7)
  (
  some ((-1)))
  (
  cond (decide (i<0))
   (
   some ((-1)))
   (
   cond (decide (i≥7))
    (
    some ((-1)))
    (
    (XaW (Xau.mk (wI .u64 (s.key.A+(wI .u64 i))) s.key.B) text).bind fun xh=>
    XaQ (decide ((0:Int)≤i∧i<(7:Int))) <|
    cond (i.toNat==0)
     (
     (XaD xh (s.rows.m0:Int)).bind fun s1=>
     some (s1))
     (
     cond (i.toNat==1)
      (
      (XaD xh (s.rows.m1:Int)).bind fun s2=>
      some (s2))
      (
      cond (i.toNat==2)
       (
       (XaD xh (s.rows.m2:Int)).bind fun s3=>
       some (s3))
       (
       cond (i.toNat==3)
        (
        (XaD xh (s.rows.m3:Int)).bind fun s4=>
        some (s4))
        (
        cond (i.toNat==4)
         (
         (XaD xh (s.rows.m4:Int)).bind fun s5=>
         some (s5))
         (
         cond (i.toNat==5)
          (
          (XaD xh (s.rows.m5:Int)).bind fun s6=>
          some (s6))
          (
          cond (i.toNat==6)
           (
           (XaD xh (s.rows.m6:Int)).bind fun s7=>
           some (s7))
           (
           none))))))))))
def Xx8 (x:Int):Xdu:=⟨.int .i64 x,[],[none,none,none,none,none,none,none,none,none,none]⟩
abbrev XfW:=Xal→Int→(List UInt8)→Option Int
def r20v7 (g:XfW):Dec:=dTr 10 (XbJ 0) fun (y0:Xal)=>dV (asI .i64) fun (y1:Int)=>dV asS fun (y2:List UInt8)=>XeC (ofG (g y0 y1 y2) Xx8)
abbrev XBD (XaD:Xbe) (XaW:Xbl) (Xaa:Xag):List (Nat×XcS):=[(46,s46 XaD),(47,s47 XaW),(38,s38 Xaa)]
theorem Xxb (XaD:Xbe) (XaW:Xbl) (Xaa:Xag) (hS:XaF Try.prog (XaP (XBD XaD XaW Xaa))) (s:Xal) (i:Int) (text:List UInt8) (res:Int) (h:XdO XaD XaW Xaa s i text=some res) :
 XaU Try.prog 20 10 ⟨⟨20,50,[(0,.pointer (some ⟨0,0,none⟩)),(1,.int .i64 i),(2,.string ⟨⟨text⟩⟩)],[.code Xlp],[],false,none⟩,[],[(0,.row false [.int .u64 s.key.A,.int .u64 s.key.B,.slice (some ⟨1,0,none⟩) 7 1,.int .i64 s.total]),(1,.row false [.slice (some ⟨2,0,none⟩) s.rows.m0 1,.slice (some ⟨3,0,none⟩) s.rows.m1 1,.slice (some ⟨4,0,none⟩) s.rows.m2 1,.slice (some ⟨5,0,none⟩) s.rows.m3 1,.slice (some ⟨6,0,none⟩) s.rows.m4 1,.slice (some ⟨7,0,none⟩) s.rows.m5 1,.slice (some ⟨8,0,none⟩) s.rows.m6 1]),(2,.row false (vI .i64 s.rows.e0)),(3,.row false (vI .i64 s.rows.e1)),(4,.row false (vI .i64 s.rows.e2)),(5,.row false (vI .i64 s.rows.e3)),(6,.row false (vI .i64 s.rows.e4)),(7,.row false (vI .i64 s.rows.e5)),(8,.row false (vI .i64 s.rows.e6))],10⟩ (fun v H _=>Res 10 (Xx8 res) v H):=by
 unfold XdO at h
 have R1:=@XmH Xaa
 have R2:=@Xnq XaW
 have R3:=@Xnf XaD
 have J:=js []
 refine Xa4 XaM hS true 3000 ?_
 conv=>whnf
 exact W
def XdQ (XaD:Xbe) (XaW:Xbl) (Xaa:Xag) (s:Xak) (i:Int) (text:List UInt8):Option Int:=
 (Xaa.v8 s).bind fun x8=>
 cond (!x8)
  (
  some ((-1)))
  (
  cond (decide (i<0))
   (
   some ((-1)))
   (
   cond (decide (i≥8))
    (
    some ((-1)))
    (
    (XaW (Xau.mk (wI .u64 (s.key.A+(wI .u64 i))) s.key.B) text).bind fun xh=>
    XaQ (decide ((0:Int)≤i∧i<(8:Int))) <|
    cond (i.toNat==0)
     (
     (XaD xh (s.rows.m0:Int)).bind fun s1=>
     some (s1))
     (
     cond (i.toNat==1)
      (
      (XaD xh (s.rows.m1:Int)).bind fun s2=>
      some (s2))
      (
      cond (i.toNat==2)
       (
       (XaD xh (s.rows.m2:Int)).bind fun s3=>
       some (s3))
       (
       cond (i.toNat==3)
        (
        (XaD xh (s.rows.m3:Int)).bind fun s4=>
        some (s4))
        (
        cond (i.toNat==4)
         (
         (XaD xh (s.rows.m4:Int)).bind fun s5=>
         some (s5))
         (
         cond (i.toNat==5)
          (
          (XaD xh (s.rows.m5:Int)).bind fun s6=>
          some (s6))
          (
          cond (i.toNat==6)
           (
           (XaD xh (s.rows.m6:Int)).bind fun s7=>
           some (s7))
           (
           cond (i.toNat==7)
            (
            (XaD xh (s.rows.m7:Int)).bind fun s8=>
            some (s8))
            (
            none)))))))))))
def Xz6 (x:Int):Xdu:=⟨.int .i64 x,[],[none,none,none,none,none,none,none,none,none,none]⟩
abbrev XfF:=Xak→Int→(List UInt8)→Option Int
def r20v8 (g:XfF):Dec:=dTr 10 (XbI 0) fun (y0:Xak)=>dV (asI .i64) fun (y1:Int)=>dV asS fun (y2:List UInt8)=>XeC (ofG (g y0 y1 y2) Xz6)
abbrev XBr (XaD:Xbe) (XaW:Xbl) (Xaa:Xag):List (Nat×XcS):=[(46,s46 XaD),(47,s47 XaW),(38,s38 Xaa)]
theorem XzJ (XaD:Xbe) (XaW:Xbl) (Xaa:Xag) (hS:XaF Try.prog (XaP (XBr XaD XaW Xaa))) (s:Xak) (i:Int) (text:List UInt8) (res:Int) (h:XdQ XaD XaW Xaa s i text=some res) :
 XaU Try.prog 20 10 ⟨⟨20,50,[(0,.pointer (some ⟨0,0,none⟩)),(1,.int .i64 i),(2,.string ⟨⟨text⟩⟩)],[.code Xlp],[],false,none⟩,[],[(0,.row false [.int .u64 s.key.A,.int .u64 s.key.B,.slice (some ⟨1,0,none⟩) 8 1,.int .i64 s.total]),(1,.row false [.slice (some ⟨2,0,none⟩) s.rows.m0 1,.slice (some ⟨3,0,none⟩) s.rows.m1 1,.slice (some ⟨4,0,none⟩) s.rows.m2 1,.slice (some ⟨5,0,none⟩) s.rows.m3 1,.slice (some ⟨6,0,none⟩) s.rows.m4 1,.slice (some ⟨7,0,none⟩) s.rows.m5 1,.slice (some ⟨8,0,none⟩) s.rows.m6 1,.slice (some ⟨9,0,none⟩) s.rows.m7 1]),(2,.row false (vI .i64 s.rows.e0)),(3,.row false (vI .i64 s.rows.e1)),(4,.row false (vI .i64 s.rows.e2)),(5,.row false (vI .i64 s.rows.e3)),(6,.row false (vI .i64 s.rows.e4)),(7,.row false (vI .i64 s.rows.e5)),(8,.row false (vI .i64 s.rows.e6)),(9,.row false (vI .i64 s.rows.e7))],10⟩ (fun v H _=>Res 10 (Xz6 res) v H):=by
 unfold XdQ at h
 have R1:=@Xl5 Xaa
 have R2:=@Xnq XaW
 have R3:=@Xnf XaD
 have J:=js []
 refine Xa4 XaM hS true 3000 ?_
 conv=>whnf
 exact W
structure Xaj where
 vn:Xfs
 v1:Xf3
 v2:XfG
 v3:XfL
 v4:XfX
 v5:Xgb
 v6:Xga
 v7:XfW
 v8:XfF
def s20 (g:Xaj):XcS:=⟨[.tr [⟨none,0,0,0,none⟩,⟨some 0,2,0,0,none⟩,⟨some 1,0,0,0,none⟩,⟨some 1,1,0,0,none⟩,⟨some 1,2,0,0,none⟩,⟨some 1,3,0,0,none⟩,⟨some 1,4,0,0,none⟩,⟨some 1,5,0,0,none⟩,⟨some 1,6,0,0,none⟩,⟨some 1,7,0,0,none⟩],.v,.v],orD (r20vn g.vn) (orD (r20v1 g.v1) (orD (r20v2 g.v2) (orD (r20v3 g.v3) (orD (r20v4 g.v4) (orD (r20v5 g.v5) (orD (r20v6 g.v6) (orD (r20v7 g.v7) (r20v8 g.v8))))))))⟩
theorem Xu2 {g:Xaj} {y1:Int} {y2:List UInt8} {x:Int} (hx:g.vn y1 y2=some x):(s20 g).run [.pointer none,.int .i64 y1,.string ⟨⟨y2⟩⟩] [none,none,none,none,none,none,none,none,none,none]=some (XxH x):=by dsimp only [s20];exact (XdM ((Xuz).trans ((Xbz (Xd1 _)).trans ((Xbz (XhC)).trans (Xbc hx)))))
theorem XpW {g:Xaj} {y0:XaA} {y1:Int} {y2:List UInt8} {x:Int} (hx:g.v1 y0 y1 y2=some x):(s20 g).run [.pointer (some ⟨0,0,none⟩),.int .i64 y1,.string ⟨⟨y2⟩⟩] [some [.int .u64 y0.key.A,.int .u64 y0.key.B,.slice (some ⟨1,0,none⟩) 1 1,.int .i64 y0.total],some [.slice (some ⟨2,0,none⟩) y0.rows.m0 1],some (vI .i64 y0.rows.e0),none,none,none,none,none,none,none]=some (Xy9 x):=by dsimp only [s20];exact (XaL rfl (XdM ((Xbn rfl rfl (XcK 0 _)).trans ((Xbz (Xd1 _)).trans ((Xbz (XhC)).trans (Xbc hx))))))
theorem Xp0 {g:Xaj} {y0:Xax} {y1:Int} {y2:List UInt8} {x:Int} (hx:g.v2 y0 y1 y2=some x):(s20 g).run [.pointer (some ⟨0,0,none⟩),.int .i64 y1,.string ⟨⟨y2⟩⟩] [some [.int .u64 y0.key.A,.int .u64 y0.key.B,.slice (some ⟨1,0,none⟩) 2 1,.int .i64 y0.total],some [.slice (some ⟨2,0,none⟩) y0.rows.m0 1,.slice (some ⟨3,0,none⟩) y0.rows.m1 1],some (vI .i64 y0.rows.e0),some (vI .i64 y0.rows.e1),none,none,none,none,none,none]=some (Xxj x):=by dsimp only [s20];exact (XaL rfl (XaL rfl (XdM ((Xbn rfl rfl (XcM 0 _)).trans ((Xbz (Xd1 _)).trans ((Xbz (XhC)).trans (Xbc hx)))))))
theorem XpC {g:Xaj} {y0:Xav} {y1:Int} {y2:List UInt8} {x:Int} (hx:g.v3 y0 y1 y2=some x):(s20 g).run [.pointer (some ⟨0,0,none⟩),.int .i64 y1,.string ⟨⟨y2⟩⟩] [some [.int .u64 y0.key.A,.int .u64 y0.key.B,.slice (some ⟨1,0,none⟩) 3 1,.int .i64 y0.total],some [.slice (some ⟨2,0,none⟩) y0.rows.m0 1,.slice (some ⟨3,0,none⟩) y0.rows.m1 1,.slice (some ⟨4,0,none⟩) y0.rows.m2 1],some (vI .i64 y0.rows.e0),some (vI .i64 y0.rows.e1),some (vI .i64 y0.rows.e2),none,none,none,none,none]=some (Xx4 x):=by dsimp only [s20];exact (XaL rfl (XaL rfl (XaL rfl (XdM ((Xbn rfl rfl (XcO 0 _)).trans ((Xbz (Xd1 _)).trans ((Xbz (XhC)).trans (Xbc hx))))))))
theorem XpD {g:Xaj} {y0:Xar} {y1:Int} {y2:List UInt8} {x:Int} (hx:g.v4 y0 y1 y2=some x):(s20 g).run [.pointer (some ⟨0,0,none⟩),.int .i64 y1,.string ⟨⟨y2⟩⟩] [some [.int .u64 y0.key.A,.int .u64 y0.key.B,.slice (some ⟨1,0,none⟩) 4 1,.int .i64 y0.total],some [.slice (some ⟨2,0,none⟩) y0.rows.m0 1,.slice (some ⟨3,0,none⟩) y0.rows.m1 1,.slice (some ⟨4,0,none⟩) y0.rows.m2 1,.slice (some ⟨5,0,none⟩) y0.rows.m3 1],some (vI .i64 y0.rows.e0),some (vI .i64 y0.rows.e1),some (vI .i64 y0.rows.e2),some (vI .i64 y0.rows.e3),none,none,none,none]=some (Xw6 x):=by dsimp only [s20];exact (XaL rfl (XaL rfl (XaL rfl (XaL rfl (XdM ((Xbn rfl rfl (XcR 0 _)).trans ((Xbz (Xd1 _)).trans ((Xbz (XhC)).trans (Xbc hx)))))))))
theorem Xpv {g:Xaj} {y0:Xap} {y1:Int} {y2:List UInt8} {x:Int} (hx:g.v5 y0 y1 y2=some x):(s20 g).run [.pointer (some ⟨0,0,none⟩),.int .i64 y1,.string ⟨⟨y2⟩⟩] [some [.int .u64 y0.key.A,.int .u64 y0.key.B,.slice (some ⟨1,0,none⟩) 5 1,.int .i64 y0.total],some [.slice (some ⟨2,0,none⟩) y0.rows.m0 1,.slice (some ⟨3,0,none⟩) y0.rows.m1 1,.slice (some ⟨4,0,none⟩) y0.rows.m2 1,.slice (some ⟨5,0,none⟩) y0.rows.m3 1,.slice (some ⟨6,0,none⟩) y0.rows.m4 1],some (vI .i64 y0.rows.e0),some (vI .i64 y0.rows.e1),some (vI .i64 y0.rows.e2),some (vI .i64 y0.rows.e3),some (vI .i64 y0.rows.e4),none,none,none]=some (Xy0 x):=by dsimp only [s20];exact (XaL rfl (XaL rfl (XaL rfl (XaL rfl (XaL rfl (XdM ((Xbn rfl rfl (XcN 0 _)).trans ((Xbz (Xd1 _)).trans ((Xbz (XhC)).trans (Xbc hx))))))))))
theorem XpX {g:Xaj} {y0:Xan} {y1:Int} {y2:List UInt8} {x:Int} (hx:g.v6 y0 y1 y2=some x):(s20 g).run [.pointer (some ⟨0,0,none⟩),.int .i64 y1,.string ⟨⟨y2⟩⟩] [some [.int .u64 y0.key.A,.int .u64 y0.key.B,.slice (some ⟨1,0,none⟩) 6 1,.int .i64 y0.total],some [.slice (some ⟨2,0,none⟩) y0.rows.m0 1,.slice (some ⟨3,0,none⟩) y0.rows.m1 1,.slice (some ⟨4,0,none⟩) y0.rows.m2 1,.slice (some ⟨5,0,none⟩) y0.rows.m3 1,.slice (some ⟨6,0,none⟩) y0.rows.m4 1,.slice (some ⟨7,0,none⟩) y0.rows.m5 1],some (vI .i64 y0.rows.e0),some (vI .i64 y0.rows.e1),some (vI .i64 y0.rows.e2),some (vI .i64 y0.rows.e3),some (vI .i64 y0.rows.e4),some (vI .i64 y0.rows.e5),none,none]=some (XzK x):=by dsimp only [s20];exact (XaL rfl (XaL rfl (XaL rfl (XaL rfl (XaL rfl (XaL rfl (XdM ((Xbn rfl rfl (XcQ 0 _)).trans ((Xbz (Xd1 _)).trans ((Xbz (XhC)).trans (Xbc hx)))))))))))
theorem Xpm {g:Xaj} {y0:Xal} {y1:Int} {y2:List UInt8} {x:Int} (hx:g.v7 y0 y1 y2=some x):(s20 g).run [.pointer (some ⟨0,0,none⟩),.int .i64 y1,.string ⟨⟨y2⟩⟩] [some [.int .u64 y0.key.A,.int .u64 y0.key.B,.slice (some ⟨1,0,none⟩) 7 1,.int .i64 y0.total],some [.slice (some ⟨2,0,none⟩) y0.rows.m0 1,.slice (some ⟨3,0,none⟩) y0.rows.m1 1,.slice (some ⟨4,0,none⟩) y0.rows.m2 1,.slice (some ⟨5,0,none⟩) y0.rows.m3 1,.slice (some ⟨6,0,none⟩) y0.rows.m4 1,.slice (some ⟨7,0,none⟩) y0.rows.m5 1,.slice (some ⟨8,0,none⟩) y0.rows.m6 1],some (vI .i64 y0.rows.e0),some (vI .i64 y0.rows.e1),some (vI .i64 y0.rows.e2),some (vI .i64 y0.rows.e3),some (vI .i64 y0.rows.e4),some (vI .i64 y0.rows.e5),some (vI .i64 y0.rows.e6),none]=some (Xx8 x):=by dsimp only [s20];exact (XaL rfl (XaL rfl (XaL rfl (XaL rfl (XaL rfl (XaL rfl (XaL rfl (XdM ((Xbn rfl rfl (XcL 0 _)).trans ((Xbz (Xd1 _)).trans ((Xbz (XhC)).trans (Xbc hx))))))))))))
theorem XpH {g:Xaj} {y0:Xak} {y1:Int} {y2:List UInt8} {x:Int} (hx:g.v8 y0 y1 y2=some x):(s20 g).run [.pointer (some ⟨0,0,none⟩),.int .i64 y1,.string ⟨⟨y2⟩⟩] [some [.int .u64 y0.key.A,.int .u64 y0.key.B,.slice (some ⟨1,0,none⟩) 8 1,.int .i64 y0.total],some [.slice (some ⟨2,0,none⟩) y0.rows.m0 1,.slice (some ⟨3,0,none⟩) y0.rows.m1 1,.slice (some ⟨4,0,none⟩) y0.rows.m2 1,.slice (some ⟨5,0,none⟩) y0.rows.m3 1,.slice (some ⟨6,0,none⟩) y0.rows.m4 1,.slice (some ⟨7,0,none⟩) y0.rows.m5 1,.slice (some ⟨8,0,none⟩) y0.rows.m6 1,.slice (some ⟨9,0,none⟩) y0.rows.m7 1],some (vI .i64 y0.rows.e0),some (vI .i64 y0.rows.e1),some (vI .i64 y0.rows.e2),some (vI .i64 y0.rows.e3),some (vI .i64 y0.rows.e4),some (vI .i64 y0.rows.e5),some (vI .i64 y0.rows.e6),some (vI .i64 y0.rows.e7)]=some (Xz6 x):=by dsimp only [s20];exact (XaL rfl (XaL rfl (XaL rfl (XaL rfl (XaL rfl (XaL rfl (XaL rfl (XaL rfl ((Xbn rfl rfl (XcP 0 _)).trans ((Xbz (Xd1 _)).trans ((Xbz (XhC)).trans (Xbc hx))))))))))))
def Xk2:Xfs:=XgH Xaa
def Xeh:Xf3:=XdP XaD XaW Xaa
def Xec:XfG:=XdW XaD XaW Xaa
def Xd8:XfL:=XdR XaD XaW Xaa
def Xel:XfX:=XdT XaD XaW Xaa
def Xee:Xgb:=XdV XaD XaW Xaa
def Xeg:Xga:=XdS XaD XaW Xaa
def Xej:XfW:=XdO XaD XaW Xaa
def Xd6:XfF:=XdQ XaD XaW Xaa
def Xab:Xaj:=⟨Xk2,Xeh,Xec,Xd8,Xel,Xee,Xeg,Xej,Xd6⟩
theorem XiN:XeH Try.prog 20 (s20 Xab):=by
 have L0:=Xzd Xaa (XaF.Xba ⟨Xc9,trivial⟩)
 have L1:=Xyi XaD XaW Xaa (XaF.Xba ⟨Xm6,Xnk,Xc9,trivial⟩)
 have L2:=Xws XaD XaW Xaa (XaF.Xba ⟨Xm6,Xnk,Xc9,trivial⟩)
 have L3:=XyT XaD XaW Xaa (XaF.Xba ⟨Xm6,Xnk,Xc9,trivial⟩)
 have L4:=Xxp XaD XaW Xaa (XaF.Xba ⟨Xm6,Xnk,Xc9,trivial⟩)
 have L5:=Xy6 XaD XaW Xaa (XaF.Xba ⟨Xm6,Xnk,Xc9,trivial⟩)
 have L6:=Xy4 XaD XaW Xaa (XaF.Xba ⟨Xm6,Xnk,Xc9,trivial⟩)
 have L7:=Xxb XaD XaW Xaa (XaF.Xba ⟨Xm6,Xnk,Xc9,trivial⟩)
 have L8:=XzJ XaD XaW Xaa (XaF.Xba ⟨Xm6,Xnk,Xc9,trivial⟩)
 refine XeH.Xjm XaM (fun ar os r ha hr=>?_) ⟨Try.f20,rfl,by decide,rfl⟩
 generalize hc:XiR os=C at hr
 replace hr:=orD.elim hr;rcases hr with hr|hr
 ·have LL:=L0;exact okB
 replace hr:=orD.elim hr;rcases hr with hr|hr
 ·have LL:=L1;have U1:=@XcW;exact okB
 replace hr:=orD.elim hr;rcases hr with hr|hr
 ·have LL:=L2;have U1:=@XcZ;exact okB
 replace hr:=orD.elim hr;rcases hr with hr|hr
 ·have LL:=L3;have U1:=@Xc2;exact okB
 replace hr:=orD.elim hr;rcases hr with hr|hr
 ·have LL:=L4;have U1:=@Xc0;exact okB
 replace hr:=orD.elim hr;rcases hr with hr|hr
 ·have LL:=L5;have U1:=@XcY;exact okB
 replace hr:=orD.elim hr;rcases hr with hr|hr
 ·have LL:=L6;have U1:=@Xc3;exact okB
 replace hr:=orD.elim hr;rcases hr with hr|hr
 ·have LL:=L7;have U1:=@Xc6;exact okB
 have LL:=L8;have U1:=@Xc1;exact okB
def XhI (Xaa:Xag) (text:List UInt8) (n:Int):Option Bool:=
 (Xaa.vn).bind fun n1=>
 cond (!n1)
  (
  some (false))
  (
  cond (decide (n<0))
   (
   some (false))
   (
   cond (decide (n>1048576))
    (
    some (false))
    (
    none)))
def XxF (x:Bool):Xdu:=⟨.bool x,[],[none,none,none,none,none,none,none,none,none,none]⟩
abbrev XgE:=(List UInt8)→Int→Option Bool
def r12vn (g:XgE):Dec:=dNl 10<|dV asS fun (y1:List UInt8)=>dV (asI .i64) fun (y2:Int)=>XeC (ofG (g y1 y2) XxF)
abbrev XBd (Xaa:Xag):List (Nat×XcS):=[(38,s38 Xaa)]
theorem XwF (Xaa:Xag) (hS:XaF Try.prog (XaP (XBd Xaa))) (text:List UInt8) (n:Int) (res:Bool) (h:XhI Xaa text n=some res) :
 XaU Try.prog 12 10 ⟨⟨12,27,[(0,.pointer none),(1,.string ⟨⟨text⟩⟩),(2,.int .i64 n)],[.code XkW],[],false,none⟩,[],[],10⟩ (fun v H _=>Res 10 (XxF res) v H):=by
 unfold XhI at h
 have R1:=@Xpu Xaa
 refine Xa4 XaM hS true 3000 ?_
 conv=>whnf
 exact W
def XgW (s:Xaz) (text:List UInt8) (n:Int):Option (Sum Unit (Bool×Xaz)):=
 let t:=if (wI .i64 (s.total+n))<1099511627776 then wI .i64 (s.total+n) else 1099511627776
 some (.inr ((true,Xaz.mk s.key Xbi.mk t)))
def XhJ (Xaa:Xag) (s:Xaz) (text:List UInt8) (n:Int):Option (Bool×Xaz):=
 (Xaa.v0 (Xaz.mk s.key Xbi.mk s.total)).bind fun x0=>
 cond (!x0)
  (
  some ((false,Xaz.mk s.key Xbi.mk s.total)))
  (
  cond (decide (n<0))
   (
   some ((false,Xaz.mk s.key Xbi.mk s.total)))
   (
   cond (decide (n>1048576))
    (
    some ((false,Xaz.mk s.key Xbi.mk s.total)))
    (
    iter (fun _=>XgW s text n) FUEL ())))
def XtJ (x:Bool×Xaz):Xdu:=⟨.bool x.1,[],[some [.int .u64 x.2.key.A,.int .u64 x.2.key.B,.slice none 0 0,.int .i64 x.2.total],none,none,none,none,none,none,none,none,none]⟩
abbrev Xg9:=Xaz→(List UInt8)→Int→Option (Bool×Xaz)
def r12v0 (g:Xg9):Dec:=dTr 10 (XcF 0) fun (y0:Xaz)=>dV asS fun (y1:List UInt8)=>dV (asI .i64) fun (y2:Int)=>XeC (ofG (g y0 y1 y2) XtJ)
abbrev XtE (Xaa:Xag):List (Nat×XcS):=[(38,s38 Xaa)]
def Xpb (s:Xaz) (text:List UInt8) (n:Int):VM:=
 ⟨⟨39,30,[(0,.pointer (some ⟨0,0,none⟩)),(1,.string ⟨⟨text⟩⟩),(2,.func (.func 40) ⟨[]⟩ ⟨[.pointer (some ⟨10,0,none⟩)]⟩),(11,.int .i64 0),(12,.int .i64 0)],[.code Xyj,.inLoop Xyj,.inBlock 0],[],false,none⟩,[⟨12,27,[(0,.pointer (some ⟨0,0,none⟩)),(5,.pointer (some ⟨10,0,none⟩))],[.inReg (opsD XIN 3),.code XC9],[],false,none⟩],[(0,.cells [.int .u64 s.key.A,.int .u64 s.key.B,.slice none 0 0,.int .i64 s.total]),(10,.cells [.int .i64 n])],11⟩
theorem XvO (Xaa:Xag) (hS:XaF Try.prog (XaP (XtE Xaa))) {s:Xaz} {text:List UInt8} {n:Int} {res:Bool×Xaz}:∀ {fuel} {st:Unit} {o:Bool×Xaz},iter (fun _=>XgW s text n) fuel st=some o→(o=res) →
 XaU Try.prog 12 10 (Xpb s text n ) (fun v H _=>Res 10 (XtJ res) v H):=by
 apply XaO
 intro st o h hc
 try dsimp -zeta only at h ⊢
 unfold XgW at h
 have J:=js []
 refine Xa4 XaM hS true 3000 ?_
 conv=>whnf
 exact W
theorem Xyn (Xaa:Xag) (hS:XaF Try.prog (XaP (XtE Xaa))) (s:Xaz) (text:List UInt8) (n:Int) (res:Bool×Xaz) (h:XhJ Xaa s text n=some res) :
 XaU Try.prog 12 10 ⟨⟨12,27,[(0,.pointer (some ⟨0,0,none⟩)),(1,.string ⟨⟨text⟩⟩),(2,.int .i64 n)],[.code XkW],[],false,none⟩,[],[(0,.cells [.int .u64 s.key.A,.int .u64 s.key.B,.slice none 0 0,.int .i64 s.total])],10⟩ (fun v H _=>Res 10 (XtJ res) v H):=by
 unfold XhJ at h
 have J:=js []
 refine Xa4 XaM hS true 3000 ?_
 conv=>whnf
 replace h:=Xbu.elim h;obtain ⟨x0,hy,h⟩:=h
 refine XdI.a (XnA hy) ?_
 conv=>whnf
 refine br.h h (by rfl) ?_ ?_
 ·clear h;intro hb h;conv=>whnf
  exact W
 clear h;intro hb h;conv=>whnf
 refine br.h h (by rfl) ?_ ?_
 ·clear h;intro hb h;conv=>whnf
  exact W
 clear h;intro hb h;conv=>whnf
 refine br.h h (by rfl) ?_ ?_
 ·clear h;intro hb h;conv=>whnf
  exact W
 clear h;intro hb h;conv=>whnf
 have hl:=XvO Xaa hS h rfl;simp only [Xpb] at hl
 exact lrA1 hl [(0,0),(1,1),(2,2),(3,3),(4,4),(5,5),(6,6),(7,7),(8,8),(9,9),(10,10)] rfl
def Xfm (Xab:Xaj) (Xaa:Xag) (s:XaA) (text:List UInt8) (n:Int):Option (Bool×XaA):=
 (Xaa.v1 s).bind fun x1=>
 cond (!x1)
  (
  some ((false,s)))
  (
  cond (decide (n<0))
   (
   some ((false,s)))
   (
   cond (decide (n>1048576))
    (
    some ((false,s)))
    (
    (Xab.v1 s 0 text).bind fun x11=>
    XaQ (decide ((0:Int)≤x11∧x11<(s.rows.m0:Int))) <|
    (s.rows.e0[x11.toNat]?).bind fun (e:Int)=>
    let t:=if (wI .i64 (e+n))<1099511627776 then wI .i64 (e+n) else 1099511627776
    XaQ (decide (x11.toNat<s.rows.e0.length)) <|
    let row:=s.rows.e0.set x11.toNat t
    let t1:=if (wI .i64 (s.total+n))<1099511627776 then wI .i64 (s.total+n) else 1099511627776
    some ((true,XaA.mk s.key (Xd4.mk row s.rows.m0) t1)))))
def XxG (x:Bool×XaA):Xdu:=⟨.bool x.1,[(vI .i64 x.2.rows.e0)],[some [.int .u64 x.2.key.A,.int .u64 x.2.key.B,.slice (some ⟨2,0,none⟩) 1 1,.int .i64 x.2.total],some [.slice (some ⟨0,0,none⟩) x.2.rows.m0 1],none,none,none,none,none,none,none,none]⟩
abbrev Xg1:=XaA→(List UInt8)→Int→Option (Bool×XaA)
def r12v1 (g:Xg1):Dec:=dTr 10 (XbE 0) fun (y0:XaA)=>dV asS fun (y1:List UInt8)=>dV (asI .i64) fun (y2:Int)=>XeC (ofG (g y0 y1 y2) XxG)
abbrev XB6 (Xab:Xaj) (Xaa:Xag):List (Nat×XcS):=[(20,s20 Xab),(38,s38 Xaa)]
theorem Xzl (Xab:Xaj) (Xaa:Xag) (hS:XaF Try.prog (XaP (XB6 Xab Xaa))) (s:XaA) (text:List UInt8) (n:Int) (res:Bool×XaA) (h:Xfm Xab Xaa s text n=some res) :
 XaU Try.prog 12 10 ⟨⟨12,27,[(0,.pointer (some ⟨0,0,none⟩)),(1,.string ⟨⟨text⟩⟩),(2,.int .i64 n)],[.code XkW],[],false,none⟩,[],[(0,.cells [.int .u64 s.key.A,.int .u64 s.key.B,.slice (some ⟨1,0,none⟩) 1 1,.int .i64 s.total]),(1,.cells [.slice (some ⟨2,0,none⟩) s.rows.m0 1]),(2,.row true (vI .i64 s.rows.e0))],10⟩ (fun v H _=>Res 10 (XxG res) v H):=by
 unfold Xfm at h
 have R1:=@Xmg Xaa
 have R2:=@XpW Xab
 have J:=js [2]
 refine Xa4 XaM hS true 3000 ?_
 conv=>whnf
 exact W
def Xfo (Xab:Xaj) (Xaa:Xag) (s:Xax) (text:List UInt8) (n:Int):Option (Bool×Xax):=
 (Xaa.v2 s).bind fun x2=>
 cond (!x2)
  (
  some ((false,s)))
  (
  cond (decide (n<0))
   (
   some ((false,s)))
   (
   cond (decide (n>1048576))
    (
    some ((false,s)))
    (
    (Xab.v2 s 0 text).bind fun x21=>
    XaQ (decide ((0:Int)≤x21∧x21<(s.rows.m0:Int))) <|
    (s.rows.e0[x21.toNat]?).bind fun (e:Int)=>
    let t:=if (wI .i64 (e+n))<1099511627776 then wI .i64 (e+n) else 1099511627776
    XaQ (decide (x21.toNat<s.rows.e0.length)) <|
    let row:=s.rows.e0.set x21.toNat t
    (Xab.v2 (Xax.mk s.key (XdA.mk row s.rows.e1 s.rows.m0 s.rows.m1) s.total) 1 text).bind fun x22=>
    XaQ (decide ((0:Int)≤x22∧x22<(s.rows.m1:Int))) <|
    (s.rows.e1[x22.toNat]?).bind fun (e1:Int)=>
    let t1:=if (wI .i64 (e1+n))<1099511627776 then wI .i64 (e1+n) else 1099511627776
    XaQ (decide (x22.toNat<s.rows.e1.length)) <|
    let row1:=s.rows.e1.set x22.toNat t1
    let t2:=if (wI .i64 (s.total+n))<1099511627776 then wI .i64 (s.total+n) else 1099511627776
    some ((true,Xax.mk s.key (XdA.mk row row1 s.rows.m0 s.rows.m1) t2)))))
def XyM (x:Bool×Xax):Xdu:=⟨.bool x.1,[(vI .i64 x.2.rows.e0),(vI .i64 x.2.rows.e1)],[some [.int .u64 x.2.key.A,.int .u64 x.2.key.B,.slice (some ⟨3,0,none⟩) 2 1,.int .i64 x.2.total],some [.slice (some ⟨0,0,none⟩) x.2.rows.m0 1,.slice (some ⟨1,0,none⟩) x.2.rows.m1 1],none,none,none,none,none,none,none,none]⟩
abbrev XgT:=Xax→(List UInt8)→Int→Option (Bool×Xax)
def r12v2 (g:XgT):Dec:=dTr 10 (XbL 0) fun (y0:Xax)=>dV asS fun (y1:List UInt8)=>dV (asI .i64) fun (y2:Int)=>XeC (ofG (g y0 y1 y2) XyM)
abbrev XBT (Xab:Xaj) (Xaa:Xag):List (Nat×XcS):=[(20,s20 Xab),(38,s38 Xaa)]
theorem Xyu (Xab:Xaj) (Xaa:Xag) (hS:XaF Try.prog (XaP (XBT Xab Xaa))) (s:Xax) (text:List UInt8) (n:Int) (res:Bool×Xax) (h:Xfo Xab Xaa s text n=some res) :
 XaU Try.prog 12 10 ⟨⟨12,27,[(0,.pointer (some ⟨0,0,none⟩)),(1,.string ⟨⟨text⟩⟩),(2,.int .i64 n)],[.code XkW],[],false,none⟩,[],[(0,.cells [.int .u64 s.key.A,.int .u64 s.key.B,.slice (some ⟨1,0,none⟩) 2 1,.int .i64 s.total]),(1,.cells [.slice (some ⟨2,0,none⟩) s.rows.m0 1,.slice (some ⟨3,0,none⟩) s.rows.m1 1]),(2,.row true (vI .i64 s.rows.e0)),(3,.row true (vI .i64 s.rows.e1))],10⟩ (fun v H _=>Res 10 (XyM res) v H):=by
 unfold Xfo at h
 have R1:=@Xl4 Xaa
 have R2:=@Xp0 Xab
 have J:=js [2,3]
 refine Xa4 XaM hS true 3000 ?_
 conv=>whnf
 exact W
def Xfg (Xab:Xaj) (Xaa:Xag) (s:Xav) (text:List UInt8) (n:Int):Option (Bool×Xav):=
 (Xaa.v3 s).bind fun x3=>
 cond (!x3)
  (
  some ((false,s)))
  (
  cond (decide (n<0))
   (
   some ((false,s)))
   (
   cond (decide (n>1048576))
    (
    some ((false,s)))
    (
    (Xab.v3 s 0 text).bind fun x31=>
    XaQ (decide ((0:Int)≤x31∧x31<(s.rows.m0:Int))) <|
    (s.rows.e0[x31.toNat]?).bind fun (e:Int)=>
    let t:=if (wI .i64 (e+n))<1099511627776 then wI .i64 (e+n) else 1099511627776
    XaQ (decide (x31.toNat<s.rows.e0.length)) <|
    let row:=s.rows.e0.set x31.toNat t
    (Xab.v3 (Xav.mk s.key (Xdr.mk row s.rows.e1 s.rows.e2 s.rows.m0 s.rows.m1 s.rows.m2) s.total) 1 text).bind fun x32=>
    XaQ (decide ((0:Int)≤x32∧x32<(s.rows.m1:Int))) <|
    (s.rows.e1[x32.toNat]?).bind fun (e1:Int)=>
    let t1:=if (wI .i64 (e1+n))<1099511627776 then wI .i64 (e1+n) else 1099511627776
    XaQ (decide (x32.toNat<s.rows.e1.length)) <|
    let row1:=s.rows.e1.set x32.toNat t1
    (Xab.v3 (Xav.mk s.key (Xdr.mk row row1 s.rows.e2 s.rows.m0 s.rows.m1 s.rows.m2) s.total) 2 text).bind fun x33=>
    XaQ (decide ((0:Int)≤x33∧x33<(s.rows.m2:Int))) <|
    (s.rows.e2[x33.toNat]?).bind fun (e2:Int)=>
    let t2:=if (wI .i64 (e2+n))<1099511627776 then wI .i64 (e2+n) else 1099511627776
    XaQ (decide (x33.toNat<s.rows.e2.length)) <|
    let row2:=s.rows.e2.set x33.toNat t2
    let t3:=if (wI .i64 (s.total+n))<1099511627776 then wI .i64 (s.total+n) else 1099511627776
    some ((true,Xav.mk s.key (Xdr.mk row row1 row2 s.rows.m0 s.rows.m1 s.rows.m2) t3)))))
def XyK (x:Bool×Xav):Xdu:=⟨.bool x.1,[(vI .i64 x.2.rows.e0),(vI .i64 x.2.rows.e1),(vI .i64 x.2.rows.e2)],[some [.int .u64 x.2.key.A,.int .u64 x.2.key.B,.slice (some ⟨4,0,none⟩) 3 1,.int .i64 x.2.total],some [.slice (some ⟨0,0,none⟩) x.2.rows.m0 1,.slice (some ⟨1,0,none⟩) x.2.rows.m1 1,.slice (some ⟨2,0,none⟩) x.2.rows.m2 1],none,none,none,none,none,none,none,none]⟩
abbrev Xg2:=Xav→(List UInt8)→Int→Option (Bool×Xav)
def r12v3 (g:Xg2):Dec:=dTr 10 (XbM 0) fun (y0:Xav)=>dV asS fun (y1:List UInt8)=>dV (asI .i64) fun (y2:Int)=>XeC (ofG (g y0 y1 y2) XyK)
abbrev XBg (Xab:Xaj) (Xaa:Xag):List (Nat×XcS):=[(20,s20 Xab),(38,s38 Xaa)]
theorem Xy3 (Xab:Xaj) (Xaa:Xag) (hS:XaF Try.prog (XaP (XBg Xab Xaa))) (s:Xav) (text:List UInt8) (n:Int) (res:Bool×Xav) (h:Xfg Xab Xaa s text n=some res) :
 XaU Try.prog 12 10 ⟨⟨12,27,[(0,.pointer (some ⟨0,0,none⟩)),(1,.string ⟨⟨text⟩⟩),(2,.int .i64 n)],[.code XkW],[],false,none⟩,[],[(0,.cells [.int .u64 s.key.A,.int .u64 s.key.B,.slice (some ⟨1,0,none⟩) 3 1,.int .i64 s.total]),(1,.cells [.slice (some ⟨2,0,none⟩) s.rows.m0 1,.slice (some ⟨3,0,none⟩) s.rows.m1 1,.slice (some ⟨4,0,none⟩) s.rows.m2 1]),(2,.row true (vI .i64 s.rows.e0)),(3,.row true (vI .i64 s.rows.e1)),(4,.row true (vI .i64 s.rows.e2))],10⟩ (fun v H _=>Res 10 (XyK res) v H):=by
 unfold Xfg at h
 have R1:=@Xmw Xaa
 have R2:=@XpC Xab
 have J:=js [2,3,4]
 refine Xa4 XaM hS true 3000 ?_
 conv=>whnf
 exact W
def Xfi (Xab:Xaj) (Xaa:Xag) (s:Xar) (text:List UInt8) (n:Int):Option (Bool×Xar):=
 (Xaa.v4 s).bind fun x4=>
 cond (!x4)
  (
  some ((false,s)))
  (
  cond (decide (n<0))
   (
   some ((false,s)))
   (
   cond (decide (n>1048576))
    (
    some ((false,s)))
    (
    (Xab.v4 s 0 text).bind fun x41=>
    XaQ (decide ((0:Int)≤x41∧x41<(s.rows.m0:Int))) <|
    (s.rows.e0[x41.toNat]?).bind fun (e:Int)=>
    let t:=if (wI .i64 (e+n))<1099511627776 then wI .i64 (e+n) else 1099511627776
    XaQ (decide (x41.toNat<s.rows.e0.length)) <|
    let row:=s.rows.e0.set x41.toNat t
    (Xab.v4 (Xar.mk s.key (Xc7.mk row s.rows.e1 s.rows.e2 s.rows.e3 s.rows.m0 s.rows.m1 s.rows.m2 s.rows.m3) s.total) 1 text).bind fun x42=>
    XaQ (decide ((0:Int)≤x42∧x42<(s.rows.m1:Int))) <|
    (s.rows.e1[x42.toNat]?).bind fun (e1:Int)=>
    let t1:=if (wI .i64 (e1+n))<1099511627776 then wI .i64 (e1+n) else 1099511627776
    XaQ (decide (x42.toNat<s.rows.e1.length)) <|
    let row1:=s.rows.e1.set x42.toNat t1
    (Xab.v4 (Xar.mk s.key (Xc7.mk row row1 s.rows.e2 s.rows.e3 s.rows.m0 s.rows.m1 s.rows.m2 s.rows.m3) s.total) 2 text).bind fun x43=>
    XaQ (decide ((0:Int)≤x43∧x43<(s.rows.m2:Int))) <|
    (s.rows.e2[x43.toNat]?).bind fun (e2:Int)=>
    let t2:=if (wI .i64 (e2+n))<1099511627776 then wI .i64 (e2+n) else 1099511627776
    XaQ (decide (x43.toNat<s.rows.e2.length)) <|
    let row2:=s.rows.e2.set x43.toNat t2
    (Xab.v4 (Xar.mk s.key (Xc7.mk row row1 row2 s.rows.e3 s.rows.m0 s.rows.m1 s.rows.m2 s.rows.m3) s.total) 3 text).bind fun x44=>
    XaQ (decide ((0:Int)≤x44∧x44<(s.rows.m3:Int))) <|
    (s.rows.e3[x44.toNat]?).bind fun (e3:Int)=>
    let t3:=if (wI .i64 (e3+n))<1099511627776 then wI .i64 (e3+n) else 1099511627776
    XaQ (decide (x44.toNat<s.rows.e3.length)) <|
    let row3:=s.rows.e3.set x44.toNat t3
    let t4:=if (wI .i64 (s.total+n))<1099511627776 then wI .i64 (s.total+n) else 1099511627776
    some ((true,Xar.mk s.key (Xc7.mk row row1 row2 row3 s.rows.m0 s.rows.m1 s.rows.m2 s.rows.m3) t4)))))
def XxE (x:Bool×Xar):Xdu:=⟨.bool x.1,[(vI .i64 x.2.rows.e0),(vI .i64 x.2.rows.e1),(vI .i64 x.2.rows.e2),(vI .i64 x.2.rows.e3)],[some [.int .u64 x.2.key.A,.int .u64 x.2.key.B,.slice (some ⟨5,0,none⟩) 4 1,.int .i64 x.2.total],some [.slice (some ⟨0,0,none⟩) x.2.rows.m0 1,.slice (some ⟨1,0,none⟩) x.2.rows.m1 1,.slice (some ⟨2,0,none⟩) x.2.rows.m2 1,.slice (some ⟨3,0,none⟩) x.2.rows.m3 1],none,none,none,none,none,none,none,none]⟩
abbrev XgM:=Xar→(List UInt8)→Int→Option (Bool×Xar)
def r12v4 (g:XgM):Dec:=dTr 10 (XbG 0) fun (y0:Xar)=>dV asS fun (y1:List UInt8)=>dV (asI .i64) fun (y2:Int)=>XeC (ofG (g y0 y1 y2) XxE)
abbrev XBn (Xab:Xaj) (Xaa:Xag):List (Nat×XcS):=[(20,s20 Xab),(38,s38 Xaa)]
theorem Xy1 (Xab:Xaj) (Xaa:Xag) (hS:XaF Try.prog (XaP (XBn Xab Xaa))) (s:Xar) (text:List UInt8) (n:Int) (res:Bool×Xar) (h:Xfi Xab Xaa s text n=some res) :
 XaU Try.prog 12 10 ⟨⟨12,27,[(0,.pointer (some ⟨0,0,none⟩)),(1,.string ⟨⟨text⟩⟩),(2,.int .i64 n)],[.code XkW],[],false,none⟩,[],[(0,.cells [.int .u64 s.key.A,.int .u64 s.key.B,.slice (some ⟨1,0,none⟩) 4 1,.int .i64 s.total]),(1,.cells [.slice (some ⟨2,0,none⟩) s.rows.m0 1,.slice (some ⟨3,0,none⟩) s.rows.m1 1,.slice (some ⟨4,0,none⟩) s.rows.m2 1,.slice (some ⟨5,0,none⟩) s.rows.m3 1]),(2,.row true (vI .i64 s.rows.e0)),(3,.row true (vI .i64 s.rows.e1)),(4,.row true (vI .i64 s.rows.e2)),(5,.row true (vI .i64 s.rows.e3))],10⟩ (fun v H _=>Res 10 (XxE res) v H):=by
 unfold Xfi at h
 have R1:=@Xmp Xaa
 have R2:=@XpD Xab
 have J:=js [2,3,4,5]
 refine Xa4 XaM hS true 3000 ?_
 conv=>whnf
 exact W
def Xfh (Xab:Xaj) (Xaa:Xag) (s:Xap) (text:List UInt8) (n:Int):Option (Bool×Xap):=
 (Xaa.v5 s).bind fun x5=>
 cond (!x5)
  (
  some ((false,s)))
  (
  cond (decide (n<0))
   (
   some ((false,s)))
   (
   cond (decide (n>1048576))
    (
    some ((false,s)))
    (
    (Xab.v5 s 0 text).bind fun x51=>
    XaQ (decide ((0:Int)≤x51∧x51<(s.rows.m0:Int))) <|
    (s.rows.e0[x51.toNat]?).bind fun (e:Int)=>
    let t:=if (wI .i64 (e+n))<1099511627776 then wI .i64 (e+n) else 1099511627776
    XaQ (decide (x51.toNat<s.rows.e0.length)) <|
    let row:=s.rows.e0.set x51.toNat t
    (Xab.v5 (Xap.mk s.key (XcH.mk row s.rows.e1 s.rows.e2 s.rows.e3 s.rows.e4 s.rows.m0 s.rows.m1 s.rows.m2 s.rows.m3 s.rows.m4) s.total) 1 text).bind fun x52=>
    XaQ (decide ((0:Int)≤x52∧x52<(s.rows.m1:Int))) <|
    (s.rows.e1[x52.toNat]?).bind fun (e1:Int)=>
    let t1:=if (wI .i64 (e1+n))<1099511627776 then wI .i64 (e1+n) else 1099511627776
    XaQ (decide (x52.toNat<s.rows.e1.length)) <|
    let row1:=s.rows.e1.set x52.toNat t1
    (Xab.v5 (Xap.mk s.key (XcH.mk row row1 s.rows.e2 s.rows.e3 s.rows.e4 s.rows.m0 s.rows.m1 s.rows.m2 s.rows.m3 s.rows.m4) s.total) 2 text).bind fun x53=>
    XaQ (decide ((0:Int)≤x53∧x53<(s.rows.m2:Int))) <|
    (s.rows.e2[x53.toNat]?).bind fun (e2:Int)=>
    let t2:=if (wI .i64 (e2+n))<1099511627776 then wI .i64 (e2+n) else 1099511627776
    XaQ (decide (x53.toNat<s.rows.e2.length)) <|
    let row2:=s.rows.e2.set x53.toNat t2
    (Xab.v5 (Xap.mk s.key (XcH.mk row row1 row2 s.rows.e3 s.rows.e4 s.rows.m0 s.rows.m1 s.rows.m2 s.rows.m3 s.rows.m4) s.total) 3 text).bind fun x54=>
    XaQ (decide ((0:Int)≤x54∧x54<(s.rows.m3:Int))) <|
    (s.rows.e3[x54.toNat]?).bind fun (e3:Int)=>
    let t3:=if (wI .i64 (e3+n))<1099511627776 then wI .i64 (e3+n) else 1099511627776
    XaQ (decide (x54.toNat<s.rows.e3.length)) <|
    let row3:=s.rows.e3.set x54.toNat t3
    (Xab.v5 (Xap.mk s.key (XcH.mk row row1 row2 row3 s.rows.e4 s.rows.m0 s.rows.m1 s.rows.m2 s.rows.m3 s.rows.m4) s.total) 4 text).bind fun x55=>
    XaQ (decide ((0:Int)≤x55∧x55<(s.rows.m4:Int))) <|
    (s.rows.e4[x55.toNat]?).bind fun (e4:Int)=>
    let t4:=if (wI .i64 (e4+n))<1099511627776 then wI .i64 (e4+n) else 1099511627776
    XaQ (decide (x55.toNat<s.rows.e4.length)) <|
    let row4:=s.rows.e4.set x55.toNat t4
    let t5:=if (wI .i64 (s.total+n))<1099511627776 then wI .i64 (s.total+n) else 1099511627776
    some ((true,Xap.mk s.key (XcH.mk row row1 row2 row3 row4 s.rows.m0 s.rows.m1 s.rows.m2 s.rows.m3 s.rows.m4) t5)))))
def XzV (x:Bool×Xap):Xdu:=⟨.bool x.1,[(vI .i64 x.2.rows.e0),(vI .i64 x.2.rows.e1),(vI .i64 x.2.rows.e2),(vI .i64 x.2.rows.e3),(vI .i64 x.2.rows.e4)],[some [.int .u64 x.2.key.A,.int .u64 x.2.key.B,.slice (some ⟨6,0,none⟩) 5 1,.int .i64 x.2.total],some [.slice (some ⟨0,0,none⟩) x.2.rows.m0 1,.slice (some ⟨1,0,none⟩) x.2.rows.m1 1,.slice (some ⟨2,0,none⟩) x.2.rows.m2 1,.slice (some ⟨3,0,none⟩) x.2.rows.m3 1,.slice (some ⟨4,0,none⟩) x.2.rows.m4 1],none,none,none,none,none,none,none,none]⟩
abbrev XgQ:=Xap→(List UInt8)→Int→Option (Bool×Xap)
def r12v5 (g:XgQ):Dec:=dTr 10 (XbK 0) fun (y0:Xap)=>dV asS fun (y1:List UInt8)=>dV (asI .i64) fun (y2:Int)=>XeC (ofG (g y0 y1 y2) XzV)
abbrev XBj (Xab:Xaj) (Xaa:Xag):List (Nat×XcS):=[(20,s20 Xab),(38,s38 Xaa)]
theorem Xzk (Xab:Xaj) (Xaa:Xag) (hS:XaF Try.prog (XaP (XBj Xab Xaa))) (s:Xap) (text:List UInt8) (n:Int) (res:Bool×Xap) (h:Xfh Xab Xaa s text n=some res) :
 XaU Try.prog 12 10 ⟨⟨12,27,[(0,.pointer (some ⟨0,0,none⟩)),(1,.string ⟨⟨text⟩⟩),(2,.int .i64 n)],[.code XkW],[],false,none⟩,[],[(0,.cells [.int .u64 s.key.A,.int .u64 s.key.B,.slice (some ⟨1,0,none⟩) 5 1,.int .i64 s.total]),(1,.cells [.slice (some ⟨2,0,none⟩) s.rows.m0 1,.slice (some ⟨3,0,none⟩) s.rows.m1 1,.slice (some ⟨4,0,none⟩) s.rows.m2 1,.slice (some ⟨5,0,none⟩) s.rows.m3 1,.slice (some ⟨6,0,none⟩) s.rows.m4 1]),(2,.row true (vI .i64 s.rows.e0)),(3,.row true (vI .i64 s.rows.e1)),(4,.row true (vI .i64 s.rows.e2)),(5,.row true (vI .i64 s.rows.e3)),(6,.row true (vI .i64 s.rows.e4))],10⟩ (fun v H _=>Res 10 (XzV res) v H):=by
 unfold Xfh at h
 have R1:=@Xl3 Xaa
 have R2:=@Xpv Xab
 have J:=js [2,3,4,5,6]
 refine Xa4 XaM hS true 3000 ?_
 conv=>whnf
 exact W
def Xff (Xab:Xaj) (Xaa:Xag) (s:Xan) (text:List UInt8) (n:Int):Option (Bool×Xan):=
 (Xaa.v6 s).bind fun x6=>
 cond (!x6)
  (
  some ((false,s)))
  (
  cond (decide (n<0))
   (
   some ((false,s)))
   (
   cond (decide (n>1048576))
    (
    some ((false,s)))
    (
    (Xab.v6 s 0 text).bind fun x61=>
    XaQ (decide ((0:Int)≤x61∧x61<(s.rows.m0:Int))) <|
    (s.rows.e0[x61.toNat]?).bind fun (e:Int)=>
    let t:=if (wI .i64 (e+n))<1099511627776 then wI .i64 (e+n) else 1099511627776
    XaQ (decide (x61.toNat<s.rows.e0.length)) <|
    let row:=s.rows.e0.set x61.toNat t
    (Xab.v6 (Xan.mk s.key (Xb8.mk row s.rows.e1 s.rows.e2 s.rows.e3 s.rows.e4 s.rows.e5 s.rows.m0 s.rows.m1 s.rows.m2 s.rows.m3 s.rows.m4 s.rows.m5) s.total) 1 text).bind fun x62=>
    XaQ (decide ((0:Int)≤x62∧x62<(s.rows.m1:Int))) <|
    (s.rows.e1[x62.toNat]?).bind fun (e1:Int)=>
    let t1:=if (wI .i64 (e1+n))<1099511627776 then wI .i64 (e1+n) else 1099511627776
    XaQ (decide (x62.toNat<s.rows.e1.length)) <|
    let row1:=s.rows.e1.set x62.toNat t1
    (Xab.v6 (Xan.mk s.key (Xb8.mk row row1 s.rows.e2 s.rows.e3 s.rows.e4 s.rows.e5 s.rows.m0 s.rows.m1 s.rows.m2 s.rows.m3 s.rows.m4 s.rows.m5) s.total) 2 text).bind fun x63=>
    XaQ (decide ((0:Int)≤x63∧x63<(s.rows.m2:Int))) <|
    (s.rows.e2[x63.toNat]?).bind fun (e2:Int)=>
    let t2:=if (wI .i64 (e2+n))<1099511627776 then wI .i64 (e2+n) else 1099511627776
    XaQ (decide (x63.toNat<s.rows.e2.length)) <|
    let row2:=s.rows.e2.set x63.toNat t2
    (Xab.v6 (Xan.mk s.key (Xb8.mk row row1 row2 s.rows.e3 s.rows.e4 s.rows.e5 s.rows.m0 s.rows.m1 s.rows.m2 s.rows.m3 s.rows.m4 s.rows.m5) s.total) 3 text).bind fun x64=>
    XaQ (decide ((0:Int)≤x64∧x64<(s.rows.m3:Int))) <|
    (s.rows.e3[x64.toNat]?).bind fun (e3:Int)=>
    let t3:=if (wI .i64 (e3+n))<1099511627776 then wI .i64 (e3+n) else 1099511627776
    XaQ (decide (x64.toNat<s.rows.e3.length)) <|
    let row3:=s.rows.e3.set x64.toNat t3
    (Xab.v6 (Xan.mk s.key (Xb8.mk row row1 row2 row3 s.rows.e4 s.rows.e5 s.rows.m0 s.rows.m1 s.rows.m2 s.rows.m3 s.rows.m4 s.rows.m5) s.total) 4 text).bind fun x65=>
    XaQ (decide ((0:Int)≤x65∧x65<(s.rows.m4:Int))) <|
    (s.rows.e4[x65.toNat]?).bind fun (e4:Int)=>
    let t4:=if (wI .i64 (e4+n))<1099511627776 then wI .i64 (e4+n) else 1099511627776
    XaQ (decide (x65.toNat<s.rows.e4.length)) <|
    let row4:=s.rows.e4.set x65.toNat t4
    (Xab.v6 (Xan.mk s.key (Xb8.mk row row1 row2 row3 row4 s.rows.e5 s.rows.m0 s.rows.m1 s.rows.m2 s.rows.m3 s.rows.m4 s.rows.m5) s.total) 5 text).bind fun x66=>
    XaQ (decide ((0:Int)≤x66∧x66<(s.rows.m5:Int))) <|
    (s.rows.e5[x66.toNat]?).bind fun (e5:Int)=>
    let t5:=if (wI .i64 (e5+n))<1099511627776 then wI .i64 (e5+n) else 1099511627776
    XaQ (decide (x66.toNat<s.rows.e5.length)) <|
    let row5:=s.rows.e5.set x66.toNat t5
    let t6:=if (wI .i64 (s.total+n))<1099511627776 then wI .i64 (s.total+n) else 1099511627776
    some ((true,Xan.mk s.key (Xb8.mk row row1 row2 row3 row4 row5 s.rows.m0 s.rows.m1 s.rows.m2 s.rows.m3 s.rows.m4 s.rows.m5) t6)))))
def XwZ (x:Bool×Xan):Xdu:=⟨.bool x.1,[(vI .i64 x.2.rows.e0),(vI .i64 x.2.rows.e1),(vI .i64 x.2.rows.e2),(vI .i64 x.2.rows.e3),(vI .i64 x.2.rows.e4),(vI .i64 x.2.rows.e5)],[some [.int .u64 x.2.key.A,.int .u64 x.2.key.B,.slice (some ⟨7,0,none⟩) 6 1,.int .i64 x.2.total],some [.slice (some ⟨0,0,none⟩) x.2.rows.m0 1,.slice (some ⟨1,0,none⟩) x.2.rows.m1 1,.slice (some ⟨2,0,none⟩) x.2.rows.m2 1,.slice (some ⟨3,0,none⟩) x.2.rows.m3 1,.slice (some ⟨4,0,none⟩) x.2.rows.m4 1,.slice (some ⟨5,0,none⟩) x.2.rows.m5 1],none,none,none,none,none,none,none,none]⟩
abbrev Xg6:=Xan→(List UInt8)→Int→Option (Bool×Xan)
def r12v6 (g:Xg6):Dec:=dTr 10 (XbF 0) fun (y0:Xan)=>dV asS fun (y1:List UInt8)=>dV (asI .i64) fun (y2:Int)=>XeC (ofG (g y0 y1 y2) XwZ)
abbrev XCw (Xab:Xaj) (Xaa:Xag):List (Nat×XcS):=[(20,s20 Xab),(38,s38 Xaa)]
theorem Xwv (Xab:Xaj) (Xaa:Xag) (hS:XaF Try.prog (XaP (XCw Xab Xaa))) (s:Xan) (text:List UInt8) (n:Int) (res:Bool×Xan) (h:Xff Xab Xaa s text n=some res) :
 XaU Try.prog 12 10 ⟨⟨12,27,[(0,.pointer (some ⟨0,0,none⟩)),(1,.string ⟨⟨text⟩⟩),(2,.int .i64 n)],[.code XkW],[],false,none⟩,[],[(0,.cells [.int .u64 s.key.A,.int .u64 s.key.B,.slice (some ⟨1,0,none⟩) 6 1,.int .i64 s.total]),(1,.cells [.slice (some ⟨2,0,none⟩) s.rows.m0 1,.slice (some ⟨3,0,none⟩) s.rows.m1 1,.slice (some ⟨4,0,none⟩) s.rows.m2 1,.slice (some ⟨5,0,none⟩) s.rows.m3 1,.slice (some ⟨6,0,none⟩) s.rows.m4 1,.slice (some ⟨7,0,none⟩) s.rows.m5 1]),(2,.row true (vI .i64 s.rows.e0)),(3,.row true (vI .i64 s.rows.e1)),(4,.row true (vI .i64 s.rows.e2)),(5,.row true (vI .i64 s.rows.e3)),(6,.row true (vI .i64 s.rows.e4)),(7,.row true (vI .i64 s.rows.e5))],10⟩ (fun v H _=>Res 10 (XwZ res) v H):=by
 unfold Xff at h
 have R1:=@XmD Xaa
 have R2:=@XpX Xab
 have J:=js [2,3,4,5,6,7]
 refine Xa4 XaM hS true 3000 ?_
 conv=>whnf
 exact W
def Xfj (Xab:Xaj) (Xaa:Xag) (s:Xal) (text:List UInt8) (n:Int):Option (Bool×Xal):=
 (Xaa.v7 s).bind fun x7=>
 cond (!x7)
  (
  some ((false,s)))
  (
  cond (decide (n<0))
   (
   some ((false,s)))
   (
   cond (decide (n>1048576))
    (
    some ((false,s)))
    (
    (Xab.v7 s 0 text).bind fun x71=>
    XaQ (decide ((0:Int)≤x71∧x71<(s.rows.m0:Int))) <|
    (s.rows.e0[x71.toNat]?).bind fun (e:Int)=>
    let t:=if (wI .i64 (e+n))<1099511627776 then wI .i64 (e+n) else 1099511627776
    XaQ (decide (x71.toNat<s.rows.e0.length)) <|
    let row:=s.rows.e0.set x71.toNat t
    (Xab.v7 (Xal.mk s.key (XbV.mk row s.rows.e1 s.rows.e2 s.rows.e3 s.rows.e4 s.rows.e5 s.rows.e6 s.rows.m0 s.rows.m1 s.rows.m2 s.rows.m3 s.rows.m4 s.rows.m5 s.rows.m6) s.total) 1 text).bind fun x72=>
    XaQ (decide ((0:Int)≤x72∧x72<(s.rows.m1:Int))) <|
    (s.rows.e1[x72.toNat]?).bind fun (e1:Int)=>
    let t1:=if (wI .i64 (e1+n))<1099511627776 then wI .i64 (e1+n) else 1099511627776
    XaQ (decide (x72.toNat<s.rows.e1.length)) <|
    let row1:=s.rows.e1.set x72.toNat t1
    (Xab.v7 (Xal.mk s.key (XbV.mk row row1 s.rows.e2 s.rows.e3 s.rows.e4 s.rows.e5 s.rows.e6 s.rows.m0 s.rows.m1 s.rows.m2 s.rows.m3 s.rows.m4 s.rows.m5 s.rows.m6) s.total) 2 text).bind fun x73=>
    XaQ (decide ((0:Int)≤x73∧x73<(s.rows.m2:Int))) <|
    (s.rows.e2[x73.toNat]?).bind fun (e2:Int)=>
    let t2:=if (wI .i64 (e2+n))<1099511627776 then wI .i64 (e2+n) else 1099511627776
    XaQ (decide (x73.toNat<s.rows.e2.length)) <|
    let row2:=s.rows.e2.set x73.toNat t2
    (Xab.v7 (Xal.mk s.key (XbV.mk row row1 row2 s.rows.e3 s.rows.e4 s.rows.e5 s.rows.e6 s.rows.m0 s.rows.m1 s.rows.m2 s.rows.m3 s.rows.m4 s.rows.m5 s.rows.m6) s.total) 3 text).bind fun x74=>
    XaQ (decide ((0:Int)≤x74∧x74<(s.rows.m3:Int))) <|
    (s.rows.e3[x74.toNat]?).bind fun (e3:Int)=>
    let t3:=if (wI .i64 (e3+n))<1099511627776 then wI .i64 (e3+n) else 1099511627776
    XaQ (decide (x74.toNat<s.rows.e3.length)) <|
    let row3:=s.rows.e3.set x74.toNat t3
    (Xab.v7 (Xal.mk s.key (XbV.mk row row1 row2 row3 s.rows.e4 s.rows.e5 s.rows.e6 s.rows.m0 s.rows.m1 s.rows.m2 s.rows.m3 s.rows.m4 s.rows.m5 s.rows.m6) s.total) 4 text).bind fun x75=>
    XaQ (decide ((0:Int)≤x75∧x75<(s.rows.m4:Int))) <|
    (s.rows.e4[x75.toNat]?).bind fun (e4:Int)=>
    let t4:=if (wI .i64 (e4+n))<1099511627776 then wI .i64 (e4+n) else 1099511627776
    XaQ (decide (x75.toNat<s.rows.e4.length)) <|
    let row4:=s.rows.e4.set x75.toNat t4
    (Xab.v7 (Xal.mk s.key (XbV.mk row row1 row2 row3 row4 s.rows.e5 s.rows.e6 s.rows.m0 s.rows.m1 s.rows.m2 s.rows.m3 s.rows.m4 s.rows.m5 s.rows.m6) s.total) 5 text).bind fun x76=>
    XaQ (decide ((0:Int)≤x76∧x76<(s.rows.m5:Int))) <|
    (s.rows.e5[x76.toNat]?).bind fun (e5:Int)=>
    let t5:=if (wI .i64 (e5+n))<1099511627776 then wI .i64 (e5+n) else 1099511627776
    XaQ (decide (x76.toNat<s.rows.e5.length)) <|
    let row5:=s.rows.e5.set x76.toNat t5
    (Xab.v7 (Xal.mk s.key (XbV.mk row row1 row2 row3 row4 row5 s.rows.e6 s.rows.m0 s.rows.m1 s.rows.m2 s.rows.m3 s.rows.m4 s.rows.m5 s.rows.m6) s.total) 6 text).bind fun x77=>
    XaQ (decide ((0:Int)≤x77∧x77<(s.rows.m6:Int))) <|
    (s.rows.e6[x77.toNat]?).bind fun (e6:Int)=>
    let t6:=if (wI .i64 (e6+n))<1099511627776 then wI .i64 (e6+n) else 1099511627776
    XaQ (decide (x77.toNat<s.rows.e6.length)) <|
    let row6:=s.rows.e6.set x77.toNat t6
    let t7:=if (wI .i64 (s.total+n))<1099511627776 then wI .i64 (s.total+n) else 1099511627776
    some ((true,Xal.mk s.key (XbV.mk row row1 row2 row3 row4 row5 row6 s.rows.m0 s.rows.m1 s.rows.m2 s.rows.m3 s.rows.m4 s.rows.m5 s.rows.m6) t7)))))
def Xy2 (x:Bool×Xal):Xdu:=⟨.bool x.1,[(vI .i64 x.2.rows.e0),(vI .i64 x.2.rows.e1),(vI .i64 x.2.rows.e2),(vI .i64 x.2.rows.e3),(vI .i64 x.2.rows.e4),(vI .i64 x.2.rows.e5),(vI .i64 x.2.rows.e6)],[some [.int .u64 x.2.key.A,.int .u64 x.2.key.B,.slice (some ⟨8,0,none⟩) 7 1,.int .i64 x.2.total],some [.slice (some ⟨0,0,none⟩) x.2.rows.m0 1,.slice (some ⟨1,0,none⟩) x.2.rows.m1 1,.slice (some ⟨2,0,none⟩) x.2.rows.m2 1,.slice (some ⟨3,0,none⟩) x.2.rows.m3 1,.slice (some ⟨4,0,none⟩) x.2.rows.m4 1,.slice (some ⟨5,0,none⟩) x.2.rows.m5 1,.slice (some ⟨6,0,none⟩) x.2.rows.m6 1],none,none,none,none,none,none,none,none]⟩
abbrev XgU:=Xal→(List UInt8)→Int→Option (Bool×Xal)
def r12v7 (g:XgU):Dec:=dTr 10 (XbJ 0) fun (y0:Xal)=>dV asS fun (y1:List UInt8)=>dV (asI .i64) fun (y2:Int)=>XeC (ofG (g y0 y1 y2) Xy2)
abbrev XCl (Xab:Xaj) (Xaa:Xag):List (Nat×XcS):=[(20,s20 Xab),(38,s38 Xaa)]
theorem XyX (Xab:Xaj) (Xaa:Xag) (hS:XaF Try.prog (XaP (XCl Xab Xaa))) (s:Xal) (text:List UInt8) (n:Int) (res:Bool×Xal) (h:Xfj Xab Xaa s text n=some res) :
 XaU Try.prog 12 10 ⟨⟨12,27,[(0,.pointer (some ⟨0,0,none⟩)),(1,.string ⟨⟨text⟩⟩),(2,.int .i64 n)],[.code XkW],[],false,none⟩,[],[(0,.cells [.int .u64 s.key.A,.int .u64 s.key.B,.slice (some ⟨1,0,none⟩) 7 1,.int .i64 s.total]),(1,.cells [.slice (some ⟨2,0,none⟩) s.rows.m0 1,.slice (some ⟨3,0,none⟩) s.rows.m1 1,.slice (some ⟨4,0,none⟩) s.rows.m2 1,.slice (some ⟨5,0,none⟩) s.rows.m3 1,.slice (some ⟨6,0,none⟩) s.rows.m4 1,.slice (some ⟨7,0,none⟩) s.rows.m5 1,.slice (some ⟨8,0,none⟩) s.rows.m6 1]),(2,.row true (vI .i64 s.rows.e0)),(3,.row true (vI .i64 s.rows.e1)),(4,.row true (vI .i64 s.rows.e2)),(5,.row true (vI .i64 s.rows.e3)),(6,.row true (vI .i64 s.rows.e4)),(7,.row true (vI .i64 s.rows.e5)),(8,.row true (vI .i64 s.rows.e6))],10⟩ (fun v H _=>Res 10 (Xy2 res) v H):=by
 unfold Xfj at h
 have R1:=@XmH Xaa
 have R2:=@Xpm Xab
 have J:=js [2,3,4,5,6,7,8]
 refine Xa4 XaM hS true 3000 ?_
 conv=>whnf
 exact W
def Xfn (Xab:Xaj) (Xaa:Xag) (s:Xak) (text:List UInt8) (n:Int):Option (Bool×Xak):=
 (Xaa.v8 s).bind fun x8=>
 cond (!x8)
  (
  some ((false,s)))
  (
  cond (decide (n<0))
   (
   some ((false,s)))
   (
   cond (decide (n>1048576))
    (
    some ((false,s)))
    (
    (Xab.v8 s 0 text).bind fun x81=>
    XaQ (decide ((0:Int)≤x81∧x81<(s.rows.m0:Int))) <|
    (s.rows.e0[x81.toNat]?).bind fun (e:Int)=>
    let t:=if (wI .i64 (e+n))<1099511627776 then wI .i64 (e+n) else 1099511627776
    XaQ (decide (x81.toNat<s.rows.e0.length)) <|
    let row:=s.rows.e0.set x81.toNat t
    (Xab.v8 (Xak.mk s.key (XbC.mk row s.rows.e1 s.rows.e2 s.rows.e3 s.rows.e4 s.rows.e5 s.rows.e6 s.rows.e7 s.rows.m0 s.rows.m1 s.rows.m2 s.rows.m3 s.rows.m4 s.rows.m5 s.rows.m6 s.rows.m7) s.total) 1 text).bind fun x82=>
    XaQ (decide ((0:Int)≤x82∧x82<(s.rows.m1:Int))) <|
    (s.rows.e1[x82.toNat]?).bind fun (e1:Int)=>
    let t1:=if (wI .i64 (e1+n))<1099511627776 then wI .i64 (e1+n) else 1099511627776
    XaQ (decide (x82.toNat<s.rows.e1.length)) <|
    let row1:=s.rows.e1.set x82.toNat t1
    (Xab.v8 (Xak.mk s.key (XbC.mk row row1 s.rows.e2 s.rows.e3 s.rows.e4 s.rows.e5 s.rows.e6 s.rows.e7 s.rows.m0 s.rows.m1 s.rows.m2 s.rows.m3 s.rows.m4 s.rows.m5 s.rows.m6 s.rows.m7) s.total) 2 text).bind fun x83=>
    XaQ (decide ((0:Int)≤x83∧x83<(s.rows.m2:Int))) <|
    (s.rows.e2[x83.toNat]?).bind fun (e2:Int)=>
    let t2:=if (wI .i64 (e2+n))<1099511627776 then wI .i64 (e2+n) else 1099511627776
    XaQ (decide (x83.toNat<s.rows.e2.length)) <|
    let row2:=s.rows.e2.set x83.toNat t2
    (Xab.v8 (Xak.mk s.key (XbC.mk row row1 row2 s.rows.e3 s.rows.e4 s.rows.e5 s.rows.e6 s.rows.e7 s.rows.m0 s.rows.m1 s.rows.m2 s.rows.m3 s.rows.m4 s.rows.m5 s.rows.m6 s.rows.m7) s.total) 3 text).bind fun x84=>
    XaQ (decide ((0:Int)≤x84∧x84<(s.rows.m3:Int))) <|
    (s.rows.e3[x84.toNat]?).bind fun (e3:Int)=>
    let t3:=if (wI .i64 (e3+n))<1099511627776 then wI .i64 (e3+n) else 1099511627776
    XaQ (decide (x84.toNat<s.rows.e3.length)) <|
    let row3:=s.rows.e3.set x84.toNat t3
    (Xab.v8 (Xak.mk s.key (XbC.mk row row1 row2 row3 s.rows.e4 s.rows.e5 s.rows.e6 s.rows.e7 s.rows.m0 s.rows.m1 s.rows.m2 s.rows.m3 s.rows.m4 s.rows.m5 s.rows.m6 s.rows.m7) s.total) 4 text).bind fun x85=>
    XaQ (decide ((0:Int)≤x85∧x85<(s.rows.m4:Int))) <|
    (s.rows.e4[x85.toNat]?).bind fun (e4:Int)=>
    let t4:=if (wI .i64 (e4+n))<1099511627776 then wI .i64 (e4+n) else 1099511627776
    XaQ (decide (x85.toNat<s.rows.e4.length)) <|
    let row4:=s.rows.e4.set x85.toNat t4
    (Xab.v8 (Xak.mk s.key (XbC.mk row row1 row2 row3 row4 s.rows.e5 s.rows.e6 s.rows.e7 s.rows.m0 s.rows.m1 s.rows.m2 s.rows.m3 s.rows.m4 s.rows.m5 s.rows.m6 s.rows.m7) s.total) 5 text).bind fun x86=>
    XaQ (decide ((0:Int)≤x86∧x86<(s.rows.m5:Int))) <|
    (s.rows.e5[x86.toNat]?).bind fun (e5:Int)=>
    let t5:=if (wI .i64 (e5+n))<1099511627776 then wI .i64 (e5+n) else 1099511627776
    XaQ (decide (x86.toNat<s.rows.e5.length)) <|
    let row5:=s.rows.e5.set x86.toNat t5
    (Xab.v8 (Xak.mk s.key (XbC.mk row row1 row2 row3 row4 row5 s.rows.e6 s.rows.e7 s.rows.m0 s.rows.m1 s.rows.m2 s.rows.m3 s.rows.m4 s.rows.m5 s.rows.m6 s.rows.m7) s.total) 6 text).bind fun x87=>
    XaQ (decide ((0:Int)≤x87∧x87<(s.rows.m6:Int))) <|
    (s.rows.e6[x87.toNat]?).bind fun (e6:Int)=>
    let t6:=if (wI .i64 (e6+n))<1099511627776 then wI .i64 (e6+n) else 1099511627776
    XaQ (decide (x87.toNat<s.rows.e6.length)) <|
    let row6:=s.rows.e6.set x87.toNat t6
    (Xab.v8 (Xak.mk s.key (XbC.mk row row1 row2 row3 row4 row5 row6 s.rows.e7 s.rows.m0 s.rows.m1 s.rows.m2 s.rows.m3 s.rows.m4 s.rows.m5 s.rows.m6 s.rows.m7) s.total) 7 text).bind fun x88=>
    XaQ (decide ((0:Int)≤x88∧x88<(s.rows.m7:Int))) <|
    (s.rows.e7[x88.toNat]?).bind fun (e7:Int)=>
    let t7:=if (wI .i64 (e7+n))<1099511627776 then wI .i64 (e7+n) else 1099511627776
    XaQ (decide (x88.toNat<s.rows.e7.length)) <|
    let row7:=s.rows.e7.set x88.toNat t7
    let t8:=if (wI .i64 (s.total+n))<1099511627776 then wI .i64 (s.total+n) else 1099511627776
    some ((true,Xak.mk s.key (XbC.mk row row1 row2 row3 row4 row5 row6 row7 s.rows.m0 s.rows.m1 s.rows.m2 s.rows.m3 s.rows.m4 s.rows.m5 s.rows.m6 s.rows.m7) t8)))))
def Xzf (x:Bool×Xak):Xdu:=⟨.bool x.1,[(vI .i64 x.2.rows.e0),(vI .i64 x.2.rows.e1),(vI .i64 x.2.rows.e2),(vI .i64 x.2.rows.e3),(vI .i64 x.2.rows.e4),(vI .i64 x.2.rows.e5),(vI .i64 x.2.rows.e6),(vI .i64 x.2.rows.e7)],[some [.int .u64 x.2.key.A,.int .u64 x.2.key.B,.slice (some ⟨9,0,none⟩) 8 1,.int .i64 x.2.total],some [.slice (some ⟨0,0,none⟩) x.2.rows.m0 1,.slice (some ⟨1,0,none⟩) x.2.rows.m1 1,.slice (some ⟨2,0,none⟩) x.2.rows.m2 1,.slice (some ⟨3,0,none⟩) x.2.rows.m3 1,.slice (some ⟨4,0,none⟩) x.2.rows.m4 1,.slice (some ⟨5,0,none⟩) x.2.rows.m5 1,.slice (some ⟨6,0,none⟩) x.2.rows.m6 1,.slice (some ⟨7,0,none⟩) x.2.rows.m7 1],none,none,none,none,none,none,none,none]⟩
abbrev XgL:=Xak→(List UInt8)→Int→Option (Bool×Xak)
def r12v8 (g:XgL):Dec:=dTr 10 (XbI 0) fun (y0:Xak)=>dV asS fun (y1:List UInt8)=>dV (asI .i64) fun (y2:Int)=>XeC (ofG (g y0 y1 y2) Xzf)
abbrev XAr (Xab:Xaj) (Xaa:Xag):List (Nat×XcS):=[(20,s20 Xab),(38,s38 Xaa)]
theorem XzG (Xab:Xaj) (Xaa:Xag) (hS:XaF Try.prog (XaP (XAr Xab Xaa))) (s:Xak) (text:List UInt8) (n:Int) (res:Bool×Xak) (h:Xfn Xab Xaa s text n=some res) :
 XaU Try.prog 12 10 ⟨⟨12,27,[(0,.pointer (some ⟨0,0,none⟩)),(1,.string ⟨⟨text⟩⟩),(2,.int .i64 n)],[.code XkW],[],false,none⟩,[],[(0,.cells [.int .u64 s.key.A,.int .u64 s.key.B,.slice (some ⟨1,0,none⟩) 8 1,.int .i64 s.total]),(1,.cells [.slice (some ⟨2,0,none⟩) s.rows.m0 1,.slice (some ⟨3,0,none⟩) s.rows.m1 1,.slice (some ⟨4,0,none⟩) s.rows.m2 1,.slice (some ⟨5,0,none⟩) s.rows.m3 1,.slice (some ⟨6,0,none⟩) s.rows.m4 1,.slice (some ⟨7,0,none⟩) s.rows.m5 1,.slice (some ⟨8,0,none⟩) s.rows.m6 1,.slice (some ⟨9,0,none⟩) s.rows.m7 1]),(2,.row true (vI .i64 s.rows.e0)),(3,.row true (vI .i64 s.rows.e1)),(4,.row true (vI .i64 s.rows.e2)),(5,.row true (vI .i64 s.rows.e3)),(6,.row true (vI .i64 s.rows.e4)),(7,.row true (vI .i64 s.rows.e5)),(8,.row true (vI .i64 s.rows.e6)),(9,.row true (vI .i64 s.rows.e7))],10⟩ (fun v H _=>Res 10 (Xzf res) v H):=by
 unfold Xfn at h
 have R1:=@Xl5 Xaa
 have R2:=@XpH Xab
 have J:=js [2,3,4,5,6,7,8,9]
 refine Xa4 XaM hS true 3000 ?_
 conv=>whnf
 exact W
structure XaE where
 vn:XgE
 v0:Xg9
 v1:Xg1
 v2:XgT
 v3:Xg2
 v4:XgM
 v5:XgQ
 v6:Xg6
 v7:XgU
 v8:XgL
def s12 (g:XaE):XcS:=⟨[.tr [⟨none,0,0,1,none⟩,⟨some 0,2,0,1,none⟩,⟨some 1,0,0,2,none⟩,⟨some 1,1,0,2,none⟩,⟨some 1,2,0,2,none⟩,⟨some 1,3,0,2,none⟩,⟨some 1,4,0,2,none⟩,⟨some 1,5,0,2,none⟩,⟨some 1,6,0,2,none⟩,⟨some 1,7,0,2,none⟩],.v,.v],orD (r12vn g.vn) (orD (r12v0 g.v0) (orD (r12v1 g.v1) (orD (r12v2 g.v2) (orD (r12v3 g.v3) (orD (r12v4 g.v4) (orD (r12v5 g.v5) (orD (r12v6 g.v6) (orD (r12v7 g.v7) (r12v8 g.v8)))))))))⟩
theorem XuA {g:XaE} {y1:List UInt8} {y2:Int} {x:Bool} (hx:g.vn y1 y2=some x):(s12 g).run [.pointer none,.string ⟨⟨y1⟩⟩,.int .i64 y2] [none,none,none,none,none,none,none,none,none,none]=some (XxF x):=by dsimp only [s12];exact (XdM ((Xuz).trans ((Xbz (XhC)).trans ((Xbz (Xd1 _)).trans (Xbc hx)))))
theorem Xub {g:XaE} {y0:Xaz} {y1:List UInt8} {y2:Int} {x:Bool×Xaz} (hx:g.v0 y0 y1 y2=some x):(s12 g).run [.pointer (some ⟨0,0,none⟩),.string ⟨⟨y1⟩⟩,.int .i64 y2] [some [.int .u64 y0.key.A,.int .u64 y0.key.B,.slice none 0 0,.int .i64 y0.total],none,none,none,none,none,none,none,none,none]=some (XtJ x):=by dsimp only [s12];exact (XaL rfl (XdM ((Xbn rfl rfl (Xe8 0 _)).trans ((Xbz (XhC)).trans ((Xbz (Xd1 _)).trans (Xbc hx))))))
theorem XuF {g:XaE} {y0:XaA} {y1:List UInt8} {y2:Int} {x:Bool×XaA} (hx:g.v1 y0 y1 y2=some x):(s12 g).run [.pointer (some ⟨0,0,none⟩),.string ⟨⟨y1⟩⟩,.int .i64 y2] [some [.int .u64 y0.key.A,.int .u64 y0.key.B,.slice (some ⟨1,0,none⟩) 1 1,.int .i64 y0.total],some [.slice (some ⟨2,0,none⟩) y0.rows.m0 1],some (vI .i64 y0.rows.e0),none,none,none,none,none,none,none]=some (XxG x):=by dsimp only [s12];exact (XaL rfl (XaL rfl (XdM ((Xbn rfl rfl (XcK 0 _)).trans ((Xbz (XhC)).trans ((Xbz (Xd1 _)).trans (Xbc hx)))))))
theorem Xmv {g:XaE} {y0:Xax} {y1:List UInt8} {y2:Int} {x:Bool×Xax} (hx:g.v2 y0 y1 y2=some x):(s12 g).run [.pointer (some ⟨0,0,none⟩),.string ⟨⟨y1⟩⟩,.int .i64 y2] [some [.int .u64 y0.key.A,.int .u64 y0.key.B,.slice (some ⟨1,0,none⟩) 2 1,.int .i64 y0.total],some [.slice (some ⟨2,0,none⟩) y0.rows.m0 1,.slice (some ⟨3,0,none⟩) y0.rows.m1 1],some (vI .i64 y0.rows.e0),some (vI .i64 y0.rows.e1),none,none,none,none,none,none]=some (XyM x):=by dsimp only [s12];exact (XaL rfl (XaL rfl (XaL rfl (XdM ((Xbn rfl rfl (XcM 0 _)).trans ((Xbz (XhC)).trans ((Xbz (Xd1 _)).trans (Xbc hx))))))))
theorem XtL {g:XaE} {y0:Xav} {y1:List UInt8} {y2:Int} {x:Bool×Xav} (hx:g.v3 y0 y1 y2=some x):(s12 g).run [.pointer (some ⟨0,0,none⟩),.string ⟨⟨y1⟩⟩,.int .i64 y2] [some [.int .u64 y0.key.A,.int .u64 y0.key.B,.slice (some ⟨1,0,none⟩) 3 1,.int .i64 y0.total],some [.slice (some ⟨2,0,none⟩) y0.rows.m0 1,.slice (some ⟨3,0,none⟩) y0.rows.m1 1,.slice (some ⟨4,0,none⟩) y0.rows.m2 1],some (vI .i64 y0.rows.e0),some (vI .i64 y0.rows.e1),some (vI .i64 y0.rows.e2),none,none,none,none,none]=some (XyK x):=by dsimp only [s12];exact (XaL rfl (XaL rfl (XaL rfl (XaL rfl (XdM ((Xbn rfl rfl (XcO 0 _)).trans ((Xbz (XhC)).trans ((Xbz (Xd1 _)).trans (Xbc hx)))))))))
theorem XtK {g:XaE} {y0:Xar} {y1:List UInt8} {y2:Int} {x:Bool×Xar} (hx:g.v4 y0 y1 y2=some x):(s12 g).run [.pointer (some ⟨0,0,none⟩),.string ⟨⟨y1⟩⟩,.int .i64 y2] [some [.int .u64 y0.key.A,.int .u64 y0.key.B,.slice (some ⟨1,0,none⟩) 4 1,.int .i64 y0.total],some [.slice (some ⟨2,0,none⟩) y0.rows.m0 1,.slice (some ⟨3,0,none⟩) y0.rows.m1 1,.slice (some ⟨4,0,none⟩) y0.rows.m2 1,.slice (some ⟨5,0,none⟩) y0.rows.m3 1],some (vI .i64 y0.rows.e0),some (vI .i64 y0.rows.e1),some (vI .i64 y0.rows.e2),some (vI .i64 y0.rows.e3),none,none,none,none]=some (XxE x):=by dsimp only [s12];exact (XaL rfl (XaL rfl (XaL rfl (XaL rfl (XaL rfl (XdM ((Xbn rfl rfl (XcR 0 _)).trans ((Xbz (XhC)).trans ((Xbz (Xd1 _)).trans (Xbc hx))))))))))
theorem XuW {g:XaE} {y0:Xap} {y1:List UInt8} {y2:Int} {x:Bool×Xap} (hx:g.v5 y0 y1 y2=some x):(s12 g).run [.pointer (some ⟨0,0,none⟩),.string ⟨⟨y1⟩⟩,.int .i64 y2] [some [.int .u64 y0.key.A,.int .u64 y0.key.B,.slice (some ⟨1,0,none⟩) 5 1,.int .i64 y0.total],some [.slice (some ⟨2,0,none⟩) y0.rows.m0 1,.slice (some ⟨3,0,none⟩) y0.rows.m1 1,.slice (some ⟨4,0,none⟩) y0.rows.m2 1,.slice (some ⟨5,0,none⟩) y0.rows.m3 1,.slice (some ⟨6,0,none⟩) y0.rows.m4 1],some (vI .i64 y0.rows.e0),some (vI .i64 y0.rows.e1),some (vI .i64 y0.rows.e2),some (vI .i64 y0.rows.e3),some (vI .i64 y0.rows.e4),none,none,none]=some (XzV x):=by dsimp only [s12];exact (XaL rfl (XaL rfl (XaL rfl (XaL rfl (XaL rfl (XaL rfl (XdM ((Xbn rfl rfl (XcN 0 _)).trans ((Xbz (XhC)).trans ((Xbz (Xd1 _)).trans (Xbc hx)))))))))))
theorem XtH {g:XaE} {y0:Xan} {y1:List UInt8} {y2:Int} {x:Bool×Xan} (hx:g.v6 y0 y1 y2=some x):(s12 g).run [.pointer (some ⟨0,0,none⟩),.string ⟨⟨y1⟩⟩,.int .i64 y2] [some [.int .u64 y0.key.A,.int .u64 y0.key.B,.slice (some ⟨1,0,none⟩) 6 1,.int .i64 y0.total],some [.slice (some ⟨2,0,none⟩) y0.rows.m0 1,.slice (some ⟨3,0,none⟩) y0.rows.m1 1,.slice (some ⟨4,0,none⟩) y0.rows.m2 1,.slice (some ⟨5,0,none⟩) y0.rows.m3 1,.slice (some ⟨6,0,none⟩) y0.rows.m4 1,.slice (some ⟨7,0,none⟩) y0.rows.m5 1],some (vI .i64 y0.rows.e0),some (vI .i64 y0.rows.e1),some (vI .i64 y0.rows.e2),some (vI .i64 y0.rows.e3),some (vI .i64 y0.rows.e4),some (vI .i64 y0.rows.e5),none,none]=some (XwZ x):=by dsimp only [s12];exact (XaL rfl (XaL rfl (XaL rfl (XaL rfl (XaL rfl (XaL rfl (XaL rfl (XdM ((Xbn rfl rfl (XcQ 0 _)).trans ((Xbz (XhC)).trans ((Xbz (Xd1 _)).trans (Xbc hx))))))))))))
theorem XuQ {g:XaE} {y0:Xal} {y1:List UInt8} {y2:Int} {x:Bool×Xal} (hx:g.v7 y0 y1 y2=some x):(s12 g).run [.pointer (some ⟨0,0,none⟩),.string ⟨⟨y1⟩⟩,.int .i64 y2] [some [.int .u64 y0.key.A,.int .u64 y0.key.B,.slice (some ⟨1,0,none⟩) 7 1,.int .i64 y0.total],some [.slice (some ⟨2,0,none⟩) y0.rows.m0 1,.slice (some ⟨3,0,none⟩) y0.rows.m1 1,.slice (some ⟨4,0,none⟩) y0.rows.m2 1,.slice (some ⟨5,0,none⟩) y0.rows.m3 1,.slice (some ⟨6,0,none⟩) y0.rows.m4 1,.slice (some ⟨7,0,none⟩) y0.rows.m5 1,.slice (some ⟨8,0,none⟩) y0.rows.m6 1],some (vI .i64 y0.rows.e0),some (vI .i64 y0.rows.e1),some (vI .i64 y0.rows.e2),some (vI .i64 y0.rows.e3),some (vI .i64 y0.rows.e4),some (vI .i64 y0.rows.e5),some (vI .i64 y0.rows.e6),none]=some (Xy2 x):=by dsimp only [s12];exact (XaL rfl (XaL rfl (XaL rfl (XaL rfl (XaL rfl (XaL rfl (XaL rfl (XaL rfl (XdM ((Xbn rfl rfl (XcL 0 _)).trans ((Xbz (XhC)).trans ((Xbz (Xd1 _)).trans (Xbc hx)))))))))))))
theorem XuD {g:XaE} {y0:Xak} {y1:List UInt8} {y2:Int} {x:Bool×Xak} (hx:g.v8 y0 y1 y2=some x):(s12 g).run [.pointer (some ⟨0,0,none⟩),.string ⟨⟨y1⟩⟩,.int .i64 y2] [some [.int .u64 y0.key.A,.int .u64 y0.key.B,.slice (some ⟨1,0,none⟩) 8 1,.int .i64 y0.total],some [.slice (some ⟨2,0,none⟩) y0.rows.m0 1,.slice (some ⟨3,0,none⟩) y0.rows.m1 1,.slice (some ⟨4,0,none⟩) y0.rows.m2 1,.slice (some ⟨5,0,none⟩) y0.rows.m3 1,.slice (some ⟨6,0,none⟩) y0.rows.m4 1,.slice (some ⟨7,0,none⟩) y0.rows.m5 1,.slice (some ⟨8,0,none⟩) y0.rows.m6 1,.slice (some ⟨9,0,none⟩) y0.rows.m7 1],some (vI .i64 y0.rows.e0),some (vI .i64 y0.rows.e1),some (vI .i64 y0.rows.e2),some (vI .i64 y0.rows.e3),some (vI .i64 y0.rows.e4),some (vI .i64 y0.rows.e5),some (vI .i64 y0.rows.e6),some (vI .i64 y0.rows.e7)]=some (Xzf x):=by dsimp only [s12];exact (XaL rfl (XaL rfl (XaL rfl (XaL rfl (XaL rfl (XaL rfl (XaL rfl (XaL rfl (XaL rfl ((Xbn rfl rfl (XcP 0 _)).trans ((Xbz (XhC)).trans ((Xbz (Xd1 _)).trans (Xbc hx)))))))))))))
def XlP:XgE:=XhI Xaa
def XlI:Xg9:=XhJ Xaa
def XhU:Xg1:=Xfm Xab Xaa
def XhT:XgT:=Xfo Xab Xaa
def XhZ:Xg2:=Xfg Xab Xaa
def XhS:XgM:=Xfi Xab Xaa
def XhW:XgQ:=Xfh Xab Xaa
def XhR:Xg6:=Xff Xab Xaa
def XhV:XgU:=Xfj Xab Xaa
def XhY:XgL:=Xfn Xab Xaa
def Xaf:XaE:=⟨XlP,XlI,XhU,XhT,XhZ,XhS,XhW,XhR,XhV,XhY⟩
theorem XII:XeH Try.prog 12 (s12 Xaf):=by
 have L0:=XwF Xaa (XaF.Xba ⟨Xc9,trivial⟩)
 have L1:=Xyn Xaa (XaF.Xba ⟨Xc9,trivial⟩)
 have L2:=Xzl Xab Xaa (XaF.Xba ⟨XiN,Xc9,trivial⟩)
 have L3:=Xyu Xab Xaa (XaF.Xba ⟨XiN,Xc9,trivial⟩)
 have L4:=Xy3 Xab Xaa (XaF.Xba ⟨XiN,Xc9,trivial⟩)
 have L5:=Xy1 Xab Xaa (XaF.Xba ⟨XiN,Xc9,trivial⟩)
 have L6:=Xzk Xab Xaa (XaF.Xba ⟨XiN,Xc9,trivial⟩)
 have L7:=Xwv Xab Xaa (XaF.Xba ⟨XiN,Xc9,trivial⟩)
 have L8:=XyX Xab Xaa (XaF.Xba ⟨XiN,Xc9,trivial⟩)
 have L9:=XzG Xab Xaa (XaF.Xba ⟨XiN,Xc9,trivial⟩)
 refine XeH.Xjm XaM (fun ar os r ha hr=>?_) ⟨Try.f12,rfl,by decide,rfl⟩
 generalize hc:XiR os=C at hr
 replace hr:=orD.elim hr;rcases hr with hr|hr
 ·have LL:=L0;exact okB
 replace hr:=orD.elim hr;rcases hr with hr|hr
 ·have LL:=L1;have U1:=@XdZ;exact okB
 replace hr:=orD.elim hr;rcases hr with hr|hr
 ·have LL:=L2;have U1:=@XcW;exact okB
 replace hr:=orD.elim hr;rcases hr with hr|hr
 ·have LL:=L3;have U1:=@XcZ;exact okB
 replace hr:=orD.elim hr;rcases hr with hr|hr
 ·have LL:=L4;have U1:=@Xc2;exact okB
 replace hr:=orD.elim hr;rcases hr with hr|hr
 ·have LL:=L5;have U1:=@Xc0;exact okB
 replace hr:=orD.elim hr;rcases hr with hr|hr
 ·have LL:=L6;have U1:=@XcY;exact okB
 replace hr:=orD.elim hr;rcases hr with hr|hr
 ·have LL:=L7;have U1:=@Xc3;exact okB
 replace hr:=orD.elim hr;rcases hr with hr|hr
 ·have LL:=L8;have U1:=@Xc6;exact okB
 have LL:=L9;have U1:=@Xc1;exact okB
def XgK (Xaa:Xag) (text:List UInt8):Option Int:=
 (Xaa.vn).bind fun n=>
 cond (!n)
  (
  some (0))
  (
  none)
def XwA (x:Int):Xdu:=⟨.int .i64 x,[],[none,none,none,none,none,none,none,none,none,none]⟩
abbrev XfJ:=(List UInt8)→Option Int
def r16vn (g:XfJ):Dec:=dNl 10<|dV asS fun (y1:List UInt8)=>XeC (ofG (g y1) XwA)
abbrev XBb (Xaa:Xag):List (Nat×XcS):=[(38,s38 Xaa)]
theorem XzY (Xaa:Xag) (hS:XaF Try.prog (XaP (XBb Xaa))) (text:List UInt8) (res:Int) (h:XgK Xaa text=some res) :
 XaU Try.prog 16 10 ⟨⟨16,14,[(0,.pointer none),(1,.string ⟨⟨text⟩⟩)],[.code XlA],[],false,none⟩,[],[],10⟩ (fun v H _=>Res 10 (XwA res) v H):=by
 unfold XgK at h
 have R1:=@Xpu Xaa
 refine Xa4 XaM hS true 3000 ?_
 conv=>whnf
 exact W
def Xe2 (Xab:Xaj) (Xaa:Xag) (s:XaA) (text:List UInt8):Option Int:=
 (Xaa.v1 s).bind fun x1=>
 cond (!x1)
  (
  some (0))
  (
  (Xab.v1 s 0 text).bind fun x11=>
  XaQ (decide ((0:Int)≤x11∧x11<(s.rows.m0:Int))) <|
  (s.rows.e0[x11.toNat]?).bind fun (e:Int)=>
  let t:=if e<1099511627776 then e else 1099511627776
  some (t))
def XzL (x:Int):Xdu:=⟨.int .i64 x,[],[none,none,none,none,none,none,none,none,none,none]⟩
abbrev XfK:=XaA→(List UInt8)→Option Int
def r16v1 (g:XfK):Dec:=dTr 10 (XbE 0) fun (y0:XaA)=>dV asS fun (y1:List UInt8)=>XeC (ofG (g y0 y1) XzL)
abbrev XCv (Xab:Xaj) (Xaa:Xag):List (Nat×XcS):=[(20,s20 Xab),(38,s38 Xaa)]
theorem Xx7 (Xab:Xaj) (Xaa:Xag) (hS:XaF Try.prog (XaP (XCv Xab Xaa))) (s:XaA) (text:List UInt8) (res:Int) (h:Xe2 Xab Xaa s text=some res) :
 XaU Try.prog 16 10 ⟨⟨16,14,[(0,.pointer (some ⟨0,0,none⟩)),(1,.string ⟨⟨text⟩⟩)],[.code XlA],[],false,none⟩,[],[(0,.row false [.int .u64 s.key.A,.int .u64 s.key.B,.slice (some ⟨1,0,none⟩) 1 1,.int .i64 s.total]),(1,.row false [.slice (some ⟨2,0,none⟩) s.rows.m0 1]),(2,.row false (vI .i64 s.rows.e0))],10⟩ (fun v H _=>Res 10 (XzL res) v H):=by
 unfold Xe2 at h
 have R1:=@Xmg Xaa
 have R2:=@XpW Xab
 have J:=js []
 refine Xa4 XaM hS true 3000 ?_
 conv=>whnf
 exact W
def XeX (Xab:Xaj) (Xaa:Xag) (s:Xax) (text:List UInt8):Option Int:=
 (Xaa.v2 s).bind fun x2=>
 cond (!x2)
  (
  some (0))
  (
  (Xab.v2 s 0 text).bind fun x21=>
  XaQ (decide ((0:Int)≤x21∧x21<(s.rows.m0:Int))) <|
  (s.rows.e0[x21.toNat]?).bind fun (e:Int)=>
  let t:=if e<1099511627776 then e else 1099511627776
  (Xab.v2 s 1 text).bind fun x22=>
  XaQ (decide ((0:Int)≤x22∧x22<(s.rows.m1:Int))) <|
  (s.rows.e1[x22.toNat]?).bind fun (e1:Int)=>
  some (if e1<t then e1 else t))
def XyC (x:Int):Xdu:=⟨.int .i64 x,[],[none,none,none,none,none,none,none,none,none,none]⟩
abbrev XfB:=Xax→(List UInt8)→Option Int
def r16v2 (g:XfB):Dec:=dTr 10 (XbL 0) fun (y0:Xax)=>dV asS fun (y1:List UInt8)=>XeC (ofG (g y0 y1) XyC)
abbrev XCc (Xab:Xaj) (Xaa:Xag):List (Nat×XcS):=[(20,s20 Xab),(38,s38 Xaa)]
theorem XxL (Xab:Xaj) (Xaa:Xag) (hS:XaF Try.prog (XaP (XCc Xab Xaa))) (s:Xax) (text:List UInt8) (res:Int) (h:XeX Xab Xaa s text=some res) :
 XaU Try.prog 16 10 ⟨⟨16,14,[(0,.pointer (some ⟨0,0,none⟩)),(1,.string ⟨⟨text⟩⟩)],[.code XlA],[],false,none⟩,[],[(0,.row false [.int .u64 s.key.A,.int .u64 s.key.B,.slice (some ⟨1,0,none⟩) 2 1,.int .i64 s.total]),(1,.row false [.slice (some ⟨2,0,none⟩) s.rows.m0 1,.slice (some ⟨3,0,none⟩) s.rows.m1 1]),(2,.row false (vI .i64 s.rows.e0)),(3,.row false (vI .i64 s.rows.e1))],10⟩ (fun v H _=>Res 10 (XyC res) v H):=by
 unfold XeX at h
 have R1:=@Xl4 Xaa
 have R2:=@Xp0 Xab
 have J:=js []
 refine Xa4 XaM hS true 3000 ?_
 conv=>whnf
 exact W
def XeS (Xab:Xaj) (Xaa:Xag) (s:Xav) (text:List UInt8):Option Int:=
 (Xaa.v3 s).bind fun x3=>
 cond (!x3)
  (
  some (0))
  (
  (Xab.v3 s 0 text).bind fun x31=>
  XaQ (decide ((0:Int)≤x31∧x31<(s.rows.m0:Int))) <|
  (s.rows.e0[x31.toNat]?).bind fun (e:Int)=>
  let t:=if e<1099511627776 then e else 1099511627776
  (Xab.v3 s 1 text).bind fun x32=>
  XaQ (decide ((0:Int)≤x32∧x32<(s.rows.m1:Int))) <|
  (s.rows.e1[x32.toNat]?).bind fun (e1:Int)=>
  (Xab.v3 s 2 text).bind fun x33=>
  XaQ (decide ((0:Int)≤x33∧x33<(s.rows.m2:Int))) <|
  (s.rows.e2[x33.toNat]?).bind fun (e2:Int)=>
  let t1:=if e2<(if e1<t then e1 else t) then e2 else if e1<t then e1 else t
  some (t1))
def Xxd (x:Int):Xdu:=⟨.int .i64 x,[],[none,none,none,none,none,none,none,none,none,none]⟩
abbrev Xge:=Xav→(List UInt8)→Option Int
def r16v3 (g:Xge):Dec:=dTr 10 (XbM 0) fun (y0:Xav)=>dV asS fun (y1:List UInt8)=>XeC (ofG (g y0 y1) Xxd)
abbrev XAp (Xab:Xaj) (Xaa:Xag):List (Nat×XcS):=[(20,s20 Xab),(38,s38 Xaa)]
theorem Xzp (Xab:Xaj) (Xaa:Xag) (hS:XaF Try.prog (XaP (XAp Xab Xaa))) (s:Xav) (text:List UInt8) (res:Int) (h:XeS Xab Xaa s text=some res) :
 XaU Try.prog 16 10 ⟨⟨16,14,[(0,.pointer (some ⟨0,0,none⟩)),(1,.string ⟨⟨text⟩⟩)],[.code XlA],[],false,none⟩,[],[(0,.row false [.int .u64 s.key.A,.int .u64 s.key.B,.slice (some ⟨1,0,none⟩) 3 1,.int .i64 s.total]),(1,.row false [.slice (some ⟨2,0,none⟩) s.rows.m0 1,.slice (some ⟨3,0,none⟩) s.rows.m1 1,.slice (some ⟨4,0,none⟩) s.rows.m2 1]),(2,.row false (vI .i64 s.rows.e0)),(3,.row false (vI .i64 s.rows.e1)),(4,.row false (vI .i64 s.rows.e2))],10⟩ (fun v H _=>Res 10 (Xxd res) v H):=by
 unfold XeS at h
 have R1:=@Xmw Xaa
 have R2:=@XpC Xab
 have J:=js []
 refine Xa4 XaM hS true 3000 ?_
 conv=>whnf
 exact W
def XeW (Xab:Xaj) (Xaa:Xag) (s:Xar) (text:List UInt8):Option Int:=
 (Xaa.v4 s).bind fun x4=>
 cond (!x4)
  (
  some (0))
  (
  (Xab.v4 s 0 text).bind fun x41=>
  XaQ (decide ((0:Int)≤x41∧x41<(s.rows.m0:Int))) <|
  (s.rows.e0[x41.toNat]?).bind fun (e:Int)=>
  let t:=if e<1099511627776 then e else 1099511627776
  (Xab.v4 s 1 text).bind fun x42=>
  XaQ (decide ((0:Int)≤x42∧x42<(s.rows.m1:Int))) <|
  (s.rows.e1[x42.toNat]?).bind fun (e1:Int)=>
  (Xab.v4 s 2 text).bind fun x43=>
  XaQ (decide ((0:Int)≤x43∧x43<(s.rows.m2:Int))) <|
  (s.rows.e2[x43.toNat]?).bind fun (e2:Int)=>
  let t1:=if e2<(if e1<t then e1 else t) then e2 else if e1<t then e1 else t
  (Xab.v4 s 3 text).bind fun x44=>
  XaQ (decide ((0:Int)≤x44∧x44<(s.rows.m3:Int))) <|
  (s.rows.e3[x44.toNat]?).bind fun (e3:Int)=>
  some (if e3<t1 then e3 else t1))
def XyV (x:Int):Xdu:=⟨.int .i64 x,[],[none,none,none,none,none,none,none,none,none,none]⟩
abbrev Xf5:=Xar→(List UInt8)→Option Int
def r16v4 (g:Xf5):Dec:=dTr 10 (XbG 0) fun (y0:Xar)=>dV asS fun (y1:List UInt8)=>XeC (ofG (g y0 y1) XyV)
abbrev XBI (Xab:Xaj) (Xaa:Xag):List (Nat×XcS):=[(20,s20 Xab),(38,s38 Xaa)]
theorem Xwk (Xab:Xaj) (Xaa:Xag) (hS:XaF Try.prog (XaP (XBI Xab Xaa))) (s:Xar) (text:List UInt8) (res:Int) (h:XeW Xab Xaa s text=some res) :
 XaU Try.prog 16 10 ⟨⟨16,14,[(0,.pointer (some ⟨0,0,none⟩)),(1,.string ⟨⟨text⟩⟩)],[.code XlA],[],false,none⟩,[],[(0,.row false [.int .u64 s.key.A,.int .u64 s.key.B,.slice (some ⟨1,0,none⟩) 4 1,.int .i64 s.total]),(1,.row false [.slice (some ⟨2,0,none⟩) s.rows.m0 1,.slice (some ⟨3,0,none⟩) s.rows.m1 1,.slice (some ⟨4,0,none⟩) s.rows.m2 1,.slice (some ⟨5,0,none⟩) s.rows.m3 1]),(2,.row false (vI .i64 s.rows.e0)),(3,.row false (vI .i64 s.rows.e1)),(4,.row false (vI .i64 s.rows.e2)),(5,.row false (vI .i64 s.rows.e3))],10⟩ (fun v H _=>Res 10 (XyV res) v H):=by
 unfold XeW at h
 have R1:=@Xmp Xaa
 have R2:=@XpD Xab
 have J:=js []
 refine Xa4 XaM hS true 3000 ?_
 conv=>whnf
 exact W
def XeN (Xab:Xaj) (Xaa:Xag) (s:Xap) (text:List UInt8):Option Int:=
 (Xaa.v5 s).bind fun x5=>
 cond (!x5)
  (
  some (0))
  (
  (Xab.v5 s 0 text).bind fun x51=>
  XaQ (decide ((0:Int)≤x51∧x51<(s.rows.m0:Int))) <|
  (s.rows.e0[x51.toNat]?).bind fun (e:Int)=>
  let t:=if e<1099511627776 then e else 1099511627776
  (Xab.v5 s 1 text).bind fun x52=>
  XaQ (decide ((0:Int)≤x52∧x52<(s.rows.m1:Int))) <|
  (s.rows.e1[x52.toNat]?).bind fun (e1:Int)=>
  (Xab.v5 s 2 text).bind fun x53=>
  XaQ (decide ((0:Int)≤x53∧x53<(s.rows.m2:Int))) <|
  (s.rows.e2[x53.toNat]?).bind fun (e2:Int)=>
  let t1:=if e2<(if e1<t then e1 else t) then e2 else if e1<t then e1 else t
  (Xab.v5 s 3 text).bind fun x54=>
  XaQ (decide ((0:Int)≤x54∧x54<(s.rows.m3:Int))) <|
  (s.rows.e3[x54.toNat]?).bind fun (e3:Int)=>
  (Xab.v5 s 4 text).bind fun x55=>
  XaQ (decide ((0:Int)≤x55∧x55<(s.rows.m4:Int))) <|
  (s.rows.e4[x55.toNat]?).bind fun (e4:Int)=>
  let t2:=if e4<(if e3<t1 then e3 else t1) then e4 else if e3<t1 then e3 else t1
  some (t2))
def Xzj (x:Int):Xdu:=⟨.int .i64 x,[],[none,none,none,none,none,none,none,none,none,none]⟩
abbrev Xgc:=Xap→(List UInt8)→Option Int
def r16v5 (g:Xgc):Dec:=dTr 10 (XbK 0) fun (y0:Xap)=>dV asS fun (y1:List UInt8)=>XeC (ofG (g y0 y1) Xzj)
abbrev XCf (Xab:Xaj) (Xaa:Xag):List (Nat×XcS):=[(20,s20 Xab),(38,s38 Xaa)]
theorem XzS (Xab:Xaj) (Xaa:Xag) (hS:XaF Try.prog (XaP (XCf Xab Xaa))) (s:Xap) (text:List UInt8) (res:Int) (h:XeN Xab Xaa s text=some res) :
 XaU Try.prog 16 10 ⟨⟨16,14,[(0,.pointer (some ⟨0,0,none⟩)),(1,.string ⟨⟨text⟩⟩)],[.code XlA],[],false,none⟩,[],[(0,.row false [.int .u64 s.key.A,.int .u64 s.key.B,.slice (some ⟨1,0,none⟩) 5 1,.int .i64 s.total]),(1,.row false [.slice (some ⟨2,0,none⟩) s.rows.m0 1,.slice (some ⟨3,0,none⟩) s.rows.m1 1,.slice (some ⟨4,0,none⟩) s.rows.m2 1,.slice (some ⟨5,0,none⟩) s.rows.m3 1,.slice (some ⟨6,0,none⟩) s.rows.m4 1]),(2,.row false (vI .i64 s.rows.e0)),(3,.row false (vI .i64 s.rows.e1)),(4,.row false (vI .i64 s.rows.e2)),(5,.row false (vI .i64 s.rows.e3)),(6,.row false (vI .i64 s.rows.e4))],10⟩ (fun v H _=>Res 10 (Xzj res) v H):=by
 unfold XeN at h
 have R1:=@Xl3 Xaa
 have R2:=@Xpv Xab
 have J:=js []
 refine Xa4 XaM hS true 3000 ?_
 conv=>whnf
 exact W
def XeY (Xab:Xaj) (Xaa:Xag) (s:Xan) (text:List UInt8):Option Int:=
 (Xaa.v6 s).bind fun x6=>
 cond (!x6)
  (
  some (0))
  (
  (Xab.v6 s 0 text).bind fun x61=>
  XaQ (decide ((0:Int)≤x61∧x61<(s.rows.m0:Int))) <|
  (s.rows.e0[x61.toNat]?).bind fun (e:Int)=>
  let t:=if e<1099511627776 then e else 1099511627776
  (Xab.v6 s 1 text).bind fun x62=>
  XaQ (decide ((0:Int)≤x62∧x62<(s.rows.m1:Int))) <|
  (s.rows.e1[x62.toNat]?).bind fun (e1:Int)=>
  (Xab.v6 s 2 text).bind fun x63=>
  XaQ (decide ((0:Int)≤x63∧x63<(s.rows.m2:Int))) <|
  (s.rows.e2[x63.toNat]?).bind fun (e2:Int)=>
  let t1:=if e2<(if e1<t then e1 else t) then e2 else if e1<t then e1 else t
  (Xab.v6 s 3 text).bind fun x64=>
  XaQ (decide ((0:Int)≤x64∧x64<(s.rows.m3:Int))) <|
  (s.rows.e3[x64.toNat]?).bind fun (e3:Int)=>
  (Xab.v6 s 4 text).bind fun x65=>
  XaQ (decide ((0:Int)≤x65∧x65<(s.rows.m4:Int))) <|
  (s.rows.e4[x65.toNat]?).bind fun (e4:Int)=>
  let t2:=if e4<(if e3<t1 then e3 else t1) then e4 else if e3<t1 then e3 else t1
  (Xab.v6 s 5 text).bind fun x66=>
  XaQ (decide ((0:Int)≤x66∧x66<(s.rows.m5:Int))) <|
  (s.rows.e5[x66.toNat]?).bind fun (e5:Int)=>
  some (if e5<t2 then e5 else t2))
def Xyy (x:Int):Xdu:=⟨.int .i64 x,[],[none,none,none,none,none,none,none,none,none,none]⟩
abbrev Xfr:=Xan→(List UInt8)→Option Int
def r16v6 (g:Xfr):Dec:=dTr 10 (XbF 0) fun (y0:Xan)=>dV asS fun (y1:List UInt8)=>XeC (ofG (g y0 y1) Xyy)
abbrev XAm (Xab:Xaj) (Xaa:Xag):List (Nat×XcS):=[(20,s20 Xab),(38,s38 Xaa)]
theorem Xzz (Xab:Xaj) (Xaa:Xag) (hS:XaF Try.prog (XaP (XAm Xab Xaa))) (s:Xan) (text:List UInt8) (res:Int) (h:XeY Xab Xaa s text=some res) :
 XaU Try.prog 16 10 ⟨⟨16,14,[(0,.pointer (some ⟨0,0,none⟩)),(1,.string ⟨⟨text⟩⟩)],[.code XlA],[],false,none⟩,[],[(0,.row false [.int .u64 s.key.A,.int .u64 s.key.B,.slice (some ⟨1,0,none⟩) 6 1,.int .i64 s.total]),(1,.row false [.slice (some ⟨2,0,none⟩) s.rows.m0 1,.slice (some ⟨3,0,none⟩) s.rows.m1 1,.slice (some ⟨4,0,none⟩) s.rows.m2 1,.slice (some ⟨5,0,none⟩) s.rows.m3 1,.slice (some ⟨6,0,none⟩) s.rows.m4 1,.slice (some ⟨7,0,none⟩) s.rows.m5 1]),(2,.row false (vI .i64 s.rows.e0)),(3,.row false (vI .i64 s.rows.e1)),(4,.row false (vI .i64 s.rows.e2)),(5,.row false (vI .i64 s.rows.e3)),(6,.row false (vI .i64 s.rows.e4)),(7,.row false (vI .i64 s.rows.e5))],10⟩ (fun v H _=>Res 10 (Xyy res) v H):=by
 unfold XeY at h
 have R1:=@XmD Xaa
 have R2:=@XpX Xab
 have J:=js []
 refine Xa4 XaM hS true 3000 ?_
 conv=>whnf
 exact W
def Xe1 (Xab:Xaj) (Xaa:Xag) (s:Xal) (text:List UInt8):Option Int:=
 (Xaa.v7 s).bind fun x7=>
 cond (!x7)
  (
  some (0))
  (
  (Xab.v7 s 0 text).bind fun x71=>
  XaQ (decide ((0:Int)≤x71∧x71<(s.rows.m0:Int))) <|
  (s.rows.e0[x71.toNat]?).bind fun (e:Int)=>
  let t:=if e<1099511627776 then e else 1099511627776
  (Xab.v7 s 1 text).bind fun x72=>
  XaQ (decide ((0:Int)≤x72∧x72<(s.rows.m1:Int))) <|
  (s.rows.e1[x72.toNat]?).bind fun (e1:Int)=>
  (Xab.v7 s 2 text).bind fun x73=>
  XaQ (decide ((0:Int)≤x73∧x73<(s.rows.m2:Int))) <|
  (s.rows.e2[x73.toNat]?).bind fun (e2:Int)=>
  let t1:=if e2<(if e1<t then e1 else t) then e2 else if e1<t then e1 else t
  (Xab.v7 s 3 text).bind fun x74=>
  XaQ (decide ((0:Int)≤x74∧x74<(s.rows.m3:Int))) <|
  (s.rows.e3[x74.toNat]?).bind fun (e3:Int)=>
  (Xab.v7 s 4 text).bind fun x75=>
  XaQ (decide ((0:Int)≤x75∧x75<(s.rows.m4:Int))) <|
  (s.rows.e4[x75.toNat]?).bind fun (e4:Int)=>
  let t2:=if e4<(if e3<t1 then e3 else t1) then e4 else if e3<t1 then e3 else t1
  (Xab.v7 s 5 text).bind fun x76=>
  XaQ (decide ((0:Int)≤x76∧x76<(s.rows.m5:Int))) <|
  (s.rows.e5[x76.toNat]?).bind fun (e5:Int)=>
  (Xab.v7 s 6 text).bind fun x77=>
  XaQ (decide ((0:Int)≤x77∧x77<(s.rows.m6:Int))) <|
  (s.rows.e6[x77.toNat]?).bind fun (e6:Int)=>
  let t3:=if e6<(if e5<t2 then e5 else t2) then e6 else if e5<t2 then e5 else t2
  some (t3))
def Xwj (x:Int):Xdu:=⟨.int .i64 x,[],[none,none,none,none,none,none,none,none,none,none]⟩
abbrev Xf2:=Xal→(List UInt8)→Option Int
def r16v7 (g:Xf2):Dec:=dTr 10 (XbJ 0) fun (y0:Xal)=>dV asS fun (y1:List UInt8)=>XeC (ofG (g y0 y1) Xwj)
abbrev XCr (Xab:Xaj) (Xaa:Xag):List (Nat×XcS):=[(20,s20 Xab),(38,s38 Xaa)]
theorem Xz0 (Xab:Xaj) (Xaa:Xag) (hS:XaF Try.prog (XaP (XCr Xab Xaa))) (s:Xal) (text:List UInt8) (res:Int) (h:Xe1 Xab Xaa s text=some res) :
 XaU Try.prog 16 10 ⟨⟨16,14,[(0,.pointer (some ⟨0,0,none⟩)),(1,.string ⟨⟨text⟩⟩)],[.code XlA],[],false,none⟩,[],[(0,.row false [.int .u64 s.key.A,.int .u64 s.key.B,.slice (some ⟨1,0,none⟩) 7 1,.int .i64 s.total]),(1,.row false [.slice (some ⟨2,0,none⟩) s.rows.m0 1,.slice (some ⟨3,0,none⟩) s.rows.m1 1,.slice (some ⟨4,0,none⟩) s.rows.m2 1,.slice (some ⟨5,0,none⟩) s.rows.m3 1,.slice (some ⟨6,0,none⟩) s.rows.m4 1,.slice (some ⟨7,0,none⟩) s.rows.m5 1,.slice (some ⟨8,0,none⟩) s.rows.m6 1]),(2,.row false (vI .i64 s.rows.e0)),(3,.row false (vI .i64 s.rows.e1)),(4,.row false (vI .i64 s.rows.e2)),(5,.row false (vI .i64 s.rows.e3)),(6,.row false (vI .i64 s.rows.e4)),(7,.row false (vI .i64 s.rows.e5)),(8,.row false (vI .i64 s.rows.e6))],10⟩ (fun v H _=>Res 10 (Xwj res) v H):=by
 unfold Xe1 at h
 have R1:=@XmH Xaa
 have R2:=@Xpm Xab
 have J:=js []
 refine Xa4 XaM hS true 3000 ?_
 conv=>whnf
 exact W
def XeR (Xab:Xaj) (Xaa:Xag) (s:Xak) (text:List UInt8):Option Int:=
 (Xaa.v8 s).bind fun x8=>
 cond (!x8)
  (
  some (0))
  (
  (Xab.v8 s 0 text).bind fun x81=>
  XaQ (decide ((0:Int)≤x81∧x81<(s.rows.m0:Int))) <|
  (s.rows.e0[x81.toNat]?).bind fun (e:Int)=>
  let t:=if e<1099511627776 then e else 1099511627776
  (Xab.v8 s 1 text).bind fun x82=>
  XaQ (decide ((0:Int)≤x82∧x82<(s.rows.m1:Int))) <|
  (s.rows.e1[x82.toNat]?).bind fun (e1:Int)=>
  (Xab.v8 s 2 text).bind fun x83=>
  XaQ (decide ((0:Int)≤x83∧x83<(s.rows.m2:Int))) <|
  (s.rows.e2[x83.toNat]?).bind fun (e2:Int)=>
  let t1:=if e2<(if e1<t then e1 else t) then e2 else if e1<t then e1 else t
  (Xab.v8 s 3 text).bind fun x84=>
  XaQ (decide ((0:Int)≤x84∧x84<(s.rows.m3:Int))) <|
  (s.rows.e3[x84.toNat]?).bind fun (e3:Int)=>
  (Xab.v8 s 4 text).bind fun x85=>
  XaQ (decide ((0:Int)≤x85∧x85<(s.rows.m4:Int))) <|
  (s.rows.e4[x85.toNat]?).bind fun (e4:Int)=>
  let t2:=if e4<(if e3<t1 then e3 else t1) then e4 else if e3<t1 then e3 else t1
  (Xab.v8 s 5 text).bind fun x86=>
  XaQ (decide ((0:Int)≤x86∧x86<(s.rows.m5:Int))) <|
  (s.rows.e5[x86.toNat]?).bind fun (e5:Int)=>
  (Xab.v8 s 6 text).bind fun x87=>
  XaQ (decide ((0:Int)≤x87∧x87<(s.rows.m6:Int))) <|
  (s.rows.e6[x87.toNat]?).bind fun (e6:Int)=>
  let t3:=if e6<(if e5<t2 then e5 else t2) then e6 else if e5<t2 then e5 else t2
  (Xab.v8 s 7 text).bind fun x88=>
  XaQ (decide ((0:Int)≤x88∧x88<(s.rows.m7:Int))) <|
  (s.rows.e7[x88.toNat]?).bind fun (e7:Int)=>
  some (if e7<t3 then e7 else t3))
def XxY (x:Int):Xdu:=⟨.int .i64 x,[],[none,none,none,none,none,none,none,none,none,none]⟩
abbrev XfD:=Xak→(List UInt8)→Option Int
def r16v8 (g:XfD):Dec:=dTr 10 (XbI 0) fun (y0:Xak)=>dV asS fun (y1:List UInt8)=>XeC (ofG (g y0 y1) XxY)
abbrev XCs (Xab:Xaj) (Xaa:Xag):List (Nat×XcS):=[(20,s20 Xab),(38,s38 Xaa)]
theorem Xwt (Xab:Xaj) (Xaa:Xag) (hS:XaF Try.prog (XaP (XCs Xab Xaa))) (s:Xak) (text:List UInt8) (res:Int) (h:XeR Xab Xaa s text=some res) :
 XaU Try.prog 16 10 ⟨⟨16,14,[(0,.pointer (some ⟨0,0,none⟩)),(1,.string ⟨⟨text⟩⟩)],[.code XlA],[],false,none⟩,[],[(0,.row false [.int .u64 s.key.A,.int .u64 s.key.B,.slice (some ⟨1,0,none⟩) 8 1,.int .i64 s.total]),(1,.row false [.slice (some ⟨2,0,none⟩) s.rows.m0 1,.slice (some ⟨3,0,none⟩) s.rows.m1 1,.slice (some ⟨4,0,none⟩) s.rows.m2 1,.slice (some ⟨5,0,none⟩) s.rows.m3 1,.slice (some ⟨6,0,none⟩) s.rows.m4 1,.slice (some ⟨7,0,none⟩) s.rows.m5 1,.slice (some ⟨8,0,none⟩) s.rows.m6 1,.slice (some ⟨9,0,none⟩) s.rows.m7 1]),(2,.row false (vI .i64 s.rows.e0)),(3,.row false (vI .i64 s.rows.e1)),(4,.row false (vI .i64 s.rows.e2)),(5,.row false (vI .i64 s.rows.e3)),(6,.row false (vI .i64 s.rows.e4)),(7,.row false (vI .i64 s.rows.e5)),(8,.row false (vI .i64 s.rows.e6)),(9,.row false (vI .i64 s.rows.e7))],10⟩ (fun v H _=>Res 10 (XxY res) v H):=by
 unfold XeR at h
 have R1:=@Xl5 Xaa
 have R2:=@XpH Xab
 have J:=js []
 refine Xa4 XaM hS true 3000 ?_
 conv=>whnf
 exact W
structure XaC where
 vn:XfJ
 v1:XfK
 v2:XfB
 v3:Xge
 v4:Xf5
 v5:Xgc
 v6:Xfr
 v7:Xf2
 v8:XfD
def s16 (g:XaC):XcS:=⟨[.tr [⟨none,0,0,0,none⟩,⟨some 0,2,0,0,none⟩,⟨some 1,0,0,0,none⟩,⟨some 1,1,0,0,none⟩,⟨some 1,2,0,0,none⟩,⟨some 1,3,0,0,none⟩,⟨some 1,4,0,0,none⟩,⟨some 1,5,0,0,none⟩,⟨some 1,6,0,0,none⟩,⟨some 1,7,0,0,none⟩],.v],orD (r16vn g.vn) (orD (r16v1 g.v1) (orD (r16v2 g.v2) (orD (r16v3 g.v3) (orD (r16v4 g.v4) (orD (r16v5 g.v5) (orD (r16v6 g.v6) (orD (r16v7 g.v7) (r16v8 g.v8))))))))⟩
theorem XtZ {g:XaC} {y1:List UInt8} {x:Int} (hx:g.vn y1=some x):(s16 g).run [.pointer none,.string ⟨⟨y1⟩⟩] [none,none,none,none,none,none,none,none,none,none]=some (XwA x):=by dsimp only [s16];exact (XdM ((Xuz).trans ((Xbz (XhC)).trans (Xbc hx))))
theorem XA6 {g:XaC} {y0:XaA} {y1:List UInt8} {x:Int} (hx:g.v1 y0 y1=some x):(s16 g).run [.pointer (some ⟨0,0,none⟩),.string ⟨⟨y1⟩⟩] [some [.int .u64 y0.key.A,.int .u64 y0.key.B,.slice (some ⟨1,0,none⟩) 1 1,.int .i64 y0.total],some [.slice (some ⟨2,0,none⟩) y0.rows.m0 1],some (vI .i64 y0.rows.e0),none,none,none,none,none,none,none]=some (XzL x):=by dsimp only [s16];exact (XaL rfl (XdM ((Xbn rfl rfl (XcK 0 _)).trans ((Xbz (XhC)).trans (Xbc hx)))))
theorem XpA {g:XaC} {y0:Xax} {y1:List UInt8} {x:Int} (hx:g.v2 y0 y1=some x):(s16 g).run [.pointer (some ⟨0,0,none⟩),.string ⟨⟨y1⟩⟩] [some [.int .u64 y0.key.A,.int .u64 y0.key.B,.slice (some ⟨1,0,none⟩) 2 1,.int .i64 y0.total],some [.slice (some ⟨2,0,none⟩) y0.rows.m0 1,.slice (some ⟨3,0,none⟩) y0.rows.m1 1],some (vI .i64 y0.rows.e0),some (vI .i64 y0.rows.e1),none,none,none,none,none,none]=some (XyC x):=by dsimp only [s16];exact (XaL rfl (XaL rfl (XdM ((Xbn rfl rfl (XcM 0 _)).trans ((Xbz (XhC)).trans (Xbc hx))))))
theorem XBq {g:XaC} {y0:Xav} {y1:List UInt8} {x:Int} (hx:g.v3 y0 y1=some x):(s16 g).run [.pointer (some ⟨0,0,none⟩),.string ⟨⟨y1⟩⟩] [some [.int .u64 y0.key.A,.int .u64 y0.key.B,.slice (some ⟨1,0,none⟩) 3 1,.int .i64 y0.total],some [.slice (some ⟨2,0,none⟩) y0.rows.m0 1,.slice (some ⟨3,0,none⟩) y0.rows.m1 1,.slice (some ⟨4,0,none⟩) y0.rows.m2 1],some (vI .i64 y0.rows.e0),some (vI .i64 y0.rows.e1),some (vI .i64 y0.rows.e2),none,none,none,none,none]=some (Xxd x):=by dsimp only [s16];exact (XaL rfl (XaL rfl (XaL rfl (XdM ((Xbn rfl rfl (XcO 0 _)).trans ((Xbz (XhC)).trans (Xbc hx)))))))
theorem XAL {g:XaC} {y0:Xar} {y1:List UInt8} {x:Int} (hx:g.v4 y0 y1=some x):(s16 g).run [.pointer (some ⟨0,0,none⟩),.string ⟨⟨y1⟩⟩] [some [.int .u64 y0.key.A,.int .u64 y0.key.B,.slice (some ⟨1,0,none⟩) 4 1,.int .i64 y0.total],some [.slice (some ⟨2,0,none⟩) y0.rows.m0 1,.slice (some ⟨3,0,none⟩) y0.rows.m1 1,.slice (some ⟨4,0,none⟩) y0.rows.m2 1,.slice (some ⟨5,0,none⟩) y0.rows.m3 1],some (vI .i64 y0.rows.e0),some (vI .i64 y0.rows.e1),some (vI .i64 y0.rows.e2),some (vI .i64 y0.rows.e3),none,none,none,none]=some (XyV x):=by dsimp only [s16];exact (XaL rfl (XaL rfl (XaL rfl (XaL rfl (XdM ((Xbn rfl rfl (XcR 0 _)).trans ((Xbz (XhC)).trans (Xbc hx))))))))
theorem XCd {g:XaC} {y0:Xap} {y1:List UInt8} {x:Int} (hx:g.v5 y0 y1=some x):(s16 g).run [.pointer (some ⟨0,0,none⟩),.string ⟨⟨y1⟩⟩] [some [.int .u64 y0.key.A,.int .u64 y0.key.B,.slice (some ⟨1,0,none⟩) 5 1,.int .i64 y0.total],some [.slice (some ⟨2,0,none⟩) y0.rows.m0 1,.slice (some ⟨3,0,none⟩) y0.rows.m1 1,.slice (some ⟨4,0,none⟩) y0.rows.m2 1,.slice (some ⟨5,0,none⟩) y0.rows.m3 1,.slice (some ⟨6,0,none⟩) y0.rows.m4 1],some (vI .i64 y0.rows.e0),some (vI .i64 y0.rows.e1),some (vI .i64 y0.rows.e2),some (vI .i64 y0.rows.e3),some (vI .i64 y0.rows.e4),none,none,none]=some (Xzj x):=by dsimp only [s16];exact (XaL rfl (XaL rfl (XaL rfl (XaL rfl (XaL rfl (XdM ((Xbn rfl rfl (XcN 0 _)).trans ((Xbz (XhC)).trans (Xbc hx)))))))))
theorem XBw {g:XaC} {y0:Xan} {y1:List UInt8} {x:Int} (hx:g.v6 y0 y1=some x):(s16 g).run [.pointer (some ⟨0,0,none⟩),.string ⟨⟨y1⟩⟩] [some [.int .u64 y0.key.A,.int .u64 y0.key.B,.slice (some ⟨1,0,none⟩) 6 1,.int .i64 y0.total],some [.slice (some ⟨2,0,none⟩) y0.rows.m0 1,.slice (some ⟨3,0,none⟩) y0.rows.m1 1,.slice (some ⟨4,0,none⟩) y0.rows.m2 1,.slice (some ⟨5,0,none⟩) y0.rows.m3 1,.slice (some ⟨6,0,none⟩) y0.rows.m4 1,.slice (some ⟨7,0,none⟩) y0.rows.m5 1],some (vI .i64 y0.rows.e0),some (vI .i64 y0.rows.e1),some (vI .i64 y0.rows.e2),some (vI .i64 y0.rows.e3),some (vI .i64 y0.rows.e4),some (vI .i64 y0.rows.e5),none,none]=some (Xyy x):=by dsimp only [s16];exact (XaL rfl (XaL rfl (XaL rfl (XaL rfl (XaL rfl (XaL rfl (XdM ((Xbn rfl rfl (XcQ 0 _)).trans ((Xbz (XhC)).trans (Xbc hx))))))))))
theorem XCE {g:XaC} {y0:Xal} {y1:List UInt8} {x:Int} (hx:g.v7 y0 y1=some x):(s16 g).run [.pointer (some ⟨0,0,none⟩),.string ⟨⟨y1⟩⟩] [some [.int .u64 y0.key.A,.int .u64 y0.key.B,.slice (some ⟨1,0,none⟩) 7 1,.int .i64 y0.total],some [.slice (some ⟨2,0,none⟩) y0.rows.m0 1,.slice (some ⟨3,0,none⟩) y0.rows.m1 1,.slice (some ⟨4,0,none⟩) y0.rows.m2 1,.slice (some ⟨5,0,none⟩) y0.rows.m3 1,.slice (some ⟨6,0,none⟩) y0.rows.m4 1,.slice (some ⟨7,0,none⟩) y0.rows.m5 1,.slice (some ⟨8,0,none⟩) y0.rows.m6 1],some (vI .i64 y0.rows.e0),some (vI .i64 y0.rows.e1),some (vI .i64 y0.rows.e2),some (vI .i64 y0.rows.e3),some (vI .i64 y0.rows.e4),some (vI .i64 y0.rows.e5),some (vI .i64 y0.rows.e6),none]=some (Xwj x):=by dsimp only [s16];exact (XaL rfl (XaL rfl (XaL rfl (XaL rfl (XaL rfl (XaL rfl (XaL rfl (XdM ((Xbn rfl rfl (XcL 0 _)).trans ((Xbz (XhC)).trans (Xbc hx)))))))))))
theorem XAv {g:XaC} {y0:Xak} {y1:List UInt8} {x:Int} (hx:g.v8 y0 y1=some x):(s16 g).run [.pointer (some ⟨0,0,none⟩),.string ⟨⟨y1⟩⟩] [some [.int .u64 y0.key.A,.int .u64 y0.key.B,.slice (some ⟨1,0,none⟩) 8 1,.int .i64 y0.total],some [.slice (some ⟨2,0,none⟩) y0.rows.m0 1,.slice (some ⟨3,0,none⟩) y0.rows.m1 1,.slice (some ⟨4,0,none⟩) y0.rows.m2 1,.slice (some ⟨5,0,none⟩) y0.rows.m3 1,.slice (some ⟨6,0,none⟩) y0.rows.m4 1,.slice (some ⟨7,0,none⟩) y0.rows.m5 1,.slice (some ⟨8,0,none⟩) y0.rows.m6 1,.slice (some ⟨9,0,none⟩) y0.rows.m7 1],some (vI .i64 y0.rows.e0),some (vI .i64 y0.rows.e1),some (vI .i64 y0.rows.e2),some (vI .i64 y0.rows.e3),some (vI .i64 y0.rows.e4),some (vI .i64 y0.rows.e5),some (vI .i64 y0.rows.e6),some (vI .i64 y0.rows.e7)]=some (XxY x):=by dsimp only [s16];exact (XaL rfl (XaL rfl (XaL rfl (XaL rfl (XaL rfl (XaL rfl (XaL rfl (XaL rfl ((Xbn rfl rfl (XcP 0 _)).trans ((Xbz (XhC)).trans (Xbc hx)))))))))))
def XkF:XfJ:=XgK Xaa
def Xhf:XfK:=Xe2 Xab Xaa
def Xhg:XfB:=XeX Xab Xaa
def Xhl:Xge:=XeS Xab Xaa
def Xhs:Xf5:=XeW Xab Xaa
def Xhz:Xgc:=XeN Xab Xaa
def Xhj:Xfr:=XeY Xab Xaa
def Xhr:Xf2:=Xe1 Xab Xaa
def Xhp:XfD:=XeR Xab Xaa
def Xad:XaC:=⟨XkF,Xhf,Xhg,Xhl,Xhs,Xhz,Xhj,Xhr,Xhp⟩
theorem XI9:XeH Try.prog 16 (s16 Xad):=by
 have L0:=XzY Xaa (XaF.Xba ⟨Xc9,trivial⟩)
 have L1:=Xx7 Xab Xaa (XaF.Xba ⟨XiN,Xc9,trivial⟩)
 have L2:=XxL Xab Xaa (XaF.Xba ⟨XiN,Xc9,trivial⟩)
 have L3:=Xzp Xab Xaa (XaF.Xba ⟨XiN,Xc9,trivial⟩)
 have L4:=Xwk Xab Xaa (XaF.Xba ⟨XiN,Xc9,trivial⟩)
 have L5:=XzS Xab Xaa (XaF.Xba ⟨XiN,Xc9,trivial⟩)
 have L6:=Xzz Xab Xaa (XaF.Xba ⟨XiN,Xc9,trivial⟩)
 have L7:=Xz0 Xab Xaa (XaF.Xba ⟨XiN,Xc9,trivial⟩)
 have L8:=Xwt Xab Xaa (XaF.Xba ⟨XiN,Xc9,trivial⟩)
 refine XeH.Xjm XaM (fun ar os r ha hr=>?_) ⟨Try.f16,rfl,by decide,rfl⟩
 generalize hc:XiR os=C at hr
 replace hr:=orD.elim hr;rcases hr with hr|hr
 ·have LL:=L0;exact okB
 replace hr:=orD.elim hr;rcases hr with hr|hr
 ·have LL:=L1;have U1:=@XcW;exact okB
 replace hr:=orD.elim hr;rcases hr with hr|hr
 ·have LL:=L2;have U1:=@XcZ;exact okB
 replace hr:=orD.elim hr;rcases hr with hr|hr
 ·have LL:=L3;have U1:=@Xc2;exact okB
 replace hr:=orD.elim hr;rcases hr with hr|hr
 ·have LL:=L4;have U1:=@Xc0;exact okB
 replace hr:=orD.elim hr;rcases hr with hr|hr
 ·have LL:=L5;have U1:=@XcY;exact okB
 replace hr:=orD.elim hr;rcases hr with hr|hr
 ·have LL:=L6;have U1:=@Xc3;exact okB
 replace hr:=orD.elim hr;rcases hr with hr|hr
 ·have LL:=L7;have U1:=@Xc6;exact okB
 have LL:=L8;have U1:=@Xc1;exact okB
def Xg7 (Xaa:Xag) (s:Xaz):Option Int:=
 (Xaa.v0 (Xaz.mk s.key Xbi.mk s.total)).bind fun x0=>
 cond (!x0)
  (
  some (0))
  (
  some (s.total))
def Xwd (x:Int):Xdu:=⟨.int .i64 x,[],[none,none,none,none,none,none,none,none,none,none]⟩
abbrev XfV:=Xaz→Option Int
def r18v0 (g:XfV):Dec:=dTr 10 (XcF 0) fun (y0:Xaz)=>XeC (ofG (g y0) Xwd)
abbrev XCB (Xaa:Xag):List (Nat×XcS):=[(38,s38 Xaa)]
theorem XzZ (Xaa:Xag) (hS:XaF Try.prog (XaP (XCB Xaa))) (s:Xaz) (res:Int) (h:Xg7 Xaa s=some res) :
 XaU Try.prog 18 10 ⟨⟨18,10,[(0,.pointer (some ⟨0,0,none⟩))],[.code XoH],[],false,none⟩,[],[(0,.row false [.int .u64 s.key.A,.int .u64 s.key.B,.slice none 0 0,.int .i64 s.total])],10⟩ (fun v H _=>Res 10 (Xwd res) v H):=by
 unfold Xg7 at h
 have R1:=@XnA Xaa
 have J:=js []
 refine Xa4 XaM hS true 3000 ?_
 conv=>whnf
 exact W
def XgX (Xaa:Xag) (s:XaA):Option Int:=
 (Xaa.v1 s).bind fun x1=>
 cond (!x1)
  (
  some (0))
  (
  some (s.total))
def Xyd (x:Int):Xdu:=⟨.int .i64 x,[],[none,none,none,none,none,none,none,none,none,none]⟩
abbrev Xfu:=XaA→Option Int
def r18v1 (g:Xfu):Dec:=dTr 10 (XbE 0) fun (y0:XaA)=>XeC (ofG (g y0) Xyd)
abbrev XA3 (Xaa:Xag):List (Nat×XcS):=[(38,s38 Xaa)]
theorem Xwz (Xaa:Xag) (hS:XaF Try.prog (XaP (XA3 Xaa))) (s:XaA) (res:Int) (h:XgX Xaa s=some res) :
 XaU Try.prog 18 10 ⟨⟨18,10,[(0,.pointer (some ⟨0,0,none⟩))],[.code XoH],[],false,none⟩,[],[(0,.row false [.int .u64 s.key.A,.int .u64 s.key.B,.slice (some ⟨1,0,none⟩) 1 1,.int .i64 s.total]),(1,.row false [.slice (some ⟨2,0,none⟩) s.rows.m0 1]),(2,.row false (vI .i64 s.rows.e0))],10⟩ (fun v H _=>Res 10 (Xyd res) v H):=by
 unfold XgX at h
 have R1:=@Xmg Xaa
 have J:=js []
 refine Xa4 XaM hS true 3000 ?_
 conv=>whnf
 exact W
def XgO (Xaa:Xag) (s:Xax):Option Int:=
 (Xaa.v2 s).bind fun x2=>
 cond (!x2)
  (
  some (0))
  (
  some (s.total))
def Xyq (x:Int):Xdu:=⟨.int .i64 x,[],[none,none,none,none,none,none,none,none,none,none]⟩
abbrev XfP:=Xax→Option Int
def r18v2 (g:XfP):Dec:=dTr 10 (XbL 0) fun (y0:Xax)=>XeC (ofG (g y0) Xyq)
abbrev XAu (Xaa:Xag):List (Nat×XcS):=[(38,s38 Xaa)]
theorem XxM (Xaa:Xag) (hS:XaF Try.prog (XaP (XAu Xaa))) (s:Xax) (res:Int) (h:XgO Xaa s=some res) :
 XaU Try.prog 18 10 ⟨⟨18,10,[(0,.pointer (some ⟨0,0,none⟩))],[.code XoH],[],false,none⟩,[],[(0,.row false [.int .u64 s.key.A,.int .u64 s.key.B,.slice (some ⟨1,0,none⟩) 2 1,.int .i64 s.total]),(1,.row false [.slice (some ⟨2,0,none⟩) s.rows.m0 1,.slice (some ⟨3,0,none⟩) s.rows.m1 1]),(2,.row false (vI .i64 s.rows.e0)),(3,.row false (vI .i64 s.rows.e1))],10⟩ (fun v H _=>Res 10 (Xyq res) v H):=by
 unfold XgO at h
 have R1:=@Xl4 Xaa
 have J:=js []
 refine Xa4 XaM hS true 3000 ?_
 conv=>whnf
 exact W
def Xg0 (Xaa:Xag) (s:Xav):Option Int:=
 (Xaa.v3 s).bind fun x3=>
 cond (!x3)
  (
  some (0))
  (
  some (s.total))
def Xxy (x:Int):Xdu:=⟨.int .i64 x,[],[none,none,none,none,none,none,none,none,none,none]⟩
abbrev Xf7:=Xav→Option Int
def r18v3 (g:Xf7):Dec:=dTr 10 (XbM 0) fun (y0:Xav)=>XeC (ofG (g y0) Xxy)
abbrev XCo (Xaa:Xag):List (Nat×XcS):=[(38,s38 Xaa)]
theorem XyZ (Xaa:Xag) (hS:XaF Try.prog (XaP (XCo Xaa))) (s:Xav) (res:Int) (h:Xg0 Xaa s=some res) :
 XaU Try.prog 18 10 ⟨⟨18,10,[(0,.pointer (some ⟨0,0,none⟩))],[.code XoH],[],false,none⟩,[],[(0,.row false [.int .u64 s.key.A,.int .u64 s.key.B,.slice (some ⟨1,0,none⟩) 3 1,.int .i64 s.total]),(1,.row false [.slice (some ⟨2,0,none⟩) s.rows.m0 1,.slice (some ⟨3,0,none⟩) s.rows.m1 1,.slice (some ⟨4,0,none⟩) s.rows.m2 1]),(2,.row false (vI .i64 s.rows.e0)),(3,.row false (vI .i64 s.rows.e1)),(4,.row false (vI .i64 s.rows.e2))],10⟩ (fun v H _=>Res 10 (Xxy res) v H):=by
 unfold Xg0 at h
 have R1:=@Xmw Xaa
 have J:=js []
 refine Xa4 XaM hS true 3000 ?_
 conv=>whnf
 exact W
def XgN (Xaa:Xag) (s:Xar):Option Int:=
 (Xaa.v4 s).bind fun x4=>
 cond (!x4)
  (
  some (0))
  (
  some (s.total))
def Xy7 (x:Int):Xdu:=⟨.int .i64 x,[],[none,none,none,none,none,none,none,none,none,none]⟩
abbrev XfH:=Xar→Option Int
def r18v4 (g:XfH):Dec:=dTr 10 (XbG 0) fun (y0:Xar)=>XeC (ofG (g y0) Xy7)
abbrev XBu (Xaa:Xag):List (Nat×XcS):=[(38,s38 Xaa)]
theorem XwJ (Xaa:Xag) (hS:XaF Try.prog (XaP (XBu Xaa))) (s:Xar) (res:Int) (h:XgN Xaa s=some res) :
 XaU Try.prog 18 10 ⟨⟨18,10,[(0,.pointer (some ⟨0,0,none⟩))],[.code XoH],[],false,none⟩,[],[(0,.row false [.int .u64 s.key.A,.int .u64 s.key.B,.slice (some ⟨1,0,none⟩) 4 1,.int .i64 s.total]),(1,.row false [.slice (some ⟨2,0,none⟩) s.rows.m0 1,.slice (some ⟨3,0,none⟩) s.rows.m1 1,.slice (some ⟨4,0,none⟩) s.rows.m2 1,.slice (some ⟨5,0,none⟩) s.rows.m3 1]),(2,.row false (vI .i64 s.rows.e0)),(3,.row false (vI .i64 s.rows.e1)),(4,.row false (vI .i64 s.rows.e2)),(5,.row false (vI .i64 s.rows.e3))],10⟩ (fun v H _=>Res 10 (Xy7 res) v H):=by
 unfold XgN at h
 have R1:=@Xmp Xaa
 have J:=js []
 refine Xa4 XaM hS true 3000 ?_
 conv=>whnf
 exact W
def XgV (Xaa:Xag) (s:Xap):Option Int:=
 (Xaa.v5 s).bind fun x5=>
 cond (!x5)
  (
  some (0))
  (
  some (s.total))
def XzC (x:Int):Xdu:=⟨.int .i64 x,[],[none,none,none,none,none,none,none,none,none,none]⟩
abbrev XfM:=Xap→Option Int
def r18v5 (g:XfM):Dec:=dTr 10 (XbK 0) fun (y0:Xap)=>XeC (ofG (g y0) XzC)
abbrev XBv (Xaa:Xag):List (Nat×XcS):=[(38,s38 Xaa)]
theorem XzQ (Xaa:Xag) (hS:XaF Try.prog (XaP (XBv Xaa))) (s:Xap) (res:Int) (h:XgV Xaa s=some res) :
 XaU Try.prog 18 10 ⟨⟨18,10,[(0,.pointer (some ⟨0,0,none⟩))],[.code XoH],[],false,none⟩,[],[(0,.row false [.int .u64 s.key.A,.int .u64 s.key.B,.slice (some ⟨1,0,none⟩) 5 1,.int .i64 s.total]),(1,.row false [.slice (some ⟨2,0,none⟩) s.rows.m0 1,.slice (some ⟨3,0,none⟩) s.rows.m1 1,.slice (some ⟨4,0,none⟩) s.rows.m2 1,.slice (some ⟨5,0,none⟩) s.rows.m3 1,.slice (some ⟨6,0,none⟩) s.rows.m4 1]),(2,.row false (vI .i64 s.rows.e0)),(3,.row false (vI .i64 s.rows.e1)),(4,.row false (vI .i64 s.rows.e2)),(5,.row false (vI .i64 s.rows.e3)),(6,.row false (vI .i64 s.rows.e4))],10⟩ (fun v H _=>Res 10 (XzC res) v H):=by
 unfold XgV at h
 have R1:=@Xl3 Xaa
 have J:=js []
 refine Xa4 XaM hS true 3000 ?_
 conv=>whnf
 exact W
def XgJ (Xaa:Xag) (s:Xan):Option Int:=
 (Xaa.v6 s).bind fun x6=>
 cond (!x6)
  (
  some (0))
  (
  some (s.total))
def XyE (x:Int):Xdu:=⟨.int .i64 x,[],[none,none,none,none,none,none,none,none,none,none]⟩
abbrev XfI:=Xan→Option Int
def r18v6 (g:XfI):Dec:=dTr 10 (XbF 0) fun (y0:Xan)=>XeC (ofG (g y0) XyE)
abbrev XA7 (Xaa:Xag):List (Nat×XcS):=[(38,s38 Xaa)]
theorem XwU (Xaa:Xag) (hS:XaF Try.prog (XaP (XA7 Xaa))) (s:Xan) (res:Int) (h:XgJ Xaa s=some res) :
 XaU Try.prog 18 10 ⟨⟨18,10,[(0,.pointer (some ⟨0,0,none⟩))],[.code XoH],[],false,none⟩,[],[(0,.row false [.int .u64 s.key.A,.int .u64 s.key.B,.slice (some ⟨1,0,none⟩) 6 1,.int .i64 s.total]),(1,.row false [.slice (some ⟨2,0,none⟩) s.rows.m0 1,.slice (some ⟨3,0,none⟩) s.rows.m1 1,.slice (some ⟨4,0,none⟩) s.rows.m2 1,.slice (some ⟨5,0,none⟩) s.rows.m3 1,.slice (some ⟨6,0,none⟩) s.rows.m4 1,.slice (some ⟨7,0,none⟩) s.rows.m5 1]),(2,.row false (vI .i64 s.rows.e0)),(3,.row false (vI .i64 s.rows.e1)),(4,.row false (vI .i64 s.rows.e2)),(5,.row false (vI .i64 s.rows.e3)),(6,.row false (vI .i64 s.rows.e4)),(7,.row false (vI .i64 s.rows.e5))],10⟩ (fun v H _=>Res 10 (XyE res) v H):=by
 unfold XgJ at h
 have R1:=@XmD Xaa
 have J:=js []
 refine Xa4 XaM hS true 3000 ?_
 conv=>whnf
 exact W
def Xg3 (Xaa:Xag) (s:Xal):Option Int:=
 (Xaa.v7 s).bind fun x7=>
 cond (!x7)
  (
  some (0))
  (
  some (s.total))
def XxW (x:Int):Xdu:=⟨.int .i64 x,[],[none,none,none,none,none,none,none,none,none,none]⟩
abbrev XfA:=Xal→Option Int
def r18v7 (g:XfA):Dec:=dTr 10 (XbJ 0) fun (y0:Xal)=>XeC (ofG (g y0) XxW)
abbrev XBL (Xaa:Xag):List (Nat×XcS):=[(38,s38 Xaa)]
theorem XzP (Xaa:Xag) (hS:XaF Try.prog (XaP (XBL Xaa))) (s:Xal) (res:Int) (h:Xg3 Xaa s=some res) :
 XaU Try.prog 18 10 ⟨⟨18,10,[(0,.pointer (some ⟨0,0,none⟩))],[.code XoH],[],false,none⟩,[],[(0,.row false [.int .u64 s.key.A,.int .u64 s.key.B,.slice (some ⟨1,0,none⟩) 7 1,.int .i64 s.total]),(1,.row false [.slice (some ⟨2,0,none⟩) s.rows.m0 1,.slice (some ⟨3,0,none⟩) s.rows.m1 1,.slice (some ⟨4,0,none⟩) s.rows.m2 1,.slice (some ⟨5,0,none⟩) s.rows.m3 1,.slice (some ⟨6,0,none⟩) s.rows.m4 1,.slice (some ⟨7,0,none⟩) s.rows.m5 1,.slice (some ⟨8,0,none⟩) s.rows.m6 1]),(2,.row false (vI .i64 s.rows.e0)),(3,.row false (vI .i64 s.rows.e1)),(4,.row false (vI .i64 s.rows.e2)),(5,.row false (vI .i64 s.rows.e3)),(6,.row false (vI .i64 s.rows.e4)),(7,.row false (vI .i64 s.rows.e5)),(8,.row false (vI .i64 s.rows.e6))],10⟩ (fun v H _=>Res 10 (XxW res) v H):=by
 unfold Xg3 at h
 have R1:=@XmH Xaa
 have J:=js []
 refine Xa4 XaM hS true 3000 ?_
 conv=>whnf
 exact W
def XgP (Xaa:Xag) (s:Xak):Option Int:=
 (Xaa.v8 s).bind fun x8=>
 cond (!x8)
  (
  some (0))
  (
  some (s.total))
def XzD (x:Int):Xdu:=⟨.int .i64 x,[],[none,none,none,none,none,none,none,none,none,none]⟩
abbrev Xfz:=Xak→Option Int
def r18v8 (g:Xfz):Dec:=dTr 10 (XbI 0) fun (y0:Xak)=>XeC (ofG (g y0) XzD)
abbrev XCn (Xaa:Xag):List (Nat×XcS):=[(38,s38 Xaa)]
theorem Xzr (Xaa:Xag) (hS:XaF Try.prog (XaP (XCn Xaa))) (s:Xak) (res:Int) (h:XgP Xaa s=some res) :
 XaU Try.prog 18 10 ⟨⟨18,10,[(0,.pointer (some ⟨0,0,none⟩))],[.code XoH],[],false,none⟩,[],[(0,.row false [.int .u64 s.key.A,.int .u64 s.key.B,.slice (some ⟨1,0,none⟩) 8 1,.int .i64 s.total]),(1,.row false [.slice (some ⟨2,0,none⟩) s.rows.m0 1,.slice (some ⟨3,0,none⟩) s.rows.m1 1,.slice (some ⟨4,0,none⟩) s.rows.m2 1,.slice (some ⟨5,0,none⟩) s.rows.m3 1,.slice (some ⟨6,0,none⟩) s.rows.m4 1,.slice (some ⟨7,0,none⟩) s.rows.m5 1,.slice (some ⟨8,0,none⟩) s.rows.m6 1,.slice (some ⟨9,0,none⟩) s.rows.m7 1]),(2,.row false (vI .i64 s.rows.e0)),(3,.row false (vI .i64 s.rows.e1)),(4,.row false (vI .i64 s.rows.e2)),(5,.row false (vI .i64 s.rows.e3)),(6,.row false (vI .i64 s.rows.e4)),(7,.row false (vI .i64 s.rows.e5)),(8,.row false (vI .i64 s.rows.e6)),(9,.row false (vI .i64 s.rows.e7))],10⟩ (fun v H _=>Res 10 (XzD res) v H):=by
 unfold XgP at h
 have R1:=@Xl5 Xaa
 have J:=js []
 refine Xa4 XaM hS true 3000 ?_
 conv=>whnf
 exact W
structure XaB where
 v0:XfV
 v1:Xfu
 v2:XfP
 v3:Xf7
 v4:XfH
 v5:XfM
 v6:XfI
 v7:XfA
 v8:Xfz
def s18 (g:XaB):XcS:=⟨[.tr [⟨none,0,0,0,none⟩,⟨some 0,2,0,0,none⟩,⟨some 1,0,0,0,none⟩,⟨some 1,1,0,0,none⟩,⟨some 1,2,0,0,none⟩,⟨some 1,3,0,0,none⟩,⟨some 1,4,0,0,none⟩,⟨some 1,5,0,0,none⟩,⟨some 1,6,0,0,none⟩,⟨some 1,7,0,0,none⟩]],orD (r18v0 g.v0) (orD (r18v1 g.v1) (orD (r18v2 g.v2) (orD (r18v3 g.v3) (orD (r18v4 g.v4) (orD (r18v5 g.v5) (orD (r18v6 g.v6) (orD (r18v7 g.v7) (r18v8 g.v8))))))))⟩
theorem XuJ {g:XaB} {y0:Xaz} {x:Int} (hx:g.v0 y0=some x):(s18 g).run [.pointer (some ⟨0,0,none⟩)] [some [.int .u64 y0.key.A,.int .u64 y0.key.B,.slice none 0 0,.int .i64 y0.total],none,none,none,none,none,none,none,none,none]=some (Xwd x):=by dsimp only [s18];exact (XdM ((Xbn rfl rfl (Xe8 0 _)).trans (Xbc hx)))
theorem XCH {g:XaB} {y0:XaA} {x:Int} (hx:g.v1 y0=some x):(s18 g).run [.pointer (some ⟨0,0,none⟩)] [some [.int .u64 y0.key.A,.int .u64 y0.key.B,.slice (some ⟨1,0,none⟩) 1 1,.int .i64 y0.total],some [.slice (some ⟨2,0,none⟩) y0.rows.m0 1],some (vI .i64 y0.rows.e0),none,none,none,none,none,none,none]=some (Xyd x):=by dsimp only [s18];exact (XaL rfl (XdM ((Xbn rfl rfl (XcK 0 _)).trans (Xbc hx))))
theorem Xqa {g:XaB} {y0:Xax} {x:Int} (hx:g.v2 y0=some x):(s18 g).run [.pointer (some ⟨0,0,none⟩)] [some [.int .u64 y0.key.A,.int .u64 y0.key.B,.slice (some ⟨1,0,none⟩) 2 1,.int .i64 y0.total],some [.slice (some ⟨2,0,none⟩) y0.rows.m0 1,.slice (some ⟨3,0,none⟩) y0.rows.m1 1],some (vI .i64 y0.rows.e0),some (vI .i64 y0.rows.e1),none,none,none,none,none,none]=some (Xyq x):=by dsimp only [s18];exact (XaL rfl (XaL rfl (XdM ((Xbn rfl rfl (XcM 0 _)).trans (Xbc hx)))))
theorem XA8 {g:XaB} {y0:Xav} {x:Int} (hx:g.v3 y0=some x):(s18 g).run [.pointer (some ⟨0,0,none⟩)] [some [.int .u64 y0.key.A,.int .u64 y0.key.B,.slice (some ⟨1,0,none⟩) 3 1,.int .i64 y0.total],some [.slice (some ⟨2,0,none⟩) y0.rows.m0 1,.slice (some ⟨3,0,none⟩) y0.rows.m1 1,.slice (some ⟨4,0,none⟩) y0.rows.m2 1],some (vI .i64 y0.rows.e0),some (vI .i64 y0.rows.e1),some (vI .i64 y0.rows.e2),none,none,none,none,none]=some (Xxy x):=by dsimp only [s18];exact (XaL rfl (XaL rfl (XaL rfl (XdM ((Xbn rfl rfl (XcO 0 _)).trans (Xbc hx))))))
theorem XBp {g:XaB} {y0:Xar} {x:Int} (hx:g.v4 y0=some x):(s18 g).run [.pointer (some ⟨0,0,none⟩)] [some [.int .u64 y0.key.A,.int .u64 y0.key.B,.slice (some ⟨1,0,none⟩) 4 1,.int .i64 y0.total],some [.slice (some ⟨2,0,none⟩) y0.rows.m0 1,.slice (some ⟨3,0,none⟩) y0.rows.m1 1,.slice (some ⟨4,0,none⟩) y0.rows.m2 1,.slice (some ⟨5,0,none⟩) y0.rows.m3 1],some (vI .i64 y0.rows.e0),some (vI .i64 y0.rows.e1),some (vI .i64 y0.rows.e2),some (vI .i64 y0.rows.e3),none,none,none,none]=some (Xy7 x):=by dsimp only [s18];exact (XaL rfl (XaL rfl (XaL rfl (XaL rfl (XdM ((Xbn rfl rfl (XcR 0 _)).trans (Xbc hx)))))))
theorem XAY {g:XaB} {y0:Xap} {x:Int} (hx:g.v5 y0=some x):(s18 g).run [.pointer (some ⟨0,0,none⟩)] [some [.int .u64 y0.key.A,.int .u64 y0.key.B,.slice (some ⟨1,0,none⟩) 5 1,.int .i64 y0.total],some [.slice (some ⟨2,0,none⟩) y0.rows.m0 1,.slice (some ⟨3,0,none⟩) y0.rows.m1 1,.slice (some ⟨4,0,none⟩) y0.rows.m2 1,.slice (some ⟨5,0,none⟩) y0.rows.m3 1,.slice (some ⟨6,0,none⟩) y0.rows.m4 1],some (vI .i64 y0.rows.e0),some (vI .i64 y0.rows.e1),some (vI .i64 y0.rows.e2),some (vI .i64 y0.rows.e3),some (vI .i64 y0.rows.e4),none,none,none]=some (XzC x):=by dsimp only [s18];exact (XaL rfl (XaL rfl (XaL rfl (XaL rfl (XaL rfl (XdM ((Xbn rfl rfl (XcN 0 _)).trans (Xbc hx))))))))
theorem XBc {g:XaB} {y0:Xan} {x:Int} (hx:g.v6 y0=some x):(s18 g).run [.pointer (some ⟨0,0,none⟩)] [some [.int .u64 y0.key.A,.int .u64 y0.key.B,.slice (some ⟨1,0,none⟩) 6 1,.int .i64 y0.total],some [.slice (some ⟨2,0,none⟩) y0.rows.m0 1,.slice (some ⟨3,0,none⟩) y0.rows.m1 1,.slice (some ⟨4,0,none⟩) y0.rows.m2 1,.slice (some ⟨5,0,none⟩) y0.rows.m3 1,.slice (some ⟨6,0,none⟩) y0.rows.m4 1,.slice (some ⟨7,0,none⟩) y0.rows.m5 1],some (vI .i64 y0.rows.e0),some (vI .i64 y0.rows.e1),some (vI .i64 y0.rows.e2),some (vI .i64 y0.rows.e3),some (vI .i64 y0.rows.e4),some (vI .i64 y0.rows.e5),none,none]=some (XyE x):=by dsimp only [s18];exact (XaL rfl (XaL rfl (XaL rfl (XaL rfl (XaL rfl (XaL rfl (XdM ((Xbn rfl rfl (XcQ 0 _)).trans (Xbc hx)))))))))
theorem XAn {g:XaB} {y0:Xal} {x:Int} (hx:g.v7 y0=some x):(s18 g).run [.pointer (some ⟨0,0,none⟩)] [some [.int .u64 y0.key.A,.int .u64 y0.key.B,.slice (some ⟨1,0,none⟩) 7 1,.int .i64 y0.total],some [.slice (some ⟨2,0,none⟩) y0.rows.m0 1,.slice (some ⟨3,0,none⟩) y0.rows.m1 1,.slice (some ⟨4,0,none⟩) y0.rows.m2 1,.slice (some ⟨5,0,none⟩) y0.rows.m3 1,.slice (some ⟨6,0,none⟩) y0.rows.m4 1,.slice (some ⟨7,0,none⟩) y0.rows.m5 1,.slice (some ⟨8,0,none⟩) y0.rows.m6 1],some (vI .i64 y0.rows.e0),some (vI .i64 y0.rows.e1),some (vI .i64 y0.rows.e2),some (vI .i64 y0.rows.e3),some (vI .i64 y0.rows.e4),some (vI .i64 y0.rows.e5),some (vI .i64 y0.rows.e6),none]=some (XxW x):=by dsimp only [s18];exact (XaL rfl (XaL rfl (XaL rfl (XaL rfl (XaL rfl (XaL rfl (XaL rfl (XdM ((Xbn rfl rfl (XcL 0 _)).trans (Xbc hx))))))))))
theorem XAx {g:XaB} {y0:Xak} {x:Int} (hx:g.v8 y0=some x):(s18 g).run [.pointer (some ⟨0,0,none⟩)] [some [.int .u64 y0.key.A,.int .u64 y0.key.B,.slice (some ⟨1,0,none⟩) 8 1,.int .i64 y0.total],some [.slice (some ⟨2,0,none⟩) y0.rows.m0 1,.slice (some ⟨3,0,none⟩) y0.rows.m1 1,.slice (some ⟨4,0,none⟩) y0.rows.m2 1,.slice (some ⟨5,0,none⟩) y0.rows.m3 1,.slice (some ⟨6,0,none⟩) y0.rows.m4 1,.slice (some ⟨7,0,none⟩) y0.rows.m5 1,.slice (some ⟨8,0,none⟩) y0.rows.m6 1,.slice (some ⟨9,0,none⟩) y0.rows.m7 1],some (vI .i64 y0.rows.e0),some (vI .i64 y0.rows.e1),some (vI .i64 y0.rows.e2),some (vI .i64 y0.rows.e3),some (vI .i64 y0.rows.e4),some (vI .i64 y0.rows.e5),some (vI .i64 y0.rows.e6),some (vI .i64 y0.rows.e7)]=some (XzD x):=by dsimp only [s18];exact (XaL rfl (XaL rfl (XaL rfl (XaL rfl (XaL rfl (XaL rfl (XaL rfl (XaL rfl ((Xbn rfl rfl (XcP 0 _)).trans (Xbc hx))))))))))
def XkK:XfV:=Xg7 Xaa
def XiL:Xfu:=XgX Xaa
def XiD:XfP:=XgO Xaa
def XiO:Xf7:=Xg0 Xaa
def XiG:XfH:=XgN Xaa
def XiP:XfM:=XgV Xaa
def XiA:XfI:=XgJ Xaa
def XiH:XfA:=Xg3 Xaa
def XiJ:Xfz:=XgP Xaa
def Xae:XaB:=⟨XkK,XiL,XiD,XiO,XiG,XiP,XiA,XiH,XiJ⟩
theorem XJb:XeH Try.prog 18 (s18 Xae):=by
 have L0:=XzZ Xaa (XaF.Xba ⟨Xc9,trivial⟩)
 have L1:=Xwz Xaa (XaF.Xba ⟨Xc9,trivial⟩)
 have L2:=XxM Xaa (XaF.Xba ⟨Xc9,trivial⟩)
 have L3:=XyZ Xaa (XaF.Xba ⟨Xc9,trivial⟩)
 have L4:=XwJ Xaa (XaF.Xba ⟨Xc9,trivial⟩)
 have L5:=XzQ Xaa (XaF.Xba ⟨Xc9,trivial⟩)
 have L6:=XwU Xaa (XaF.Xba ⟨Xc9,trivial⟩)
 have L7:=XzP Xaa (XaF.Xba ⟨Xc9,trivial⟩)
 have L8:=Xzr Xaa (XaF.Xba ⟨Xc9,trivial⟩)
 refine XeH.Xjm XaM (fun ar os r ha hr=>?_) ⟨Try.f18,rfl,by decide,rfl⟩
 generalize hc:XiR os=C at hr
 replace hr:=orD.elim hr;rcases hr with hr|hr
 ·have LL:=L0;have U1:=@XdZ;exact okB
 replace hr:=orD.elim hr;rcases hr with hr|hr
 ·have LL:=L1;have U1:=@XcW;exact okB
 replace hr:=orD.elim hr;rcases hr with hr|hr
 ·have LL:=L2;have U1:=@XcZ;exact okB
 replace hr:=orD.elim hr;rcases hr with hr|hr
 ·have LL:=L3;have U1:=@Xc2;exact okB
 replace hr:=orD.elim hr;rcases hr with hr|hr
 ·have LL:=L4;have U1:=@Xc0;exact okB
 replace hr:=orD.elim hr;rcases hr with hr|hr
 ·have LL:=L5;have U1:=@XcY;exact okB
 replace hr:=orD.elim hr;rcases hr with hr|hr
 ·have LL:=L6;have U1:=@Xc3;exact okB
 replace hr:=orD.elim hr;rcases hr with hr|hr
 ·have LL:=L7;have U1:=@Xc6;exact okB
 have LL:=L8;have U1:=@Xc1;exact okB
end Go.Vm.Code
namespace Go.Vm.Code
open Go Go.Vm
set_option maxHeartbeats 4000000
theorem Xhd {α:Type} {pl:Option Int} {q m p:Nat} {row:List Int} {K:Int→Option α} (hp:pl=some (q:Int)) (hq:q<p) (hm:m=p) (hl:row.length=p) :
 (pl.bind fun x=>XaQ (decide ((0:Int)≤x∧x<(m:Int)))<|(row[x.toNat]?).bind fun (e:Int)=>K e)=K (row.getD q 0):=by
 subst hp hm
 rw [Option.bind_some,XaH (by omega),Int.toNat_natCast,List.getD_eq_getElem?_getD,List.getElem?_eq_getElem (by omega),Option.bind_some];rfl
theorem Xj9 {p:Nat} {x:SkS} (hp:1≤p) (hx:Xdl p x) (k:Xau) (i:Nat) (t:List UInt8):∃ v,(x.R i)[plN k p i t]?=some v∧(0≤v∧v≤1099511627776)∧plN k p i t<p∧(x.R i).length=p∧(x.R i).getD (plN k p i t) 0=v:=by
 have q:=XdC hp k i t
 have l:=hx.len i
 have e:(x.R i)[plN k p i t]?=some ((x.R i)[plN k p i t]'(by omega)):=List.getElem?_eq_getElem _
 exact ⟨_,e,hx.rng i _ (List.getElem_mem _),q,l,by rw [List.getD_eq_getElem?_getD,e];rfl⟩
theorem sN {n:Int} (h:0≤n) (h2:n≤1099511627776) {N:Int} (hN:0≤N∧N≤1048576):(if wI .i64 (n+N)<1099511627776 then wI .i64 (n+N) else 1099511627776)=cap (n+N):=by rw [Xf1 (by omega) (by omega)];rfl
theorem XeE {e:Xay} (h:e.N<0∨1048576<e.N):Xj8 e=false:=by unfold Xj8;exact decide_eq_false (by omega)
theorem XhG {e:Xay} (h:¬ e.N<0) (h2:¬ 1048576<e.N):Xj8 e=true:=by unfold Xj8;exact decide_eq_true (by omega)
theorem Xfl {k:Xau} {p:Nat} {x:SkS} {e:Xay} (h:Xj8 e=false):stepS k p x e=x:=by unfold stepS;rw [h];rfl
theorem XiK {k:Xau} {p:Nat} {x:SkS} {e:Xay} (h:Xj8 e=true):stepS k p x e=⟨fun i=>Xsf k p e.Text e.N i (x.R i),cap (x.tot+e.N)⟩:=by unfold stepS;rw [h];rfl
def Xjk (k:Xau) (p:Nat) (x:SkS):XaA:=⟨k,⟨x.R 0,p⟩,x.tot⟩
theorem Xox {k:Xau} {p:Nat} (hp:1≤p∧p≤4096) (s:XaA) (hk:s.key=k) (hm:s.rows.m0=p) {t:List UInt8} (ht:t.length≤20) (i:Nat) (hi:i<1):Xeh s i t=some (plN k p i t:Int):=by
 unfold Xeh XdP
 rw [show Xaa.v1 s=some true from rfl,Option.bind_some,show (!true)=false from rfl,cond_false,Xa7 (by omega),Xa7 (by omega),hk,Xku ht,Option.bind_some,XaH (by omega),Int.toNat_natCast]
 obtain rfl:i=0:=by omega
 ·show (XaD _ (s.rows.m0:Int)).bind _=_;rw [hm,Xd2 hp.1 hp.2];rfl
theorem XyU {k:Xau} {p:Nat} (hp:1≤p∧p≤4096) {x:SkS} (hx:Xdl p x) {e:Xay} (he:e.Text.length≤20):XhU (Xjk k p x) e.Text e.N=some (Xj8 e,Xjk k p (stepS k p x e)):=by
 unfold XhU Xfm
 rw [show Xaa.v1 (Xjk k p x)=some true from rfl,Option.bind_some,show (!true)=false from rfl,cond_false]
 by_cases h1:e.N<0
 ·rw [Xbd h1,XeE (.inl h1),Xfl (XeE (.inl h1))]
 rw [Xa7 h1]
 by_cases h2:e.N>1048576
 ·rw [Xbd h2,XeE (.inr h2),Xfl (XeE (.inr h2))]
 have hN:0≤e.N∧e.N≤1048576:=by omega
 rw [Xa7 h2,XhG h1 h2,XiK (XhG h1 h2)]
 obtain ⟨v0,e0,a0,q0,l0,g0⟩:=Xj9 hp.1 hx k 0 e.Text
 unfold Xjk
 dsimp only
 rw [show Xab.v1 ⟨_,_,_⟩ 0 e.Text=some (plN k p 0 e.Text:Int) from Xox hp _ (by rfl) (by rfl) he 0 (by decide),Option.bind_some,XaH (by omega),Int.toNat_natCast,e0,Option.bind_some,Xf1 (n:=v0+e.N) (by omega) (by omega),XaH (by omega)]
 rw [sN hx.tot.1 hx.tot.2 hN]
 unfold Xsf
 rw [g0];rfl
theorem Xwq {k:Xau} {p:Nat} (hp:1≤p∧p≤4096) {x:SkS} (hx:Xdl p x) {t:List UInt8} (ht:t.length≤20):Xhf (Xjk k p x) t=some (Xly k p x t 1):=by
 unfold Xhf Xe2
 rw [show Xaa.v1 (Xjk k p x)=some true from rfl,Option.bind_some,show (!true)=false from rfl,cond_false]
 refine Eq.trans (Xhd (Xox hp _ (by rfl) (by rfl) ht 0 (by decide)) (XdC hp.1 _ _ _) (by rfl) (hx.len 0)) ?_
 rfl
theorem Xw1 {k:Xau} {p:Nat} {x:SkS}:XiL (Xjk k p x)=some x.tot:=rfl
def XiQ (k:Xau) (p:Nat) (x:SkS):Xax:=⟨k,⟨x.R 0,x.R 1,p,p⟩,x.tot⟩
theorem Xka {k:Xau} {p:Nat} (hp:1≤p∧p≤4096) (s:Xax) (hk:s.key=k) (hm:s.rows.m0=p∧s.rows.m1=p) {t:List UInt8} (ht:t.length≤20) (i:Nat) (hi:i<2):Xec s i t=some (plN k p i t:Int):=by
 unfold Xec XdW
 rw [show Xaa.v2 s=some true from rfl,Option.bind_some,show (!true)=false from rfl,cond_false,Xa7 (by omega),Xa7 (by omega),hk,Xku ht,Option.bind_some,XaH (by omega),Int.toNat_natCast]
 obtain rfl|rfl:i=0∨i=1:=by omega
 ·show (XaD _ (s.rows.m0:Int)).bind _=_;rw [hm.1,Xd2 hp.1 hp.2];rfl
 ·show (XaD _ (s.rows.m1:Int)).bind _=_;rw [hm.2,Xd2 hp.1 hp.2];rfl
theorem XwR {k:Xau} {p:Nat} (hp:1≤p∧p≤4096) {x:SkS} (hx:Xdl p x) {e:Xay} (he:e.Text.length≤20):XhT (XiQ k p x) e.Text e.N=some (Xj8 e,XiQ k p (stepS k p x e)):=by
 unfold XhT Xfo
 rw [show Xaa.v2 (XiQ k p x)=some true from rfl,Option.bind_some,show (!true)=false from rfl,cond_false]
 by_cases h1:e.N<0
 ·rw [Xbd h1,XeE (.inl h1),Xfl (XeE (.inl h1))]
 rw [Xa7 h1]
 by_cases h2:e.N>1048576
 ·rw [Xbd h2,XeE (.inr h2),Xfl (XeE (.inr h2))]
 have hN:0≤e.N∧e.N≤1048576:=by omega
 rw [Xa7 h2,XhG h1 h2,XiK (XhG h1 h2)]
 obtain ⟨v0,e0,a0,q0,l0,g0⟩:=Xj9 hp.1 hx k 0 e.Text
 obtain ⟨v1,e1,a1,q1,l1,g1⟩:=Xj9 hp.1 hx k 1 e.Text
 unfold XiQ
 dsimp only
 rw [show Xab.v2 ⟨_,_,_⟩ 0 e.Text=some (plN k p 0 e.Text:Int) from Xka hp _ (by rfl) (by exact ⟨rfl,rfl⟩) he 0 (by decide),Option.bind_some,XaH (by omega),Int.toNat_natCast,e0,Option.bind_some,Xf1 (n:=v0+e.N) (by omega) (by omega),XaH (by omega)]
 rw [show Xab.v2 ⟨_,_,_⟩ 1 e.Text=some (plN k p 1 e.Text:Int) from Xka hp _ (by rfl) (by exact ⟨rfl,rfl⟩) he 1 (by decide),Option.bind_some,XaH (by omega),Int.toNat_natCast,e1,Option.bind_some,Xf1 (n:=v1+e.N) (by omega) (by omega),XaH (by omega)]
 rw [sN hx.tot.1 hx.tot.2 hN]
 unfold Xsf
 rw [g0,g1];rfl
theorem Xxh {k:Xau} {p:Nat} (hp:1≤p∧p≤4096) {x:SkS} (hx:Xdl p x) {t:List UInt8} (ht:t.length≤20):Xhg (XiQ k p x) t=some (Xly k p x t 2):=by
 unfold Xhg XeX
 rw [show Xaa.v2 (XiQ k p x)=some true from rfl,Option.bind_some,show (!true)=false from rfl,cond_false]
 refine Eq.trans (Xhd (Xka hp _ (by rfl) (by exact ⟨rfl,rfl⟩) ht 0 (by decide)) (XdC hp.1 _ _ _) (by rfl) (hx.len 0)) ?_
 refine Eq.trans (Xhd (Xka hp _ (by rfl) (by exact ⟨rfl,rfl⟩) ht 1 (by decide)) (XdC hp.1 _ _ _) (by rfl) (hx.len 1)) ?_
 rfl
theorem XwX {k:Xau} {p:Nat} {x:SkS}:XiD (XiQ k p x)=some x.tot:=rfl
def Xh8 (k:Xau) (p:Nat) (x:SkS):Xav:=⟨k,⟨x.R 0,x.R 1,x.R 2,p,p,p⟩,x.tot⟩
theorem Xi5 {k:Xau} {p:Nat} (hp:1≤p∧p≤4096) (s:Xav) (hk:s.key=k) (hm:s.rows.m0=p∧s.rows.m1=p∧s.rows.m2=p) {t:List UInt8} (ht:t.length≤20) (i:Nat) (hi:i<3):Xd8 s i t=some (plN k p i t:Int):=by
 unfold Xd8 XdR
 rw [show Xaa.v3 s=some true from rfl,Option.bind_some,show (!true)=false from rfl,cond_false,Xa7 (by omega),Xa7 (by omega),hk,Xku ht,Option.bind_some,XaH (by omega),Int.toNat_natCast]
 obtain rfl|rfl|rfl:i=0∨i=1∨i=2:=by omega
 ·show (XaD _ (s.rows.m0:Int)).bind _=_;rw [hm.1,Xd2 hp.1 hp.2];rfl
 ·show (XaD _ (s.rows.m1:Int)).bind _=_;rw [hm.2.1,Xd2 hp.1 hp.2];rfl
 ·show (XaD _ (s.rows.m2:Int)).bind _=_;rw [hm.2.2,Xd2 hp.1 hp.2];rfl
theorem Xyz {k:Xau} {p:Nat} (hp:1≤p∧p≤4096) {x:SkS} (hx:Xdl p x) {e:Xay} (he:e.Text.length≤20):XhZ (Xh8 k p x) e.Text e.N=some (Xj8 e,Xh8 k p (stepS k p x e)):=by
 unfold XhZ Xfg
 rw [show Xaa.v3 (Xh8 k p x)=some true from rfl,Option.bind_some,show (!true)=false from rfl,cond_false]
 by_cases h1:e.N<0
 ·rw [Xbd h1,XeE (.inl h1),Xfl (XeE (.inl h1))]
 rw [Xa7 h1]
 by_cases h2:e.N>1048576
 ·rw [Xbd h2,XeE (.inr h2),Xfl (XeE (.inr h2))]
 have hN:0≤e.N∧e.N≤1048576:=by omega
 rw [Xa7 h2,XhG h1 h2,XiK (XhG h1 h2)]
 obtain ⟨v0,e0,a0,q0,l0,g0⟩:=Xj9 hp.1 hx k 0 e.Text
 obtain ⟨v1,e1,a1,q1,l1,g1⟩:=Xj9 hp.1 hx k 1 e.Text
 obtain ⟨v2,e2,a2,q2,l2,g2⟩:=Xj9 hp.1 hx k 2 e.Text
 unfold Xh8
 dsimp only
 rw [show Xab.v3 ⟨_,_,_⟩ 0 e.Text=some (plN k p 0 e.Text:Int) from Xi5 hp _ (by rfl) (by exact ⟨rfl,rfl,rfl⟩) he 0 (by decide),Option.bind_some,XaH (by omega),Int.toNat_natCast,e0,Option.bind_some,Xf1 (n:=v0+e.N) (by omega) (by omega),XaH (by omega)]
 rw [show Xab.v3 ⟨_,_,_⟩ 1 e.Text=some (plN k p 1 e.Text:Int) from Xi5 hp _ (by rfl) (by exact ⟨rfl,rfl,rfl⟩) he 1 (by decide),Option.bind_some,XaH (by omega),Int.toNat_natCast,e1,Option.bind_some,Xf1 (n:=v1+e.N) (by omega) (by omega),XaH (by omega)]
 rw [show Xab.v3 ⟨_,_,_⟩ 2 e.Text=some (plN k p 2 e.Text:Int) from Xi5 hp _ (by rfl) (by exact ⟨rfl,rfl,rfl⟩) he 2 (by decide),Option.bind_some,XaH (by omega),Int.toNat_natCast,e2,Option.bind_some,Xf1 (n:=v2+e.N) (by omega) (by omega),XaH (by omega)]
 rw [sN hx.tot.1 hx.tot.2 hN]
 unfold Xsf
 rw [g0,g1,g2];rfl
theorem XxC {k:Xau} {p:Nat} (hp:1≤p∧p≤4096) {x:SkS} (hx:Xdl p x) {t:List UInt8} (ht:t.length≤20):Xhl (Xh8 k p x) t=some (Xly k p x t 3):=by
 unfold Xhl XeS
 rw [show Xaa.v3 (Xh8 k p x)=some true from rfl,Option.bind_some,show (!true)=false from rfl,cond_false]
 refine Eq.trans (Xhd (Xi5 hp _ (by rfl) (by exact ⟨rfl,rfl,rfl⟩) ht 0 (by decide)) (XdC hp.1 _ _ _) (by rfl) (hx.len 0)) ?_
 refine Eq.trans (Xhd (Xi5 hp _ (by rfl) (by exact ⟨rfl,rfl,rfl⟩) ht 1 (by decide)) (XdC hp.1 _ _ _) (by rfl) (hx.len 1)) ?_
 refine Eq.trans (Xhd (Xi5 hp _ (by rfl) (by exact ⟨rfl,rfl,rfl⟩) ht 2 (by decide)) (XdC hp.1 _ _ _) (by rfl) (hx.len 2)) ?_
 rfl
theorem Xyh {k:Xau} {p:Nat} {x:SkS}:XiO (Xh8 k p x)=some x.tot:=rfl
def XhE (k:Xau) (p:Nat) (x:SkS):Xar:=⟨k,⟨x.R 0,x.R 1,x.R 2,x.R 3,p,p,p,p⟩,x.tot⟩
theorem Xib {k:Xau} {p:Nat} (hp:1≤p∧p≤4096) (s:Xar) (hk:s.key=k) (hm:s.rows.m0=p∧s.rows.m1=p∧s.rows.m2=p∧s.rows.m3=p) {t:List UInt8} (ht:t.length≤20) (i:Nat) (hi:i<4):Xel s i t=some (plN k p i t:Int):=by
 unfold Xel XdT
 rw [show Xaa.v4 s=some true from rfl,Option.bind_some,show (!true)=false from rfl,cond_false,Xa7 (by omega),Xa7 (by omega),hk,Xku ht,Option.bind_some,XaH (by omega),Int.toNat_natCast]
 obtain rfl|rfl|rfl|rfl:i=0∨i=1∨i=2∨i=3:=by omega
 ·show (XaD _ (s.rows.m0:Int)).bind _=_;rw [hm.1,Xd2 hp.1 hp.2];rfl
 ·show (XaD _ (s.rows.m1:Int)).bind _=_;rw [hm.2.1,Xd2 hp.1 hp.2];rfl
 ·show (XaD _ (s.rows.m2:Int)).bind _=_;rw [hm.2.2.1,Xd2 hp.1 hp.2];rfl
 ·show (XaD _ (s.rows.m3:Int)).bind _=_;rw [hm.2.2.2,Xd2 hp.1 hp.2];rfl
theorem XyB {k:Xau} {p:Nat} (hp:1≤p∧p≤4096) {x:SkS} (hx:Xdl p x) {e:Xay} (he:e.Text.length≤20):XhS (XhE k p x) e.Text e.N=some (Xj8 e,XhE k p (stepS k p x e)):=by
 unfold XhS Xfi
 rw [show Xaa.v4 (XhE k p x)=some true from rfl,Option.bind_some,show (!true)=false from rfl,cond_false]
 by_cases h1:e.N<0
 ·rw [Xbd h1,XeE (.inl h1),Xfl (XeE (.inl h1))]
 rw [Xa7 h1]
 by_cases h2:e.N>1048576
 ·rw [Xbd h2,XeE (.inr h2),Xfl (XeE (.inr h2))]
 have hN:0≤e.N∧e.N≤1048576:=by omega
 rw [Xa7 h2,XhG h1 h2,XiK (XhG h1 h2)]
 obtain ⟨v0,e0,a0,q0,l0,g0⟩:=Xj9 hp.1 hx k 0 e.Text
 obtain ⟨v1,e1,a1,q1,l1,g1⟩:=Xj9 hp.1 hx k 1 e.Text
 obtain ⟨v2,e2,a2,q2,l2,g2⟩:=Xj9 hp.1 hx k 2 e.Text
 obtain ⟨v3,e3,a3,q3,l3,g3⟩:=Xj9 hp.1 hx k 3 e.Text
 unfold XhE
 dsimp only
 rw [show Xab.v4 ⟨_,_,_⟩ 0 e.Text=some (plN k p 0 e.Text:Int) from Xib hp _ (by rfl) (by exact ⟨rfl,rfl,rfl,rfl⟩) he 0 (by decide),Option.bind_some,XaH (by omega),Int.toNat_natCast,e0,Option.bind_some,Xf1 (n:=v0+e.N) (by omega) (by omega),XaH (by omega)]
 rw [show Xab.v4 ⟨_,_,_⟩ 1 e.Text=some (plN k p 1 e.Text:Int) from Xib hp _ (by rfl) (by exact ⟨rfl,rfl,rfl,rfl⟩) he 1 (by decide),Option.bind_some,XaH (by omega),Int.toNat_natCast,e1,Option.bind_some,Xf1 (n:=v1+e.N) (by omega) (by omega),XaH (by omega)]
 rw [show Xab.v4 ⟨_,_,_⟩ 2 e.Text=some (plN k p 2 e.Text:Int) from Xib hp _ (by rfl) (by exact ⟨rfl,rfl,rfl,rfl⟩) he 2 (by decide),Option.bind_some,XaH (by omega),Int.toNat_natCast,e2,Option.bind_some,Xf1 (n:=v2+e.N) (by omega) (by omega),XaH (by omega)]
 rw [show Xab.v4 ⟨_,_,_⟩ 3 e.Text=some (plN k p 3 e.Text:Int) from Xib hp _ (by rfl) (by exact ⟨rfl,rfl,rfl,rfl⟩) he 3 (by decide),Option.bind_some,XaH (by omega),Int.toNat_natCast,e3,Option.bind_some,Xf1 (n:=v3+e.N) (by omega) (by omega),XaH (by omega)]
 rw [sN hx.tot.1 hx.tot.2 hN]
 unfold Xsf
 rw [g0,g1,g2,g3];rfl
theorem XzR {k:Xau} {p:Nat} (hp:1≤p∧p≤4096) {x:SkS} (hx:Xdl p x) {t:List UInt8} (ht:t.length≤20):Xhs (XhE k p x) t=some (Xly k p x t 4):=by
 unfold Xhs XeW
 rw [show Xaa.v4 (XhE k p x)=some true from rfl,Option.bind_some,show (!true)=false from rfl,cond_false]
 refine Eq.trans (Xhd (Xib hp _ (by rfl) (by exact ⟨rfl,rfl,rfl,rfl⟩) ht 0 (by decide)) (XdC hp.1 _ _ _) (by rfl) (hx.len 0)) ?_
 refine Eq.trans (Xhd (Xib hp _ (by rfl) (by exact ⟨rfl,rfl,rfl,rfl⟩) ht 1 (by decide)) (XdC hp.1 _ _ _) (by rfl) (hx.len 1)) ?_
 refine Eq.trans (Xhd (Xib hp _ (by rfl) (by exact ⟨rfl,rfl,rfl,rfl⟩) ht 2 (by decide)) (XdC hp.1 _ _ _) (by rfl) (hx.len 2)) ?_
 refine Eq.trans (Xhd (Xib hp _ (by rfl) (by exact ⟨rfl,rfl,rfl,rfl⟩) ht 3 (by decide)) (XdC hp.1 _ _ _) (by rfl) (hx.len 3)) ?_
 rfl
theorem Xxc {k:Xau} {p:Nat} {x:SkS}:XiG (XhE k p x)=some x.tot:=rfl
def XgC (k:Xau) (p:Nat) (x:SkS):Xap:=⟨k,⟨x.R 0,x.R 1,x.R 2,x.R 3,x.R 4,p,p,p,p,p⟩,x.tot⟩
theorem Xhn {k:Xau} {p:Nat} (hp:1≤p∧p≤4096) (s:Xap) (hk:s.key=k) (hm:s.rows.m0=p∧s.rows.m1=p∧s.rows.m2=p∧s.rows.m3=p∧s.rows.m4=p) {t:List UInt8} (ht:t.length≤20) (i:Nat) (hi:i<5):Xee s i t=some (plN k p i t:Int):=by
 unfold Xee XdV
 rw [show Xaa.v5 s=some true from rfl,Option.bind_some,show (!true)=false from rfl,cond_false,Xa7 (by omega),Xa7 (by omega),hk,Xku ht,Option.bind_some,XaH (by omega),Int.toNat_natCast]
 obtain rfl|rfl|rfl|rfl|rfl:i=0∨i=1∨i=2∨i=3∨i=4:=by omega
 ·show (XaD _ (s.rows.m0:Int)).bind _=_;rw [hm.1,Xd2 hp.1 hp.2];rfl
 ·show (XaD _ (s.rows.m1:Int)).bind _=_;rw [hm.2.1,Xd2 hp.1 hp.2];rfl
 ·show (XaD _ (s.rows.m2:Int)).bind _=_;rw [hm.2.2.1,Xd2 hp.1 hp.2];rfl
 ·show (XaD _ (s.rows.m3:Int)).bind _=_;rw [hm.2.2.2.1,Xd2 hp.1 hp.2];rfl
 ·show (XaD _ (s.rows.m4:Int)).bind _=_;rw [hm.2.2.2.2,Xd2 hp.1 hp.2];rfl
theorem Xxr {k:Xau} {p:Nat} (hp:1≤p∧p≤4096) {x:SkS} (hx:Xdl p x) {e:Xay} (he:e.Text.length≤20):XhW (XgC k p x) e.Text e.N=some (Xj8 e,XgC k p (stepS k p x e)):=by
 unfold XhW Xfh
 rw [show Xaa.v5 (XgC k p x)=some true from rfl,Option.bind_some,show (!true)=false from rfl,cond_false]
 by_cases h1:e.N<0
 ·rw [Xbd h1,XeE (.inl h1),Xfl (XeE (.inl h1))]
 rw [Xa7 h1]
 by_cases h2:e.N>1048576
 ·rw [Xbd h2,XeE (.inr h2),Xfl (XeE (.inr h2))]
 have hN:0≤e.N∧e.N≤1048576:=by omega
 rw [Xa7 h2,XhG h1 h2,XiK (XhG h1 h2)]
 obtain ⟨v0,e0,a0,q0,l0,g0⟩:=Xj9 hp.1 hx k 0 e.Text
 obtain ⟨v1,e1,a1,q1,l1,g1⟩:=Xj9 hp.1 hx k 1 e.Text
 obtain ⟨v2,e2,a2,q2,l2,g2⟩:=Xj9 hp.1 hx k 2 e.Text
 obtain ⟨v3,e3,a3,q3,l3,g3⟩:=Xj9 hp.1 hx k 3 e.Text
 obtain ⟨v4,e4,a4,q4,l4,g4⟩:=Xj9 hp.1 hx k 4 e.Text
 unfold XgC
 dsimp only
 rw [show Xab.v5 ⟨_,_,_⟩ 0 e.Text=some (plN k p 0 e.Text:Int) from Xhn hp _ (by rfl) (by exact ⟨rfl,rfl,rfl,rfl,rfl⟩) he 0 (by decide),Option.bind_some,XaH (by omega),Int.toNat_natCast,e0,Option.bind_some,Xf1 (n:=v0+e.N) (by omega) (by omega),XaH (by omega)]
 rw [show Xab.v5 ⟨_,_,_⟩ 1 e.Text=some (plN k p 1 e.Text:Int) from Xhn hp _ (by rfl) (by exact ⟨rfl,rfl,rfl,rfl,rfl⟩) he 1 (by decide),Option.bind_some,XaH (by omega),Int.toNat_natCast,e1,Option.bind_some,Xf1 (n:=v1+e.N) (by omega) (by omega),XaH (by omega)]
 rw [show Xab.v5 ⟨_,_,_⟩ 2 e.Text=some (plN k p 2 e.Text:Int) from Xhn hp _ (by rfl) (by exact ⟨rfl,rfl,rfl,rfl,rfl⟩) he 2 (by decide),Option.bind_some,XaH (by omega),Int.toNat_natCast,e2,Option.bind_some,Xf1 (n:=v2+e.N) (by omega) (by omega),XaH (by omega)]
 rw [show Xab.v5 ⟨_,_,_⟩ 3 e.Text=some (plN k p 3 e.Text:Int) from Xhn hp _ (by rfl) (by exact ⟨rfl,rfl,rfl,rfl,rfl⟩) he 3 (by decide),Option.bind_some,XaH (by omega),Int.toNat_natCast,e3,Option.bind_some,Xf1 (n:=v3+e.N) (by omega) (by omega),XaH (by omega)]
 rw [show Xab.v5 ⟨_,_,_⟩ 4 e.Text=some (plN k p 4 e.Text:Int) from Xhn hp _ (by rfl) (by exact ⟨rfl,rfl,rfl,rfl,rfl⟩) he 4 (by decide),Option.bind_some,XaH (by omega),Int.toNat_natCast,e4,Option.bind_some,Xf1 (n:=v4+e.N) (by omega) (by omega),XaH (by omega)]
 rw [sN hx.tot.1 hx.tot.2 hN]
 unfold Xsf
 rw [g0,g1,g2,g3,g4];rfl
theorem Xzh {k:Xau} {p:Nat} (hp:1≤p∧p≤4096) {x:SkS} (hx:Xdl p x) {t:List UInt8} (ht:t.length≤20):Xhz (XgC k p x) t=some (Xly k p x t 5):=by
 unfold Xhz XeN
 rw [show Xaa.v5 (XgC k p x)=some true from rfl,Option.bind_some,show (!true)=false from rfl,cond_false]
 refine Eq.trans (Xhd (Xhn hp _ (by rfl) (by exact ⟨rfl,rfl,rfl,rfl,rfl⟩) ht 0 (by decide)) (XdC hp.1 _ _ _) (by rfl) (hx.len 0)) ?_
 refine Eq.trans (Xhd (Xhn hp _ (by rfl) (by exact ⟨rfl,rfl,rfl,rfl,rfl⟩) ht 1 (by decide)) (XdC hp.1 _ _ _) (by rfl) (hx.len 1)) ?_
 refine Eq.trans (Xhd (Xhn hp _ (by rfl) (by exact ⟨rfl,rfl,rfl,rfl,rfl⟩) ht 2 (by decide)) (XdC hp.1 _ _ _) (by rfl) (hx.len 2)) ?_
 refine Eq.trans (Xhd (Xhn hp _ (by rfl) (by exact ⟨rfl,rfl,rfl,rfl,rfl⟩) ht 3 (by decide)) (XdC hp.1 _ _ _) (by rfl) (hx.len 3)) ?_
 refine Eq.trans (Xhd (Xhn hp _ (by rfl) (by exact ⟨rfl,rfl,rfl,rfl,rfl⟩) ht 4 (by decide)) (XdC hp.1 _ _ _) (by rfl) (hx.len 4)) ?_
 rfl
theorem Xza {k:Xau} {p:Nat} {x:SkS}:XiP (XgC k p x)=some x.tot:=rfl
def Xfk (k:Xau) (p:Nat) (x:SkS):Xan:=⟨k,⟨x.R 0,x.R 1,x.R 2,x.R 3,x.R 4,x.R 5,p,p,p,p,p,p⟩,x.tot⟩
theorem XfS {k:Xau} {p:Nat} (hp:1≤p∧p≤4096) (s:Xan) (hk:s.key=k) (hm:s.rows.m0=p∧s.rows.m1=p∧s.rows.m2=p∧s.rows.m3=p∧s.rows.m4=p∧s.rows.m5=p) {t:List UInt8} (ht:t.length≤20) (i:Nat) (hi:i<6):Xeg s i t=some (plN k p i t:Int):=by
 unfold Xeg XdS
 rw [show Xaa.v6 s=some true from rfl,Option.bind_some,show (!true)=false from rfl,cond_false,Xa7 (by omega),Xa7 (by omega),hk,Xku ht,Option.bind_some,XaH (by omega),Int.toNat_natCast]
 obtain rfl|rfl|rfl|rfl|rfl|rfl:i=0∨i=1∨i=2∨i=3∨i=4∨i=5:=by omega
 ·show (XaD _ (s.rows.m0:Int)).bind _=_;rw [hm.1,Xd2 hp.1 hp.2];rfl
 ·show (XaD _ (s.rows.m1:Int)).bind _=_;rw [hm.2.1,Xd2 hp.1 hp.2];rfl
 ·show (XaD _ (s.rows.m2:Int)).bind _=_;rw [hm.2.2.1,Xd2 hp.1 hp.2];rfl
 ·show (XaD _ (s.rows.m3:Int)).bind _=_;rw [hm.2.2.2.1,Xd2 hp.1 hp.2];rfl
 ·show (XaD _ (s.rows.m4:Int)).bind _=_;rw [hm.2.2.2.2.1,Xd2 hp.1 hp.2];rfl
 ·show (XaD _ (s.rows.m5:Int)).bind _=_;rw [hm.2.2.2.2.2,Xd2 hp.1 hp.2];rfl
theorem Xxw {k:Xau} {p:Nat} (hp:1≤p∧p≤4096) {x:SkS} (hx:Xdl p x) {e:Xay} (he:e.Text.length≤20):XhR (Xfk k p x) e.Text e.N=some (Xj8 e,Xfk k p (stepS k p x e)):=by
 unfold XhR Xff
 rw [show Xaa.v6 (Xfk k p x)=some true from rfl,Option.bind_some,show (!true)=false from rfl,cond_false]
 by_cases h1:e.N<0
 ·rw [Xbd h1,XeE (.inl h1),Xfl (XeE (.inl h1))]
 rw [Xa7 h1]
 by_cases h2:e.N>1048576
 ·rw [Xbd h2,XeE (.inr h2),Xfl (XeE (.inr h2))]
 have hN:0≤e.N∧e.N≤1048576:=by omega
 rw [Xa7 h2,XhG h1 h2,XiK (XhG h1 h2)]
 obtain ⟨v0,e0,a0,q0,l0,g0⟩:=Xj9 hp.1 hx k 0 e.Text
 obtain ⟨v1,e1,a1,q1,l1,g1⟩:=Xj9 hp.1 hx k 1 e.Text
 obtain ⟨v2,e2,a2,q2,l2,g2⟩:=Xj9 hp.1 hx k 2 e.Text
 obtain ⟨v3,e3,a3,q3,l3,g3⟩:=Xj9 hp.1 hx k 3 e.Text
 obtain ⟨v4,e4,a4,q4,l4,g4⟩:=Xj9 hp.1 hx k 4 e.Text
 obtain ⟨v5,e5,a5,q5,l5,g5⟩:=Xj9 hp.1 hx k 5 e.Text
 unfold Xfk
 dsimp only
 rw [show Xab.v6 ⟨_,_,_⟩ 0 e.Text=some (plN k p 0 e.Text:Int) from XfS hp _ (by rfl) (by exact ⟨rfl,rfl,rfl,rfl,rfl,rfl⟩) he 0 (by decide),Option.bind_some,XaH (by omega),Int.toNat_natCast,e0,Option.bind_some,Xf1 (n:=v0+e.N) (by omega) (by omega),XaH (by omega)]
 rw [show Xab.v6 ⟨_,_,_⟩ 1 e.Text=some (plN k p 1 e.Text:Int) from XfS hp _ (by rfl) (by exact ⟨rfl,rfl,rfl,rfl,rfl,rfl⟩) he 1 (by decide),Option.bind_some,XaH (by omega),Int.toNat_natCast,e1,Option.bind_some,Xf1 (n:=v1+e.N) (by omega) (by omega),XaH (by omega)]
 rw [show Xab.v6 ⟨_,_,_⟩ 2 e.Text=some (plN k p 2 e.Text:Int) from XfS hp _ (by rfl) (by exact ⟨rfl,rfl,rfl,rfl,rfl,rfl⟩) he 2 (by decide),Option.bind_some,XaH (by omega),Int.toNat_natCast,e2,Option.bind_some,Xf1 (n:=v2+e.N) (by omega) (by omega),XaH (by omega)]
 rw [show Xab.v6 ⟨_,_,_⟩ 3 e.Text=some (plN k p 3 e.Text:Int) from XfS hp _ (by rfl) (by exact ⟨rfl,rfl,rfl,rfl,rfl,rfl⟩) he 3 (by decide),Option.bind_some,XaH (by omega),Int.toNat_natCast,e3,Option.bind_some,Xf1 (n:=v3+e.N) (by omega) (by omega),XaH (by omega)]
 rw [show Xab.v6 ⟨_,_,_⟩ 4 e.Text=some (plN k p 4 e.Text:Int) from XfS hp _ (by rfl) (by exact ⟨rfl,rfl,rfl,rfl,rfl,rfl⟩) he 4 (by decide),Option.bind_some,XaH (by omega),Int.toNat_natCast,e4,Option.bind_some,Xf1 (n:=v4+e.N) (by omega) (by omega),XaH (by omega)]
 rw [show Xab.v6 ⟨_,_,_⟩ 5 e.Text=some (plN k p 5 e.Text:Int) from XfS hp _ (by rfl) (by exact ⟨rfl,rfl,rfl,rfl,rfl,rfl⟩) he 5 (by decide),Option.bind_some,XaH (by omega),Int.toNat_natCast,e5,Option.bind_some,Xf1 (n:=v5+e.N) (by omega) (by omega),XaH (by omega)]
 rw [sN hx.tot.1 hx.tot.2 hN]
 unfold Xsf
 rw [g0,g1,g2,g3,g4,g5];rfl
theorem Xys {k:Xau} {p:Nat} (hp:1≤p∧p≤4096) {x:SkS} (hx:Xdl p x) {t:List UInt8} (ht:t.length≤20):Xhj (Xfk k p x) t=some (Xly k p x t 6):=by
 unfold Xhj XeY
 rw [show Xaa.v6 (Xfk k p x)=some true from rfl,Option.bind_some,show (!true)=false from rfl,cond_false]
 refine Eq.trans (Xhd (XfS hp _ (by rfl) (by exact ⟨rfl,rfl,rfl,rfl,rfl,rfl⟩) ht 0 (by decide)) (XdC hp.1 _ _ _) (by rfl) (hx.len 0)) ?_
 refine Eq.trans (Xhd (XfS hp _ (by rfl) (by exact ⟨rfl,rfl,rfl,rfl,rfl,rfl⟩) ht 1 (by decide)) (XdC hp.1 _ _ _) (by rfl) (hx.len 1)) ?_
 refine Eq.trans (Xhd (XfS hp _ (by rfl) (by exact ⟨rfl,rfl,rfl,rfl,rfl,rfl⟩) ht 2 (by decide)) (XdC hp.1 _ _ _) (by rfl) (hx.len 2)) ?_
 refine Eq.trans (Xhd (XfS hp _ (by rfl) (by exact ⟨rfl,rfl,rfl,rfl,rfl,rfl⟩) ht 3 (by decide)) (XdC hp.1 _ _ _) (by rfl) (hx.len 3)) ?_
 refine Eq.trans (Xhd (XfS hp _ (by rfl) (by exact ⟨rfl,rfl,rfl,rfl,rfl,rfl⟩) ht 4 (by decide)) (XdC hp.1 _ _ _) (by rfl) (hx.len 4)) ?_
 refine Eq.trans (Xhd (XfS hp _ (by rfl) (by exact ⟨rfl,rfl,rfl,rfl,rfl,rfl⟩) ht 5 (by decide)) (XdC hp.1 _ _ _) (by rfl) (hx.len 5)) ?_
 rfl
theorem XwB {k:Xau} {p:Nat} {x:SkS}:XiA (Xfk k p x)=some x.tot:=rfl
def Xe4 (k:Xau) (p:Nat) (x:SkS):Xal:=⟨k,⟨x.R 0,x.R 1,x.R 2,x.R 3,x.R 4,x.R 5,x.R 6,p,p,p,p,p,p,p⟩,x.tot⟩
theorem XeL {k:Xau} {p:Nat} (hp:1≤p∧p≤4096) (s:Xal) (hk:s.key=k) (hm:s.rows.m0=p∧s.rows.m1=p∧s.rows.m2=p∧s.rows.m3=p∧s.rows.m4=p∧s.rows.m5=p∧s.rows.m6=p) {t:List UInt8} (ht:t.length≤20) (i:Nat) (hi:i<7):Xej s i t=some (plN k p i t:Int):=by
 unfold Xej XdO
 rw [show Xaa.v7 s=some true from rfl,Option.bind_some,show (!true)=false from rfl,cond_false,Xa7 (by omega),Xa7 (by omega),hk,Xku ht,Option.bind_some,XaH (by omega),Int.toNat_natCast]
 obtain rfl|rfl|rfl|rfl|rfl|rfl|rfl:i=0∨i=1∨i=2∨i=3∨i=4∨i=5∨i=6:=by omega
 ·show (XaD _ (s.rows.m0:Int)).bind _=_;rw [hm.1,Xd2 hp.1 hp.2];rfl
 ·show (XaD _ (s.rows.m1:Int)).bind _=_;rw [hm.2.1,Xd2 hp.1 hp.2];rfl
 ·show (XaD _ (s.rows.m2:Int)).bind _=_;rw [hm.2.2.1,Xd2 hp.1 hp.2];rfl
 ·show (XaD _ (s.rows.m3:Int)).bind _=_;rw [hm.2.2.2.1,Xd2 hp.1 hp.2];rfl
 ·show (XaD _ (s.rows.m4:Int)).bind _=_;rw [hm.2.2.2.2.1,Xd2 hp.1 hp.2];rfl
 ·show (XaD _ (s.rows.m5:Int)).bind _=_;rw [hm.2.2.2.2.2.1,Xd2 hp.1 hp.2];rfl
 ·show (XaD _ (s.rows.m6:Int)).bind _=_;rw [hm.2.2.2.2.2.2,Xd2 hp.1 hp.2];rfl
theorem Xy8 {k:Xau} {p:Nat} (hp:1≤p∧p≤4096) {x:SkS} (hx:Xdl p x) {e:Xay} (he:e.Text.length≤20):XhV (Xe4 k p x) e.Text e.N=some (Xj8 e,Xe4 k p (stepS k p x e)):=by
 unfold XhV Xfj
 rw [show Xaa.v7 (Xe4 k p x)=some true from rfl,Option.bind_some,show (!true)=false from rfl,cond_false]
 by_cases h1:e.N<0
 ·rw [Xbd h1,XeE (.inl h1),Xfl (XeE (.inl h1))]
 rw [Xa7 h1]
 by_cases h2:e.N>1048576
 ·rw [Xbd h2,XeE (.inr h2),Xfl (XeE (.inr h2))]
 have hN:0≤e.N∧e.N≤1048576:=by omega
 rw [Xa7 h2,XhG h1 h2,XiK (XhG h1 h2)]
 obtain ⟨v0,e0,a0,q0,l0,g0⟩:=Xj9 hp.1 hx k 0 e.Text
 obtain ⟨v1,e1,a1,q1,l1,g1⟩:=Xj9 hp.1 hx k 1 e.Text
 obtain ⟨v2,e2,a2,q2,l2,g2⟩:=Xj9 hp.1 hx k 2 e.Text
 obtain ⟨v3,e3,a3,q3,l3,g3⟩:=Xj9 hp.1 hx k 3 e.Text
 obtain ⟨v4,e4,a4,q4,l4,g4⟩:=Xj9 hp.1 hx k 4 e.Text
 obtain ⟨v5,e5,a5,q5,l5,g5⟩:=Xj9 hp.1 hx k 5 e.Text
 obtain ⟨v6,e6,a6,q6,l6,g6⟩:=Xj9 hp.1 hx k 6 e.Text
 unfold Xe4
 dsimp only
 rw [show Xab.v7 ⟨_,_,_⟩ 0 e.Text=some (plN k p 0 e.Text:Int) from XeL hp _ (by rfl) (by exact ⟨rfl,rfl,rfl,rfl,rfl,rfl,rfl⟩) he 0 (by decide),Option.bind_some,XaH (by omega),Int.toNat_natCast,e0,Option.bind_some,Xf1 (n:=v0+e.N) (by omega) (by omega),XaH (by omega)]
 rw [show Xab.v7 ⟨_,_,_⟩ 1 e.Text=some (plN k p 1 e.Text:Int) from XeL hp _ (by rfl) (by exact ⟨rfl,rfl,rfl,rfl,rfl,rfl,rfl⟩) he 1 (by decide),Option.bind_some,XaH (by omega),Int.toNat_natCast,e1,Option.bind_some,Xf1 (n:=v1+e.N) (by omega) (by omega),XaH (by omega)]
 rw [show Xab.v7 ⟨_,_,_⟩ 2 e.Text=some (plN k p 2 e.Text:Int) from XeL hp _ (by rfl) (by exact ⟨rfl,rfl,rfl,rfl,rfl,rfl,rfl⟩) he 2 (by decide),Option.bind_some,XaH (by omega),Int.toNat_natCast,e2,Option.bind_some,Xf1 (n:=v2+e.N) (by omega) (by omega),XaH (by omega)]
 rw [show Xab.v7 ⟨_,_,_⟩ 3 e.Text=some (plN k p 3 e.Text:Int) from XeL hp _ (by rfl) (by exact ⟨rfl,rfl,rfl,rfl,rfl,rfl,rfl⟩) he 3 (by decide),Option.bind_some,XaH (by omega),Int.toNat_natCast,e3,Option.bind_some,Xf1 (n:=v3+e.N) (by omega) (by omega),XaH (by omega)]
 rw [show Xab.v7 ⟨_,_,_⟩ 4 e.Text=some (plN k p 4 e.Text:Int) from XeL hp _ (by rfl) (by exact ⟨rfl,rfl,rfl,rfl,rfl,rfl,rfl⟩) he 4 (by decide),Option.bind_some,XaH (by omega),Int.toNat_natCast,e4,Option.bind_some,Xf1 (n:=v4+e.N) (by omega) (by omega),XaH (by omega)]
 rw [show Xab.v7 ⟨_,_,_⟩ 5 e.Text=some (plN k p 5 e.Text:Int) from XeL hp _ (by rfl) (by exact ⟨rfl,rfl,rfl,rfl,rfl,rfl,rfl⟩) he 5 (by decide),Option.bind_some,XaH (by omega),Int.toNat_natCast,e5,Option.bind_some,Xf1 (n:=v5+e.N) (by omega) (by omega),XaH (by omega)]
 rw [show Xab.v7 ⟨_,_,_⟩ 6 e.Text=some (plN k p 6 e.Text:Int) from XeL hp _ (by rfl) (by exact ⟨rfl,rfl,rfl,rfl,rfl,rfl,rfl⟩) he 6 (by decide),Option.bind_some,XaH (by omega),Int.toNat_natCast,e6,Option.bind_some,Xf1 (n:=v6+e.N) (by omega) (by omega),XaH (by omega)]
 rw [sN hx.tot.1 hx.tot.2 hN]
 unfold Xsf
 rw [g0,g1,g2,g3,g4,g5,g6];rfl
theorem XzO {k:Xau} {p:Nat} (hp:1≤p∧p≤4096) {x:SkS} (hx:Xdl p x) {t:List UInt8} (ht:t.length≤20):Xhr (Xe4 k p x) t=some (Xly k p x t 7):=by
 unfold Xhr Xe1
 rw [show Xaa.v7 (Xe4 k p x)=some true from rfl,Option.bind_some,show (!true)=false from rfl,cond_false]
 refine Eq.trans (Xhd (XeL hp _ (by rfl) (by exact ⟨rfl,rfl,rfl,rfl,rfl,rfl,rfl⟩) ht 0 (by decide)) (XdC hp.1 _ _ _) (by rfl) (hx.len 0)) ?_
 refine Eq.trans (Xhd (XeL hp _ (by rfl) (by exact ⟨rfl,rfl,rfl,rfl,rfl,rfl,rfl⟩) ht 1 (by decide)) (XdC hp.1 _ _ _) (by rfl) (hx.len 1)) ?_
 refine Eq.trans (Xhd (XeL hp _ (by rfl) (by exact ⟨rfl,rfl,rfl,rfl,rfl,rfl,rfl⟩) ht 2 (by decide)) (XdC hp.1 _ _ _) (by rfl) (hx.len 2)) ?_
 refine Eq.trans (Xhd (XeL hp _ (by rfl) (by exact ⟨rfl,rfl,rfl,rfl,rfl,rfl,rfl⟩) ht 3 (by decide)) (XdC hp.1 _ _ _) (by rfl) (hx.len 3)) ?_
 refine Eq.trans (Xhd (XeL hp _ (by rfl) (by exact ⟨rfl,rfl,rfl,rfl,rfl,rfl,rfl⟩) ht 4 (by decide)) (XdC hp.1 _ _ _) (by rfl) (hx.len 4)) ?_
 refine Eq.trans (Xhd (XeL hp _ (by rfl) (by exact ⟨rfl,rfl,rfl,rfl,rfl,rfl,rfl⟩) ht 5 (by decide)) (XdC hp.1 _ _ _) (by rfl) (hx.len 5)) ?_
 refine Eq.trans (Xhd (XeL hp _ (by rfl) (by exact ⟨rfl,rfl,rfl,rfl,rfl,rfl,rfl⟩) ht 6 (by decide)) (XdC hp.1 _ _ _) (by rfl) (hx.len 6)) ?_
 rfl
theorem XyO {k:Xau} {p:Nat} {x:SkS}:XiH (Xe4 k p x)=some x.tot:=rfl
def Xey (k:Xau) (p:Nat) (x:SkS):Xak:=⟨k,⟨x.R 0,x.R 1,x.R 2,x.R 3,x.R 4,x.R 5,x.R 6,x.R 7,p,p,p,p,p,p,p,p⟩,x.tot⟩
theorem Xd5 {k:Xau} {p:Nat} (hp:1≤p∧p≤4096) (s:Xak) (hk:s.key=k) (hm:s.rows.m0=p∧s.rows.m1=p∧s.rows.m2=p∧s.rows.m3=p∧s.rows.m4=p∧s.rows.m5=p∧s.rows.m6=p∧s.rows.m7=p) {t:List UInt8} (ht:t.length≤20) (i:Nat) (hi:i<8):Xd6 s i t=some (plN k p i t:Int):=by
 unfold Xd6 XdQ
 rw [show Xaa.v8 s=some true from rfl,Option.bind_some,show (!true)=false from rfl,cond_false,Xa7 (by omega),Xa7 (by omega),hk,Xku ht,Option.bind_some,XaH (by omega),Int.toNat_natCast]
 obtain rfl|rfl|rfl|rfl|rfl|rfl|rfl|rfl:i=0∨i=1∨i=2∨i=3∨i=4∨i=5∨i=6∨i=7:=by omega
 ·show (XaD _ (s.rows.m0:Int)).bind _=_;rw [hm.1,Xd2 hp.1 hp.2];rfl
 ·show (XaD _ (s.rows.m1:Int)).bind _=_;rw [hm.2.1,Xd2 hp.1 hp.2];rfl
 ·show (XaD _ (s.rows.m2:Int)).bind _=_;rw [hm.2.2.1,Xd2 hp.1 hp.2];rfl
 ·show (XaD _ (s.rows.m3:Int)).bind _=_;rw [hm.2.2.2.1,Xd2 hp.1 hp.2];rfl
 ·show (XaD _ (s.rows.m4:Int)).bind _=_;rw [hm.2.2.2.2.1,Xd2 hp.1 hp.2];rfl
 ·show (XaD _ (s.rows.m5:Int)).bind _=_;rw [hm.2.2.2.2.2.1,Xd2 hp.1 hp.2];rfl
 ·show (XaD _ (s.rows.m6:Int)).bind _=_;rw [hm.2.2.2.2.2.2.1,Xd2 hp.1 hp.2];rfl
 ·show (XaD _ (s.rows.m7:Int)).bind _=_;rw [hm.2.2.2.2.2.2.2,Xd2 hp.1 hp.2];rfl
theorem Xxg {k:Xau} {p:Nat} (hp:1≤p∧p≤4096) {x:SkS} (hx:Xdl p x) {e:Xay} (he:e.Text.length≤20):XhY (Xey k p x) e.Text e.N=some (Xj8 e,Xey k p (stepS k p x e)):=by
 unfold XhY Xfn
 rw [show Xaa.v8 (Xey k p x)=some true from rfl,Option.bind_some,show (!true)=false from rfl,cond_false]
 by_cases h1:e.N<0
 ·rw [Xbd h1,XeE (.inl h1),Xfl (XeE (.inl h1))]
 rw [Xa7 h1]
 by_cases h2:e.N>1048576
 ·rw [Xbd h2,XeE (.inr h2),Xfl (XeE (.inr h2))]
 have hN:0≤e.N∧e.N≤1048576:=by omega
 rw [Xa7 h2,XhG h1 h2,XiK (XhG h1 h2)]
 obtain ⟨v0,e0,a0,q0,l0,g0⟩:=Xj9 hp.1 hx k 0 e.Text
 obtain ⟨v1,e1,a1,q1,l1,g1⟩:=Xj9 hp.1 hx k 1 e.Text
 obtain ⟨v2,e2,a2,q2,l2,g2⟩:=Xj9 hp.1 hx k 2 e.Text
 obtain ⟨v3,e3,a3,q3,l3,g3⟩:=Xj9 hp.1 hx k 3 e.Text
 obtain ⟨v4,e4,a4,q4,l4,g4⟩:=Xj9 hp.1 hx k 4 e.Text
 obtain ⟨v5,e5,a5,q5,l5,g5⟩:=Xj9 hp.1 hx k 5 e.Text
 obtain ⟨v6,e6,a6,q6,l6,g6⟩:=Xj9 hp.1 hx k 6 e.Text
 obtain ⟨v7,e7,a7,q7,l7,g7⟩:=Xj9 hp.1 hx k 7 e.Text
 unfold Xey
 dsimp only
 rw [show Xab.v8 ⟨_,_,_⟩ 0 e.Text=some (plN k p 0 e.Text:Int) from Xd5 hp _ (by rfl) (by exact ⟨rfl,rfl,rfl,rfl,rfl,rfl,rfl,rfl⟩) he 0 (by decide),Option.bind_some,XaH (by omega),Int.toNat_natCast,e0,Option.bind_some,Xf1 (n:=v0+e.N) (by omega) (by omega),XaH (by omega)]
 rw [show Xab.v8 ⟨_,_,_⟩ 1 e.Text=some (plN k p 1 e.Text:Int) from Xd5 hp _ (by rfl) (by exact ⟨rfl,rfl,rfl,rfl,rfl,rfl,rfl,rfl⟩) he 1 (by decide),Option.bind_some,XaH (by omega),Int.toNat_natCast,e1,Option.bind_some,Xf1 (n:=v1+e.N) (by omega) (by omega),XaH (by omega)]
 rw [show Xab.v8 ⟨_,_,_⟩ 2 e.Text=some (plN k p 2 e.Text:Int) from Xd5 hp _ (by rfl) (by exact ⟨rfl,rfl,rfl,rfl,rfl,rfl,rfl,rfl⟩) he 2 (by decide),Option.bind_some,XaH (by omega),Int.toNat_natCast,e2,Option.bind_some,Xf1 (n:=v2+e.N) (by omega) (by omega),XaH (by omega)]
 rw [show Xab.v8 ⟨_,_,_⟩ 3 e.Text=some (plN k p 3 e.Text:Int) from Xd5 hp _ (by rfl) (by exact ⟨rfl,rfl,rfl,rfl,rfl,rfl,rfl,rfl⟩) he 3 (by decide),Option.bind_some,XaH (by omega),Int.toNat_natCast,e3,Option.bind_some,Xf1 (n:=v3+e.N) (by omega) (by omega),XaH (by omega)]
 rw [show Xab.v8 ⟨_,_,_⟩ 4 e.Text=some (plN k p 4 e.Text:Int) from Xd5 hp _ (by rfl) (by exact ⟨rfl,rfl,rfl,rfl,rfl,rfl,rfl,rfl⟩) he 4 (by decide),Option.bind_some,XaH (by omega),Int.toNat_natCast,e4,Option.bind_some,Xf1 (n:=v4+e.N) (by omega) (by omega),XaH (by omega)]
 rw [show Xab.v8 ⟨_,_,_⟩ 5 e.Text=some (plN k p 5 e.Text:Int) from Xd5 hp _ (by rfl) (by exact ⟨rfl,rfl,rfl,rfl,rfl,rfl,rfl,rfl⟩) he 5 (by decide),Option.bind_some,XaH (by omega),Int.toNat_natCast,e5,Option.bind_some,Xf1 (n:=v5+e.N) (by omega) (by omega),XaH (by omega)]
 rw [show Xab.v8 ⟨_,_,_⟩ 6 e.Text=some (plN k p 6 e.Text:Int) from Xd5 hp _ (by rfl) (by exact ⟨rfl,rfl,rfl,rfl,rfl,rfl,rfl,rfl⟩) he 6 (by decide),Option.bind_some,XaH (by omega),Int.toNat_natCast,e6,Option.bind_some,Xf1 (n:=v6+e.N) (by omega) (by omega),XaH (by omega)]
 rw [show Xab.v8 ⟨_,_,_⟩ 7 e.Text=some (plN k p 7 e.Text:Int) from Xd5 hp _ (by rfl) (by exact ⟨rfl,rfl,rfl,rfl,rfl,rfl,rfl,rfl⟩) he 7 (by decide),Option.bind_some,XaH (by omega),Int.toNat_natCast,e7,Option.bind_some,Xf1 (n:=v7+e.N) (by omega) (by omega),XaH (by omega)]
 rw [sN hx.tot.1 hx.tot.2 hN]
 unfold Xsf
 rw [g0,g1,g2,g3,g4,g5,g6,g7];rfl
theorem XxQ {k:Xau} {p:Nat} (hp:1≤p∧p≤4096) {x:SkS} (hx:Xdl p x) {t:List UInt8} (ht:t.length≤20):Xhp (Xey k p x) t=some (Xly k p x t 8):=by
 unfold Xhp XeR
 rw [show Xaa.v8 (Xey k p x)=some true from rfl,Option.bind_some,show (!true)=false from rfl,cond_false]
 refine Eq.trans (Xhd (Xd5 hp _ (by rfl) (by exact ⟨rfl,rfl,rfl,rfl,rfl,rfl,rfl,rfl⟩) ht 0 (by decide)) (XdC hp.1 _ _ _) (by rfl) (hx.len 0)) ?_
 refine Eq.trans (Xhd (Xd5 hp _ (by rfl) (by exact ⟨rfl,rfl,rfl,rfl,rfl,rfl,rfl,rfl⟩) ht 1 (by decide)) (XdC hp.1 _ _ _) (by rfl) (hx.len 1)) ?_
 refine Eq.trans (Xhd (Xd5 hp _ (by rfl) (by exact ⟨rfl,rfl,rfl,rfl,rfl,rfl,rfl,rfl⟩) ht 2 (by decide)) (XdC hp.1 _ _ _) (by rfl) (hx.len 2)) ?_
 refine Eq.trans (Xhd (Xd5 hp _ (by rfl) (by exact ⟨rfl,rfl,rfl,rfl,rfl,rfl,rfl,rfl⟩) ht 3 (by decide)) (XdC hp.1 _ _ _) (by rfl) (hx.len 3)) ?_
 refine Eq.trans (Xhd (Xd5 hp _ (by rfl) (by exact ⟨rfl,rfl,rfl,rfl,rfl,rfl,rfl,rfl⟩) ht 4 (by decide)) (XdC hp.1 _ _ _) (by rfl) (hx.len 4)) ?_
 refine Eq.trans (Xhd (Xd5 hp _ (by rfl) (by exact ⟨rfl,rfl,rfl,rfl,rfl,rfl,rfl,rfl⟩) ht 5 (by decide)) (XdC hp.1 _ _ _) (by rfl) (hx.len 5)) ?_
 refine Eq.trans (Xhd (Xd5 hp _ (by rfl) (by exact ⟨rfl,rfl,rfl,rfl,rfl,rfl,rfl,rfl⟩) ht 6 (by decide)) (XdC hp.1 _ _ _) (by rfl) (hx.len 6)) ?_
 refine Eq.trans (Xhd (Xd5 hp _ (by rfl) (by exact ⟨rfl,rfl,rfl,rfl,rfl,rfl,rfl,rfl⟩) ht 7 (by decide)) (XdC hp.1 _ _ _) (by rfl) (hx.len 7)) ?_
 rfl
theorem Xzs {k:Xau} {p:Nat} {x:SkS}:XiJ (Xey k p x)=some x.tot:=rfl
theorem Xmd {rows:Int} {p:Nat} (hr:1≤rows∧rows≤8) (hp:1≤p∧p≤4096) (k:Xau):Xao rows (p:Int) k=some (match rows.toNat with
 | 1=>.v1 (Xjk k p (newS p))
 | 2=>.v2 (XiQ k p (newS p))
 | 3=>.v3 (Xh8 k p (newS p))
 | 4=>.v4 (XhE k p (newS p))
 | 5=>.v5 (XgC k p (newS p))
 | 6=>.v6 (Xfk k p (newS p))
 | 7=>.v7 (Xe4 k p (newS p))
 | 8=>.v8 (Xey k p (newS p))
 | _=>.nil):=by
 have hq:0≤(p:Int)∧(p:Int)≤p∧(p:Int)<2^63∧(8:Int)*p≤2^48:=by omega
 unfold Xao Xjd
 rw [Xa7 (by omega),Xa7 (by omega),Xa7 (by omega),Xa7 (by omega)]
 obtain rfl|rfl|rfl|rfl|rfl|rfl|rfl|rfl:rows=1∨rows=2∨rows=3∨rows=4∨rows=5∨rows=6∨rows=7∨rows=8:=by omega
 all_goals (simp only [XaH hq,Int.toNat_natCast];rfl)
end Go.Vm.Code
namespace Go.Vm.Code
open Go Go.Vm
def rowA (a b:List Int) (j:Nat):List Int:=a.mapIdx fun q v=>if q<j then cap (v+b.getD q 0) else v
theorem XjY (a b:List Int) (j:Nat):(rowA a b j).length=a.length:=List.length_mapIdx
theorem Xmk (a b:List Int) (j q:Nat) (h:q<a.length):(rowA a b j)[q]?=some (if q<j then cap (a[q]+b.getD q 0) else a[q]):=by
 unfold rowA;rw [List.getElem?_mapIdx,List.getElem?_eq_getElem h];rfl
theorem Xxa (a b:List Int):rowA a b 0=a:=by
 refine List.ext_getElem? fun q=>?_
 rcases Nat.lt_or_ge q a.length with h|h
 ·rw [Xmk a b 0 q h,if_neg (by omega),List.getElem?_eq_getElem h]
 ·rw [List.getElem?_eq_none (by rw [XjY];exact h),List.getElem?_eq_none h]
theorem XzU (a b:List Int) (j:Nat) (h:j<a.length):(rowA a b j).set j (cap (a[j]+b.getD j 0))=rowA a b (j+1):=by
 refine List.ext_getElem? fun q=>?_
 rw [List.getElem?_set,XjY]
 rcases Nat.lt_or_ge q a.length with hq|hq
 ·rw [Xmk a b (j+1) q hq,Xmk a b j q hq]
  by_cases e:j=q
  ·subst e;rw [if_pos rfl,if_pos h,if_pos (by omega)]
  ·rw [if_neg e]
   by_cases h2:q<j
   ·rw [if_pos h2,if_pos (by omega)]
   ·rw [if_neg h2,if_neg (by omega)]
 ·rw [if_neg (by omega),List.getElem?_eq_none (by rw [XjY];exact hq),List.getElem?_eq_none (by rw [XjY];exact hq)]
def Xbf (a b:List Int):List Int:=rowA a b a.length
theorem XcU {ρ:Type} {a b:List Int} {p:Nat} (ha:a.length=p) (hb:b.length=p) (hp:p≤4096) (ra:∀ e∈a,0≤e∧e≤1099511627776) (rb:∀ e∈b,0≤e∧e≤1099511627776) {step:Int×List Int→Option (Sum (Int×List Int) ρ)} {K:List Int→Option (Sum (Int×List Int) ρ)} {r:ρ}
 (h1:∀ t c,step (t,c)=cond (decide (t<(p:Int))) (XaQ (decide ((0:Int)≤t∧t<(p:Int)))<|(b[t.toNat]?).bind fun (e:Int)=>XaQ (decide ((0:Int)≤t∧t<(p:Int)))<|(c[t.toNat]?).bind fun (e1:Int)=>
   let y:=if (wI .i64 (e1+e))<1099511627776 then wI .i64 (e1+e) else 1099511627776
   XaQ (decide (t.toNat<c.length))<|let z:=c.set t.toNat y;some (.inl (wI .i64 (t+1),z))) (K c)) (hK:K (Xbf a b)=some (.inr r)):iter step FUEL (0,a)=some r:=by
 rw [show ((0:Int),a)=(fun j:Nat=>((j:Int),rowA a b j)) 0 by simp only [Xxa];rfl]
 refine Xd3 (fun j:Nat=>((j:Int),rowA a b j)) r p (fun j hj=>?_) ?_ (by rw [Xd0];omega)
 ·have g1:=ra _ (List.getElem_mem (l:=a) (n:=j) (by omega))
  have g2:=rb _ (List.getElem_mem (l:=b) (n:=j) (by omega))
  have hbj:b.getD j 0=b[j]'(by omega):=by rw [List.getD_eq_getElem?_getD,List.getElem?_eq_getElem (by omega)];rfl
  rw [h1,Xbd (by omega),XaH (by omega),Int.toNat_natCast,List.getElem?_eq_getElem (by omega),Option.bind_some,XaH (by omega),Xmk a b j j (by omega),if_neg (by omega),Option.bind_some,Xf1 (by omega) (by omega)]
  simp only []
  rw [XaH (by rw [XjY];omega),Xf1 (by omega) (by omega),←XzU a b j (by omega),hbj];rfl
 ·rw [h1,Xa7 (by omega)]
  have:rowA a b p=Xbf a b:=by unfold Xbf;rw [ha]
  rw [this,hK]
def Xdk (x y:SkS):SkS:=⟨fun i=>Xbf (x.R i) (y.R i),cap (x.tot+y.tot)⟩
theorem Xq4 {a b:List Int} {p:Nat} (ha:a.length=p) {q:Nat} (hq:q<p):(Xbf a b).getD q 0=cap (a.getD q 0+b.getD q 0):=by
 unfold Xbf
 have h1:a.getD q 0=a[q]'(by omega):=by rw [List.getD_eq_getElem?_getD,List.getElem?_eq_getElem (by omega)];rfl
 rw [List.getD_eq_getElem?_getD,Xmk a b _ q (by omega),if_pos (by omega),h1];rfl
theorem Xdl.add {p:Nat} {x y:SkS} (hx:Xdl p x) (hy:Xdl p y):Xdl p (Xdk x y):=by
 refine ⟨fun i=>?_,fun i e he=>?_,Xov (by have:=hx.tot;have:=hy.tot;omega)⟩
 ·show (Xbf _ _).length=p;unfold Xbf;rw [XjY,hx.len i]
 ·obtain ⟨q,hq⟩:=List.getElem?_of_mem he
  have hl:(Xbf (x.R i) (y.R i)).length=p:=by unfold Xbf;rw [XjY,hx.len i]
  have h:q<p:=by
   rcases Nat.lt_or_ge q p with h|h
   ·exact h
   ·rw [show (Xdk x y).R i=Xbf (x.R i) (y.R i) from rfl,List.getElem?_eq_none (by omega)] at hq;cases hq
  have:=Xq4 (a:=x.R i) (b:=y.R i) (hx.len i) h
  rw [List.getD_eq_getElem?_getD,show (Xbf (x.R i) (y.R i))[q]?=some e from hq] at this
  rw [show e=_ from this]
  have:=hx.getD i q;have:=hy.getD i q
  exact Xov (by omega)
end Go.Vm.Code
namespace Go.Vm.Code
open Go Go.Vm Go.Proofs
set_option maxRecDepth 100000
set_option maxHeartbeats 4000000
set_option linter.unusedVariables false
def Xfb (a:List Int) (b:List Int):Option Bool:=
 some ((a.length:Int)==(b.length:Int))
def rx55 (x:Bool):Xdu:=⟨.bool x,[],[none,none]⟩
abbrev XaJ:=(List Int)→(List Int)→Option Bool
def r55 (g:XaJ):Dec:=dSl 0 1 (unL (asI .i64)) fun (y0:List Int)=>dSl 1 1 (unL (asI .i64)) fun (y1:List Int)=>XeC (ofG (g y0 y1) rx55)
theorem r55_c {g:XaJ} {y0:List Int} {y1:List Int} {x:Bool} (hx:g y0 y1=some x):r55 g [.slice (some ⟨0,0,none⟩) y0.length 1,.slice (some ⟨1,0,none⟩) y1.length 1] [some (vI .i64 y0),some (vI .i64 y1)]=some (rx55 x):=(XqO (XdL _ _)).trans ((XqO (XdL _ _)).trans (Xbc hx))
def s55 (g:XaJ):XcS:=⟨[.sl 1,.sl 1],r55 g⟩
theorem Xnu {g:XaJ} {y0:List Int} {y1:List Int} {x:Bool} (hx:g y0 y1=some x):(s55 g).run [.slice (some ⟨0,0,none⟩) y0.length 1,.slice (some ⟨1,0,none⟩) y1.length 1] [some (vI .i64 y0),some (vI .i64 y1)]=some (rx55 x):=r55_c hx
abbrev XI7:List (Nat×XcS):=[]
theorem XGw (hS:XaF Try.prog (XaP (XI7))) (a:List Int) (b:List Int) (res:Bool) (h:Xfb a b=some res) :
 XaU Try.prog 55 2 ⟨⟨55,10,[(0,.slice (some ⟨0,0,none⟩) a.length 1),(1,.slice (some ⟨1,0,none⟩) b.length 1)],[.code XJv],[],false,none⟩,[],[(0,.row false (vI .i64 a)),(1,.row false (vI .i64 b))],2⟩ (fun v H _=>Res 2 (rx55 res) v H):=by
 unfold Xfb at h
 refine Xa4 XaM hS true 3000 ?_
 conv=>whnf
 exact W
def Xai:XaJ:=Xfb
theorem Xm7:XeH Try.prog 55 (s55 Xai):=by
 have hL:=XGw (XaF.Xba trivial)
 exact okA ⟨Try.f55,rfl,by decide,rfl⟩
def XfC (s:Xaz) (oa1:Xaz):Option (Sum Unit Bool):=
 some (.inr (true))
def XgF (Xaa:Xag) (s:Xaz) (oa1:Xaz):Option Bool:=
 (Xaa.v0 (Xaz.mk s.key Xbi.mk s.total)).bind fun x0=>
 cond (!x0)
  (
  some (false))
  (
  (Xaa.v0 (Xaz.mk oa1.key Xbi.mk oa1.total)).bind fun x01=>
  cond (!x01)
   (
   some (false))
   (
   let t:=!((s.key.A==oa1.key.A)&&((s.key.B==oa1.key.B)&&true))
   cond (t)
    (
    some (false))
    (
    iter (fun _=>XfC s oa1) FUEL ())))
def Xps (x:Bool):Xdu:=⟨.bool x,[],[none,none,none,none,none,none,none,none,none,none,none,none,none,none,none,none,none,none,none,none]⟩
abbrev XfT:=Xaz→Xaz→Option Bool
def XJq (g:XfT):Dec:=dTr 10 (XcF 0) fun (y0:Xaz)=>dTr 10 (XcF 10) fun (y1:Xaz)=>XeC (ofG (g y0 y1) Xps)
abbrev XqD (Xaa:Xag):List (Nat×XcS):=[(38,s38 Xaa)]
def XnM (s:Xaz) (oa1:Xaz):VM:=
 ⟨⟨54,32,[(1,.slice none 0 0),(2,.func (.func 55) ⟨[]⟩ ⟨[]⟩),(15,.slice none 0 0),(16,.int .i64 0),(17,.int .i64 0)],[.code Xxl,.inLoop Xxl,.inBlock 0,.code XDS],[],false,none⟩,[⟨42,33,[],[.inReg (opsD XHX 0),.code .ret],[],false,none⟩],[(0,.row false [.int .u64 s.key.A,.int .u64 s.key.B,.slice none 0 0,.int .i64 s.total]),(10,.row false [.int .u64 oa1.key.A,.int .u64 oa1.key.B,.slice none 0 0,.int .i64 oa1.total])],45⟩
theorem Xsl (Xaa:Xag) (hS:XaF Try.prog (XaP (XqD Xaa))) {s:Xaz} {oa1:Xaz} {res:Bool}:∀ {fuel} {st:Unit} {o:Bool},iter (fun _=>XfC s oa1) fuel st=some o→(o=res) →
 XaU Try.prog 42 20 (XnM s oa1 ) (fun v H _=>Res 20 (Xps res) v H):=by
 apply XaO
 intro st o h hc
 try dsimp -zeta only at h ⊢
 unfold XfC at h
 have J:=js []
 refine Xa4 XaM hS true 3000 ?_
 conv=>whnf
 exact W
theorem Xv4 (Xaa:Xag) (hS:XaF Try.prog (XaP (XqD Xaa))) (s:Xaz) (oa1:Xaz) (res:Bool) (h:XgF Xaa s oa1=some res) :
 XaU Try.prog 42 20 ⟨⟨42,33,[(0,.pointer (some ⟨0,0,none⟩)),(1,.pointer (some ⟨10,0,none⟩))],[.code XoF],[],false,none⟩,[],[(0,.row false [.int .u64 s.key.A,.int .u64 s.key.B,.slice none 0 0,.int .i64 s.total]),(10,.row false [.int .u64 oa1.key.A,.int .u64 oa1.key.B,.slice none 0 0,.int .i64 oa1.total])],20⟩ (fun v H _=>Res 20 (Xps res) v H):=by
 unfold XgF at h
 have J:=js []
 refine Xa4 XaM hS true 3000 ?_
 conv=>whnf
 replace h:=Xbu.elim h;obtain ⟨x0,hy,h⟩:=h
 refine XdI.a (XnA hy) ?_
 conv=>whnf
 refine br.h h (by rfl) ?_ ?_
 ·clear h;intro hb h;conv=>whnf
  exact W
 clear h;intro hb h;conv=>whnf
 replace h:=Xbu.elim h;obtain ⟨x01,hy,h⟩:=h
 refine XdI.a (XnA hy) ?_
 conv=>whnf
 refine br.h h (by rfl) ?_ ?_
 ·clear h;intro hb h;conv=>whnf
  exact W
 clear h;intro hb h;conv=>whnf
 let t:Bool:=!((s.key.A==oa1.key.A)&&((s.key.B==oa1.key.B)&&true))
 refine br.h h (by rfl) ?_ ?_
 ·clear h;intro hb h;conv=>whnf
  exact W
 clear h;intro hb h;conv=>whnf
 have hl:=Xsl Xaa hS h rfl;simp only [XnM] at hl
 exact lrA1 hl [(0,0),(1,1),(2,2),(3,3),(4,4),(5,5),(6,6),(7,7),(8,8),(9,9),(10,10),(11,11),(12,12),(13,13),(14,14),(15,15),(16,16),(17,17),(18,18),(19,19)] rfl
def XeU (Xaa:Xag) (Xai:XaJ) (s:XaA) (oa1:XaA):Option Bool:=
 (Xaa.v1 s).bind fun x1=>
 cond (!x1)
  (
  some (false))
  (
  (Xaa.v1 oa1).bind fun x11=>
  cond (!x11)
   (
   some (false))
   (
   let t:=!((s.key.A==oa1.key.A)&&((s.key.B==oa1.key.B)&&true))
   cond (t)
    (
    some (false))
    (
    XaQ (decide (s.rows.m0≤s.rows.e0.length)) <|
    XaQ (decide (oa1.rows.m0≤oa1.rows.e0.length)) <|
    (Xai (s.rows.e0.take s.rows.m0) (oa1.rows.e0.take oa1.rows.m0)).bind fun x12=>
    cond (!x12)
     (
     some (false))
     (
     some (true)))))
def Xtw (x:Bool):Xdu:=⟨.bool x,[],[none,none,none,none,none,none,none,none,none,none,none,none,none,none,none,none,none,none,none,none]⟩
abbrev Xf4:=XaA→XaA→Option Bool
def XJK (g:Xf4):Dec:=dTr 10 (XbE 0) fun (y0:XaA)=>dTr 10 (XbE 10) fun (y1:XaA)=>XeC (ofG (g y0 y1) Xtw)
abbrev Xyp (Xaa:Xag) (Xai:XaJ):List (Nat×XcS):=[(38,s38 Xaa),(55,s55 Xai)]
theorem XvH (Xaa:Xag) (Xai:XaJ) (hS:XaF Try.prog (XaP (Xyp Xaa Xai))) (s:XaA) (oa1:XaA) (res:Bool) (h:XeU Xaa Xai s oa1=some res) :
 XaU Try.prog 42 20 ⟨⟨42,33,[(0,.pointer (some ⟨0,0,none⟩)),(1,.pointer (some ⟨10,0,none⟩))],[.code XoF],[],false,none⟩,[],[(0,.row false [.int .u64 s.key.A,.int .u64 s.key.B,.slice (some ⟨1,0,none⟩) 1 1,.int .i64 s.total]),(1,.row false [.slice (some ⟨2,0,none⟩) s.rows.m0 1]),(2,.row false (vI .i64 s.rows.e0)),(10,.row false [.int .u64 oa1.key.A,.int .u64 oa1.key.B,.slice (some ⟨11,0,none⟩) 1 1,.int .i64 oa1.total]),(11,.row false [.slice (some ⟨12,0,none⟩) oa1.rows.m0 1]),(12,.row false (vI .i64 oa1.rows.e0))],20⟩ (fun v H _=>Res 20 (Xtw res) v H):=by
 unfold XeU at h
 have R1:=@Xmg Xaa
 have R2:=@Xnu Xai
 have J:=js []
 refine Xa4 XaM hS true 3000 ?_
 conv=>whnf
 exact W
def XeO (Xaa:Xag) (Xai:XaJ) (s:Xax) (oa1:Xax):Option Bool:=
 (Xaa.v2 s).bind fun x2=>
 cond (!x2)
  (
  some (false))
  (
  (Xaa.v2 oa1).bind fun x21=>
  cond (!x21)
   (
   some (false))
   (
   let t:=!((s.key.A==oa1.key.A)&&((s.key.B==oa1.key.B)&&true))
   cond (t)
    (
    some (false))
    (
    XaQ (decide (s.rows.m0≤s.rows.e0.length)) <|
    XaQ (decide (oa1.rows.m0≤oa1.rows.e0.length)) <|
    (Xai (s.rows.e0.take s.rows.m0) (oa1.rows.e0.take oa1.rows.m0)).bind fun x1=>
    cond (!x1)
     (
     some (false))
     (
     XaQ (decide (s.rows.m1≤s.rows.e1.length)) <|
     XaQ (decide (oa1.rows.m1≤oa1.rows.e1.length)) <|
     (Xai (s.rows.e1.take s.rows.m1) (oa1.rows.e1.take oa1.rows.m1)).bind fun x11=>
     cond (!x11)
      (
      some (false))
      (
      some (true))))))
def Xsk (x:Bool):Xdu:=⟨.bool x,[],[none,none,none,none,none,none,none,none,none,none,none,none,none,none,none,none,none,none,none,none]⟩
abbrev Xf0:=Xax→Xax→Option Bool
def XJI (g:Xf0):Dec:=dTr 10 (XbL 0) fun (y0:Xax)=>dTr 10 (XbL 10) fun (y1:Xax)=>XeC (ofG (g y0 y1) Xsk)
abbrev XyP (Xaa:Xag) (Xai:XaJ):List (Nat×XcS):=[(38,s38 Xaa),(55,s55 Xai)]
theorem Xv1 (Xaa:Xag) (Xai:XaJ) (hS:XaF Try.prog (XaP (XyP Xaa Xai))) (s:Xax) (oa1:Xax) (res:Bool) (h:XeO Xaa Xai s oa1=some res) :
 XaU Try.prog 42 20 ⟨⟨42,33,[(0,.pointer (some ⟨0,0,none⟩)),(1,.pointer (some ⟨10,0,none⟩))],[.code XoF],[],false,none⟩,[],[(0,.row false [.int .u64 s.key.A,.int .u64 s.key.B,.slice (some ⟨1,0,none⟩) 2 1,.int .i64 s.total]),(1,.row false [.slice (some ⟨2,0,none⟩) s.rows.m0 1,.slice (some ⟨3,0,none⟩) s.rows.m1 1]),(2,.row false (vI .i64 s.rows.e0)),(3,.row false (vI .i64 s.rows.e1)),(10,.row false [.int .u64 oa1.key.A,.int .u64 oa1.key.B,.slice (some ⟨11,0,none⟩) 2 1,.int .i64 oa1.total]),(11,.row false [.slice (some ⟨12,0,none⟩) oa1.rows.m0 1,.slice (some ⟨13,0,none⟩) oa1.rows.m1 1]),(12,.row false (vI .i64 oa1.rows.e0)),(13,.row false (vI .i64 oa1.rows.e1))],20⟩ (fun v H _=>Res 20 (Xsk res) v H):=by
 unfold XeO at h
 have R1:=@Xl4 Xaa
 have R2:=@Xnu Xai
 have J:=js []
 refine Xa4 XaM hS true 3000 ?_
 conv=>whnf
 exact W
def XeV (Xaa:Xag) (Xai:XaJ) (s:Xav) (oa1:Xav):Option Bool:=
 (Xaa.v3 s).bind fun x3=>
 cond (!x3)
  (
  some (false))
  (
  (Xaa.v3 oa1).bind fun x31=>
  cond (!x31)
   (
   some (false))
   (
   let t:=!((s.key.A==oa1.key.A)&&((s.key.B==oa1.key.B)&&true))
   cond (t)
    (
    some (false))
    (
    XaQ (decide (s.rows.m0≤s.rows.e0.length)) <|
    XaQ (decide (oa1.rows.m0≤oa1.rows.e0.length)) <|
    (Xai (s.rows.e0.take s.rows.m0) (oa1.rows.e0.take oa1.rows.m0)).bind fun x1=>
    cond (!x1)
     (
     some (false))
     (
     XaQ (decide (s.rows.m1≤s.rows.e1.length)) <|
     XaQ (decide (oa1.rows.m1≤oa1.rows.e1.length)) <|
     (Xai (s.rows.e1.take s.rows.m1) (oa1.rows.e1.take oa1.rows.m1)).bind fun x11=>
     cond (!x11)
      (
      some (false))
      (
      XaQ (decide (s.rows.m2≤s.rows.e2.length)) <|
      XaQ (decide (oa1.rows.m2≤oa1.rows.e2.length)) <|
      (Xai (s.rows.e2.take s.rows.m2) (oa1.rows.e2.take oa1.rows.m2)).bind fun x12=>
      cond (!x12)
       (
       some (false))
       (
       some (true)))))))
def Xta (x:Bool):Xdu:=⟨.bool x,[],[none,none,none,none,none,none,none,none,none,none,none,none,none,none,none,none,none,none,none,none]⟩
abbrev Xfy:=Xav→Xav→Option Bool
def XHT (g:Xfy):Dec:=dTr 10 (XbM 0) fun (y0:Xav)=>dTr 10 (XbM 10) fun (y1:Xav)=>XeC (ofG (g y0 y1) Xta)
abbrev Xw8 (Xaa:Xag) (Xai:XaJ):List (Nat×XcS):=[(38,s38 Xaa),(55,s55 Xai)]
theorem XvZ (Xaa:Xag) (Xai:XaJ) (hS:XaF Try.prog (XaP (Xw8 Xaa Xai))) (s:Xav) (oa1:Xav) (res:Bool) (h:XeV Xaa Xai s oa1=some res) :
 XaU Try.prog 42 20 ⟨⟨42,33,[(0,.pointer (some ⟨0,0,none⟩)),(1,.pointer (some ⟨10,0,none⟩))],[.code XoF],[],false,none⟩,[],[(0,.row false [.int .u64 s.key.A,.int .u64 s.key.B,.slice (some ⟨1,0,none⟩) 3 1,.int .i64 s.total]),(1,.row false [.slice (some ⟨2,0,none⟩) s.rows.m0 1,.slice (some ⟨3,0,none⟩) s.rows.m1 1,.slice (some ⟨4,0,none⟩) s.rows.m2 1]),(2,.row false (vI .i64 s.rows.e0)),(3,.row false (vI .i64 s.rows.e1)),(4,.row false (vI .i64 s.rows.e2)),(10,.row false [.int .u64 oa1.key.A,.int .u64 oa1.key.B,.slice (some ⟨11,0,none⟩) 3 1,.int .i64 oa1.total]),(11,.row false [.slice (some ⟨12,0,none⟩) oa1.rows.m0 1,.slice (some ⟨13,0,none⟩) oa1.rows.m1 1,.slice (some ⟨14,0,none⟩) oa1.rows.m2 1]),(12,.row false (vI .i64 oa1.rows.e0)),(13,.row false (vI .i64 oa1.rows.e1)),(14,.row false (vI .i64 oa1.rows.e2))],20⟩ (fun v H _=>Res 20 (Xta res) v H):=by
 unfold XeV at h
 have R1:=@Xmw Xaa
 have R2:=@Xnu Xai
 have J:=js []
 refine Xa4 XaM hS true 3000 ?_
 conv=>whnf
 exact W
def XeZ (Xaa:Xag) (Xai:XaJ) (s:Xar) (oa1:Xar):Option Bool:=
 (Xaa.v4 s).bind fun x4=>
 cond (!x4)
  (
  some (false))
  (
  (Xaa.v4 oa1).bind fun x41=>
  cond (!x41)
   (
   some (false))
   (
   let t:=!((s.key.A==oa1.key.A)&&((s.key.B==oa1.key.B)&&true))
   cond (t)
    (
    some (false))
    (
    XaQ (decide (s.rows.m0≤s.rows.e0.length)) <|
    XaQ (decide (oa1.rows.m0≤oa1.rows.e0.length)) <|
    (Xai (s.rows.e0.take s.rows.m0) (oa1.rows.e0.take oa1.rows.m0)).bind fun x1=>
    cond (!x1)
     (
     some (false))
     (
     XaQ (decide (s.rows.m1≤s.rows.e1.length)) <|
     XaQ (decide (oa1.rows.m1≤oa1.rows.e1.length)) <|
     (Xai (s.rows.e1.take s.rows.m1) (oa1.rows.e1.take oa1.rows.m1)).bind fun x11=>
     cond (!x11)
      (
      some (false))
      (
      XaQ (decide (s.rows.m2≤s.rows.e2.length)) <|
      XaQ (decide (oa1.rows.m2≤oa1.rows.e2.length)) <|
      (Xai (s.rows.e2.take s.rows.m2) (oa1.rows.e2.take oa1.rows.m2)).bind fun x12=>
      cond (!x12)
       (
       some (false))
       (
       XaQ (decide (s.rows.m3≤s.rows.e3.length)) <|
       XaQ (decide (oa1.rows.m3≤oa1.rows.e3.length)) <|
       (Xai (s.rows.e3.take s.rows.m3) (oa1.rows.e3.take oa1.rows.m3)).bind fun x13=>
       cond (!x13)
        (
        some (false))
        (
        some (true))))))))
def Xte (x:Bool):Xdu:=⟨.bool x,[],[none,none,none,none,none,none,none,none,none,none,none,none,none,none,none,none,none,none,none,none]⟩
abbrev Xfv:=Xar→Xar→Option Bool
def XH1 (g:Xfv):Dec:=dTr 10 (XbG 0) fun (y0:Xar)=>dTr 10 (XbG 10) fun (y1:Xar)=>XeC (ofG (g y0 y1) Xte)
abbrev XzM (Xaa:Xag) (Xai:XaJ):List (Nat×XcS):=[(38,s38 Xaa),(55,s55 Xai)]
theorem XvJ (Xaa:Xag) (Xai:XaJ) (hS:XaF Try.prog (XaP (XzM Xaa Xai))) (s:Xar) (oa1:Xar) (res:Bool) (h:XeZ Xaa Xai s oa1=some res) :
 XaU Try.prog 42 20 ⟨⟨42,33,[(0,.pointer (some ⟨0,0,none⟩)),(1,.pointer (some ⟨10,0,none⟩))],[.code XoF],[],false,none⟩,[],[(0,.row false [.int .u64 s.key.A,.int .u64 s.key.B,.slice (some ⟨1,0,none⟩) 4 1,.int .i64 s.total]),(1,.row false [.slice (some ⟨2,0,none⟩) s.rows.m0 1,.slice (some ⟨3,0,none⟩) s.rows.m1 1,.slice (some ⟨4,0,none⟩) s.rows.m2 1,.slice (some ⟨5,0,none⟩) s.rows.m3 1]),(2,.row false (vI .i64 s.rows.e0)),(3,.row false (vI .i64 s.rows.e1)),(4,.row false (vI .i64 s.rows.e2)),(5,.row false (vI .i64 s.rows.e3)),(10,.row false [.int .u64 oa1.key.A,.int .u64 oa1.key.B,.slice (some ⟨11,0,none⟩) 4 1,.int .i64 oa1.total]),(11,.row false [.slice (some ⟨12,0,none⟩) oa1.rows.m0 1,.slice (some ⟨13,0,none⟩) oa1.rows.m1 1,.slice (some ⟨14,0,none⟩) oa1.rows.m2 1,.slice (some ⟨15,0,none⟩) oa1.rows.m3 1]),(12,.row false (vI .i64 oa1.rows.e0)),(13,.row false (vI .i64 oa1.rows.e1)),(14,.row false (vI .i64 oa1.rows.e2)),(15,.row false (vI .i64 oa1.rows.e3))],20⟩ (fun v H _=>Res 20 (Xte res) v H):=by
 unfold XeZ at h
 have R1:=@Xmp Xaa
 have R2:=@Xnu Xai
 have J:=js []
 refine Xa4 XaM hS true 3000 ?_
 conv=>whnf
 exact W
def XeQ (Xaa:Xag) (Xai:XaJ) (s:Xap) (oa1:Xap):Option Bool:=
 (Xaa.v5 s).bind fun x5=>
 cond (!x5)
  (
  some (false))
  (
  (Xaa.v5 oa1).bind fun x51=>
  cond (!x51)
   (
   some (false))
   (
   let t:=!((s.key.A==oa1.key.A)&&((s.key.B==oa1.key.B)&&true))
   cond (t)
    (
    some (false))
    (
    XaQ (decide (s.rows.m0≤s.rows.e0.length)) <|
    XaQ (decide (oa1.rows.m0≤oa1.rows.e0.length)) <|
    (Xai (s.rows.e0.take s.rows.m0) (oa1.rows.e0.take oa1.rows.m0)).bind fun x1=>
    cond (!x1)
     (
     some (false))
     (
     XaQ (decide (s.rows.m1≤s.rows.e1.length)) <|
     XaQ (decide (oa1.rows.m1≤oa1.rows.e1.length)) <|
     (Xai (s.rows.e1.take s.rows.m1) (oa1.rows.e1.take oa1.rows.m1)).bind fun x11=>
     cond (!x11)
      (
      some (false))
      (
      XaQ (decide (s.rows.m2≤s.rows.e2.length)) <|
      XaQ (decide (oa1.rows.m2≤oa1.rows.e2.length)) <|
      (Xai (s.rows.e2.take s.rows.m2) (oa1.rows.e2.take oa1.rows.m2)).bind fun x12=>
      cond (!x12)
       (
       some (false))
       (
       XaQ (decide (s.rows.m3≤s.rows.e3.length)) <|
       XaQ (decide (oa1.rows.m3≤oa1.rows.e3.length)) <|
       (Xai (s.rows.e3.take s.rows.m3) (oa1.rows.e3.take oa1.rows.m3)).bind fun x13=>
       cond (!x13)
        (
        some (false))
        (
        XaQ (decide (s.rows.m4≤s.rows.e4.length)) <|
        XaQ (decide (oa1.rows.m4≤oa1.rows.e4.length)) <|
        (Xai (s.rows.e4.take s.rows.m4) (oa1.rows.e4.take oa1.rows.m4)).bind fun x14=>
        cond (!x14)
         (
         some (false))
         (
         some (true)))))))))
def Xr1 (x:Bool):Xdu:=⟨.bool x,[],[none,none,none,none,none,none,none,none,none,none,none,none,none,none,none,none,none,none,none,none]⟩
abbrev Xf8:=Xap→Xap→Option Bool
def XG4 (g:Xf8):Dec:=dTr 10 (XbK 0) fun (y0:Xap)=>dTr 10 (XbK 10) fun (y1:Xap)=>XeC (ofG (g y0 y1) Xr1)
abbrev Xz1 (Xaa:Xag) (Xai:XaJ):List (Nat×XcS):=[(38,s38 Xaa),(55,s55 Xai)]
theorem Xvf (Xaa:Xag) (Xai:XaJ) (hS:XaF Try.prog (XaP (Xz1 Xaa Xai))) (s:Xap) (oa1:Xap) (res:Bool) (h:XeQ Xaa Xai s oa1=some res) :
 XaU Try.prog 42 20 ⟨⟨42,33,[(0,.pointer (some ⟨0,0,none⟩)),(1,.pointer (some ⟨10,0,none⟩))],[.code XoF],[],false,none⟩,[],[(0,.row false [.int .u64 s.key.A,.int .u64 s.key.B,.slice (some ⟨1,0,none⟩) 5 1,.int .i64 s.total]),(1,.row false [.slice (some ⟨2,0,none⟩) s.rows.m0 1,.slice (some ⟨3,0,none⟩) s.rows.m1 1,.slice (some ⟨4,0,none⟩) s.rows.m2 1,.slice (some ⟨5,0,none⟩) s.rows.m3 1,.slice (some ⟨6,0,none⟩) s.rows.m4 1]),(2,.row false (vI .i64 s.rows.e0)),(3,.row false (vI .i64 s.rows.e1)),(4,.row false (vI .i64 s.rows.e2)),(5,.row false (vI .i64 s.rows.e3)),(6,.row false (vI .i64 s.rows.e4)),(10,.row false [.int .u64 oa1.key.A,.int .u64 oa1.key.B,.slice (some ⟨11,0,none⟩) 5 1,.int .i64 oa1.total]),(11,.row false [.slice (some ⟨12,0,none⟩) oa1.rows.m0 1,.slice (some ⟨13,0,none⟩) oa1.rows.m1 1,.slice (some ⟨14,0,none⟩) oa1.rows.m2 1,.slice (some ⟨15,0,none⟩) oa1.rows.m3 1,.slice (some ⟨16,0,none⟩) oa1.rows.m4 1]),(12,.row false (vI .i64 oa1.rows.e0)),(13,.row false (vI .i64 oa1.rows.e1)),(14,.row false (vI .i64 oa1.rows.e2)),(15,.row false (vI .i64 oa1.rows.e3)),(16,.row false (vI .i64 oa1.rows.e4))],20⟩ (fun v H _=>Res 20 (Xr1 res) v H):=by
 unfold XeQ at h
 have R1:=@Xl3 Xaa
 have R2:=@Xnu Xai
 have J:=js []
 refine Xa4 XaM hS true 3000 ?_
 conv=>whnf
 exact W
def XeT (Xaa:Xag) (Xai:XaJ) (s:Xan) (oa1:Xan):Option Bool:=
 (Xaa.v6 s).bind fun x6=>
 cond (!x6)
  (
  some (false))
  (
  (Xaa.v6 oa1).bind fun x61=>
  cond (!x61)
   (
   some (false))
   (
   let t:=!((s.key.A==oa1.key.A)&&((s.key.B==oa1.key.B)&&true))
   cond (t)
    (
    some (false))
    (
    XaQ (decide (s.rows.m0≤s.rows.e0.length)) <|
    XaQ (decide (oa1.rows.m0≤oa1.rows.e0.length)) <|
    (Xai (s.rows.e0.take s.rows.m0) (oa1.rows.e0.take oa1.rows.m0)).bind fun x1=>
    cond (!x1)
     (
     some (false))
     (
     XaQ (decide (s.rows.m1≤s.rows.e1.length)) <|
     XaQ (decide (oa1.rows.m1≤oa1.rows.e1.length)) <|
     (Xai (s.rows.e1.take s.rows.m1) (oa1.rows.e1.take oa1.rows.m1)).bind fun x11=>
     cond (!x11)
      (
      some (false))
      (
      XaQ (decide (s.rows.m2≤s.rows.e2.length)) <|
      XaQ (decide (oa1.rows.m2≤oa1.rows.e2.length)) <|
      (Xai (s.rows.e2.take s.rows.m2) (oa1.rows.e2.take oa1.rows.m2)).bind fun x12=>
      cond (!x12)
       (
       some (false))
       (
       XaQ (decide (s.rows.m3≤s.rows.e3.length)) <|
       XaQ (decide (oa1.rows.m3≤oa1.rows.e3.length)) <|
       (Xai (s.rows.e3.take s.rows.m3) (oa1.rows.e3.take oa1.rows.m3)).bind fun x13=>
       cond (!x13)
        (
        some (false))
        (
        XaQ (decide (s.rows.m4≤s.rows.e4.length)) <|
        XaQ (decide (oa1.rows.m4≤oa1.rows.e4.length)) <|
        (Xai (s.rows.e4.take s.rows.m4) (oa1.rows.e4.take oa1.rows.m4)).bind fun x14=>
        cond (!x14)
         (
         some (false))
         (
         XaQ (decide (s.rows.m5≤s.rows.e5.length)) <|
         XaQ (decide (oa1.rows.m5≤oa1.rows.e5.length)) <|
         (Xai (s.rows.e5.take s.rows.m5) (oa1.rows.e5.take oa1.rows.m5)).bind fun x15=>
         cond (!x15)
          (
          some (false))
          (
          some (true))))))))))
def Xsu (x:Bool):Xdu:=⟨.bool x,[],[none,none,none,none,none,none,none,none,none,none,none,none,none,none,none,none,none,none,none,none]⟩
abbrev XfR:=Xan→Xan→Option Bool
def XJy (g:XfR):Dec:=dTr 10 (XbF 0) fun (y0:Xan)=>dTr 10 (XbF 10) fun (y1:Xan)=>XeC (ofG (g y0 y1) Xsu)
abbrev Xyw (Xaa:Xag) (Xai:XaJ):List (Nat×XcS):=[(38,s38 Xaa),(55,s55 Xai)]
theorem XvE (Xaa:Xag) (Xai:XaJ) (hS:XaF Try.prog (XaP (Xyw Xaa Xai))) (s:Xan) (oa1:Xan) (res:Bool) (h:XeT Xaa Xai s oa1=some res) :
 XaU Try.prog 42 20 ⟨⟨42,33,[(0,.pointer (some ⟨0,0,none⟩)),(1,.pointer (some ⟨10,0,none⟩))],[.code XoF],[],false,none⟩,[],[(0,.row false [.int .u64 s.key.A,.int .u64 s.key.B,.slice (some ⟨1,0,none⟩) 6 1,.int .i64 s.total]),(1,.row false [.slice (some ⟨2,0,none⟩) s.rows.m0 1,.slice (some ⟨3,0,none⟩) s.rows.m1 1,.slice (some ⟨4,0,none⟩) s.rows.m2 1,.slice (some ⟨5,0,none⟩) s.rows.m3 1,.slice (some ⟨6,0,none⟩) s.rows.m4 1,.slice (some ⟨7,0,none⟩) s.rows.m5 1]),(2,.row false (vI .i64 s.rows.e0)),(3,.row false (vI .i64 s.rows.e1)),(4,.row false (vI .i64 s.rows.e2)),(5,.row false (vI .i64 s.rows.e3)),(6,.row false (vI .i64 s.rows.e4)),(7,.row false (vI .i64 s.rows.e5)),(10,.row false [.int .u64 oa1.key.A,.int .u64 oa1.key.B,.slice (some ⟨11,0,none⟩) 6 1,.int .i64 oa1.total]),(11,.row false [.slice (some ⟨12,0,none⟩) oa1.rows.m0 1,.slice (some ⟨13,0,none⟩) oa1.rows.m1 1,.slice (some ⟨14,0,none⟩) oa1.rows.m2 1,.slice (some ⟨15,0,none⟩) oa1.rows.m3 1,.slice (some ⟨16,0,none⟩) oa1.rows.m4 1,.slice (some ⟨17,0,none⟩) oa1.rows.m5 1]),(12,.row false (vI .i64 oa1.rows.e0)),(13,.row false (vI .i64 oa1.rows.e1)),(14,.row false (vI .i64 oa1.rows.e2)),(15,.row false (vI .i64 oa1.rows.e3)),(16,.row false (vI .i64 oa1.rows.e4)),(17,.row false (vI .i64 oa1.rows.e5))],20⟩ (fun v H _=>Res 20 (Xsu res) v H):=by
 unfold XeT at h
 have R1:=@XmD Xaa
 have R2:=@Xnu Xai
 have J:=js []
 refine Xa4 XaM hS true 3000 ?_
 conv=>whnf
 exact W
def Xe3 (Xaa:Xag) (Xai:XaJ) (s:Xal) (oa1:Xal):Option Bool:=
 (Xaa.v7 s).bind fun x7=>
 cond (!x7)
  (
  some (false))
  (
  (Xaa.v7 oa1).bind fun x71=>
  cond (!x71)
   (
   some (false))
   (
   let t:=!((s.key.A==oa1.key.A)&&((s.key.B==oa1.key.B)&&true))
   cond (t)
    (
    some (false))
    (
    XaQ (decide (s.rows.m0≤s.rows.e0.length)) <|
    XaQ (decide (oa1.rows.m0≤oa1.rows.e0.length)) <|
    (Xai (s.rows.e0.take s.rows.m0) (oa1.rows.e0.take oa1.rows.m0)).bind fun x1=>
    cond (!x1)
     (
     some (false))
     (
     XaQ (decide (s.rows.m1≤s.rows.e1.length)) <|
     XaQ (decide (oa1.rows.m1≤oa1.rows.e1.length)) <|
     (Xai (s.rows.e1.take s.rows.m1) (oa1.rows.e1.take oa1.rows.m1)).bind fun x11=>
     cond (!x11)
      (
      some (false))
      (
      XaQ (decide (s.rows.m2≤s.rows.e2.length)) <|
      XaQ (decide (oa1.rows.m2≤oa1.rows.e2.length)) <|
      (Xai (s.rows.e2.take s.rows.m2) (oa1.rows.e2.take oa1.rows.m2)).bind fun x12=>
      cond (!x12)
       (
       some (false))
       (
       XaQ (decide (s.rows.m3≤s.rows.e3.length)) <|
       XaQ (decide (oa1.rows.m3≤oa1.rows.e3.length)) <|
       (Xai (s.rows.e3.take s.rows.m3) (oa1.rows.e3.take oa1.rows.m3)).bind fun x13=>
       cond (!x13)
        (
        some (false))
        (
        XaQ (decide (s.rows.m4≤s.rows.e4.length)) <|
        XaQ (decide (oa1.rows.m4≤oa1.rows.e4.length)) <|
        (Xai (s.rows.e4.take s.rows.m4) (oa1.rows.e4.take oa1.rows.m4)).bind fun x14=>
        cond (!x14)
         (
         some (false))
         (
         XaQ (decide (s.rows.m5≤s.rows.e5.length)) <|
         XaQ (decide (oa1.rows.m5≤oa1.rows.e5.length)) <|
         (Xai (s.rows.e5.take s.rows.m5) (oa1.rows.e5.take oa1.rows.m5)).bind fun x15=>
         cond (!x15)
          (
          some (false))
          (
          XaQ (decide (s.rows.m6≤s.rows.e6.length)) <|
          XaQ (decide (oa1.rows.m6≤oa1.rows.e6.length)) <|
          (Xai (s.rows.e6.take s.rows.m6) (oa1.rows.e6.take oa1.rows.m6)).bind fun x16=>
          cond (!x16)
           (
           some (false))
           (
           some (true)))))))))))
def XsB (x:Bool):Xdu:=⟨.bool x,[],[none,none,none,none,none,none,none,none,none,none,none,none,none,none,none,none,none,none,none,none]⟩
abbrev Xfq:=Xal→Xal→Option Bool
def XJr (g:Xfq):Dec:=dTr 10 (XbJ 0) fun (y0:Xal)=>dTr 10 (XbJ 10) fun (y1:Xal)=>XeC (ofG (g y0 y1) XsB)
abbrev XyQ (Xaa:Xag) (Xai:XaJ):List (Nat×XcS):=[(38,s38 Xaa),(55,s55 Xai)]
theorem Xva (Xaa:Xag) (Xai:XaJ) (hS:XaF Try.prog (XaP (XyQ Xaa Xai))) (s:Xal) (oa1:Xal) (res:Bool) (h:Xe3 Xaa Xai s oa1=some res) :
 XaU Try.prog 42 20 ⟨⟨42,33,[(0,.pointer (some ⟨0,0,none⟩)),(1,.pointer (some ⟨10,0,none⟩))],[.code XoF],[],false,none⟩,[],[(0,.row false [.int .u64 s.key.A,.int .u64 s.key.B,.slice (some ⟨1,0,none⟩) 7 1,.int .i64 s.total]),(1,.row false [.slice (some ⟨2,0,none⟩) s.rows.m0 1,.slice (some ⟨3,0,none⟩) s.rows.m1 1,.slice (some ⟨4,0,none⟩) s.rows.m2 1,.slice (some ⟨5,0,none⟩) s.rows.m3 1,.slice (some ⟨6,0,none⟩) s.rows.m4 1,.slice (some ⟨7,0,none⟩) s.rows.m5 1,.slice (some ⟨8,0,none⟩) s.rows.m6 1]),(2,.row false (vI .i64 s.rows.e0)),(3,.row false (vI .i64 s.rows.e1)),(4,.row false (vI .i64 s.rows.e2)),(5,.row false (vI .i64 s.rows.e3)),(6,.row false (vI .i64 s.rows.e4)),(7,.row false (vI .i64 s.rows.e5)),(8,.row false (vI .i64 s.rows.e6)),(10,.row false [.int .u64 oa1.key.A,.int .u64 oa1.key.B,.slice (some ⟨11,0,none⟩) 7 1,.int .i64 oa1.total]),(11,.row false [.slice (some ⟨12,0,none⟩) oa1.rows.m0 1,.slice (some ⟨13,0,none⟩) oa1.rows.m1 1,.slice (some ⟨14,0,none⟩) oa1.rows.m2 1,.slice (some ⟨15,0,none⟩) oa1.rows.m3 1,.slice (some ⟨16,0,none⟩) oa1.rows.m4 1,.slice (some ⟨17,0,none⟩) oa1.rows.m5 1,.slice (some ⟨18,0,none⟩) oa1.rows.m6 1]),(12,.row false (vI .i64 oa1.rows.e0)),(13,.row false (vI .i64 oa1.rows.e1)),(14,.row false (vI .i64 oa1.rows.e2)),(15,.row false (vI .i64 oa1.rows.e3)),(16,.row false (vI .i64 oa1.rows.e4)),(17,.row false (vI .i64 oa1.rows.e5)),(18,.row false (vI .i64 oa1.rows.e6))],20⟩ (fun v H _=>Res 20 (XsB res) v H):=by
 unfold Xe3 at h
 have R1:=@XmH Xaa
 have R2:=@Xnu Xai
 have J:=js []
 refine Xa4 XaM hS true 3000 ?_
 conv=>whnf
 exact W
def XeP (Xaa:Xag) (Xai:XaJ) (s:Xak) (oa1:Xak):Option Bool:=
 (Xaa.v8 s).bind fun x8=>
 cond (!x8)
  (
  some (false))
  (
  (Xaa.v8 oa1).bind fun x81=>
  cond (!x81)
   (
   some (false))
   (
   let t:=!((s.key.A==oa1.key.A)&&((s.key.B==oa1.key.B)&&true))
   cond (t)
    (
    some (false))
    (
    XaQ (decide (s.rows.m0≤s.rows.e0.length)) <|
    XaQ (decide (oa1.rows.m0≤oa1.rows.e0.length)) <|
    (Xai (s.rows.e0.take s.rows.m0) (oa1.rows.e0.take oa1.rows.m0)).bind fun x1=>
    cond (!x1)
     (
     some (false))
     (
     XaQ (decide (s.rows.m1≤s.rows.e1.length)) <|
     XaQ (decide (oa1.rows.m1≤oa1.rows.e1.length)) <|
     (Xai (s.rows.e1.take s.rows.m1) (oa1.rows.e1.take oa1.rows.m1)).bind fun x11=>
     cond (!x11)
      (
      some (false))
      (
      XaQ (decide (s.rows.m2≤s.rows.e2.length)) <|
      XaQ (decide (oa1.rows.m2≤oa1.rows.e2.length)) <|
      (Xai (s.rows.e2.take s.rows.m2) (oa1.rows.e2.take oa1.rows.m2)).bind fun x12=>
      cond (!x12)
       (
       some (false))
       (
       XaQ (decide (s.rows.m3≤s.rows.e3.length)) <|
       XaQ (decide (oa1.rows.m3≤oa1.rows.e3.length)) <|
       (Xai (s.rows.e3.take s.rows.m3) (oa1.rows.e3.take oa1.rows.m3)).bind fun x13=>
       cond (!x13)
        (
        some (false))
        (
        XaQ (decide (s.rows.m4≤s.rows.e4.length)) <|
        XaQ (decide (oa1.rows.m4≤oa1.rows.e4.length)) <|
        (Xai (s.rows.e4.take s.rows.m4) (oa1.rows.e4.take oa1.rows.m4)).bind fun x14=>
        cond (!x14)
         (
         some (false))
         (
         XaQ (decide (s.rows.m5≤s.rows.e5.length)) <|
         XaQ (decide (oa1.rows.m5≤oa1.rows.e5.length)) <|
         (Xai (s.rows.e5.take s.rows.m5) (oa1.rows.e5.take oa1.rows.m5)).bind fun x15=>
         cond (!x15)
          (
          some (false))
          (
          XaQ (decide (s.rows.m6≤s.rows.e6.length)) <|
          XaQ (decide (oa1.rows.m6≤oa1.rows.e6.length)) <|
          (Xai (s.rows.e6.take s.rows.m6) (oa1.rows.e6.take oa1.rows.m6)).bind fun x16=>
          cond (!x16)
           (
           some (false))
           (
           XaQ (decide (s.rows.m7≤s.rows.e7.length)) <|
           XaQ (decide (oa1.rows.m7≤oa1.rows.e7.length)) <|
           (Xai (s.rows.e7.take s.rows.m7) (oa1.rows.e7.take oa1.rows.m7)).bind fun x17=>
           cond (!x17)
            (
            some (false))
            (
            some (true))))))))))))
def Xrz (x:Bool):Xdu:=⟨.bool x,[],[none,none,none,none,none,none,none,none,none,none,none,none,none,none,none,none,none,none,none,none]⟩
abbrev Xfw:=Xak→Xak→Option Bool
def XH8 (g:Xfw):Dec:=dTr 10 (XbI 0) fun (y0:Xak)=>dTr 10 (XbI 10) fun (y1:Xak)=>XeC (ofG (g y0 y1) Xrz)
abbrev Xzw (Xaa:Xag) (Xai:XaJ):List (Nat×XcS):=[(38,s38 Xaa),(55,s55 Xai)]
theorem Xu8 (Xaa:Xag) (Xai:XaJ) (hS:XaF Try.prog (XaP (Xzw Xaa Xai))) (s:Xak) (oa1:Xak) (res:Bool) (h:XeP Xaa Xai s oa1=some res) :
 XaU Try.prog 42 20 ⟨⟨42,33,[(0,.pointer (some ⟨0,0,none⟩)),(1,.pointer (some ⟨10,0,none⟩))],[.code XoF],[],false,none⟩,[],[(0,.row false [.int .u64 s.key.A,.int .u64 s.key.B,.slice (some ⟨1,0,none⟩) 8 1,.int .i64 s.total]),(1,.row false [.slice (some ⟨2,0,none⟩) s.rows.m0 1,.slice (some ⟨3,0,none⟩) s.rows.m1 1,.slice (some ⟨4,0,none⟩) s.rows.m2 1,.slice (some ⟨5,0,none⟩) s.rows.m3 1,.slice (some ⟨6,0,none⟩) s.rows.m4 1,.slice (some ⟨7,0,none⟩) s.rows.m5 1,.slice (some ⟨8,0,none⟩) s.rows.m6 1,.slice (some ⟨9,0,none⟩) s.rows.m7 1]),(2,.row false (vI .i64 s.rows.e0)),(3,.row false (vI .i64 s.rows.e1)),(4,.row false (vI .i64 s.rows.e2)),(5,.row false (vI .i64 s.rows.e3)),(6,.row false (vI .i64 s.rows.e4)),(7,.row false (vI .i64 s.rows.e5)),(8,.row false (vI .i64 s.rows.e6)),(9,.row false (vI .i64 s.rows.e7)),(10,.row false [.int .u64 oa1.key.A,.int .u64 oa1.key.B,.slice (some ⟨11,0,none⟩) 8 1,.int .i64 oa1.total]),(11,.row false [.slice (some ⟨12,0,none⟩) oa1.rows.m0 1,.slice (some ⟨13,0,none⟩) oa1.rows.m1 1,.slice (some ⟨14,0,none⟩) oa1.rows.m2 1,.slice (some ⟨15,0,none⟩) oa1.rows.m3 1,.slice (some ⟨16,0,none⟩) oa1.rows.m4 1,.slice (some ⟨17,0,none⟩) oa1.rows.m5 1,.slice (some ⟨18,0,none⟩) oa1.rows.m6 1,.slice (some ⟨19,0,none⟩) oa1.rows.m7 1]),(12,.row false (vI .i64 oa1.rows.e0)),(13,.row false (vI .i64 oa1.rows.e1)),(14,.row false (vI .i64 oa1.rows.e2)),(15,.row false (vI .i64 oa1.rows.e3)),(16,.row false (vI .i64 oa1.rows.e4)),(17,.row false (vI .i64 oa1.rows.e5)),(18,.row false (vI .i64 oa1.rows.e6)),(19,.row false (vI .i64 oa1.rows.e7))],20⟩ (fun v H _=>Res 20 (Xrz res) v H):=by
 unfold XeP at h
 have R1:=@Xl5 Xaa
 have R2:=@Xnu Xai
 have J:=js []
 refine Xa4 XaM hS true 3000 ?_
 conv=>whnf
 exact W
structure Xaq where
 v00:XfT
 v11:Xf4
 v22:Xf0
 v33:Xfy
 v44:Xfv
 v55:Xf8
 v66:XfR
 v77:Xfq
 v88:Xfw
def s42 (g:Xaq):XcS:=⟨[.tr [⟨none,0,0,0,none⟩,⟨some 0,2,0,0,none⟩,⟨some 1,0,0,0,none⟩,⟨some 1,1,0,0,none⟩,⟨some 1,2,0,0,none⟩,⟨some 1,3,0,0,none⟩,⟨some 1,4,0,0,none⟩,⟨some 1,5,0,0,none⟩,⟨some 1,6,0,0,none⟩,⟨some 1,7,0,0,none⟩],.tr [⟨none,0,0,0,none⟩,⟨some 0,2,0,0,none⟩,⟨some 1,0,0,0,none⟩,⟨some 1,1,0,0,none⟩,⟨some 1,2,0,0,none⟩,⟨some 1,3,0,0,none⟩,⟨some 1,4,0,0,none⟩,⟨some 1,5,0,0,none⟩,⟨some 1,6,0,0,none⟩,⟨some 1,7,0,0,none⟩]],orD (XJq g.v00) (orD (XJK g.v11) (orD (XJI g.v22) (orD (XHT g.v33) (orD (XH1 g.v44) (orD (XG4 g.v55) (orD (XJy g.v66) (orD (XJr g.v77) (XH8 g.v88))))))))⟩
theorem Xn8 {g:Xaq} {y0:Xaz} {y1:Xaz} {x:Bool} (hx:g.v00 y0 y1=some x):(s42 g).run [.pointer (some ⟨0,0,none⟩),.pointer (some ⟨10,0,none⟩)] [some [.int .u64 y0.key.A,.int .u64 y0.key.B,.slice none 0 0,.int .i64 y0.total],none,none,none,none,none,none,none,none,none,some [.int .u64 y1.key.A,.int .u64 y1.key.B,.slice none 0 0,.int .i64 y1.total],none,none,none,none,none,none,none,none,none]=some (Xps x):=by dsimp only [s42];exact (XdM ((Xbn rfl rfl (Xe8 0 _)).trans ((Xbn rfl rfl (Xe8 10 _)).trans (Xbc hx))))
theorem XwY {g:Xaq} {y0:XaA} {y1:XaA} {x:Bool} (hx:g.v11 y0 y1=some x):(s42 g).run [.pointer (some ⟨0,0,none⟩),.pointer (some ⟨10,0,none⟩)] [some [.int .u64 y0.key.A,.int .u64 y0.key.B,.slice (some ⟨1,0,none⟩) 1 1,.int .i64 y0.total],some [.slice (some ⟨2,0,none⟩) y0.rows.m0 1],some (vI .i64 y0.rows.e0),none,none,none,none,none,none,none,some [.int .u64 y1.key.A,.int .u64 y1.key.B,.slice (some ⟨11,0,none⟩) 1 1,.int .i64 y1.total],some [.slice (some ⟨12,0,none⟩) y1.rows.m0 1],some (vI .i64 y1.rows.e0),none,none,none,none,none,none,none]=some (Xtw x):=by dsimp only [s42];exact (XaL rfl (XdM ((Xbn rfl rfl (XcK 0 _)).trans ((Xbn rfl rfl (XcK 10 _)).trans (Xbc hx)))))
theorem Xxk {g:Xaq} {y0:Xax} {y1:Xax} {x:Bool} (hx:g.v22 y0 y1=some x):(s42 g).run [.pointer (some ⟨0,0,none⟩),.pointer (some ⟨10,0,none⟩)] [some [.int .u64 y0.key.A,.int .u64 y0.key.B,.slice (some ⟨1,0,none⟩) 2 1,.int .i64 y0.total],some [.slice (some ⟨2,0,none⟩) y0.rows.m0 1,.slice (some ⟨3,0,none⟩) y0.rows.m1 1],some (vI .i64 y0.rows.e0),some (vI .i64 y0.rows.e1),none,none,none,none,none,none,some [.int .u64 y1.key.A,.int .u64 y1.key.B,.slice (some ⟨11,0,none⟩) 2 1,.int .i64 y1.total],some [.slice (some ⟨12,0,none⟩) y1.rows.m0 1,.slice (some ⟨13,0,none⟩) y1.rows.m1 1],some (vI .i64 y1.rows.e0),some (vI .i64 y1.rows.e1),none,none,none,none,none,none]=some (Xsk x):=by dsimp only [s42];exact (XaL rfl (XaL rfl (XdM ((Xbn rfl rfl (XcM 0 _)).trans ((Xbn rfl rfl (XcM 10 _)).trans (Xbc hx))))))
theorem Xxs {g:Xaq} {y0:Xav} {y1:Xav} {x:Bool} (hx:g.v33 y0 y1=some x):(s42 g).run [.pointer (some ⟨0,0,none⟩),.pointer (some ⟨10,0,none⟩)] [some [.int .u64 y0.key.A,.int .u64 y0.key.B,.slice (some ⟨1,0,none⟩) 3 1,.int .i64 y0.total],some [.slice (some ⟨2,0,none⟩) y0.rows.m0 1,.slice (some ⟨3,0,none⟩) y0.rows.m1 1,.slice (some ⟨4,0,none⟩) y0.rows.m2 1],some (vI .i64 y0.rows.e0),some (vI .i64 y0.rows.e1),some (vI .i64 y0.rows.e2),none,none,none,none,none,some [.int .u64 y1.key.A,.int .u64 y1.key.B,.slice (some ⟨11,0,none⟩) 3 1,.int .i64 y1.total],some [.slice (some ⟨12,0,none⟩) y1.rows.m0 1,.slice (some ⟨13,0,none⟩) y1.rows.m1 1,.slice (some ⟨14,0,none⟩) y1.rows.m2 1],some (vI .i64 y1.rows.e0),some (vI .i64 y1.rows.e1),some (vI .i64 y1.rows.e2),none,none,none,none,none]=some (Xta x):=by dsimp only [s42];exact (XaL rfl (XaL rfl (XaL rfl (XdM ((Xbn rfl rfl (XcO 0 _)).trans ((Xbn rfl rfl (XcO 10 _)).trans (Xbc hx)))))))
theorem Xyk {g:Xaq} {y0:Xar} {y1:Xar} {x:Bool} (hx:g.v44 y0 y1=some x):(s42 g).run [.pointer (some ⟨0,0,none⟩),.pointer (some ⟨10,0,none⟩)] [some [.int .u64 y0.key.A,.int .u64 y0.key.B,.slice (some ⟨1,0,none⟩) 4 1,.int .i64 y0.total],some [.slice (some ⟨2,0,none⟩) y0.rows.m0 1,.slice (some ⟨3,0,none⟩) y0.rows.m1 1,.slice (some ⟨4,0,none⟩) y0.rows.m2 1,.slice (some ⟨5,0,none⟩) y0.rows.m3 1],some (vI .i64 y0.rows.e0),some (vI .i64 y0.rows.e1),some (vI .i64 y0.rows.e2),some (vI .i64 y0.rows.e3),none,none,none,none,some [.int .u64 y1.key.A,.int .u64 y1.key.B,.slice (some ⟨11,0,none⟩) 4 1,.int .i64 y1.total],some [.slice (some ⟨12,0,none⟩) y1.rows.m0 1,.slice (some ⟨13,0,none⟩) y1.rows.m1 1,.slice (some ⟨14,0,none⟩) y1.rows.m2 1,.slice (some ⟨15,0,none⟩) y1.rows.m3 1],some (vI .i64 y1.rows.e0),some (vI .i64 y1.rows.e1),some (vI .i64 y1.rows.e2),some (vI .i64 y1.rows.e3),none,none,none,none]=some (Xte x):=by dsimp only [s42];exact (XaL rfl (XaL rfl (XaL rfl (XaL rfl (XdM ((Xbn rfl rfl (XcR 0 _)).trans ((Xbn rfl rfl (XcR 10 _)).trans (Xbc hx))))))))
theorem XzB {g:Xaq} {y0:Xap} {y1:Xap} {x:Bool} (hx:g.v55 y0 y1=some x):(s42 g).run [.pointer (some ⟨0,0,none⟩),.pointer (some ⟨10,0,none⟩)] [some [.int .u64 y0.key.A,.int .u64 y0.key.B,.slice (some ⟨1,0,none⟩) 5 1,.int .i64 y0.total],some [.slice (some ⟨2,0,none⟩) y0.rows.m0 1,.slice (some ⟨3,0,none⟩) y0.rows.m1 1,.slice (some ⟨4,0,none⟩) y0.rows.m2 1,.slice (some ⟨5,0,none⟩) y0.rows.m3 1,.slice (some ⟨6,0,none⟩) y0.rows.m4 1],some (vI .i64 y0.rows.e0),some (vI .i64 y0.rows.e1),some (vI .i64 y0.rows.e2),some (vI .i64 y0.rows.e3),some (vI .i64 y0.rows.e4),none,none,none,some [.int .u64 y1.key.A,.int .u64 y1.key.B,.slice (some ⟨11,0,none⟩) 5 1,.int .i64 y1.total],some [.slice (some ⟨12,0,none⟩) y1.rows.m0 1,.slice (some ⟨13,0,none⟩) y1.rows.m1 1,.slice (some ⟨14,0,none⟩) y1.rows.m2 1,.slice (some ⟨15,0,none⟩) y1.rows.m3 1,.slice (some ⟨16,0,none⟩) y1.rows.m4 1],some (vI .i64 y1.rows.e0),some (vI .i64 y1.rows.e1),some (vI .i64 y1.rows.e2),some (vI .i64 y1.rows.e3),some (vI .i64 y1.rows.e4),none,none,none]=some (Xr1 x):=by dsimp only [s42];exact (XaL rfl (XaL rfl (XaL rfl (XaL rfl (XaL rfl (XdM ((Xbn rfl rfl (XcN 0 _)).trans ((Xbn rfl rfl (XcN 10 _)).trans (Xbc hx)))))))))
theorem XzN {g:Xaq} {y0:Xan} {y1:Xan} {x:Bool} (hx:g.v66 y0 y1=some x):(s42 g).run [.pointer (some ⟨0,0,none⟩),.pointer (some ⟨10,0,none⟩)] [some [.int .u64 y0.key.A,.int .u64 y0.key.B,.slice (some ⟨1,0,none⟩) 6 1,.int .i64 y0.total],some [.slice (some ⟨2,0,none⟩) y0.rows.m0 1,.slice (some ⟨3,0,none⟩) y0.rows.m1 1,.slice (some ⟨4,0,none⟩) y0.rows.m2 1,.slice (some ⟨5,0,none⟩) y0.rows.m3 1,.slice (some ⟨6,0,none⟩) y0.rows.m4 1,.slice (some ⟨7,0,none⟩) y0.rows.m5 1],some (vI .i64 y0.rows.e0),some (vI .i64 y0.rows.e1),some (vI .i64 y0.rows.e2),some (vI .i64 y0.rows.e3),some (vI .i64 y0.rows.e4),some (vI .i64 y0.rows.e5),none,none,some [.int .u64 y1.key.A,.int .u64 y1.key.B,.slice (some ⟨11,0,none⟩) 6 1,.int .i64 y1.total],some [.slice (some ⟨12,0,none⟩) y1.rows.m0 1,.slice (some ⟨13,0,none⟩) y1.rows.m1 1,.slice (some ⟨14,0,none⟩) y1.rows.m2 1,.slice (some ⟨15,0,none⟩) y1.rows.m3 1,.slice (some ⟨16,0,none⟩) y1.rows.m4 1,.slice (some ⟨17,0,none⟩) y1.rows.m5 1],some (vI .i64 y1.rows.e0),some (vI .i64 y1.rows.e1),some (vI .i64 y1.rows.e2),some (vI .i64 y1.rows.e3),some (vI .i64 y1.rows.e4),some (vI .i64 y1.rows.e5),none,none]=some (Xsu x):=by dsimp only [s42];exact (XaL rfl (XaL rfl (XaL rfl (XaL rfl (XaL rfl (XaL rfl (XdM ((Xbn rfl rfl (XcQ 0 _)).trans ((Xbn rfl rfl (XcQ 10 _)).trans (Xbc hx))))))))))
theorem Xzx {g:Xaq} {y0:Xal} {y1:Xal} {x:Bool} (hx:g.v77 y0 y1=some x):(s42 g).run [.pointer (some ⟨0,0,none⟩),.pointer (some ⟨10,0,none⟩)] [some [.int .u64 y0.key.A,.int .u64 y0.key.B,.slice (some ⟨1,0,none⟩) 7 1,.int .i64 y0.total],some [.slice (some ⟨2,0,none⟩) y0.rows.m0 1,.slice (some ⟨3,0,none⟩) y0.rows.m1 1,.slice (some ⟨4,0,none⟩) y0.rows.m2 1,.slice (some ⟨5,0,none⟩) y0.rows.m3 1,.slice (some ⟨6,0,none⟩) y0.rows.m4 1,.slice (some ⟨7,0,none⟩) y0.rows.m5 1,.slice (some ⟨8,0,none⟩) y0.rows.m6 1],some (vI .i64 y0.rows.e0),some (vI .i64 y0.rows.e1),some (vI .i64 y0.rows.e2),some (vI .i64 y0.rows.e3),some (vI .i64 y0.rows.e4),some (vI .i64 y0.rows.e5),some (vI .i64 y0.rows.e6),none,some [.int .u64 y1.key.A,.int .u64 y1.key.B,.slice (some ⟨11,0,none⟩) 7 1,.int .i64 y1.total],some [.slice (some ⟨12,0,none⟩) y1.rows.m0 1,.slice (some ⟨13,0,none⟩) y1.rows.m1 1,.slice (some ⟨14,0,none⟩) y1.rows.m2 1,.slice (some ⟨15,0,none⟩) y1.rows.m3 1,.slice (some ⟨16,0,none⟩) y1.rows.m4 1,.slice (some ⟨17,0,none⟩) y1.rows.m5 1,.slice (some ⟨18,0,none⟩) y1.rows.m6 1],some (vI .i64 y1.rows.e0),some (vI .i64 y1.rows.e1),some (vI .i64 y1.rows.e2),some (vI .i64 y1.rows.e3),some (vI .i64 y1.rows.e4),some (vI .i64 y1.rows.e5),some (vI .i64 y1.rows.e6),none]=some (XsB x):=by dsimp only [s42];exact (XaL rfl (XaL rfl (XaL rfl (XaL rfl (XaL rfl (XaL rfl (XaL rfl (XdM ((Xbn rfl rfl (XcL 0 _)).trans ((Xbn rfl rfl (XcL 10 _)).trans (Xbc hx)))))))))))
theorem Xxo {g:Xaq} {y0:Xak} {y1:Xak} {x:Bool} (hx:g.v88 y0 y1=some x):(s42 g).run [.pointer (some ⟨0,0,none⟩),.pointer (some ⟨10,0,none⟩)] [some [.int .u64 y0.key.A,.int .u64 y0.key.B,.slice (some ⟨1,0,none⟩) 8 1,.int .i64 y0.total],some [.slice (some ⟨2,0,none⟩) y0.rows.m0 1,.slice (some ⟨3,0,none⟩) y0.rows.m1 1,.slice (some ⟨4,0,none⟩) y0.rows.m2 1,.slice (some ⟨5,0,none⟩) y0.rows.m3 1,.slice (some ⟨6,0,none⟩) y0.rows.m4 1,.slice (some ⟨7,0,none⟩) y0.rows.m5 1,.slice (some ⟨8,0,none⟩) y0.rows.m6 1,.slice (some ⟨9,0,none⟩) y0.rows.m7 1],some (vI .i64 y0.rows.e0),some (vI .i64 y0.rows.e1),some (vI .i64 y0.rows.e2),some (vI .i64 y0.rows.e3),some (vI .i64 y0.rows.e4),some (vI .i64 y0.rows.e5),some (vI .i64 y0.rows.e6),some (vI .i64 y0.rows.e7),some [.int .u64 y1.key.A,.int .u64 y1.key.B,.slice (some ⟨11,0,none⟩) 8 1,.int .i64 y1.total],some [.slice (some ⟨12,0,none⟩) y1.rows.m0 1,.slice (some ⟨13,0,none⟩) y1.rows.m1 1,.slice (some ⟨14,0,none⟩) y1.rows.m2 1,.slice (some ⟨15,0,none⟩) y1.rows.m3 1,.slice (some ⟨16,0,none⟩) y1.rows.m4 1,.slice (some ⟨17,0,none⟩) y1.rows.m5 1,.slice (some ⟨18,0,none⟩) y1.rows.m6 1,.slice (some ⟨19,0,none⟩) y1.rows.m7 1],some (vI .i64 y1.rows.e0),some (vI .i64 y1.rows.e1),some (vI .i64 y1.rows.e2),some (vI .i64 y1.rows.e3),some (vI .i64 y1.rows.e4),some (vI .i64 y1.rows.e5),some (vI .i64 y1.rows.e6),some (vI .i64 y1.rows.e7)]=some (Xrz x):=by dsimp only [s42];exact (XaL rfl (XaL rfl (XaL rfl (XaL rfl (XaL rfl (XaL rfl (XaL rfl (XaL rfl ((Xbn rfl rfl (XcP 0 _)).trans ((Xbn rfl rfl (XcP 10 _)).trans (Xbc hx)))))))))))
def XkT:XfT:=XgF Xaa
def Xhx:Xf4:=XeU Xaa Xai
def Xhq:Xf0:=XeO Xaa Xai
def Xhy:Xfy:=XeV Xaa Xai
def Xhw:Xfv:=XeZ Xaa Xai
def Xhv:Xf8:=XeQ Xaa Xai
def Xhh:XfR:=XeT Xaa Xai
def Xhk:Xfq:=Xe3 Xaa Xai
def Xho:Xfw:=XeP Xaa Xai
def Xac:Xaq:=⟨XkT,Xhx,Xhq,Xhy,Xhw,Xhv,Xhh,Xhk,Xho⟩
theorem XlC:XeH Try.prog 42 (s42 Xac):=by
 have L0:=Xv4 Xaa (XaF.Xba ⟨Xc9,trivial⟩)
 have L1:=XvH Xaa Xai (XaF.Xba ⟨Xc9,Xm7,trivial⟩)
 have L2:=Xv1 Xaa Xai (XaF.Xba ⟨Xc9,Xm7,trivial⟩)
 have L3:=XvZ Xaa Xai (XaF.Xba ⟨Xc9,Xm7,trivial⟩)
 have L4:=XvJ Xaa Xai (XaF.Xba ⟨Xc9,Xm7,trivial⟩)
 have L5:=Xvf Xaa Xai (XaF.Xba ⟨Xc9,Xm7,trivial⟩)
 have L6:=XvE Xaa Xai (XaF.Xba ⟨Xc9,Xm7,trivial⟩)
 have L7:=Xva Xaa Xai (XaF.Xba ⟨Xc9,Xm7,trivial⟩)
 have L8:=Xu8 Xaa Xai (XaF.Xba ⟨Xc9,Xm7,trivial⟩)
 refine XeH.Xjm XaM (fun ar os r ha hr=>?_) ⟨Try.f42,rfl,by decide,rfl⟩
 generalize hc:XiR os=C at hr
 replace hr:=orD.elim hr;rcases hr with hr|hr
 ·have LL:=L0;have U1:=@XdZ;exact okB
 replace hr:=orD.elim hr;rcases hr with hr|hr
 ·have LL:=L1;have U1:=@XcW;exact okB
 replace hr:=orD.elim hr;rcases hr with hr|hr
 ·have LL:=L2;have U1:=@XcZ;exact okB
 replace hr:=orD.elim hr;rcases hr with hr|hr
 ·have LL:=L3;have U1:=@Xc2;exact okB
 replace hr:=orD.elim hr;rcases hr with hr|hr
 ·have LL:=L4;have U1:=@Xc0;exact okB
 replace hr:=orD.elim hr;rcases hr with hr|hr
 ·have LL:=L5;have U1:=@XcY;exact okB
 replace hr:=orD.elim hr;rcases hr with hr|hr
 ·have LL:=L6;have U1:=@Xc3;exact okB
 replace hr:=orD.elim hr;rcases hr with hr|hr
 ·have LL:=L7;have U1:=@Xc6;exact okB
 have LL:=L8;have U1:=@Xc1;exact okB
end Go.Vm.Code
