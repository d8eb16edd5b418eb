import Derived.Test.YtjgbmnhijmkejaaNSketchGuessesc
namespace Go.Vm.Code
open Go Go.Vm
theorem Xmi (k:Nat) {a b:Int} (h0:0≤a) (h1:a*2^k<18446744073709551616) (hb0:0≤b) (hb:b<2^k) (hb1:b<18446744073709551616):Xrl .u64 b (a*2^k)=a*2^k+b:=by
 obtain ⟨n,rfl⟩:=Int.eq_ofNat_of_zero_le h0
 obtain ⟨m,rfl⟩:=Int.eq_ofNat_of_zero_le hb0
 have e:((n:Int)*2^k)=((n*2^k:Nat):Int):=by push_cast;rfl
 rw [e] at h1 ⊢
 rw [XCZ (by omega) (by omega),Nat.or_comm,XDs (by exact_mod_cast hb)];push_cast;rfl
def wrd:List UInt8→Nat
 | []=>0
 | b::l=>b.toNat+256*wrd l
theorem XuX:∀ l:List UInt8,wrd l<256^l.length
 | []=>by simp [wrd]
 | b::l=>by
   have:=XuX l
   have hb:=b.toNat_lt
   rw [wrd,List.length_cons,Nat.pow_succ];omega
theorem Xpu:∀ (l:List UInt8) (b:UInt8),wrd (l++[b])=wrd l+256^l.length*b.toNat
 | [],b=>by simp [wrd]
 | c::l,b=>by
   have:=Xpu l b
   rw [List.cons_append,wrd,this,wrd,List.length_cons,Nat.pow_succ,Nat.mul_add,Nat.mul_comm (256^l.length) 256,Nat.mul_assoc];omega
theorem XyP {j:Nat} (h:j≤8):256^j≤18446744073709551616:=by
 have:(256:Nat)^j≤256^8:=Nat.pow_le_pow_right (by decide) h
 simpa using this
theorem XqJ {s:List UInt8} (hs:s.length≤8):Xds s=some (wrd s:Int):=by
 unfold Xds XmD
 rw [XfG (by omega) (by omega)]
 have key:=iter_eq (step:=fun (st:Int×Int)=>Xin s st.1 st.2) (fun st=>((st.1.toNat*256^(st.2+1).toNat+wrd (s.take (st.2+1).toNat):Nat):Int)) (fun st=>0≤st.1∧-1≤st.2∧st.2<s.length∧st.1.toNat<256^(s.length - (st.2+1).toNat)) (fun st=>(st.2+1).toNat) ?_ FUEL (0,(s.length:Int) - 1) ⟨by simp,by simp only;omega,by simp only;omega,by simp⟩ (by rw [Xd0];simp only;omega)
 ·rw [key]
  have e:((s.length:Int) - 1+1).toNat=s.length:=by omega
  simp only [e];simp
 rintro ⟨n,i⟩ ⟨g1,g2,g3,g4⟩
 simp only at g1 g2 g3 g4 ⊢
 obtain ⟨v,rfl⟩:=Int.eq_ofNat_of_zero_le g1
 simp only [Int.toNat_natCast] at g4 ⊢
 unfold Xin
 by_cases hi:i≥0
 ·obtain ⟨j,rfl⟩:=Int.eq_ofNat_of_zero_le hi
  have e1:((j:Int)+1).toNat=j+1:=by omega
  have e2:((j:Int) - 1+1).toNat=j:=by omega
  rw [e1] at g4 ⊢
  have hj:j<s.length:=by omega
  have hb:=s[j].toNat_lt
  have hv:v*256+s[j].toNat<256^(s.length - j):=by
   rw [show s.length - j=(s.length - (j+1))+1 by omega,Nat.pow_succ];omega
  have hv2:=XyP (j:=s.length - j) (by omega)
  refine .inr ⟨(((v*256+s[j].toNat:Nat):Int),(j:Int) - 1),?_,⟨by simp only;omega,by simp only;omega,by simp only;omega,?_⟩,by simp only;omega,?_⟩
  ·rw [Xbd hi,XaH hi,Int.toNat_natCast,List.getElem?_eq_getElem hj,Option.bind_some,Xn5 (n:=(v:Int)*2^8) (by omega) (by omega),Xn5 (n:=(s[j].toNat:Int)) (by omega) (by omega),Xn5 (by omega) (by omega),XfG (by omega) (by omega)]
   simp only []
   congr 3<;>omega
  ·simp only [e2,Int.toNat_natCast];exact hv
  ·simp only [e2,Int.toNat_natCast]
   rw [List.take_succ_eq_append_getElem hj,Xpu,List.length_take,Nat.min_eq_left (by omega),Nat.pow_succ,Nat.add_mul,Nat.mul_assoc,Nat.mul_comm (256^j) 256,Nat.mul_comm (256^j) s[j].toNat]
   congr 1
   omega
 ·refine .inl ?_
  rw [Xa7 hi]
  have e1:(i+1).toNat=0:=by omega
  rw [e1];simp [wrd]
def XAN (q:XaN):Int:=
 let m:=Xwg 4 ⟨q.e0,q.e1,XdI .u64 q.e2 255,q.e3⟩
 XdI .u64 (XdI .u64 (XdI .u64 m.e0 m.e1) m.e2) m.e3
theorem Xtc (T:XaN→Int→XaN):∀ (l:List UInt8) (h:XaR) (j v:Nat),h.count.toNat%8=j→0≤h.count→h.last=(v:Int)→v<256^j→j+l.length<8→l.foldl (wrT T) h=⟨h.made,h.s,((v+256^j*wrd l:Nat):Int),h.count+l.length⟩
 | [],h,j,v,hj,h0,hv,hlt,hl=>by
   obtain ⟨m,s,la,c⟩:=h
   simp only at hv;subst hv
   simp [wrd]
 | b::l,h,j,v,hj,h0,hv,hlt,hl=>by
   rw [List.length_cons] at hl
   have hb:=b.toNat_lt
   have hp:(256:Nat)^j=2^(8*j):=by rw [Nat.pow_mul]
   have hp2:=XyP (j:=j+1) (by omega)
   rw [Nat.pow_succ] at hp2
   have hb2:b.toNat*256^j≤255*256^j:=Nat.mul_le_mul_right _ (by omega)
   have hpI:(2:Int)^(8*j)=((256^j:Nat):Int):=by rw [hp];push_cast;rfl
   have e1:wI .u64 ((b.toNat:Int)*2^(8*j))=(b.toNat:Int)*2^(8*j):=by
    rw [hpI,←Int.natCast_mul];exact Xn5 (by omega) (by omega)
   have e2:Xrl .u64 (v:Int) ((b.toNat:Int)*2^(8*j))=((v+256^j*b.toNat:Nat):Int):=by
    rw [Xmi (8*j) (by omega) (by rw [hpI,←Int.natCast_mul];omega) (by omega) (by rw [hpI];omega) (by omega),hpI,←Int.natCast_mul,Nat.mul_comm];omega
   have hw:wrT T h b=⟨h.made,h.s,((v+256^j*b.toNat:Nat):Int),h.count+1⟩:=by
    unfold wrT
    rw [hj,hv,if_neg (by omega),e1,e2]
   rw [List.foldl_cons,hw,Xtc T l _ (j+1) (v+256^j*b.toNat) (by simp only;omega) (by simp only;omega) rfl (by rw [Nat.pow_succ,Nat.mul_comm (256^j) b.toNat];omega) (by omega)]
   simp only [wrd,Nat.pow_succ,List.length_cons]
   congr 1
   ·rw [Nat.mul_add,←Nat.mul_assoc,Nat.add_assoc]
   ·omega
theorem XFP (T:XaN→Int→XaN) {l:List UInt8} {h:XaR} (hl:l.length=8) (hc:h.count.toNat%8=0) (h0:0≤h.count) (hv:h.last=0):l.foldl (wrT T) h=⟨h.made,T h.s (wrd l:Int),0,h.count+8⟩:=by
 obtain ⟨l7,b,rfl⟩:∃ l7 b,l=l7++[b]:=⟨l.dropLast,l.getLast (by intro e;rw [e] at hl;simp at hl),(List.dropLast_concat_getLast _).symm⟩
 have h7:l7.length=7:=by simp at hl;omega
 have hb:=b.toNat_lt
 have hw:=XuX l7
 rw [h7] at hw
 rw [List.foldl_append,Xtc T l7 h 0 0 hc h0 (by rw [hv];rfl) (by simp) (by omega),h7,Xpu,h7]
 simp only [List.foldl_cons,List.foldl_nil,wrT,Nat.pow_zero,Nat.one_mul,Nat.zero_add]
 have e0:(h.count+((7:Nat):Int)).toNat%8=7:=by omega
 have e00:((h.count+((7:Nat):Int)).toNat+1)%8=0:=by omega
 rw [e0,if_pos e00]
 have e1:wI .u64 ((b.toNat:Int)*2^(8*7))=(b.toNat:Int)*2^(8*7):=Xn5 (by omega) (by omega)
 have e2:Xrl .u64 (wrd l7:Int) ((b.toNat:Int)*2^(8*7))=((wrd l7+256^7*b.toNat:Nat):Int):=by
  rw [Xmi (8*7) (by omega) (by omega) (by omega) (by omega) (by omega)];omega
 rw [e1,e2]
 congr 1
 omega
def XlI (T:XaN→Int→XaN) (fin:XaN→Int) (n:Nat) (q:XaN) (l:List UInt8):Int:=
 if h:8≤l.length then XlI T fin n (T q (wrd (l.take 8):Int)) (l.drop 8) else fin (T q ((wrd l+n%256*2^56:Nat):Int))
termination_by l.length
decreasing_by simp;omega
theorem Xvs (T:XaN→Int→XaN) (fin:XaN→Int):∀ (k:Nat) (l:List UInt8) (h:XaR),l.length≤k→h.count.toNat%8=0→0≤h.count→h.last=0→∀ n:Nat,(n:Int)=h.count+l.length →
 fin (T (l.foldl (wrT T) h).s (Xrl .u64 (l.foldl (wrT T) h).last (wI .u64 ((wI .u64 (l.foldl (wrT T) h).count)*2^56))))=XlI T fin n h.s l:=by
 intro k
 induction k with
 | zero=>
   intro l h hl hc h0 hv n hn
   obtain rfl:l=[]:=List.length_eq_zero_iff.1 (by omega)
   rw [XlI,dif_neg (by simp)]
   simp only [List.foldl_nil,hv,wrd]
   congr 2
   simp at hn
   rw [←hn]
   have e1:wI .u64 ((wI .u64 (n:Int))*2^56)=((n%256:Nat):Int)*2^56:=by rw [Xqz,Xqz];omega
   rw [e1,Xmi 56 (by omega) (by omega) (by omega) (by omega) (by omega)];omega
 | succ k ih=>
   intro l h hl hc h0 hv n hn
   by_cases h8:8≤l.length
   ·rw [XlI,dif_pos h8]
    have hs:l.foldl (wrT T) h=(l.drop 8).foldl (wrT T) ⟨h.made,T h.s (wrd (l.take 8):Int),0,h.count+8⟩:=by
     rw [←XFP T (l:=l.take 8) (by simp;omega) hc h0 hv,←List.foldl_append,List.take_append_drop]
    rw [hs]
    exact ih (l.drop 8) ⟨h.made,T h.s (wrd (l.take 8):Int),0,h.count+8⟩ (by simp;omega) (by simp only;omega) (by simp only;omega) rfl n (by simp;omega)
   ·rw [XlI,dif_neg h8,Xtc T l h 0 0 hc h0 (by rw [hv];rfl) (by simp) (by omega)]
    simp only [Nat.zero_add,Nat.pow_zero,Nat.one_mul]
    congr 2
    rw [←hn]
    have hw:wrd l<256^7:=Nat.lt_of_lt_of_le (XuX l) (Nat.pow_le_pow_right (by decide) (by omega))
    have e1:wI .u64 ((wI .u64 (n:Int))*2^56)=((n%256:Nat):Int)*2^56:=by rw [Xqz,Xqz];omega
    rw [e1,Xmi 56 (by omega) (by omega) (by omega) (by omega) (by omega)];omega
theorem XBG (r:XaN→XaN) (s:List UInt8) (t i a b c d m:Int) (hi:0≤i∧i<2^62):iter (fun (st:Int×Int×Int×Int×Int×Int)=>XeI (fun a b c d=>some ((r ⟨a,b,c,d⟩).e0,(r ⟨a,b,c,d⟩).e1,(r ⟨a,b,c,d⟩).e2,(r ⟨a,b,c,d⟩).e3)) s t i st.1 st.2.1 st.2.2.1 st.2.2.2.1 st.2.2.2.2.1 st.2.2.2.2.2) FUEL (a,b,c,d,m,0) =
 some (.inl (XdI .u64 (r (r ⟨a,b,c,d⟩)).e0 m,(r (r ⟨a,b,c,d⟩)).e1,(r (r ⟨a,b,c,d⟩)).e2,(r (r ⟨a,b,c,d⟩)).e3,i+8)):=by
 have e8:wI .i64 (i+8)=i+8:=XfG (by omega) (by omega)
 show iter _ (18446744073709551613+1+1+1) _=_
 rw [iter]
 have s1:∀ (a b c d n:Int),n<2→0≤n→XeI (fun a b c d=>some ((r ⟨a,b,c,d⟩).e0,(r ⟨a,b,c,d⟩).e1,(r ⟨a,b,c,d⟩).e2,(r ⟨a,b,c,d⟩).e3)) s t i a b c d m n=some (.inl ((r ⟨a,b,c,d⟩).e0,(r ⟨a,b,c,d⟩).e1,(r ⟨a,b,c,d⟩).e2,(r ⟨a,b,c,d⟩).e3,m,n+1)):=by
  intro a b c d n h1 h0
  unfold XeI
  rw [Xbd h1,Option.bind_some,XfG (n:=n+1) (by omega) (by omega)]
 have s2:∀ (a b c d:Int),XeI (fun a b c d=>some ((r ⟨a,b,c,d⟩).e0,(r ⟨a,b,c,d⟩).e1,(r ⟨a,b,c,d⟩).e2,(r ⟨a,b,c,d⟩).e3)) s t i a b c d m 2=some (.inr (.inl (XdI .u64 a m,b,c,d,i+8))):=by
  intro a b c d
  unfold XeI
  rw [Xa7 (by decide),e8]
 rw [s1 a b c d 0 (by decide) (by decide)]
 simp only []
 rw [iter]
 simp only [show (0:Int)+1=1 from rfl]
 rw [s1 _ _ _ _ 1 (by decide) (by decide)]
 simp only []
 rw [iter]
 simp only [show (1:Int)+1=2 from rfl]
 rw [s2]
theorem Xxw (s:List UInt8) (t i a b c d m:Int) (hi:0≤i∧i<2^62):iter (fun (st:Int×Int×Int×Int×Int×Int)=>XeI Xa9 s t i st.1 st.2.1 st.2.2.1 st.2.2.2.1 st.2.2.2.2.1 st.2.2.2.2.2) FUEL (a,b,c,XdI .u64 d m,m,0) =
 some (.inl ((tak ⟨a,b,c,d⟩ m).e0,(tak ⟨a,b,c,d⟩ m).e1,(tak ⟨a,b,c,d⟩ m).e2,(tak ⟨a,b,c,d⟩ m).e3,i+8)):=by
 have e:Xa9=fun a b c d=>some ((rnd ⟨a,b,c,d⟩).e0,(rnd ⟨a,b,c,d⟩).e1,(rnd ⟨a,b,c,d⟩).e2,(rnd ⟨a,b,c,d⟩).e3):=by
  funext a b c d;exact Xuw a b c d
 rw [e,XBG rnd s t i a b c (XdI .u64 d m) m hi]
 simp only [tak,Xwg]
theorem XsF {k:Xat} {s:List UInt8} (h:s.length<2^60):XhA k s=some (XlI tak XAN s.length (newV k).s s):=by
 unfold XhA XmF
 have ew:wI .i64 ((wI .i64 ((s.length:Int).tdiv 8))*8)=((s.length/8*8:Nat):Int):=by
  rw [Int.tdiv_eq_ediv_of_nonneg (by omega),XfG (n:=(s.length:Int)/8) (by omega) (by omega),XfG (by omega) (by omega)];omega
 rw [ew]
 simp only []
 generalize hw:s.length/8*8=w
 have hw1:w≤s.length∧s.length<w+8∧w%8=0:=by omega
 have key:=iter_eq (step:=fun (st:Int×Int×Int×Int×Int)=>Xiu XeC Xa9 Xds s (w:Int) st.1 st.2.1 st.2.2.1 st.2.2.2.1 st.2.2.2.2)
  (fun st=>if st.2.2.2.2≤w then XlI tak XAN s.length ⟨st.1,st.2.1,st.2.2.1,st.2.2.2.1⟩ (s.drop st.2.2.2.2.toNat) else XAN ⟨st.1,st.2.1,st.2.2.1,st.2.2.2.1⟩)
  (fun st=>∃ i:Nat,st.2.2.2.2=i∧i%8=0∧i≤w+8) (fun st=>(w+8 - st.2.2.2.2).toNat) ?_ FUEL ((newV k).s.e0,(newV k).s.e1,(newV k).s.e2,(newV k).s.e3,0) ⟨0,rfl,by omega,by omega⟩ (by rw [Xd0];simp only;omega)
 ·refine Eq.trans key ?_
  simp only [Int.toNat_zero,List.drop_zero]
  rw [if_pos (by omega)]
 rintro ⟨a,b,c,d,p⟩ ⟨i,g1,g2,g3⟩
 simp only at g1 ⊢
 subst g1
 unfold Xiu
 by_cases hi:i≤w
 ·rw [Xbd (by omega),if_pos (show (i:Int)≤w by omega),Int.toNat_natCast]
  have e8:wI .i64 ((i:Int)+8)=(i:Int)+8:=XfG (by omega) (by omega)
  by_cases hl:i=w
  ·subst hl
   have e1:(if (s.length:Int)<(i:Int)+8 then (s.length:Int) else (i:Int)+8)=s.length:=by rw [if_pos (by omega)]
   have hlen:(s.drop i).length≤7:=by simp;omega
   have et:(s.drop i).take (s.length - i)=s.drop i:=List.take_of_length_le (by simp)
   have hv:wrd (s.drop i)<256^7:=Nat.lt_of_lt_of_le (XuX _) (Nat.pow_le_pow_right (by decide) hlen)
   have em:wI .u64 ((wrd (s.drop i):Int)+wI .u64 ((wI .u64 ((s.length:Int).tmod 256))*2^56))=((wrd (s.drop i)+s.length%256*2^56:Nat):Int):=by
    rw [Int.tmod_eq_emod_of_nonneg (by omega),Xn5 (n:=(s.length:Int)%256) (by omega) (by omega),Xn5 (n:=(s.length:Int)%256*2^56) (by omega) (by omega),Xn5 (by omega) (by omega)];omega
   refine .inr ⟨((tak ⟨a,b,c,d⟩ ((wrd (s.drop i)+s.length%256*2^56:Nat):Int)).e0,(tak ⟨a,b,c,d⟩ ((wrd (s.drop i)+s.length%256*2^56:Nat):Int)).e1,(tak ⟨a,b,c,d⟩ ((wrd (s.drop i)+s.length%256*2^56:Nat):Int)).e2,(tak ⟨a,b,c,d⟩ ((wrd (s.drop i)+s.length%256*2^56:Nat):Int)).e3,(i:Int)+8),?_,⟨i+8,by simp only;omega,by omega,by omega⟩,by simp only;omega,?_⟩
   ·simp only [e8,e1]
    rw [XaH (by omega),Int.toNat_natCast,et,XqJ (by omega),Option.bind_some,beq_self_eq_true,cond_true,XaH (by omega),Option.bind_some,em]
    exact Xxw s (i:Int) (i:Int) a b c d _ (by omega)
   ·simp only []
    rw [if_neg (show ¬ (i:Int)+8≤i by omega),XlI,dif_neg (by omega)]
  ·have h8:i+8≤s.length:=by omega
   have e1:(if (s.length:Int)<(i:Int)+8 then (s.length:Int) else (i:Int)+8)=(i:Int)+8:=by
    split
    ·omega
    ·rfl
   have e2:((i:Int)+8).toNat - i=8:=by omega
   have e3:((i:Int)==(w:Int))=false:=by rw [beq_eq_false_iff_ne];omega
   refine .inr ⟨((tak ⟨a,b,c,d⟩ (wrd ((s.drop i).take 8):Int)).e0,(tak ⟨a,b,c,d⟩ (wrd ((s.drop i).take 8):Int)).e1,(tak ⟨a,b,c,d⟩ (wrd ((s.drop i).take 8):Int)).e2,(tak ⟨a,b,c,d⟩ (wrd ((s.drop i).take 8):Int)).e3,(i:Int)+8),?_,⟨i+8,by simp only;omega,by omega,by omega⟩,by simp only;omega,?_⟩
   ·simp only [e8,e1]
    rw [XaH (by omega),e2,XqJ (by rw [List.length_take];omega),Option.bind_some,e3,cond_false]
    exact Xxw s (w:Int) (i:Int) a b c d _ (by omega)
   ·simp only []
    rw [if_pos (show (i:Int)+8≤w by omega),show ((i:Int)+8).toNat=i+8 by omega]
    conv=>rhs;rw [XlI,dif_pos (by simp;omega),List.drop_drop]
 ·refine .inl ?_
  rw [Xa7 (by omega),if_neg (show ¬ (i:Int)≤w by omega),XIj,Option.bind_some,show cnt 4=4 from rfl]
  rfl
end Go.Vm.Code
namespace Go.Vm.Code
open Go Go.Vm Go.Proofs
set_option maxRecDepth 100000
set_option maxHeartbeats 4000000
set_option linter.unusedVariables false
def Xl6 (XcG:Xdx) (XbI:Xc0) (XiR:Xh7) (k:Xat) (s:List UInt8):Option Int:=
 (XiR k).bind fun n=>
 (XbI n s).bind fun w=>
 (XcG w).bind fun s1=>
 some (s1.1)
def rx47 (x:Int):Xdu:=⟨.int .u64 x,[],[]⟩
abbrev Xbl:=Xat→(List UInt8)→Option Int
def r47 (g:Xbl):Dec:=dV XhM fun (y0:Xat)=>dV asS fun (y1:List UInt8)=>XeA (ofG (g y0 y1) rx47)
theorem r47_c {g:Xbl} {y0:Xat} {y1:List UInt8} {x:Int} (hx:g y0 y1=some x):r47 g [.agg ⟨[.int .u64 y0.A,.int .u64 y0.B]⟩,.string ⟨⟨y1⟩⟩] []=some (rx47 x):=(Xbz (Xim _)).trans ((Xbz (XhC)).trans (Xbc hx))
def s47 (g:Xbl):XcU:=⟨[.v,.v],r47 g⟩
theorem Xnd {g:Xbl} {y0:Xat} {y1:List UInt8} {x:Int} (hx:g y0 y1=some x):(s47 g).run [.agg ⟨[.int .u64 y0.A,.int .u64 y0.B]⟩,.string ⟨⟨y1⟩⟩] []=some (rx47 x):=r47_c hx
abbrev XHc (XcG:Xdx) (XbI:Xc0) (XiR:Xh7):List (Nat×XcU):=[(63,s63 XcG),(62,s62 XbI),(61,s61 XiR)]
theorem XEa (XcG:Xdx) (XbI:Xc0) (XiR:Xh7) (hS:XaF Try.prog (XaP (XHc XcG XbI XiR))) (k:Xat) (s:List UInt8) (res:Int) (h:Xl6 XcG XbI XiR k s=some res) :
 XaU Try.prog 47 0 ⟨⟨47,13,[(0,.agg ⟨[.int .u64 k.A,.int .u64 k.B]⟩),(1,.string ⟨⟨s⟩⟩)],[.code XHP],[],false,none⟩,[],[],0⟩ (fun v H _=>Res 0 (rx47 res) v H):=by
 unfold Xl6 at h
 have R1:=@XI4 XiR
 have R2:=@XG8 XbI
 have R3:=@XH4 XcG
 refine Xa4 XaM hS true 3000 ?_
 conv=>whnf
 exact W
def XaW:Xbl:=Xl6 XcG XbI XiR
theorem Xnl:XeG Try.prog 47 (s47 XaW):=by
 have hL:=XEa XcG XbI XiR (XaF.Xba ⟨XJA,XIt,XIo,trivial⟩)
 exact okA ⟨Try.f47,rfl,by decide,rfl⟩
end Go.Vm.Code
namespace Go.Vm.Code
open Go Go.Vm
theorem XEn {k:Xat} {s:List UInt8} (h:s.length<2^61):XaW k s=some (sumV (s.foldl wrB (newV k))):=by
 unfold XaW Xl6
 rw [XII,Option.bind_some,XAV rfl (by simp [newV]) (by simp [newV];omega),Option.bind_some,XJa (by rw [(wrL s _).1];rfl)];rfl
theorem XH6 {k:Xat} {s:List UInt8} (h:s.length<2^61):XaW k s=some (XlI tak XAN s.length (newV k).s s):=by
 rw [XEn h]
 congr 1
 exact Xvs tak XAN s.length s (newV k) (Nat.le_refl _) rfl (by simp [newV]) rfl s.length (by simp [newV])
theorem XAC (a b:Int):0≤XdI .u64 a b∧XdI .u64 a b<2^64:=by
 have:=Xqz (((BitVec.ofInt (IntKind.bits .u64) a ^^^ BitVec.ofInt (IntKind.bits .u64) b).toNat:Nat):Int)
 have e:XdI .u64 a b=wI .u64 (((BitVec.ofInt (IntKind.bits .u64) a ^^^ BitVec.ofInt (IntKind.bits .u64) b).toNat:Nat):Int):=rfl
 rw [e,this];omega
theorem XAO (q:XaN):0≤XAN q∧XAN q<2^64:=XAC _ _
theorem Xqt (T:XaN→Int→XaN) (fin:XaN→Int) (hf:∀ q,0≤fin q∧fin q<2^64) (n:Nat):∀ (k:Nat) (l:List UInt8) (q:XaN),l.length≤k→0≤XlI T fin n q l∧XlI T fin n q l<2^64
 | 0,l,q,h=>by
   rw [XlI,dif_neg (by omega)];exact hf _
 | k+1,l,q,h=>by
   rw [XlI]
   split
   ·exact Xqt T fin hf n k _ _ (by simp;omega)
   ·exact hf _
end Go.Vm.Code
namespace Go.Vm.Code
open Go Go.Vm Go.Proofs
set_option maxRecDepth 100000
set_option maxHeartbeats 4000000
set_option linter.unusedVariables false
def XhP (x:Int) (y:Int):Option (Int×Int):=
 let t:=wI .u64 ((Xv7 .u64 x 4294967295)*(Xv7 .u64 y 4294967295))
 let t1:=wI .u64 ((x.fdiv (2^32))*(Xv7 .u64 y 4294967295))
 let t2:=Xv7 .u64 (wI .u64 (t1+(t.fdiv (2^32)))) 4294967295
 let t3:=(wI .u64 (t1+(t.fdiv (2^32)))).fdiv (2^32)
 let t4:=wI .u64 ((Xv7 .u64 x 4294967295)*(y.fdiv (2^32)))
 let t5:=wI .u64 ((x.fdiv (2^32))*(y.fdiv (2^32)))
 let t6:=wI .u64 ((wI .u64 (t5+t3))+((wI .u64 (t2+t4)).fdiv (2^32)))
 some ((t6,wI .u64 (x*y)))
def rx71 (x:Int×Int):Xdu:=⟨.tuple ⟨[.int .u64 x.1,.int .u64 x.2]⟩,[],[]⟩
abbrev Xdn:=Int→Int→Option (Int×Int)
def r71 (g:Xdn):Dec:=dV (asI .u64) fun (y0:Int)=>dV (asI .u64) fun (y1:Int)=>XeA (ofG (g y0 y1) rx71)
theorem r71_c {g:Xdn} {y0:Int} {y1:Int} {x:Int×Int} (hx:g y0 y1=some x):r71 g [.int .u64 y0,.int .u64 y1] []=some (rx71 x):=(Xbz (Xd1 _)).trans ((Xbz (Xd1 _)).trans (Xbc hx))
def s71 (g:Xdn):XcU:=⟨[.v,.v],r71 g⟩
theorem XIE {g:Xdn} {y0:Int} {y1:Int} {x:Int×Int} (hx:g y0 y1=some x):(s71 g).run [.int .u64 y0,.int .u64 y1] []=some (rx71 x):=r71_c hx
abbrev XI0:List (Nat×XcU):=[]
theorem XGa (hS:XaF Try.prog (XaP (XI0))) (x:Int) (y:Int) (res:Int×Int) (h:XhP x y=some res) :
 XaU Try.prog 71 0 ⟨⟨71,51,[(0,.int .u64 x),(1,.int .u64 y)],[.code XDc],[],false,none⟩,[],[],0⟩ (fun v H _=>Res 0 (rx71 res) v H):=by
 unfold XhP at h
 refine Xa4 XaM hS true 3000 ?_
 conv=>whnf
 exact W
def Xb7:Xdn:=XhP
theorem XIP:XeG Try.prog 71 (s71 Xb7):=by
 have hL:=XGa (XaF.Xba trivial)
 exact okA ⟨Try.f71,rfl,by decide,rfl⟩
def Xjr (Xb7:Xdn) (a:Int) (b:Int):Option Xgq:=
 (Xb7 a b).bind fun m=>
 some (Xgq.mk m.1 m.2)
def rx60 (x:Xgq):Xdu:=⟨.agg ⟨[.int .u64 x.e0,.int .u64 x.e1]⟩,[],[]⟩
abbrev XeF:=Int→Int→Option Xgq
def r60 (g:XeF):Dec:=dV (asI .u64) fun (y0:Int)=>dV (asI .u64) fun (y1:Int)=>XeA (ofG (g y0 y1) rx60)
theorem r60_c {g:XeF} {y0:Int} {y1:Int} {x:Xgq} (hx:g y0 y1=some x):r60 g [.int .u64 y0,.int .u64 y1] []=some (rx60 x):=(Xbz (Xd1 _)).trans ((Xbz (Xd1 _)).trans (Xbc hx))
def s60 (g:XeF):XcU:=⟨[.v,.v],r60 g⟩
theorem XHD {g:XeF} {y0:Int} {y1:Int} {x:Xgq} (hx:g y0 y1=some x):(s60 g).run [.int .u64 y0,.int .u64 y1] []=some (rx60 x):=r60_c hx
abbrev XHy (Xb7:Xdn):List (Nat×XcU):=[(71,s71 Xb7)]
theorem XE5 (Xb7:Xdn) (hS:XaF Try.prog (XaP (XHy Xb7))) (a:Int) (b:Int) (res:Xgq) (h:Xjr Xb7 a b=some res) :
 XaU Try.prog 60 0 ⟨⟨60,16,[(0,.int .u64 a),(1,.int .u64 b)],[.code XI6],[],false,none⟩,[],[],0⟩ (fun v H _=>Res 0 (rx60 res) v H):=by
 unfold Xjr at h
 have R1:=@XIE Xb7
 refine Xa4 XaM hS true 3000 ?_
 conv=>whnf
 exact W
def Xep:XeF:=Xjr Xb7
theorem XHM:XeG Try.prog 60 (s60 Xep):=by
 have hL:=XE5 Xb7 (XaF.Xba ⟨XIP,trivial⟩)
 exact okA ⟨Try.f60,rfl,by decide,rfl⟩
def Xlk (Xep:XeF) (x:Int) (n:Int):Option Int:=
 cond (decide (n<1))
  (
  some (0))
  (
  cond (decide (n>2147483648))
   (
   some (0))
   (
   (Xep x (wI .u64 n)).bind fun p=>
   some (wI .i64 p.e0)))
def rx46 (x:Int):Xdu:=⟨.int .i64 x,[],[]⟩
abbrev Xbe:=Int→Int→Option Int
def r46 (g:Xbe):Dec:=dV (asI .u64) fun (y0:Int)=>dV (asI .i64) fun (y1:Int)=>XeA (ofG (g y0 y1) rx46)
theorem r46_c {g:Xbe} {y0:Int} {y1:Int} {x:Int} (hx:g y0 y1=some x):r46 g [.int .u64 y0,.int .i64 y1] []=some (rx46 x):=(Xbz (Xd1 _)).trans ((Xbz (Xd1 _)).trans (Xbc hx))
def s46 (g:Xbe):XcU:=⟨[.v,.v],r46 g⟩
theorem Xm3 {g:Xbe} {y0:Int} {y1:Int} {x:Int} (hx:g y0 y1=some x):(s46 g).run [.int .u64 y0,.int .i64 y1] []=some (rx46 x):=r46_c hx
abbrev XIb (Xep:XeF):List (Nat×XcU):=[(60,s60 Xep)]
theorem XDQ (Xep:XeF) (hS:XaF Try.prog (XaP (XIb Xep))) (x:Int) (n:Int) (res:Int) (h:Xlk Xep x n=some res) :
 XaU Try.prog 46 0 ⟨⟨46,17,[(0,.int .u64 x),(1,.int .i64 n)],[.code XHs],[],false,none⟩,[],[],0⟩ (fun v H _=>Res 0 (rx46 res) v H):=by
 unfold Xlk at h
 have R1:=@XHD Xep
 refine Xa4 XaM hS true 3000 ?_
 conv=>whnf
 exact W
def XaD:Xbe:=Xlk Xep
theorem Xnh:XeG Try.prog 46 (s46 XaD):=by
 have hL:=XDQ Xep (XaF.Xba ⟨XHM,trivial⟩)
 exact okA ⟨Try.f46,rfl,by decide,rfl⟩
end Go.Vm.Code
namespace Go.Vm.Code
open Go Go.Vm
theorem XBT {x y:Int} (hx:0≤x∧x<2^64) (hy:0≤y∧y<2^32):Xb7 x y=some (x*y/2^64,wI .u64 (x*y)):=by
 unfold Xb7 XhP
 rw [show (4294967295:Int)=2^32 - 1 from rfl,XjQ 32 rfl (by decide) hx.1 hx.2,XjQ 32 rfl (by decide) hy.1 (by omega),XzJ,XzJ y]
 have hy1:y/2^32=0:=Int.ediv_eq_zero_of_lt hy.1 hy.2
 have hy0:y%2^32=y:=Int.emod_eq_of_lt hy.1 hy.2
 rw [hy1,hy0]
 have e:x*y=x/2^32*y*2^32+x%2^32*y:=by
  have:x=x/2^32*2^32+x%2^32:=by omega
  conv=>lhs;rw [this]
  rw [Int.add_mul,Int.mul_right_comm]
 have b1:0≤x/2^32*y:=Int.mul_nonneg (by omega) hy.1
 have b2:0≤x%2^32*y:=Int.mul_nonneg (by omega) hy.1
 have b3:x/2^32*y≤(2^32 - 1)*(2^32 - 1):=Int.mul_le_mul (by omega) (by omega) hy.1 (by omega)
 have b4:x%2^32*y≤(2^32 - 1)*(2^32 - 1):=Int.mul_le_mul (by omega) (by omega) hy.1 (by omega)
 generalize x/2^32*y=p at *
 generalize x%2^32*y=q at *
 rw [Int.mul_zero,Int.mul_zero,Xn5 b2 (by omega),Xn5 b1 (by omega),e]
 simp only [XzJ]
 rw [Xn5 (n:=0) (by decide) (by decide),Xn5 (n:=p+q/2^32) (by omega) (by omega),XjQ 32 rfl (by decide) (by omega) (by omega),Int.add_zero,Int.zero_add,
  Xn5 (n:=(p+q/2^32)%2^32) (by omega) (by omega),Xn5 (n:=(p+q/2^32)/2^32) (by omega) (by omega),Xn5 (by omega) (by omega)]
 congr 2;omega
def scl (x n:Int):Int:=x*n/2^64
theorem Xoe {x n:Int} (hx:0≤x∧x<2^64) (hn:1≤n):0≤scl x n∧scl x n<n:=by
 unfold scl
 refine ⟨Int.ediv_nonneg (Int.mul_nonneg hx.1 (by omega)) (by decide),Int.ediv_lt_of_lt_mul (by decide) ?_⟩
 rw [Int.mul_comm];exact Int.mul_lt_mul_of_pos_left hx.2 (by omega)
theorem XA5 {x n:Int} (hx:0≤x∧x<2^64) (h1:1≤n) (h2:n≤2147483648):XaD x n=some (scl x n):=by
 unfold XaD Xlk Xep Xjr
 rw [Xa7 (by omega),Xa7 (by omega),Xn5 (by omega) (by omega),XBT hx (by omega)]
 have:=Xoe hx h1
 simp only [Option.bind_some]
 show some (wI .i64 (scl x n))=_
 rw [XfG (by omega) (by omega)]
theorem Xd3 {S ρ:Type} {step:S→Option (Sum S ρ)} (f:Nat→S) (r:ρ):∀ (n:Nat) (_:∀ j,j<n→step (f j)=some (.inl (f (j+1)))) (_:step (f n)=some (.inr r)) {F:Nat} (_:n<F),iter step F (f 0)=some r:=by
 intro n h1 h2 F hF
 have key:∀ d j F,j+d=n→d<F→iter step F (f j)=some r:=by
  intro d
  induction d with
  | zero=>intro j F hj hF;obtain rfl:j=n:=by omega
          obtain ⟨F,rfl⟩:∃ G,F=G+1:=⟨F - 1,by omega⟩
          rw [iter,h2]
  | succ d ih=>
    intro j F hj hF
    obtain ⟨F,rfl⟩:∃ G,F=G+1:=⟨F - 1,by omega⟩
    rw [iter,h1 j (by omega)];exact ih (j+1) F (by omega) (by omega)
 exact key n 0 F (by omega) hF
def cap (n:Int):Int:=if n<1099511627776 then n else 1099511627776
def Xj8 (e:Xay):Bool:=decide (0≤e.N∧e.N≤1048576)
def XGO (k:Xat) (i:Nat) (t:List UInt8):Int:=XlI tak XAN t.length (newV ⟨wI .u64 (k.A+wI .u64 (i:Int)),k.B⟩).s t
theorem Xkq {k:Xat} {i:Nat} {t:List UInt8} (h:t.length≤20):XaW ⟨wI .u64 (k.A+wI .u64 (i:Int)),k.B⟩ t=some (XGO k i t):=XH6 (by omega)
theorem XmE (k:Xat) (i:Nat) (t:List UInt8):0≤XGO k i t∧XGO k i t<2^64:=Xqt tak XAN XAO _ _ _ _ (Nat.le_refl _)
def plN (k:Xat) (p i:Nat) (t:List UInt8):Nat:=(scl (XGO k i t) p).toNat
theorem XdC {p:Nat} (hp:1≤p) (k:Xat) (i:Nat) (t:List UInt8):plN k p i t<p:=by
 have:=Xoe (XmE k i t) (n:=p) (by omega)
 unfold plN;omega
theorem Xd2 {p:Nat} (hp:1≤p) (hp2:p≤4096) (k:Xat) (i:Nat) (t:List UInt8):XaD (XGO k i t) (p:Int)=some (plN k p i t:Int):=by
 have:=Xoe (XmE k i t) (n:=p) (by omega)
 rw [XA5 (XmE k i t) (by omega) (by omega)]
 unfold plN;congr 1;omega
structure SkS where
 R:Nat→List Int
 tot:Int
def Xs1 (k:Xat) (p:Nat) (t:List UInt8) (N:Int) (i:Nat) (row:List Int):List Int:=row.set (plN k p i t) (cap (row.getD (plN k p i t) 0+N))
def stepS (k:Xat) (p:Nat) (x:SkS) (e:Xay):SkS:=if Xj8 e=true then ⟨fun i=>Xs1 k p e.Text e.N i (x.R i),cap (x.tot+e.N)⟩ else x
def newS (p:Nat):SkS:=⟨fun _=>List.replicate p 0,0⟩
def SK (k:Xat) (p:Nat) (l:List Xay):SkS:=l.foldl (stepS k p) (newS p)
theorem XhH (k:Xat) (p:Nat) {l:List Xay} {j:Nat} (h:j<l.length):SK k p (l.take (j+1))=stepS k p (SK k p (l.take j)) l[j]:=by
 unfold SK;rw [List.take_succ_eq_append_getElem h,List.foldl_append];rfl
structure Xdk (p:Nat) (x:SkS):Prop where
 len:∀ i,(x.R i).length=p
 rng:∀ i,∀ e∈x.R i,0≤e∧e≤1099511627776
 tot:0≤x.tot∧x.tot≤1099511627776
theorem XnM {n:Int} (h:0≤n):0≤cap n∧cap n≤1099511627776:=by unfold cap;split<;>omega
theorem Xdk.new (p:Nat):Xdk p (newS p):=⟨fun _=>List.length_replicate,fun _ e h=>by rw [(List.mem_replicate.1 h).2];decide,⟨Int.le_refl 0,by show (0:Int)≤_;decide⟩⟩
theorem Xdk.getD {p:Nat} {x:SkS} (h:Xdk p x) (i q:Nat):0≤(x.R i).getD q 0∧(x.R i).getD q 0≤1099511627776:=by
 rw [List.getD_eq_getElem?_getD]
 cases hq:(x.R i)[q]? with
 | none=>exact ⟨Int.le_refl _,by decide⟩
 | some e=>exact h.rng i e (List.mem_of_getElem? hq)
theorem Xdk.step {p:Nat} {x:SkS} (h:Xdk p x) (k:Xat) (e:Xay):Xdk p (stepS k p x e):=by
 unfold stepS
 split
 ·rename_i hm
  have hN:0≤e.N∧e.N≤1048576:=of_decide_eq_true hm
  refine ⟨fun i=>by simp [Xs1,h.len i],fun i v hv=>?_,XnM (by have:=h.tot;omega)⟩
  rcases List.mem_or_eq_of_mem_set hv with hv|rfl
  ·exact h.rng i v hv
  ·exact XnM (by have:=(h.getD i (plN k p i e.Text)).1;omega)
 ·exact h
theorem Xdk.SK (k:Xat) (p:Nat) (l:List Xay):Xdk p (SK k p l):=by
 have:∀ (l:List Xay) x,Xdk p x→Xdk p (l.foldl (stepS k p) x):=by
  intro l
  induction l with
  | nil=>exact fun x h=>h
  | cons e l ih=>exact fun x h=>ih _ (h.step k e)
 exact this l _ (.new p)
def XnJ (k:Xat) (p:Nat) (x:SkS) (t:List UInt8):Nat→Int
 | 0=>1099511627776
 | i+1=>if (x.R i).getD (plN k p i t) 0<XnJ k p x t i then (x.R i).getD (plN k p i t) 0 else XnJ k p x t i
end Go.Vm.Code
namespace Go.Vm.Code
open Go Go.Vm Go.Proofs
set_option maxRecDepth 100000
set_option maxHeartbeats 4000000
set_option linter.unusedVariables false
def Xi7 (rows:Int) (places:Int) (k:Xat):Option Xbt:=
 cond (decide (rows<1))
  (
  some (Xbt.nil))
  (
  cond (decide (rows>8))
   (
   some (Xbt.nil))
   (
   cond (decide (places<1))
    (
    some (Xbt.nil))
    (
    cond (decide (places>4096))
     (
     some (Xbt.nil))
     (
     cond (decide (0<rows))
      (
      XaQ (decide (0≤places∧places≤places∧places<2^63∧(8:Int)*places≤2^48)) <|
      cond (decide (1<rows))
       (
       XaQ (decide (0≤places∧places≤places∧places<2^63∧(8:Int)*places≤2^48)) <|
       cond (decide (2<rows))
        (
        XaQ (decide (0≤places∧places≤places∧places<2^63∧(8:Int)*places≤2^48)) <|
        cond (decide (3<rows))
         (
         XaQ (decide (0≤places∧places≤places∧places<2^63∧(8:Int)*places≤2^48)) <|
         cond (decide (4<rows))
          (
          XaQ (decide (0≤places∧places≤places∧places<2^63∧(8:Int)*places≤2^48)) <|
          cond (decide (5<rows))
           (
           XaQ (decide (0≤places∧places≤places∧places<2^63∧(8:Int)*places≤2^48)) <|
           cond (decide (6<rows))
            (
            XaQ (decide (0≤places∧places≤places∧places<2^63∧(8:Int)*places≤2^48)) <|
            cond (decide (7<rows))
             (
             XaQ (decide (0≤places∧places≤places∧places<2^63∧(8:Int)*places≤2^48)) <|
             cond (decide (8<rows))
              (
              XaQ (decide (0≤places∧places≤places∧places<2^63∧(8:Int)*places≤2^48)) <|
              none)
              (
              some (Xbt.v8 (Xak.mk k (XbC.mk (List.replicate places.toNat (0)) (List.replicate places.toNat (0)) (List.replicate places.toNat (0)) (List.replicate places.toNat (0)) (List.replicate places.toNat (0)) (List.replicate places.toNat (0)) (List.replicate places.toNat (0)) (List.replicate places.toNat (0)) places.toNat places.toNat places.toNat places.toNat places.toNat places.toNat places.toNat places.toNat) 0))))
             (
             some (Xbt.v7 (Xal.mk k (XbV.mk (List.replicate places.toNat (0)) (List.replicate places.toNat (0)) (List.replicate places.toNat (0)) (List.replicate places.toNat (0)) (List.replicate places.toNat (0)) (List.replicate places.toNat (0)) (List.replicate places.toNat (0)) places.toNat places.toNat places.toNat places.toNat places.toNat places.toNat places.toNat) 0))))
            (
            some (Xbt.v6 (Xan.mk k (Xb9.mk (List.replicate places.toNat (0)) (List.replicate places.toNat (0)) (List.replicate places.toNat (0)) (List.replicate places.toNat (0)) (List.replicate places.toNat (0)) (List.replicate places.toNat (0)) places.toNat places.toNat places.toNat places.toNat places.toNat places.toNat) 0))))
           (
           some (Xbt.v5 (Xap.mk k (XcH.mk (List.replicate places.toNat (0)) (List.replicate places.toNat (0)) (List.replicate places.toNat (0)) (List.replicate places.toNat (0)) (List.replicate places.toNat (0)) places.toNat places.toNat places.toNat places.toNat places.toNat) 0))))
          (
          some (Xbt.v4 (Xar.mk k (Xc8.mk (List.replicate places.toNat (0)) (List.replicate places.toNat (0)) (List.replicate places.toNat (0)) (List.replicate places.toNat (0)) places.toNat places.toNat places.toNat places.toNat) 0))))
         (
         some (Xbt.v3 (Xau.mk k (Xdp.mk (List.replicate places.toNat (0)) (List.replicate places.toNat (0)) (List.replicate places.toNat (0)) places.toNat places.toNat places.toNat) 0))))
        (
        some (Xbt.v2 (Xax.mk k (XdA.mk (List.replicate places.toNat (0)) (List.replicate places.toNat (0)) places.toNat places.toNat) 0))))
       (
       some (Xbt.v1 (XaA.mk k (Xd4.mk (List.replicate places.toNat (0)) places.toNat) 0))))
      (
      none)))))
def rx10 (x:Xbt):Xdu:=match x with
 | .nil=>⟨.pointer none,[],[]⟩
 | .v1 x=>⟨.pointer (some ⟨0,0,none⟩),[[.int .u64 x.key.A,.int .u64 x.key.B,.slice (some ⟨1,0,none⟩) 1 1,.int .i64 x.total],[.slice (some ⟨2,0,none⟩) x.rows.m0 1],(vI .i64 x.rows.e0)],[]⟩
 | .v2 x=>⟨.pointer (some ⟨0,0,none⟩),[[.int .u64 x.key.A,.int .u64 x.key.B,.slice (some ⟨1,0,none⟩) 2 1,.int .i64 x.total],[.slice (some ⟨2,0,none⟩) x.rows.m0 1,.slice (some ⟨3,0,none⟩) x.rows.m1 1],(vI .i64 x.rows.e0),(vI .i64 x.rows.e1)],[]⟩
 | .v3 x=>⟨.pointer (some ⟨0,0,none⟩),[[.int .u64 x.key.A,.int .u64 x.key.B,.slice (some ⟨1,0,none⟩) 3 1,.int .i64 x.total],[.slice (some ⟨2,0,none⟩) x.rows.m0 1,.slice (some ⟨3,0,none⟩) x.rows.m1 1,.slice (some ⟨4,0,none⟩) x.rows.m2 1],(vI .i64 x.rows.e0),(vI .i64 x.rows.e1),(vI .i64 x.rows.e2)],[]⟩
 | .v4 x=>⟨.pointer (some ⟨0,0,none⟩),[[.int .u64 x.key.A,.int .u64 x.key.B,.slice (some ⟨1,0,none⟩) 4 1,.int .i64 x.total],[.slice (some ⟨2,0,none⟩) x.rows.m0 1,.slice (some ⟨3,0,none⟩) x.rows.m1 1,.slice (some ⟨4,0,none⟩) x.rows.m2 1,.slice (some ⟨5,0,none⟩) x.rows.m3 1],(vI .i64 x.rows.e0),(vI .i64 x.rows.e1),(vI .i64 x.rows.e2),(vI .i64 x.rows.e3)],[]⟩
 | .v5 x=>⟨.pointer (some ⟨0,0,none⟩),[[.int .u64 x.key.A,.int .u64 x.key.B,.slice (some ⟨1,0,none⟩) 5 1,.int .i64 x.total],[.slice (some ⟨2,0,none⟩) x.rows.m0 1,.slice (some ⟨3,0,none⟩) x.rows.m1 1,.slice (some ⟨4,0,none⟩) x.rows.m2 1,.slice (some ⟨5,0,none⟩) x.rows.m3 1,.slice (some ⟨6,0,none⟩) x.rows.m4 1],(vI .i64 x.rows.e0),(vI .i64 x.rows.e1),(vI .i64 x.rows.e2),(vI .i64 x.rows.e3),(vI .i64 x.rows.e4)],[]⟩
 | .v6 x=>⟨.pointer (some ⟨0,0,none⟩),[[.int .u64 x.key.A,.int .u64 x.key.B,.slice (some ⟨1,0,none⟩) 6 1,.int .i64 x.total],[.slice (some ⟨2,0,none⟩) x.rows.m0 1,.slice (some ⟨3,0,none⟩) x.rows.m1 1,.slice (some ⟨4,0,none⟩) x.rows.m2 1,.slice (some ⟨5,0,none⟩) x.rows.m3 1,.slice (some ⟨6,0,none⟩) x.rows.m4 1,.slice (some ⟨7,0,none⟩) x.rows.m5 1],(vI .i64 x.rows.e0),(vI .i64 x.rows.e1),(vI .i64 x.rows.e2),(vI .i64 x.rows.e3),(vI .i64 x.rows.e4),(vI .i64 x.rows.e5)],[]⟩
 | .v7 x=>⟨.pointer (some ⟨0,0,none⟩),[[.int .u64 x.key.A,.int .u64 x.key.B,.slice (some ⟨1,0,none⟩) 7 1,.int .i64 x.total],[.slice (some ⟨2,0,none⟩) x.rows.m0 1,.slice (some ⟨3,0,none⟩) x.rows.m1 1,.slice (some ⟨4,0,none⟩) x.rows.m2 1,.slice (some ⟨5,0,none⟩) x.rows.m3 1,.slice (some ⟨6,0,none⟩) x.rows.m4 1,.slice (some ⟨7,0,none⟩) x.rows.m5 1,.slice (some ⟨8,0,none⟩) x.rows.m6 1],(vI .i64 x.rows.e0),(vI .i64 x.rows.e1),(vI .i64 x.rows.e2),(vI .i64 x.rows.e3),(vI .i64 x.rows.e4),(vI .i64 x.rows.e5),(vI .i64 x.rows.e6)],[]⟩
 | .v8 x=>⟨.pointer (some ⟨0,0,none⟩),[[.int .u64 x.key.A,.int .u64 x.key.B,.slice (some ⟨1,0,none⟩) 8 1,.int .i64 x.total],[.slice (some ⟨2,0,none⟩) x.rows.m0 1,.slice (some ⟨3,0,none⟩) x.rows.m1 1,.slice (some ⟨4,0,none⟩) x.rows.m2 1,.slice (some ⟨5,0,none⟩) x.rows.m3 1,.slice (some ⟨6,0,none⟩) x.rows.m4 1,.slice (some ⟨7,0,none⟩) x.rows.m5 1,.slice (some ⟨8,0,none⟩) x.rows.m6 1,.slice (some ⟨9,0,none⟩) x.rows.m7 1],(vI .i64 x.rows.e0),(vI .i64 x.rows.e1),(vI .i64 x.rows.e2),(vI .i64 x.rows.e3),(vI .i64 x.rows.e4),(vI .i64 x.rows.e5),(vI .i64 x.rows.e6),(vI .i64 x.rows.e7)],[]⟩
abbrev XaT:=Int→Int→Xat→Option Xbt
def r10 (g:XaT):Dec:=dV (asI .i64) fun (y0:Int)=>dV (asI .i64) fun (y1:Int)=>dV XhM fun (y2:Xat)=>XeA (ofG (g y0 y1 y2) rx10)
theorem r10_c {g:XaT} {y0:Int} {y1:Int} {y2:Xat} {x:Xbt} (hx:g y0 y1 y2=some x):r10 g [.int .i64 y0,.int .i64 y1,.agg ⟨[.int .u64 y2.A,.int .u64 y2.B]⟩] []=some (rx10 x):=(Xbz (Xd1 _)).trans ((Xbz (Xd1 _)).trans ((Xbz (Xim _)).trans (Xbc hx)))
def s10 (g:XaT):XcU:=⟨[.v,.v,.v],r10 g⟩
theorem Xfa {g:XaT} {y0:Int} {y1:Int} {y2:Xat} {x:Xbt} (hx:g y0 y1 y2=some x):(s10 g).run [.int .i64 y0,.int .i64 y1,.agg ⟨[.int .u64 y2.A,.int .u64 y2.B]⟩] []=some (rx10 x):=r10_c hx
abbrev XIw:List (Nat×XcU):=[]
theorem XFT (hS:XaF Try.prog (XaP (XIw))) (rows:Int) (places:Int) (k:Xat) (res:Xbt) (h:Xi7 rows places k=some res) :
 XaU Try.prog 10 0 ⟨⟨10,41,[(0,.int .i64 rows),(1,.int .i64 places),(2,.agg ⟨[.int .u64 k.A,.int .u64 k.B]⟩)],[.code XDG],[],false,none⟩,[],[],0⟩ (fun v H _=>Res 0 (rx10 res) v H):=by
 unfold Xi7 at h
 refine Xa4 XaM hS true 3000 ?_
 conv=>whnf
 refine br.h h (by rfl) ?_ ?_
 ·clear h;intro hb h;conv=>whnf
  all_goals (cases h;exact Res.y)
 clear h;intro hb h;conv=>whnf
 refine br.h h (by rfl) ?_ ?_
 ·clear h;intro hb h;conv=>whnf
  all_goals (cases h;exact Res.y)
 clear h;intro hb h;conv=>whnf
 refine br.h h (by rfl) ?_ ?_
 ·clear h;intro hb h;conv=>whnf
  all_goals (cases h;exact Res.y)
 clear h;intro hb h;conv=>whnf
 refine br.h h (by rfl) ?_ ?_
 ·clear h;intro hb h;conv=>whnf
  all_goals (cases h;exact Res.y)
 clear h;intro hb h;conv=>whnf
 refine Xa4 XaM hS true 3000 ?_
 conv=>whnf
 refine br.h2 h (by rfl) ?_ ?_
 ·clear h;intro hb h;conv=>whnf
  exact W
 clear h;intro hb h;conv=>whnf
 replace h:=XaQ.elim h;obtain ⟨hb,h⟩:=h
 try (refine req.intro hb ?_;conv=>whnf)
 refine Xmb ?_
 conv=>whnf
 refine ⟨[.slice (some ⟨8,0,none⟩) places.toNat 1],1,rfl,rfl,?_⟩
 conv=>whnf
 refine Xa4 XaM hS true 3000 ?_
 conv=>whnf
 refine br.h2 h (by rfl) ?_ ?_
 ·clear h;intro hb h;conv=>whnf
  all_goals (cases h)
  all_goals exact Res.of [1,12,8] rfl (Xiy (rfl) (Xhc rfl) (Xiy (rfl) (XcV rfl) (Xiy (Xjg) (XcV rfl) XtD))) (by decide) (Xiw (by decide) (Xiw (by decide) (Xiw (by decide) Xt7))) Xt4
 clear h;intro hb h;conv=>whnf
 replace h:=XaQ.elim h;obtain ⟨hb,h⟩:=h
 try (refine req.intro hb ?_;conv=>whnf)
 refine Xmb ?_
 conv=>whnf
 refine ⟨[.slice (some ⟨8,0,none⟩) places.toNat 1,.slice (some ⟨20,0,none⟩) places.toNat 1],2,rfl,rfl,?_⟩
 conv=>whnf
 refine Xa4 XaM hS true 3000 ?_
 conv=>whnf
 refine br.h2 h (by rfl) ?_ ?_
 ·clear h;intro hb h;conv=>whnf
  all_goals (cases h)
  all_goals exact Res.of [1,24,8,20] rfl (Xiy (rfl) (Xhc rfl) (Xiy (rfl) (XcV rfl) (Xiy (Xjg) (XcV rfl) (Xiy (Xjg) (XcV rfl) XtD)))) (by decide) (Xiw (by decide) (Xiw (by decide) (Xiw (by decide) (Xiw (by decide) Xt7)))) Xt4
 clear h;intro hb h;conv=>whnf
 replace h:=XaQ.elim h;obtain ⟨hb,h⟩:=h
 try (refine req.intro hb ?_;conv=>whnf)
 refine Xmb ?_
 conv=>whnf
 refine ⟨[.slice (some ⟨8,0,none⟩) places.toNat 1,.slice (some ⟨20,0,none⟩) places.toNat 1,.slice (some ⟨32,0,none⟩) places.toNat 1],3,rfl,rfl,?_⟩
 conv=>whnf
 refine Xa4 XaM hS true 3000 ?_
 conv=>whnf
 refine br.h2 h (by rfl) ?_ ?_
 ·clear h;intro hb h;conv=>whnf
  all_goals (cases h)
  all_goals exact Res.of [1,36,8,20,32] rfl (Xiy (rfl) (Xhc rfl) (Xiy (rfl) (XcV rfl) (Xiy (Xjg) (XcV rfl) (Xiy (Xjg) (XcV rfl) (Xiy (Xjg) (XcV rfl) XtD))))) (by decide) (Xiw (by decide) (Xiw (by decide) (Xiw (by decide) (Xiw (by decide) (Xiw (by decide) Xt7))))) Xt4
 clear h;intro hb h;conv=>whnf
 replace h:=XaQ.elim h;obtain ⟨hb,h⟩:=h
 try (refine req.intro hb ?_;conv=>whnf)
 refine Xmb ?_
 conv=>whnf
 refine ⟨[.slice (some ⟨8,0,none⟩) places.toNat 1,.slice (some ⟨20,0,none⟩) places.toNat 1,.slice (some ⟨32,0,none⟩) places.toNat 1,.slice (some ⟨44,0,none⟩) places.toNat 1],4,rfl,rfl,?_⟩
 conv=>whnf
 refine Xa4 XaM hS true 3000 ?_
 conv=>whnf
 refine br.h2 h (by rfl) ?_ ?_
 ·clear h;intro hb h;conv=>whnf
  all_goals (cases h)
  all_goals exact Res.of [1,48,8,20,32,44] rfl (Xiy (rfl) (Xhc rfl) (Xiy (rfl) (XcV rfl) (Xiy (Xjg) (XcV rfl) (Xiy (Xjg) (XcV rfl) (Xiy (Xjg) (XcV rfl) (Xiy (Xjg) (XcV rfl) XtD)))))) (by decide) (Xiw (by decide) (Xiw (by decide) (Xiw (by decide) (Xiw (by decide) (Xiw (by decide) (Xiw (by decide) Xt7)))))) Xt4
 clear h;intro hb h;conv=>whnf
 replace h:=XaQ.elim h;obtain ⟨hb,h⟩:=h
 try (refine req.intro hb ?_;conv=>whnf)
 refine Xmb ?_
 conv=>whnf
 refine ⟨[.slice (some ⟨8,0,none⟩) places.toNat 1,.slice (some ⟨20,0,none⟩) places.toNat 1,.slice (some ⟨32,0,none⟩) places.toNat 1,.slice (some ⟨44,0,none⟩) places.toNat 1,.slice (some ⟨56,0,none⟩) places.toNat 1],5,rfl,rfl,?_⟩
 conv=>whnf
 refine Xa4 XaM hS true 3000 ?_
 conv=>whnf
 refine br.h2 h (by rfl) ?_ ?_
 ·clear h;intro hb h;conv=>whnf
  all_goals (cases h)
  all_goals exact Res.of [1,60,8,20,32,44,56] rfl (Xiy (rfl) (Xhc rfl) (Xiy (rfl) (XcV rfl) (Xiy (Xjg) (XcV rfl) (Xiy (Xjg) (XcV rfl) (Xiy (Xjg) (XcV rfl) (Xiy (Xjg) (XcV rfl) (Xiy (Xjg) (XcV rfl) XtD))))))) (by decide) (Xiw (by decide) (Xiw (by decide) (Xiw (by decide) (Xiw (by decide) (Xiw (by decide) (Xiw (by decide) (Xiw (by decide) Xt7))))))) Xt4
 clear h;intro hb h;conv=>whnf
 replace h:=XaQ.elim h;obtain ⟨hb,h⟩:=h
 try (refine req.intro hb ?_;conv=>whnf)
 refine Xmb ?_
 conv=>whnf
 refine ⟨[.slice (some ⟨8,0,none⟩) places.toNat 1,.slice (some ⟨20,0,none⟩) places.toNat 1,.slice (some ⟨32,0,none⟩) places.toNat 1,.slice (some ⟨44,0,none⟩) places.toNat 1,.slice (some ⟨56,0,none⟩) places.toNat 1,.slice (some ⟨68,0,none⟩) places.toNat 1],6,rfl,rfl,?_⟩
 conv=>whnf
 refine Xa4 XaM hS true 3000 ?_
 conv=>whnf
 refine br.h2 h (by rfl) ?_ ?_
 ·clear h;intro hb h;conv=>whnf
  all_goals (cases h)
  all_goals exact Res.of [1,72,8,20,32,44,56,68] rfl (Xiy (rfl) (Xhc rfl) (Xiy (rfl) (XcV rfl) (Xiy (Xjg) (XcV rfl) (Xiy (Xjg) (XcV rfl) (Xiy (Xjg) (XcV rfl) (Xiy (Xjg) (XcV rfl) (Xiy (Xjg) (XcV rfl) (Xiy (Xjg) (XcV rfl) XtD)))))))) (by decide) (Xiw (by decide) (Xiw (by decide) (Xiw (by decide) (Xiw (by decide) (Xiw (by decide) (Xiw (by decide) (Xiw (by decide) (Xiw (by decide) Xt7)))))))) Xt4
 clear h;intro hb h;conv=>whnf
 replace h:=XaQ.elim h;obtain ⟨hb,h⟩:=h
 try (refine req.intro hb ?_;conv=>whnf)
 refine Xmb ?_
 conv=>whnf
 refine ⟨[.slice (some ⟨8,0,none⟩) places.toNat 1,.slice (some ⟨20,0,none⟩) places.toNat 1,.slice (some ⟨32,0,none⟩) places.toNat 1,.slice (some ⟨44,0,none⟩) places.toNat 1,.slice (some ⟨56,0,none⟩) places.toNat 1,.slice (some ⟨68,0,none⟩) places.toNat 1,.slice (some ⟨80,0,none⟩) places.toNat 1],7,rfl,rfl,?_⟩
 conv=>whnf
 refine Xa4 XaM hS true 3000 ?_
 conv=>whnf
 refine br.h2 h (by rfl) ?_ ?_
 ·clear h;intro hb h;conv=>whnf
  all_goals (cases h)
  all_goals exact Res.of [1,84,8,20,32,44,56,68,80] rfl (Xiy (rfl) (Xhc rfl) (Xiy (rfl) (XcV rfl) (Xiy (Xjg) (XcV rfl) (Xiy (Xjg) (XcV rfl) (Xiy (Xjg) (XcV rfl) (Xiy (Xjg) (XcV rfl) (Xiy (Xjg) (XcV rfl) (Xiy (Xjg) (XcV rfl) (Xiy (Xjg) (XcV rfl) XtD))))))))) (by decide) (Xiw (by decide) (Xiw (by decide) (Xiw (by decide) (Xiw (by decide) (Xiw (by decide) (Xiw (by decide) (Xiw (by decide) (Xiw (by decide) (Xiw (by decide) Xt7))))))))) Xt4
 clear h;intro hb h;conv=>whnf
 replace h:=XaQ.elim h;obtain ⟨hb,h⟩:=h
 try (refine req.intro hb ?_;conv=>whnf)
 refine Xmb ?_
 conv=>whnf
 refine ⟨[.slice (some ⟨8,0,none⟩) places.toNat 1,.slice (some ⟨20,0,none⟩) places.toNat 1,.slice (some ⟨32,0,none⟩) places.toNat 1,.slice (some ⟨44,0,none⟩) places.toNat 1,.slice (some ⟨56,0,none⟩) places.toNat 1,.slice (some ⟨68,0,none⟩) places.toNat 1,.slice (some ⟨80,0,none⟩) places.toNat 1,.slice (some ⟨92,0,none⟩) places.toNat 1],8,rfl,rfl,?_⟩
 conv=>whnf
 refine Xa4 XaM hS true 3000 ?_
 conv=>whnf
 refine br.h2 h (by rfl) ?_ ?_
 ·clear h;intro hb h;conv=>whnf
  all_goals (cases h)
  all_goals exact Res.of [1,96,8,20,32,44,56,68,80,92] rfl (Xiy (rfl) (Xhc rfl) (Xiy (rfl) (XcV rfl) (Xiy (Xjg) (XcV rfl) (Xiy (Xjg) (XcV rfl) (Xiy (Xjg) (XcV rfl) (Xiy (Xjg) (XcV rfl) (Xiy (Xjg) (XcV rfl) (Xiy (Xjg) (XcV rfl) (Xiy (Xjg) (XcV rfl) (Xiy (Xjg) (XcV rfl) XtD)))))))))) (by decide) (Xiw (by decide) (Xiw (by decide) (Xiw (by decide) (Xiw (by decide) (Xiw (by decide) (Xiw (by decide) (Xiw (by decide) (Xiw (by decide) (Xiw (by decide) (Xiw (by decide) Xt7)))))))))) Xt4
 clear h;intro hb h;conv=>whnf
 replace h:=XaQ.elim h;obtain ⟨hb,h⟩:=h
 try (refine req.intro hb ?_;conv=>whnf)
 refine Xmb ?_
 conv=>whnf
 refine ⟨[.slice (some ⟨8,0,none⟩) places.toNat 1,.slice (some ⟨20,0,none⟩) places.toNat 1,.slice (some ⟨32,0,none⟩) places.toNat 1,.slice (some ⟨44,0,none⟩) places.toNat 1,.slice (some ⟨56,0,none⟩) places.toNat 1,.slice (some ⟨68,0,none⟩) places.toNat 1,.slice (some ⟨80,0,none⟩) places.toNat 1,.slice (some ⟨92,0,none⟩) places.toNat 1,.slice (some ⟨104,0,none⟩) places.toNat 1],9,rfl,rfl,?_⟩
 conv=>whnf
 exact W
def Xao:XaT:=Xi7
theorem XJf:XeG Try.prog 10 (s10 Xao):=by
 have hL:=XFT (XaF.Xba trivial)
 exact okA ⟨Try.f10,rfl,by decide,rfl⟩
def XgH:Option Bool:=
 some (false)
def Xw0 (x:Bool):Xdu:=⟨.bool x,[],[none,none,none,none,none,none,none,none,none,none]⟩
abbrev XfT:=Option Bool
def r38vn (g:XfT):Dec:=dNl 10<|XeA (ofG (g) Xw0)
abbrev XB0:List (Nat×XcU):=[]
theorem XxG (hS:XaF Try.prog (XaP (XB0))) (res:Bool) (h:XgH=some res) :
 XaU Try.prog 38 10 ⟨⟨38,13,[(0,.pointer none)],[.code XnT],[],false,none⟩,[],[],10⟩ (fun v H _=>Res 10 (Xw0 res) v H):=by
 unfold XgH at h
 refine Xa4 XaM hS true 3000 ?_
 conv=>whnf
 exact W
def XgE (s:Xaz):Option Bool:=
 some (false)
def Xw3 (x:Bool):Xdu:=⟨.bool x,[],[none,none,none,none,none,none,none,none,none,none]⟩
abbrev XfY:=Xaz→Option Bool
def r38v0 (g:XfY):Dec:=dTr 10 (XcE 0) fun (y0:Xaz)=>XeA (ofG (g y0) Xw3)
abbrev XAG:List (Nat×XcU):=[]
theorem Xx7 (hS:XaF Try.prog (XaP (XAG))) (s:Xaz) (res:Bool) (h:XgE s=some res) :
 XaU Try.prog 38 10 ⟨⟨38,13,[(0,.pointer (some ⟨0,0,none⟩))],[.code XnT],[],false,none⟩,[],[(0,.row false [.int .u64 s.key.A,.int .u64 s.key.B,.slice none 0 0,.int .i64 s.total])],10⟩ (fun v H _=>Res 10 (Xw3 res) v H):=by
 unfold XgE at h
 have J:=js []
 refine Xa4 XaM hS true 3000 ?_
 conv=>whnf
 exact W
def XgY (s:XaA):Option Bool:=
 some (true)
def XxQ (x:Bool):Xdu:=⟨.bool x,[],[none,none,none,none,none,none,none,none,none,none]⟩
abbrev Xge:=XaA→Option Bool
def r38v1 (g:Xge):Dec:=dTr 10 (XbH 0) fun (y0:XaA)=>XeA (ofG (g y0) XxQ)
abbrev XBy:List (Nat×XcU):=[]
theorem XwC (hS:XaF Try.prog (XaP (XBy))) (s:XaA) (res:Bool) (h:XgY s=some res) :
 XaU Try.prog 38 10 ⟨⟨38,13,[(0,.pointer (some ⟨0,0,none⟩))],[.code XnT],[],false,none⟩,[],[(0,.row false [.int .u64 s.key.A,.int .u64 s.key.B,.slice (some ⟨1,0,none⟩) 1 1,.int .i64 s.total]),(1,.row false [.slice (some ⟨2,0,none⟩) s.rows.m0 1]),(2,.row false (vI .i64 s.rows.e0))],10⟩ (fun v H _=>Res 10 (XxQ res) v H):=by
 unfold XgY at h
 have J:=js []
 refine Xa4 XaM hS true 3000 ?_
 conv=>whnf
 exact W
def XgS (s:Xax):Option Bool:=
 some (true)
def XzE (x:Bool):Xdu:=⟨.bool x,[],[none,none,none,none,none,none,none,none,none,none]⟩
abbrev Xfr:=Xax→Option Bool
def r38v2 (g:Xfr):Dec:=dTr 10 (XbL 0) fun (y0:Xax)=>XeA (ofG (g y0) XzE)
abbrev XBL:List (Nat×XcU):=[]
theorem Xzl (hS:XaF Try.prog (XaP (XBL))) (s:Xax) (res:Bool) (h:XgS s=some res) :
 XaU Try.prog 38 10 ⟨⟨38,13,[(0,.pointer (some ⟨0,0,none⟩))],[.code XnT],[],false,none⟩,[],[(0,.row false [.int .u64 s.key.A,.int .u64 s.key.B,.slice (some ⟨1,0,none⟩) 2 1,.int .i64 s.total]),(1,.row false [.slice (some ⟨2,0,none⟩) s.rows.m0 1,.slice (some ⟨3,0,none⟩) s.rows.m1 1]),(2,.row false (vI .i64 s.rows.e0)),(3,.row false (vI .i64 s.rows.e1))],10⟩ (fun v H _=>Res 10 (XzE res) v H):=by
 unfold XgS at h
 have J:=js []
 refine Xa4 XaM hS true 3000 ?_
 conv=>whnf
 exact W
def XgT (s:Xau):Option Bool:=
 some (true)
def XwD (x:Bool):Xdu:=⟨.bool x,[],[none,none,none,none,none,none,none,none,none,none]⟩
abbrev XfK:=Xau→Option Bool
def r38v3 (g:XfK):Dec:=dTr 10 (XbK 0) fun (y0:Xau)=>XeA (ofG (g y0) XwD)
abbrev XAA:List (Nat×XcU):=[]
theorem Xzs (hS:XaF Try.prog (XaP (XAA))) (s:Xau) (res:Bool) (h:XgT s=some res) :
 XaU Try.prog 38 10 ⟨⟨38,13,[(0,.pointer (some ⟨0,0,none⟩))],[.code XnT],[],false,none⟩,[],[(0,.row false [.int .u64 s.key.A,.int .u64 s.key.B,.slice (some ⟨1,0,none⟩) 3 1,.int .i64 s.total]),(1,.row false [.slice (some ⟨2,0,none⟩) s.rows.m0 1,.slice (some ⟨3,0,none⟩) s.rows.m1 1,.slice (some ⟨4,0,none⟩) s.rows.m2 1]),(2,.row false (vI .i64 s.rows.e0)),(3,.row false (vI .i64 s.rows.e1)),(4,.row false (vI .i64 s.rows.e2))],10⟩ (fun v H _=>Res 10 (XwD res) v H):=by
 unfold XgT at h
 have J:=js []
 refine Xa4 XaM hS true 3000 ?_
 conv=>whnf
 exact W
def Xg3 (s:Xar):Option Bool:=
 some (true)
def Xwy (x:Bool):Xdu:=⟨.bool x,[],[none,none,none,none,none,none,none,none,none,none]⟩
abbrev XfH:=Xar→Option Bool
def r38v4 (g:XfH):Dec:=dTr 10 (XbJ 0) fun (y0:Xar)=>XeA (ofG (g y0) Xwy)
abbrev XAS:List (Nat×XcU):=[]
theorem XzZ (hS:XaF Try.prog (XaP (XAS))) (s:Xar) (res:Bool) (h:Xg3 s=some res) :
 XaU Try.prog 38 10 ⟨⟨38,13,[(0,.pointer (some ⟨0,0,none⟩))],[.code XnT],[],false,none⟩,[],[(0,.row false [.int .u64 s.key.A,.int .u64 s.key.B,.slice (some ⟨1,0,none⟩) 4 1,.int .i64 s.total]),(1,.row false [.slice (some ⟨2,0,none⟩) s.rows.m0 1,.slice (some ⟨3,0,none⟩) s.rows.m1 1,.slice (some ⟨4,0,none⟩) s.rows.m2 1,.slice (some ⟨5,0,none⟩) s.rows.m3 1]),(2,.row false (vI .i64 s.rows.e0)),(3,.row false (vI .i64 s.rows.e1)),(4,.row false (vI .i64 s.rows.e2)),(5,.row false (vI .i64 s.rows.e3))],10⟩ (fun v H _=>Res 10 (Xwy res) v H):=by
 unfold Xg3 at h
 have J:=js []
 refine Xa4 XaM hS true 3000 ?_
 conv=>whnf
 exact W
def Xg8 (s:Xap):Option Bool:=
 some (true)
def XwB (x:Bool):Xdu:=⟨.bool x,[],[none,none,none,none,none,none,none,none,none,none]⟩
abbrev Xf9:=Xap→Option Bool
def r38v5 (g:Xf9):Dec:=dTr 10 (XbG 0) fun (y0:Xap)=>XeA (ofG (g y0) XwB)
abbrev XBu:List (Nat×XcU):=[]
theorem Xw8 (hS:XaF Try.prog (XaP (XBu))) (s:Xap) (res:Bool) (h:Xg8 s=some res) :
 XaU Try.prog 38 10 ⟨⟨38,13,[(0,.pointer (some ⟨0,0,none⟩))],[.code XnT],[],false,none⟩,[],[(0,.row false [.int .u64 s.key.A,.int .u64 s.key.B,.slice (some ⟨1,0,none⟩) 5 1,.int .i64 s.total]),(1,.row false [.slice (some ⟨2,0,none⟩) s.rows.m0 1,.slice (some ⟨3,0,none⟩) s.rows.m1 1,.slice (some ⟨4,0,none⟩) s.rows.m2 1,.slice (some ⟨5,0,none⟩) s.rows.m3 1,.slice (some ⟨6,0,none⟩) s.rows.m4 1]),(2,.row false (vI .i64 s.rows.e0)),(3,.row false (vI .i64 s.rows.e1)),(4,.row false (vI .i64 s.rows.e2)),(5,.row false (vI .i64 s.rows.e3)),(6,.row false (vI .i64 s.rows.e4))],10⟩ (fun v H _=>Res 10 (XwB res) v H):=by
 unfold Xg8 at h
 have J:=js []
 refine Xa4 XaM hS true 3000 ?_
 conv=>whnf
 exact W
def XgK (s:Xan):Option Bool:=
 some (true)
def Xw4 (x:Bool):Xdu:=⟨.bool x,[],[none,none,none,none,none,none,none,none,none,none]⟩
abbrev Xf8:=Xan→Option Bool
def r38v6 (g:Xf8):Dec:=dTr 10 (XbF 0) fun (y0:Xan)=>XeA (ofG (g y0) Xw4)
abbrev XCa:List (Nat×XcU):=[]
theorem Xxo (hS:XaF Try.prog (XaP (XCa))) (s:Xan) (res:Bool) (h:XgK s=some res) :
 XaU Try.prog 38 10 ⟨⟨38,13,[(0,.pointer (some ⟨0,0,none⟩))],[.code XnT],[],false,none⟩,[],[(0,.row false [.int .u64 s.key.A,.int .u64 s.key.B,.slice (some ⟨1,0,none⟩) 6 1,.int .i64 s.total]),(1,.row false [.slice (some ⟨2,0,none⟩) s.rows.m0 1,.slice (some ⟨3,0,none⟩) s.rows.m1 1,.slice (some ⟨4,0,none⟩) s.rows.m2 1,.slice (some ⟨5,0,none⟩) s.rows.m3 1,.slice (some ⟨6,0,none⟩) s.rows.m4 1,.slice (some ⟨7,0,none⟩) s.rows.m5 1]),(2,.row false (vI .i64 s.rows.e0)),(3,.row false (vI .i64 s.rows.e1)),(4,.row false (vI .i64 s.rows.e2)),(5,.row false (vI .i64 s.rows.e3)),(6,.row false (vI .i64 s.rows.e4)),(7,.row false (vI .i64 s.rows.e5))],10⟩ (fun v H _=>Res 10 (Xw4 res) v H):=by
 unfold XgK at h
 have J:=js []
 refine Xa4 XaM hS true 3000 ?_
 conv=>whnf
 exact W
def XgL (s:Xal):Option Bool:=
 some (true)
def XyY (x:Bool):Xdu:=⟨.bool x,[],[none,none,none,none,none,none,none,none,none,none]⟩
abbrev Xf6:=Xal→Option Bool
def r38v7 (g:Xf6):Dec:=dTr 10 (XbM 0) fun (y0:Xal)=>XeA (ofG (g y0) XyY)
abbrev XAk:List (Nat×XcU):=[]
theorem XyN (hS:XaF Try.prog (XaP (XAk))) (s:Xal) (res:Bool) (h:XgL s=some res) :
 XaU Try.prog 38 10 ⟨⟨38,13,[(0,.pointer (some ⟨0,0,none⟩))],[.code XnT],[],false,none⟩,[],[(0,.row false [.int .u64 s.key.A,.int .u64 s.key.B,.slice (some ⟨1,0,none⟩) 7 1,.int .i64 s.total]),(1,.row false [.slice (some ⟨2,0,none⟩) s.rows.m0 1,.slice (some ⟨3,0,none⟩) s.rows.m1 1,.slice (some ⟨4,0,none⟩) s.rows.m2 1,.slice (some ⟨5,0,none⟩) s.rows.m3 1,.slice (some ⟨6,0,none⟩) s.rows.m4 1,.slice (some ⟨7,0,none⟩) s.rows.m5 1,.slice (some ⟨8,0,none⟩) s.rows.m6 1]),(2,.row false (vI .i64 s.rows.e0)),(3,.row false (vI .i64 s.rows.e1)),(4,.row false (vI .i64 s.rows.e2)),(5,.row false (vI .i64 s.rows.e3)),(6,.row false (vI .i64 s.rows.e4)),(7,.row false (vI .i64 s.rows.e5)),(8,.row false (vI .i64 s.rows.e6))],10⟩ (fun v H _=>Res 10 (XyY res) v H):=by
 unfold XgL at h
 have J:=js []
 refine Xa4 XaM hS true 3000 ?_
 conv=>whnf
 exact W
def XgN (s:Xak):Option Bool:=
 some (true)
def Xzb (x:Bool):Xdu:=⟨.bool x,[],[none,none,none,none,none,none,none,none,none,none]⟩
abbrev Xf3:=Xak→Option Bool
def r38v8 (g:Xf3):Dec:=dTr 10 (XbE 0) fun (y0:Xak)=>XeA (ofG (g y0) Xzb)
abbrev XBO:List (Nat×XcU):=[]
theorem Xys (hS:XaF Try.prog (XaP (XBO))) (s:Xak) (res:Bool) (h:XgN s=some res) :
 XaU Try.prog 38 10 ⟨⟨38,13,[(0,.pointer (some ⟨0,0,none⟩))],[.code XnT],[],false,none⟩,[],[(0,.row false [.int .u64 s.key.A,.int .u64 s.key.B,.slice (some ⟨1,0,none⟩) 8 1,.int .i64 s.total]),(1,.row false [.slice (some ⟨2,0,none⟩) s.rows.m0 1,.slice (some ⟨3,0,none⟩) s.rows.m1 1,.slice (some ⟨4,0,none⟩) s.rows.m2 1,.slice (some ⟨5,0,none⟩) s.rows.m3 1,.slice (some ⟨6,0,none⟩) s.rows.m4 1,.slice (some ⟨7,0,none⟩) s.rows.m5 1,.slice (some ⟨8,0,none⟩) s.rows.m6 1,.slice (some ⟨9,0,none⟩) s.rows.m7 1]),(2,.row false (vI .i64 s.rows.e0)),(3,.row false (vI .i64 s.rows.e1)),(4,.row false (vI .i64 s.rows.e2)),(5,.row false (vI .i64 s.rows.e3)),(6,.row false (vI .i64 s.rows.e4)),(7,.row false (vI .i64 s.rows.e5)),(8,.row false (vI .i64 s.rows.e6)),(9,.row false (vI .i64 s.rows.e7))],10⟩ (fun v H _=>Res 10 (Xzb res) v H):=by
 unfold XgN at h
 have J:=js []
 refine Xa4 XaM hS true 3000 ?_
 conv=>whnf
 exact W
structure Xag where
 vn:XfT
 v0:XfY
 v1:Xge
 v2:Xfr
 v3:XfK
 v4:XfH
 v5:Xf9
 v6:Xf8
 v7:Xf6
 v8:Xf3
def s38 (g:Xag):XcU:=⟨[.tr [⟨none,0,0,0,none⟩,⟨some 0,2,0,0,none⟩,⟨some 1,0,0,0,none⟩,⟨some 1,1,0,0,none⟩,⟨some 1,2,0,0,none⟩,⟨some 1,3,0,0,none⟩,⟨some 1,4,0,0,none⟩,⟨some 1,5,0,0,none⟩,⟨some 1,6,0,0,none⟩,⟨some 1,7,0,0,none⟩]],orD (r38vn g.vn) (orD (r38v0 g.v0) (orD (r38v1 g.v1) (orD (r38v2 g.v2) (orD (r38v3 g.v3) (orD (r38v4 g.v4) (orD (r38v5 g.v5) (orD (r38v6 g.v6) (orD (r38v7 g.v7) (r38v8 g.v8)))))))))⟩
theorem Xpw {g:Xag} {x:Bool} (hx:g.vn=some x):(s38 g).run [.pointer none] [none,none,none,none,none,none,none,none,none,none]=some (Xw0 x):=by dsimp only [s38];exact (XdM ((XtU).trans (Xbc hx)))
theorem Xnv {g:Xag} {y0:Xaz} {x:Bool} (hx:g.v0 y0=some x):(s38 g).run [.pointer (some ⟨0,0,none⟩)] [some [.int .u64 y0.key.A,.int .u64 y0.key.B,.slice none 0 0,.int .i64 y0.total],none,none,none,none,none,none,none,none,none]=some (Xw3 x):=by dsimp only [s38];exact (XaL rfl (XdM ((Xbn rfl rfl (Xfe 0 _)).trans (Xbc hx))))
theorem Xmm {g:Xag} {y0:XaA} {x:Bool} (hx:g.v1 y0=some x):(s38 g).run [.pointer (some ⟨0,0,none⟩)] [some [.int .u64 y0.key.A,.int .u64 y0.key.B,.slice (some ⟨1,0,none⟩) 1 1,.int .i64 y0.total],some [.slice (some ⟨2,0,none⟩) y0.rows.m0 1],some (vI .i64 y0.rows.e0),none,none,none,none,none,none,none]=some (XxQ x):=by dsimp only [s38];exact (XaL rfl (XaL rfl (XdM ((Xbn rfl rfl (XcR 0 _)).trans (Xbc hx)))))
theorem Xmn {g:Xag} {y0:Xax} {x:Bool} (hx:g.v2 y0=some x):(s38 g).run [.pointer (some ⟨0,0,none⟩)] [some [.int .u64 y0.key.A,.int .u64 y0.key.B,.slice (some ⟨1,0,none⟩) 2 1,.int .i64 y0.total],some [.slice (some ⟨2,0,none⟩) y0.rows.m0 1,.slice (some ⟨3,0,none⟩) y0.rows.m1 1],some (vI .i64 y0.rows.e0),some (vI .i64 y0.rows.e1),none,none,none,none,none,none]=some (XzE x):=by dsimp only [s38];exact (XaL rfl (XaL rfl (XaL rfl (XdM ((Xbn rfl rfl (XcM 0 _)).trans (Xbc hx))))))
theorem Xmy {g:Xag} {y0:Xau} {x:Bool} (hx:g.v3 y0=some x):(s38 g).run [.pointer (some ⟨0,0,none⟩)] [some [.int .u64 y0.key.A,.int .u64 y0.key.B,.slice (some ⟨1,0,none⟩) 3 1,.int .i64 y0.total],some [.slice (some ⟨2,0,none⟩) y0.rows.m0 1,.slice (some ⟨3,0,none⟩) y0.rows.m1 1,.slice (some ⟨4,0,none⟩) y0.rows.m2 1],some (vI .i64 y0.rows.e0),some (vI .i64 y0.rows.e1),some (vI .i64 y0.rows.e2),none,none,none,none,none]=some (XwD x):=by dsimp only [s38];exact (XaL rfl (XaL rfl (XaL rfl (XaL rfl (XdM ((Xbn rfl rfl (XcK 0 _)).trans (Xbc hx)))))))
theorem Xl5 {g:Xag} {y0:Xar} {x:Bool} (hx:g.v4 y0=some x):(s38 g).run [.pointer (some ⟨0,0,none⟩)] [some [.int .u64 y0.key.A,.int .u64 y0.key.B,.slice (some ⟨1,0,none⟩) 4 1,.int .i64 y0.total],some [.slice (some ⟨2,0,none⟩) y0.rows.m0 1,.slice (some ⟨3,0,none⟩) y0.rows.m1 1,.slice (some ⟨4,0,none⟩) y0.rows.m2 1,.slice (some ⟨5,0,none⟩) y0.rows.m3 1],some (vI .i64 y0.rows.e0),some (vI .i64 y0.rows.e1),some (vI .i64 y0.rows.e2),some (vI .i64 y0.rows.e3),none,none,none,none]=some (Xwy x):=by dsimp only [s38];exact (XaL rfl (XaL rfl (XaL rfl (XaL rfl (XaL rfl (XdM ((Xbn rfl rfl (XcN 0 _)).trans (Xbc hx))))))))
theorem Xmk {g:Xag} {y0:Xap} {x:Bool} (hx:g.v5 y0=some x):(s38 g).run [.pointer (some ⟨0,0,none⟩)] [some [.int .u64 y0.key.A,.int .u64 y0.key.B,.slice (some ⟨1,0,none⟩) 5 1,.int .i64 y0.total],some [.slice (some ⟨2,0,none⟩) y0.rows.m0 1,.slice (some ⟨3,0,none⟩) y0.rows.m1 1,.slice (some ⟨4,0,none⟩) y0.rows.m2 1,.slice (some ⟨5,0,none⟩) y0.rows.m3 1,.slice (some ⟨6,0,none⟩) y0.rows.m4 1],some (vI .i64 y0.rows.e0),some (vI .i64 y0.rows.e1),some (vI .i64 y0.rows.e2),some (vI .i64 y0.rows.e3),some (vI .i64 y0.rows.e4),none,none,none]=some (XwB x):=by dsimp only [s38];exact (XaL rfl (XaL rfl (XaL rfl (XaL rfl (XaL rfl (XaL rfl (XdM ((Xbn rfl rfl (XcO 0 _)).trans (Xbc hx)))))))))
theorem Xmt {g:Xag} {y0:Xan} {x:Bool} (hx:g.v6 y0=some x):(s38 g).run [.pointer (some ⟨0,0,none⟩)] [some [.int .u64 y0.key.A,.int .u64 y0.key.B,.slice (some ⟨1,0,none⟩) 6 1,.int .i64 y0.total],some [.slice (some ⟨2,0,none⟩) y0.rows.m0 1,.slice (some ⟨3,0,none⟩) y0.rows.m1 1,.slice (some ⟨4,0,none⟩) y0.rows.m2 1,.slice (some ⟨5,0,none⟩) y0.rows.m3 1,.slice (some ⟨6,0,none⟩) y0.rows.m4 1,.slice (some ⟨7,0,none⟩) y0.rows.m5 1],some (vI .i64 y0.rows.e0),some (vI .i64 y0.rows.e1),some (vI .i64 y0.rows.e2),some (vI .i64 y0.rows.e3),some (vI .i64 y0.rows.e4),some (vI .i64 y0.rows.e5),none,none]=some (Xw4 x):=by dsimp only [s38];exact (XaL rfl (XaL rfl (XaL rfl (XaL rfl (XaL rfl (XaL rfl (XaL rfl (XdM ((Xbn rfl rfl (XcQ 0 _)).trans (Xbc hx))))))))))
theorem XmI {g:Xag} {y0:Xal} {x:Bool} (hx:g.v7 y0=some x):(s38 g).run [.pointer (some ⟨0,0,none⟩)] [some [.int .u64 y0.key.A,.int .u64 y0.key.B,.slice (some ⟨1,0,none⟩) 7 1,.int .i64 y0.total],some [.slice (some ⟨2,0,none⟩) y0.rows.m0 1,.slice (some ⟨3,0,none⟩) y0.rows.m1 1,.slice (some ⟨4,0,none⟩) y0.rows.m2 1,.slice (some ⟨5,0,none⟩) y0.rows.m3 1,.slice (some ⟨6,0,none⟩) y0.rows.m4 1,.slice (some ⟨7,0,none⟩) y0.rows.m5 1,.slice (some ⟨8,0,none⟩) y0.rows.m6 1],some (vI .i64 y0.rows.e0),some (vI .i64 y0.rows.e1),some (vI .i64 y0.rows.e2),some (vI .i64 y0.rows.e3),some (vI .i64 y0.rows.e4),some (vI .i64 y0.rows.e5),some (vI .i64 y0.rows.e6),none]=some (XyY x):=by dsimp only [s38];exact (XaL rfl (XaL rfl (XaL rfl (XaL rfl (XaL rfl (XaL rfl (XaL rfl (XaL rfl (XdM ((Xbn rfl rfl (XcL 0 _)).trans (Xbc hx)))))))))))
theorem Xms {g:Xag} {y0:Xak} {x:Bool} (hx:g.v8 y0=some x):(s38 g).run [.pointer (some ⟨0,0,none⟩)] [some [.int .u64 y0.key.A,.int .u64 y0.key.B,.slice (some ⟨1,0,none⟩) 8 1,.int .i64 y0.total],some [.slice (some ⟨2,0,none⟩) y0.rows.m0 1,.slice (some ⟨3,0,none⟩) y0.rows.m1 1,.slice (some ⟨4,0,none⟩) y0.rows.m2 1,.slice (some ⟨5,0,none⟩) y0.rows.m3 1,.slice (some ⟨6,0,none⟩) y0.rows.m4 1,.slice (some ⟨7,0,none⟩) y0.rows.m5 1,.slice (some ⟨8,0,none⟩) y0.rows.m6 1,.slice (some ⟨9,0,none⟩) y0.rows.m7 1],some (vI .i64 y0.rows.e0),some (vI .i64 y0.rows.e1),some (vI .i64 y0.rows.e2),some (vI .i64 y0.rows.e3),some (vI .i64 y0.rows.e4),some (vI .i64 y0.rows.e5),some (vI .i64 y0.rows.e6),some (vI .i64 y0.rows.e7)]=some (Xzb x):=by dsimp only [s38];exact (XaL rfl (XaL rfl (XaL rfl (XaL rfl (XaL rfl (XaL rfl (XaL rfl (XaL rfl (XaL rfl ((Xbn rfl rfl (XcP 0 _)).trans (Xbc hx)))))))))))
def Xku:XfT:=XgH
def Xkh:XfY:=XgE
def Xkf:Xge:=XgY
def Xky:Xfr:=XgS
def XkP:XfK:=XgT
def XkM:XfH:=Xg3
def Xkz:Xf9:=Xg8
def Xke:Xf8:=XgK
def Xkm:Xf6:=XgL
def XkB:Xf3:=XgN
def Xaa:Xag:=⟨Xku,Xkh,Xkf,Xky,XkP,XkM,Xkz,Xke,Xkm,XkB⟩
theorem Xc9:XeG Try.prog 38 (s38 Xaa):=by
 have L0:=XxG (XaF.Xba trivial)
 have L1:=Xx7 (XaF.Xba trivial)
 have L2:=XwC (XaF.Xba trivial)
 have L3:=Xzl (XaF.Xba trivial)
 have L4:=Xzs (XaF.Xba trivial)
 have L5:=XzZ (XaF.Xba trivial)
 have L6:=Xw8 (XaF.Xba trivial)
 have L7:=Xxo (XaF.Xba trivial)
 have L8:=XyN (XaF.Xba trivial)
 have L9:=Xys (XaF.Xba trivial)
 refine XeG.Xjn XaM (fun ar os r ha hr=>?_) ⟨Try.f38,rfl,by decide,rfl⟩
 generalize hc:XiS os=C at hr
 replace hr:=orD.elim hr;rcases hr with hr|hr
 ·have LL:=L0;exact okB
 replace hr:=orD.elim hr;rcases hr with hr|hr
 ·have LL:=L1;have U1:=@XdZ;exact okB
 replace hr:=orD.elim hr;rcases hr with hr|hr
 ·have LL:=L2;have U1:=@Xc2;exact okB
 replace hr:=orD.elim hr;rcases hr with hr|hr
 ·have LL:=L3;have U1:=@Xc6;exact okB
 replace hr:=orD.elim hr;rcases hr with hr|hr
 ·have LL:=L4;have U1:=@XcW;exact okB
 replace hr:=orD.elim hr;rcases hr with hr|hr
 ·have LL:=L5;have U1:=@Xc3;exact okB
 replace hr:=orD.elim hr;rcases hr with hr|hr
 ·have LL:=L6;have U1:=@Xc4;exact okB
 replace hr:=orD.elim hr;rcases hr with hr|hr
 ·have LL:=L7;have U1:=@Xc1;exact okB
 replace hr:=orD.elim hr;rcases hr with hr|hr
 ·have LL:=L8;have U1:=@XcX;exact okB
 have LL:=L9;have U1:=@XcY;exact okB
def Xg7 (Xaa:Xag) (i:Int) (text:List UInt8):Option Int:=
 (Xaa.vn).bind fun n=>
 cond (!n)
  (
  some ((-1)))
  (
  cond (decide (i<0))
   (
   some ((-1)))
   (
   none))
def Xws (x:Int):Xdu:=⟨.int .i64 x,[],[none,none,none,none,none,none,none,none,none,none]⟩
abbrev XfU:=Int→(List UInt8)→Option Int
def r20vn (g:XfU):Dec:=dNl 10<|dV (asI .i64) fun (y1:Int)=>dV asS fun (y2:List UInt8)=>XeA (ofG (g y1 y2) Xws)
abbrev XA7 (Xaa:Xag):List (Nat×XcU):=[(38,s38 Xaa)]
theorem Xzw (Xaa:Xag) (hS:XaF Try.prog (XaP (XA7 Xaa))) (i:Int) (text:List UInt8) (res:Int) (h:Xg7 Xaa i text=some res) :
 XaU Try.prog 20 10 ⟨⟨20,50,[(0,.pointer none),(1,.int .i64 i),(2,.string ⟨⟨text⟩⟩)],[.code XlB],[],false,none⟩,[],[],10⟩ (fun v H _=>Res 10 (Xws res) v H):=by
 unfold Xg7 at h
 have R1:=@Xpw Xaa
 refine Xa4 XaM hS true 3000 ?_
 conv=>whnf
 exact W
def XdR (XaD:Xbe) (XaW:Xbl) (Xaa:Xag) (s:XaA) (i:Int) (text:List UInt8):Option Int:=
 (Xaa.v1 s).bind fun x1=>
 cond (!x1)
  (
  some ((-1)))
  (
  cond (decide (i<0))
   (
   some ((-1)))
   (
   cond (decide (i≥1))
    (
    some ((-1)))
    (
    (XaW (Xat.mk (wI .u64 (s.key.A+(wI .u64 i))) s.key.B) text).bind fun xh=>
    XaQ (decide ((0:Int)≤i∧i<(1:Int))) <|
    cond (i.toNat==0)
     (
     (XaD xh (s.rows.m0:Int)).bind fun s1=>
     some (s1))
     (
     none))))
def XyB (x:Int):Xdu:=⟨.int .i64 x,[],[none,none,none,none,none,none,none,none,none,none]⟩
abbrev XfZ:=XaA→Int→(List UInt8)→Option Int
def r20v1 (g:XfZ):Dec:=dTr 10 (XbH 0) fun (y0:XaA)=>dV (asI .i64) fun (y1:Int)=>dV asS fun (y2:List UInt8)=>XeA (ofG (g y0 y1 y2) XyB)
abbrev XB2 (XaD:Xbe) (XaW:Xbl) (Xaa:Xag):List (Nat×XcU):=[(46,s46 XaD),(47,s47 XaW),(38,s38 Xaa)]
theorem Xwh (XaD:Xbe) (XaW:Xbl) (Xaa:Xag) (hS:XaF Try.prog (XaP (XB2 XaD XaW Xaa))) (s:XaA) (i:Int) (text:List UInt8) (res:Int) (h:XdR XaD XaW Xaa s i text=some res) :
 XaU Try.prog 20 10 ⟨⟨20,50,[(0,.pointer (some ⟨0,0,none⟩)),(1,.int .i64 i),(2,.string ⟨⟨text⟩⟩)],[.code XlB],[],false,none⟩,[],[(0,.row false [.int .u64 s.key.A,.int .u64 s.key.B,.slice (some ⟨1,0,none⟩) 1 1,.int .i64 s.total]),(1,.row false [.slice (some ⟨2,0,none⟩) s.rows.m0 1]),(2,.row false (vI .i64 s.rows.e0))],10⟩ (fun v H _=>Res 10 (XyB res) v H):=by
 unfold XdR at h
 have R1:=@Xmm Xaa
 have R2:=@Xnd XaW
 have R3:=@Xm3 XaD
 have J:=js []
 refine Xa4 XaM hS true 3000 ?_
 conv=>whnf
 exact W
def XdT (XaD:Xbe) (XaW:Xbl) (Xaa:Xag) (s:Xax) (i:Int) (text:List UInt8):Option Int:=
 (Xaa.v2 s).bind fun x2=>
 cond (!x2)
  (
  some ((-1)))
  (
  cond (decide (i<0))
   (
   some ((-1)))
   (
   cond (decide (i≥2))
    (
    some ((-1)))
    (
    (XaW (Xat.mk (wI .u64 (s.key.A+(wI .u64 i))) s.key.B) text).bind fun xh=>
    XaQ (decide ((0:Int)≤i∧i<(2:Int))) <|
    cond (i.toNat==0)
     (
     (XaD xh (s.rows.m0:Int)).bind fun s1=>
     some (s1))
     (
     cond (i.toNat==1)
      (
      (XaD xh (s.rows.m1:Int)).bind fun s2=>
      some (s2))
      (
      none)))))
def XwK (x:Int):Xdu:=⟨.int .i64 x,[],[none,none,none,none,none,none,none,none,none,none]⟩
abbrev XfX:=Xax→Int→(List UInt8)→Option Int
def r20v2 (g:XfX):Dec:=dTr 10 (XbL 0) fun (y0:Xax)=>dV (asI .i64) fun (y1:Int)=>dV asS fun (y2:List UInt8)=>XeA (ofG (g y0 y1 y2) XwK)
abbrev XCw (XaD:Xbe) (XaW:Xbl) (Xaa:Xag):List (Nat×XcU):=[(46,s46 XaD),(47,s47 XaW),(38,s38 Xaa)]
theorem Xzf (XaD:Xbe) (XaW:Xbl) (Xaa:Xag) (hS:XaF Try.prog (XaP (XCw XaD XaW Xaa))) (s:Xax) (i:Int) (text:List UInt8) (res:Int) (h:XdT XaD XaW Xaa s i text=some res) :
 XaU Try.prog 20 10 ⟨⟨20,50,[(0,.pointer (some ⟨0,0,none⟩)),(1,.int .i64 i),(2,.string ⟨⟨text⟩⟩)],[.code XlB],[],false,none⟩,[],[(0,.row false [.int .u64 s.key.A,.int .u64 s.key.B,.slice (some ⟨1,0,none⟩) 2 1,.int .i64 s.total]),(1,.row false [.slice (some ⟨2,0,none⟩) s.rows.m0 1,.slice (some ⟨3,0,none⟩) s.rows.m1 1]),(2,.row false (vI .i64 s.rows.e0)),(3,.row false (vI .i64 s.rows.e1))],10⟩ (fun v H _=>Res 10 (XwK res) v H):=by
 unfold XdT at h
 have R1:=@Xmn Xaa
 have R2:=@Xnd XaW
 have R3:=@Xm3 XaD
 have J:=js []
 refine Xa4 XaM hS true 3000 ?_
 conv=>whnf
 exact W
def XdQ (XaD:Xbe) (XaW:Xbl) (Xaa:Xag) (s:Xau) (i:Int) (text:List UInt8):Option Int:=
 (Xaa.v3 s).bind fun x3=>
 cond (!x3)
  (
  some ((-1)))
  (
  cond (decide (i<0))
   (
   some ((-1)))
   (
   cond (decide (i≥3))
    (
    some ((-1)))
    (
    (XaW (Xat.mk (wI .u64 (s.key.A+(wI .u64 i))) s.key.B) text).bind fun xh=>
    XaQ (decide ((0:Int)≤i∧i<(3:Int))) <|
    cond (i.toNat==0)
     (
     (XaD xh (s.rows.m0:Int)).bind fun s1=>
     some (s1))
     (
     cond (i.toNat==1)
      (
      (XaD xh (s.rows.m1:Int)).bind fun s2=>
      some (s2))
      (
      cond (i.toNat==2)
       (
       (XaD xh (s.rows.m2:Int)).bind fun s3=>
       some (s3))
       (
       none))))))
def XwJ (x:Int):Xdu:=⟨.int .i64 x,[],[none,none,none,none,none,none,none,none,none,none]⟩
abbrev Xf5:=Xau→Int→(List UInt8)→Option Int
def r20v3 (g:Xf5):Dec:=dTr 10 (XbK 0) fun (y0:Xau)=>dV (asI .i64) fun (y1:Int)=>dV asS fun (y2:List UInt8)=>XeA (ofG (g y0 y1 y2) XwJ)
abbrev XCh (XaD:Xbe) (XaW:Xbl) (Xaa:Xag):List (Nat×XcU):=[(46,s46 XaD),(47,s47 XaW),(38,s38 Xaa)]
theorem Xwi (XaD:Xbe) (XaW:Xbl) (Xaa:Xag) (hS:XaF Try.prog (XaP (XCh XaD XaW Xaa))) (s:Xau) (i:Int) (text:List UInt8) (res:Int) (h:XdQ XaD XaW Xaa s i text=some res) :
 XaU Try.prog 20 10 ⟨⟨20,50,[(0,.pointer (some ⟨0,0,none⟩)),(1,.int .i64 i),(2,.string ⟨⟨text⟩⟩)],[.code XlB],[],false,none⟩,[],[(0,.row false [.int .u64 s.key.A,.int .u64 s.key.B,.slice (some ⟨1,0,none⟩) 3 1,.int .i64 s.total]),(1,.row false [.slice (some ⟨2,0,none⟩) s.rows.m0 1,.slice (some ⟨3,0,none⟩) s.rows.m1 1,.slice (some ⟨4,0,none⟩) s.rows.m2 1]),(2,.row false (vI .i64 s.rows.e0)),(3,.row false (vI .i64 s.rows.e1)),(4,.row false (vI .i64 s.rows.e2))],10⟩ (fun v H _=>Res 10 (XwJ res) v H):=by
 unfold XdQ at h
 have R1:=@Xmy Xaa
 have R2:=@Xnd XaW
 have R3:=@Xm3 XaD
 have J:=js []
 refine Xa4 XaM hS true 3000 ?_
 conv=>whnf
 exact W
def XdV (XaD:Xbe) (XaW:Xbl) (Xaa:Xag) (s:Xar) (i:Int) (text:List UInt8):Option Int:=
 (Xaa.v4 s).bind fun x4=>
 cond (!x4)
  (
  some ((-1)))
  (
  cond (decide (i<0))
   (
   some ((-1)))
   (
   cond (decide (i≥4))
    (
    some ((-1)))
    (
    (XaW (Xat.mk (wI .u64 (s.key.A+(wI .u64 i))) s.key.B) text).bind fun xh=>
    XaQ (decide ((0:Int)≤i∧i<(4:Int))) <|
    cond (i.toNat==0)
     (
     (XaD xh (s.rows.m0:Int)).bind fun s1=>
     some (s1))
     (
     cond (i.toNat==1)
      (
      (XaD xh (s.rows.m1:Int)).bind fun s2=>
      some (s2))
      (
      cond (i.toNat==2)
       (
       (XaD xh (s.rows.m2:Int)).bind fun s3=>
       some (s3))
       (
       cond (i.toNat==3)
        (
        (XaD xh (s.rows.m3:Int)).bind fun s4=>
        some (s4))
        (
        none)))))))
def XwZ (x:Int):Xdu:=⟨.int .i64 x,[],[none,none,none,none,none,none,none,none,none,none]⟩
abbrev Xgb:=Xar→Int→(List UInt8)→Option Int
def r20v4 (g:Xgb):Dec:=dTr 10 (XbJ 0) fun (y0:Xar)=>dV (asI .i64) fun (y1:Int)=>dV asS fun (y2:List UInt8)=>XeA (ofG (g y0 y1 y2) XwZ)
abbrev XBi (XaD:Xbe) (XaW:Xbl) (Xaa:Xag):List (Nat×XcU):=[(46,s46 XaD),(47,s47 XaW),(38,s38 Xaa)]
theorem XzK (XaD:Xbe) (XaW:Xbl) (Xaa:Xag) (hS:XaF Try.prog (XaP (XBi XaD XaW Xaa))) (s:Xar) (i:Int) (text:List UInt8) (res:Int) (h:XdV XaD XaW Xaa s i text=some res) :
 XaU Try.prog 20 10 ⟨⟨20,50,[(0,.pointer (some ⟨0,0,none⟩)),(1,.int .i64 i),(2,.string ⟨⟨text⟩⟩)],[.code XlB],[],false,none⟩,[],[(0,.row false [.int .u64 s.key.A,.int .u64 s.key.B,.slice (some ⟨1,0,none⟩) 4 1,.int .i64 s.total]),(1,.row false [.slice (some ⟨2,0,none⟩) s.rows.m0 1,.slice (some ⟨3,0,none⟩) s.rows.m1 1,.slice (some ⟨4,0,none⟩) s.rows.m2 1,.slice (some ⟨5,0,none⟩) s.rows.m3 1]),(2,.row false (vI .i64 s.rows.e0)),(3,.row false (vI .i64 s.rows.e1)),(4,.row false (vI .i64 s.rows.e2)),(5,.row false (vI .i64 s.rows.e3))],10⟩ (fun v H _=>Res 10 (XwZ res) v H):=by
 unfold XdV at h
 have R1:=@Xl5 Xaa
 have R2:=@Xnd XaW
 have R3:=@Xm3 XaD
 have J:=js []
 refine Xa4 XaM hS true 3000 ?_
 conv=>whnf
 exact W
def XdP (XaD:Xbe) (XaW:Xbl) (Xaa:Xag) (s:Xap) (i:Int) (text:List UInt8):Option Int:=
 (Xaa.v5 s).bind fun x5=>
 cond (!x5)
  (
  some ((-1)))
  (
  cond (decide (i<0))
   (
   some ((-1)))
   (
   cond (decide (i≥5))
    (
    some ((-1)))
    (
    (XaW (Xat.mk (wI .u64 (s.key.A+(wI .u64 i))) s.key.B) text).bind fun xh=>
    XaQ (decide ((0:Int)≤i∧i<(5:Int))) <|
    cond (i.toNat==0)
     (
     (XaD xh (s.rows.m0:Int)).bind fun s1=>
     some (s1))
     (
     cond (i.toNat==1)
      (
      (XaD xh (s.rows.m1:Int)).bind fun s2=>
      some (s2))
      (
      cond (i.toNat==2)
       (
       (XaD xh (s.rows.m2:Int)).bind fun s3=>
       some (s3))
       (
       cond (i.toNat==3)
        (
        (XaD xh (s.rows.m3:Int)).bind fun s4=>
        some (s4))
        (
        cond (i.toNat==4)
         (
         (XaD xh (s.rows.m4:Int)).bind fun s5=>
         some (s5))
         (
         none))))))))
def Xx5 (x:Int):Xdu:=⟨.int .i64 x,[],[none,none,none,none,none,none,none,none,none,none]⟩
abbrev XfL:=Xap→Int→(List UInt8)→Option Int
def r20v5 (g:XfL):Dec:=dTr 10 (XbG 0) fun (y0:Xap)=>dV (asI .i64) fun (y1:Int)=>dV asS fun (y2:List UInt8)=>XeA (ofG (g y0 y1 y2) Xx5)
abbrev XCo (XaD:Xbe) (XaW:Xbl) (Xaa:Xag):List (Nat×XcU):=[(46,s46 XaD),(47,s47 XaW),(38,s38 Xaa)]
theorem Xw2 (XaD:Xbe) (XaW:Xbl) (Xaa:Xag) (hS:XaF Try.prog (XaP (XCo XaD XaW Xaa))) (s:Xap) (i:Int) (text:List UInt8) (res:Int) (h:XdP XaD XaW Xaa s i text=some res) :
 XaU Try.prog 20 10 ⟨⟨20,50,[(0,.pointer (some ⟨0,0,none⟩)),(1,.int .i64 i),(2,.string ⟨⟨text⟩⟩)],[.code XlB],[],false,none⟩,[],[(0,.row false [.int .u64 s.key.A,.int .u64 s.key.B,.slice (some ⟨1,0,none⟩) 5 1,.int .i64 s.total]),(1,.row false [.slice (some ⟨2,0,none⟩) s.rows.m0 1,.slice (some ⟨3,0,none⟩) s.rows.m1 1,.slice (some ⟨4,0,none⟩) s.rows.m2 1,.slice (some ⟨5,0,none⟩) s.rows.m3 1,.slice (some ⟨6,0,none⟩) s.rows.m4 1]),(2,.row false (vI .i64 s.rows.e0)),(3,.row false (vI .i64 s.rows.e1)),(4,.row false (vI .i64 s.rows.e2)),(5,.row false (vI .i64 s.rows.e3)),(6,.row false (vI .i64 s.rows.e4))],10⟩ (fun v H _=>Res 10 (Xx5 res) v H):=by
 unfold XdP at h
 have R1:=@Xmk Xaa
 have R2:=@Xnd XaW
 have R3:=@Xm3 XaD
 have J:=js []
 refine Xa4 XaM hS true 3000 ?_
 conv=>whnf
 exact W
def XdU (XaD:Xbe) (XaW:Xbl) (Xaa:Xag) (s:Xan) (i:Int) (text:List UInt8):Option Int:=
 (Xaa.v6 s).bind fun x6=>
 cond (!x6)
  (
  some ((-1)))
  (
  cond (decide (i<0))
   (
   some ((-1)))
   (
   cond (decide (i≥6))
    (
    some ((-1)))
    (
    (XaW (Xat.mk (wI .u64 (s.key.A+(wI .u64 i))) s.key.B) text).bind fun xh=>
    XaQ (decide ((0:Int)≤i∧i<(6:Int))) <|
    cond (i.toNat==0)
     (
     (XaD xh (s.rows.m0:Int)).bind fun s1=>
     some (s1))
     (
     cond (i.toNat==1)
      (
      (XaD xh (s.rows.m1:Int)).bind fun s2=>
      some (s2))
      (
      cond (i.toNat==2)
       (
       (XaD xh (s.rows.m2:Int)).bind fun s3=>
       some (s3))
       (
       cond (i.toNat==3)
        (
        (XaD xh (s.rows.m3:Int)).bind fun s4=>
        some (s4))
        (
        cond (i.toNat==4)
         (
         (XaD xh (s.rows.m4:Int)).bind fun s5=>
         some (s5))
         (
         cond (i.toNat==5)
          (
          (XaD xh (s.rows.m5:Int)).bind fun s6=>
          some (s6))
          (
          none)))))))))
def Xzz (x:Int):Xdu:=⟨.int .i64 x,[],[none,none,none,none,none,none,none,none,none,none]⟩
abbrev XfN:=Xan→Int→(List UInt8)→Option Int
def r20v6 (g:XfN):Dec:=dTr 10 (XbF 0) fun (y0:Xan)=>dV (asI .i64) fun (y1:Int)=>dV asS fun (y2:List UInt8)=>XeA (ofG (g y0 y1 y2) Xzz)
abbrev XBK (XaD:Xbe) (XaW:Xbl) (Xaa:Xag):List (Nat×XcU):=[(46,s46 XaD),(47,s47 XaW),(38,s38 Xaa)]
theorem Xx4 (XaD:Xbe) (XaW:Xbl) (Xaa:Xag) (hS:XaF Try.prog (XaP (XBK XaD XaW Xaa))) (s:Xan) (i:Int) (text:List UInt8) (res:Int) (h:XdU XaD XaW Xaa s i text=some res) :
 XaU Try.prog 20 10 ⟨⟨20,50,[(0,.pointer (some ⟨0,0,none⟩)),(1,.int .i64 i),(2,.string ⟨⟨text⟩⟩)],[.code XlB],[],false,none⟩,[],[(0,.row false [.int .u64 s.key.A,.int .u64 s.key.B,.slice (some ⟨1,0,none⟩) 6 1,.int .i64 s.total]),(1,.row false [.slice (some ⟨2,0,none⟩) s.rows.m0 1,.slice (some ⟨3,0,none⟩) s.rows.m1 1,.slice (some ⟨4,0,none⟩) s.rows.m2 1,.slice (some ⟨5,0,none⟩) s.rows.m3 1,.slice (some ⟨6,0,none⟩) s.rows.m4 1,.slice (some ⟨7,0,none⟩) s.rows.m5 1]),(2,.row false (vI .i64 s.rows.e0)),(3,.row false (vI .i64 s.rows.e1)),(4,.row false (vI .i64 s.rows.e2)),(5,.row false (vI .i64 s.rows.e3)),(6,.row false (vI .i64 s.rows.e4)),(7,.row false (vI .i64 s.rows.e5))],10⟩ (fun v H _=>Res 10 (Xzz res) v H):=by
 unfold XdU at h
 have R1:=@Xmt Xaa
 have R2:=@Xnd XaW
 have R3:=@Xm3 XaD
 have J:=js []
 refine Xa4 XaM hS true 3000 ?_
 conv=>whnf
 exact W
def XdO (XaD:Xbe) (XaW:Xbl) (Xaa:Xag) (s:Xal) (i:Int) (text:List UInt8):Option Int:=
 (Xaa.v7 s).bind fun x7=>
 cond (!x7)
  (
  some ((-1)))
  (
  cond (decide (i<0))
   (
   some ((-1)))
   (
   cond (decide (i≥7))
    (
    some ((-1)))
    (
    (XaW (Xat.mk (wI .u64 (s.key.A+(wI .u64 i))) s.key.B) text).bind fun xh=>
    XaQ (decide ((0:Int)≤i∧i<(7:Int))) <|
    cond (i.toNat==0)
     (
     (XaD xh (s.rows.m0:Int)).bind fun s1=>
     some (s1))
     (
     cond (i.toNat==1)
      (
      (XaD xh (s.rows.m1:Int)).bind fun s2=>
      some (s2))
      (
      cond (i.toNat==2)
       (
       (XaD xh (s.rows.m2:Int)).bind fun s3=>
       some (s3))
       (
       cond (i.toNat==3)
        (
        (XaD xh (s.rows.m3:Int)).bind fun s4=>
        some (s4))
        (
        cond (i.toNat==4)
         (
         (XaD xh (s.rows.m4:Int)).bind fun s5=>
         some (s5))
         (
         cond (i.toNat==5)
          (
          (XaD xh (s.rows.m5:Int)).bind fun s6=>
          some (s6))
          (
          cond (i.toNat==6)
           (
           (XaD xh (s.rows.m6:Int)).bind fun s7=>
           some (s7))
           (
           none))))))))))
def Xw9 (x:Int):Xdu:=⟨.int .i64 x,[],[none,none,none,none,none,none,none,none,none,none]⟩
abbrev Xf2:=Xal→Int→(List UInt8)→Option Int
def r20v7 (g:Xf2):Dec:=dTr 10 (XbM 0) fun (y0:Xal)=>dV (asI .i64) fun (y1:Int)=>dV asS fun (y2:List UInt8)=>XeA (ofG (g y0 y1 y2) Xw9)
abbrev XAr (XaD:Xbe) (XaW:Xbl) (Xaa:Xag):List (Nat×XcU):=[(46,s46 XaD),(47,s47 XaW),(38,s38 Xaa)]
theorem Xwj (XaD:Xbe) (XaW:Xbl) (Xaa:Xag) (hS:XaF Try.prog (XaP (XAr XaD XaW Xaa))) (s:Xal) (i:Int) (text:List UInt8) (res:Int) (h:XdO XaD XaW Xaa s i text=some res) :
 XaU Try.prog 20 10 ⟨⟨20,50,[(0,.pointer (some ⟨0,0,none⟩)),(1,.int .i64 i),(2,.string ⟨⟨text⟩⟩)],[.code XlB],[],false,none⟩,[],[(0,.row false [.int .u64 s.key.A,.int .u64 s.key.B,.slice (some ⟨1,0,none⟩) 7 1,.int .i64 s.total]),(1,.row false [.slice (some ⟨2,0,none⟩) s.rows.m0 1,.slice (some ⟨3,0,none⟩) s.rows.m1 1,.slice (some ⟨4,0,none⟩) s.rows.m2 1,.slice (some ⟨5,0,none⟩) s.rows.m3 1,.slice (some ⟨6,0,none⟩) s.rows.m4 1,.slice (some ⟨7,0,none⟩) s.rows.m5 1,.slice (some ⟨8,0,none⟩) s.rows.m6 1]),(2,.row false (vI .i64 s.rows.e0)),(3,.row false (vI .i64 s.rows.e1)),(4,.row false (vI .i64 s.rows.e2)),(5,.row false (vI .i64 s.rows.e3)),(6,.row false (vI .i64 s.rows.e4)),(7,.row false (vI .i64 s.rows.e5)),(8,.row false (vI .i64 s.rows.e6))],10⟩ (fun v H _=>Res 10 (Xw9 res) v H):=by
 unfold XdO at h
 have R1:=@XmI Xaa
 have R2:=@Xnd XaW
 have R3:=@Xm3 XaD
 have J:=js []
 refine Xa4 XaM hS true 3000 ?_
 conv=>whnf
 exact W
def XdS (XaD:Xbe) (XaW:Xbl) (Xaa:Xag) (s:Xak) (i:Int) (text:List UInt8):Option Int:=
 (Xaa.v8 s).bind fun x8=>
 cond (!x8)
  (
  some ((-1)))
  (
  cond (decide (i<0))
   (
   some ((-1)))
   (
   cond (decide (i≥8))
    (
    some ((-1)))
    (
    (XaW (Xat.mk (wI .u64 (s.key.A+(wI .u64 i))) s.key.B) text).bind fun xh=>
    XaQ (decide ((0:Int)≤i∧i<(8:Int))) <|
    cond (i.toNat==0)
     (
     (XaD xh (s.rows.m0:Int)).bind fun s1=>
     some (s1))
     (
     cond (i.toNat==1)
      (
      (XaD xh (s.rows.m1:Int)).bind fun s2=>
      some (s2))
      (
      cond (i.toNat==2)
       (
       (XaD xh (s.rows.m2:Int)).bind fun s3=>
       some (s3))
       (
       cond (i.toNat==3)
        (
        (XaD xh (s.rows.m3:Int)).bind fun s4=>
        some (s4))
        (
        cond (i.toNat==4)
         (
         (XaD xh (s.rows.m4:Int)).bind fun s5=>
         some (s5))
         (
         cond (i.toNat==5)
          (
          (XaD xh (s.rows.m5:Int)).bind fun s6=>
          some (s6))
          (
          cond (i.toNat==6)
           (
           (XaD xh (s.rows.m6:Int)).bind fun s7=>
           some (s7))
           (
           cond (i.toNat==7)
            (
            (XaD xh (s.rows.m7:Int)).bind fun s8=>
            some (s8))
            (
            none)))))))))))
def XzN (x:Int):Xdu:=⟨.int .i64 x,[],[none,none,none,none,none,none,none,none,none,none]⟩
abbrev XfW:=Xak→Int→(List UInt8)→Option Int
def r20v8 (g:XfW):Dec:=dTr 10 (XbE 0) fun (y0:Xak)=>dV (asI .i64) fun (y1:Int)=>dV asS fun (y2:List UInt8)=>XeA (ofG (g y0 y1 y2) XzN)
abbrev XA2 (XaD:Xbe) (XaW:Xbl) (Xaa:Xag):List (Nat×XcU):=[(46,s46 XaD),(47,s47 XaW),(38,s38 Xaa)]
theorem Xxg (XaD:Xbe) (XaW:Xbl) (Xaa:Xag) (hS:XaF Try.prog (XaP (XA2 XaD XaW Xaa))) (s:Xak) (i:Int) (text:List UInt8) (res:Int) (h:XdS XaD XaW Xaa s i text=some res) :
 XaU Try.prog 20 10 ⟨⟨20,50,[(0,.pointer (some ⟨0,0,none⟩)),(1,.int .i64 i),(2,.string ⟨⟨text⟩⟩)],[.code XlB],[],false,none⟩,[],[(0,.row false [.int .u64 s.key.A,.int .u64 s.key.B,.slice (some ⟨1,0,none⟩) 8 1,.int .i64 s.total]),(1,.row false [.slice (some ⟨2,0,none⟩) s.rows.m0 1,.slice (some ⟨3,0,none⟩) s.rows.m1 1,.slice (some ⟨4,0,none⟩) s.rows.m2 1,.slice (some ⟨5,0,none⟩) s.rows.m3 1,.slice (some ⟨6,0,none⟩) s.rows.m4 1,.slice (some ⟨7,0,none⟩) s.rows.m5 1,.slice (some ⟨8,0,none⟩) s.rows.m6 1,.slice (some ⟨9,0,none⟩) s.rows.m7 1]),(2,.row false (vI .i64 s.rows.e0)),(3,.row false (vI .i64 s.rows.e1)),(4,.row false (vI .i64 s.rows.e2)),(5,.row false (vI .i64 s.rows.e3)),(6,.row false (vI .i64 s.rows.e4)),(7,.row false (vI .i64 s.rows.e5)),(8,.row false (vI .i64 s.rows.e6)),(9,.row false (vI .i64 s.rows.e7))],10⟩ (fun v H _=>Res 10 (XzN res) v H):=by
 unfold XdS at h
 have R1:=@Xms Xaa
 have R2:=@Xnd XaW
 have R3:=@Xm3 XaD
 have J:=js []
 refine Xa4 XaM hS true 3000 ?_
 conv=>whnf
 exact W
structure Xaj where
 vn:XfU
 v1:XfZ
 v2:XfX
 v3:Xf5
 v4:Xgb
 v5:XfL
 v6:XfN
 v7:Xf2
 v8:XfW
def s20 (g:Xaj):XcU:=⟨[.tr [⟨none,0,0,0,none⟩,⟨some 0,2,0,0,none⟩,⟨some 1,0,0,0,none⟩,⟨some 1,1,0,0,none⟩,⟨some 1,2,0,0,none⟩,⟨some 1,3,0,0,none⟩,⟨some 1,4,0,0,none⟩,⟨some 1,5,0,0,none⟩,⟨some 1,6,0,0,none⟩,⟨some 1,7,0,0,none⟩],.v,.v],orD (r20vn g.vn) (orD (r20v1 g.v1) (orD (r20v2 g.v2) (orD (r20v3 g.v3) (orD (r20v4 g.v4) (orD (r20v5 g.v5) (orD (r20v6 g.v6) (orD (r20v7 g.v7) (r20v8 g.v8))))))))⟩
theorem XuD {g:Xaj} {y1:Int} {y2:List UInt8} {x:Int} (hx:g.vn y1 y2=some x):(s20 g).run [.pointer none,.int .i64 y1,.string ⟨⟨y2⟩⟩] [none,none,none,none,none,none,none,none,none,none]=some (Xws x):=by dsimp only [s20];exact (XdM ((XtU).trans ((Xbz (Xd1 _)).trans ((Xbz (XhC)).trans (Xbc hx)))))
theorem Xqd {g:Xaj} {y0:XaA} {y1:Int} {y2:List UInt8} {x:Int} (hx:g.v1 y0 y1 y2=some x):(s20 g).run [.pointer (some ⟨0,0,none⟩),.int .i64 y1,.string ⟨⟨y2⟩⟩] [some [.int .u64 y0.key.A,.int .u64 y0.key.B,.slice (some ⟨1,0,none⟩) 1 1,.int .i64 y0.total],some [.slice (some ⟨2,0,none⟩) y0.rows.m0 1],some (vI .i64 y0.rows.e0),none,none,none,none,none,none,none]=some (XyB x):=by dsimp only [s20];exact (XaL rfl (XdM ((Xbn rfl rfl (XcR 0 _)).trans ((Xbz (Xd1 _)).trans ((Xbz (XhC)).trans (Xbc hx))))))
theorem XpS {g:Xaj} {y0:Xax} {y1:Int} {y2:List UInt8} {x:Int} (hx:g.v2 y0 y1 y2=some x):(s20 g).run [.pointer (some ⟨0,0,none⟩),.int .i64 y1,.string ⟨⟨y2⟩⟩] [some [.int .u64 y0.key.A,.int .u64 y0.key.B,.slice (some ⟨1,0,none⟩) 2 1,.int .i64 y0.total],some [.slice (some ⟨2,0,none⟩) y0.rows.m0 1,.slice (some ⟨3,0,none⟩) y0.rows.m1 1],some (vI .i64 y0.rows.e0),some (vI .i64 y0.rows.e1),none,none,none,none,none,none]=some (XwK x):=by dsimp only [s20];exact (XaL rfl (XaL rfl (XdM ((Xbn rfl rfl (XcM 0 _)).trans ((Xbz (Xd1 _)).trans ((Xbz (XhC)).trans (Xbc hx)))))))
theorem Xpl {g:Xaj} {y0:Xau} {y1:Int} {y2:List UInt8} {x:Int} (hx:g.v3 y0 y1 y2=some x):(s20 g).run [.pointer (some ⟨0,0,none⟩),.int .i64 y1,.string ⟨⟨y2⟩⟩] [some [.int .u64 y0.key.A,.int .u64 y0.key.B,.slice (some ⟨1,0,none⟩) 3 1,.int .i64 y0.total],some [.slice (some ⟨2,0,none⟩) y0.rows.m0 1,.slice (some ⟨3,0,none⟩) y0.rows.m1 1,.slice (some ⟨4,0,none⟩) y0.rows.m2 1],some (vI .i64 y0.rows.e0),some (vI .i64 y0.rows.e1),some (vI .i64 y0.rows.e2),none,none,none,none,none]=some (XwJ x):=by dsimp only [s20];exact (XaL rfl (XaL rfl (XaL rfl (XdM ((Xbn rfl rfl (XcK 0 _)).trans ((Xbz (Xd1 _)).trans ((Xbz (XhC)).trans (Xbc hx))))))))
theorem Xp5 {g:Xaj} {y0:Xar} {y1:Int} {y2:List UInt8} {x:Int} (hx:g.v4 y0 y1 y2=some x):(s20 g).run [.pointer (some ⟨0,0,none⟩),.int .i64 y1,.string ⟨⟨y2⟩⟩] [some [.int .u64 y0.key.A,.int .u64 y0.key.B,.slice (some ⟨1,0,none⟩) 4 1,.int .i64 y0.total],some [.slice (some ⟨2,0,none⟩) y0.rows.m0 1,.slice (some ⟨3,0,none⟩) y0.rows.m1 1,.slice (some ⟨4,0,none⟩) y0.rows.m2 1,.slice (some ⟨5,0,none⟩) y0.rows.m3 1],some (vI .i64 y0.rows.e0),some (vI .i64 y0.rows.e1),some (vI .i64 y0.rows.e2),some (vI .i64 y0.rows.e3),none,none,none,none]=some (XwZ x):=by dsimp only [s20];exact (XaL rfl (XaL rfl (XaL rfl (XaL rfl (XdM ((Xbn rfl rfl (XcN 0 _)).trans ((Xbz (Xd1 _)).trans ((Xbz (XhC)).trans (Xbc hx)))))))))
theorem Xpk {g:Xaj} {y0:Xap} {y1:Int} {y2:List UInt8} {x:Int} (hx:g.v5 y0 y1 y2=some x):(s20 g).run [.pointer (some ⟨0,0,none⟩),.int .i64 y1,.string ⟨⟨y2⟩⟩] [some [.int .u64 y0.key.A,.int .u64 y0.key.B,.slice (some ⟨1,0,none⟩) 5 1,.int .i64 y0.total],some [.slice (some ⟨2,0,none⟩) y0.rows.m0 1,.slice (some ⟨3,0,none⟩) y0.rows.m1 1,.slice (some ⟨4,0,none⟩) y0.rows.m2 1,.slice (some ⟨5,0,none⟩) y0.rows.m3 1,.slice (some ⟨6,0,none⟩) y0.rows.m4 1],some (vI .i64 y0.rows.e0),some (vI .i64 y0.rows.e1),some (vI .i64 y0.rows.e2),some (vI .i64 y0.rows.e3),some (vI .i64 y0.rows.e4),none,none,none]=some (Xx5 x):=by dsimp only [s20];exact (XaL rfl (XaL rfl (XaL rfl (XaL rfl (XaL rfl (XdM ((Xbn rfl rfl (XcO 0 _)).trans ((Xbz (Xd1 _)).trans ((Xbz (XhC)).trans (Xbc hx))))))))))
theorem Xpj {g:Xaj} {y0:Xan} {y1:Int} {y2:List UInt8} {x:Int} (hx:g.v6 y0 y1 y2=some x):(s20 g).run [.pointer (some ⟨0,0,none⟩),.int .i64 y1,.string ⟨⟨y2⟩⟩] [some [.int .u64 y0.key.A,.int .u64 y0.key.B,.slice (some ⟨1,0,none⟩) 6 1,.int .i64 y0.total],some [.slice (some ⟨2,0,none⟩) y0.rows.m0 1,.slice (some ⟨3,0,none⟩) y0.rows.m1 1,.slice (some ⟨4,0,none⟩) y0.rows.m2 1,.slice (some ⟨5,0,none⟩) y0.rows.m3 1,.slice (some ⟨6,0,none⟩) y0.rows.m4 1,.slice (some ⟨7,0,none⟩) y0.rows.m5 1],some (vI .i64 y0.rows.e0),some (vI .i64 y0.rows.e1),some (vI .i64 y0.rows.e2),some (vI .i64 y0.rows.e3),some (vI .i64 y0.rows.e4),some (vI .i64 y0.rows.e5),none,none]=some (Xzz x):=by dsimp only [s20];exact (XaL rfl (XaL rfl (XaL rfl (XaL rfl (XaL rfl (XaL rfl (XdM ((Xbn rfl rfl (XcQ 0 _)).trans ((Xbz (Xd1 _)).trans ((Xbz (XhC)).trans (Xbc hx)))))))))))
theorem XpC {g:Xaj} {y0:Xal} {y1:Int} {y2:List UInt8} {x:Int} (hx:g.v7 y0 y1 y2=some x):(s20 g).run [.pointer (some ⟨0,0,none⟩),.int .i64 y1,.string ⟨⟨y2⟩⟩] [some [.int .u64 y0.key.A,.int .u64 y0.key.B,.slice (some ⟨1,0,none⟩) 7 1,.int .i64 y0.total],some [.slice (some ⟨2,0,none⟩) y0.rows.m0 1,.slice (some ⟨3,0,none⟩) y0.rows.m1 1,.slice (some ⟨4,0,none⟩) y0.rows.m2 1,.slice (some ⟨5,0,none⟩) y0.rows.m3 1,.slice (some ⟨6,0,none⟩) y0.rows.m4 1,.slice (some ⟨7,0,none⟩) y0.rows.m5 1,.slice (some ⟨8,0,none⟩) y0.rows.m6 1],some (vI .i64 y0.rows.e0),some (vI .i64 y0.rows.e1),some (vI .i64 y0.rows.e2),some (vI .i64 y0.rows.e3),some (vI .i64 y0.rows.e4),some (vI .i64 y0.rows.e5),some (vI .i64 y0.rows.e6),none]=some (Xw9 x):=by dsimp only [s20];exact (XaL rfl (XaL rfl (XaL rfl (XaL rfl (XaL rfl (XaL rfl (XaL rfl (XdM ((Xbn rfl rfl (XcL 0 _)).trans ((Xbz (Xd1 _)).trans ((Xbz (XhC)).trans (Xbc hx))))))))))))
theorem Xp9 {g:Xaj} {y0:Xak} {y1:Int} {y2:List UInt8} {x:Int} (hx:g.v8 y0 y1 y2=some x):(s20 g).run [.pointer (some ⟨0,0,none⟩),.int .i64 y1,.string ⟨⟨y2⟩⟩] [some [.int .u64 y0.key.A,.int .u64 y0.key.B,.slice (some ⟨1,0,none⟩) 8 1,.int .i64 y0.total],some [.slice (some ⟨2,0,none⟩) y0.rows.m0 1,.slice (some ⟨3,0,none⟩) y0.rows.m1 1,.slice (some ⟨4,0,none⟩) y0.rows.m2 1,.slice (some ⟨5,0,none⟩) y0.rows.m3 1,.slice (some ⟨6,0,none⟩) y0.rows.m4 1,.slice (some ⟨7,0,none⟩) y0.rows.m5 1,.slice (some ⟨8,0,none⟩) y0.rows.m6 1,.slice (some ⟨9,0,none⟩) y0.rows.m7 1],some (vI .i64 y0.rows.e0),some (vI .i64 y0.rows.e1),some (vI .i64 y0.rows.e2),some (vI .i64 y0.rows.e3),some (vI .i64 y0.rows.e4),some (vI .i64 y0.rows.e5),some (vI .i64 y0.rows.e6),some (vI .i64 y0.rows.e7)]=some (XzN x):=by dsimp only [s20];exact (XaL rfl (XaL rfl (XaL rfl (XaL rfl (XaL rfl (XaL rfl (XaL rfl (XaL rfl ((Xbn rfl rfl (XcP 0 _)).trans ((Xbz (Xd1 _)).trans ((Xbz (XhC)).trans (Xbc hx))))))))))))
def XkD:XfU:=Xg7 Xaa
def Xed:XfZ:=XdR XaD XaW Xaa
def Xeg:XfX:=XdT XaD XaW Xaa
def Xd6:Xf5:=XdQ XaD XaW Xaa
def Xd9:Xgb:=XdV XaD XaW Xaa
def Xef:XfL:=XdP XaD XaW Xaa
def Xej:XfN:=XdU XaD XaW Xaa
def Xec:Xf2:=XdO XaD XaW Xaa
def Xeb:XfW:=XdS XaD XaW Xaa
def Xab:Xaj:=⟨XkD,Xed,Xeg,Xd6,Xd9,Xef,Xej,Xec,Xeb⟩
theorem XiL:XeG Try.prog 20 (s20 Xab):=by
 have L0:=Xzw Xaa (XaF.Xba ⟨Xc9,trivial⟩)
 have L1:=Xwh XaD XaW Xaa (XaF.Xba ⟨Xnh,Xnl,Xc9,trivial⟩)
 have L2:=Xzf XaD XaW Xaa (XaF.Xba ⟨Xnh,Xnl,Xc9,trivial⟩)
 have L3:=Xwi XaD XaW Xaa (XaF.Xba ⟨Xnh,Xnl,Xc9,trivial⟩)
 have L4:=XzK XaD XaW Xaa (XaF.Xba ⟨Xnh,Xnl,Xc9,trivial⟩)
 have L5:=Xw2 XaD XaW Xaa (XaF.Xba ⟨Xnh,Xnl,Xc9,trivial⟩)
 have L6:=Xx4 XaD XaW Xaa (XaF.Xba ⟨Xnh,Xnl,Xc9,trivial⟩)
 have L7:=Xwj XaD XaW Xaa (XaF.Xba ⟨Xnh,Xnl,Xc9,trivial⟩)
 have L8:=Xxg XaD XaW Xaa (XaF.Xba ⟨Xnh,Xnl,Xc9,trivial⟩)
 refine XeG.Xjn XaM (fun ar os r ha hr=>?_) ⟨Try.f20,rfl,by decide,rfl⟩
 generalize hc:XiS os=C at hr
 replace hr:=orD.elim hr;rcases hr with hr|hr
 ·have LL:=L0;exact okB
 replace hr:=orD.elim hr;rcases hr with hr|hr
 ·have LL:=L1;have U1:=@Xc2;exact okB
 replace hr:=orD.elim hr;rcases hr with hr|hr
 ·have LL:=L2;have U1:=@Xc6;exact okB
 replace hr:=orD.elim hr;rcases hr with hr|hr
 ·have LL:=L3;have U1:=@XcW;exact okB
 replace hr:=orD.elim hr;rcases hr with hr|hr
 ·have LL:=L4;have U1:=@Xc3;exact okB
 replace hr:=orD.elim hr;rcases hr with hr|hr
 ·have LL:=L5;have U1:=@Xc4;exact okB
 replace hr:=orD.elim hr;rcases hr with hr|hr
 ·have LL:=L6;have U1:=@Xc1;exact okB
 replace hr:=orD.elim hr;rcases hr with hr|hr
 ·have LL:=L7;have U1:=@XcX;exact okB
 have LL:=L8;have U1:=@XcY;exact okB
def XhI (Xaa:Xag) (text:List UInt8) (n:Int):Option Bool:=
 (Xaa.vn).bind fun n1=>
 cond (!n1)
  (
  some (false))
  (
  cond (decide (n<0))
   (
   some (false))
   (
   cond (decide (n>1048576))
    (
    some (false))
    (
    none)))
def Xxx (x:Bool):Xdu:=⟨.bool x,[],[none,none,none,none,none,none,none,none,none,none]⟩
abbrev Xg1:=(List UInt8)→Int→Option Bool
def r12vn (g:Xg1):Dec:=dNl 10<|dV asS fun (y1:List UInt8)=>dV (asI .i64) fun (y2:Int)=>XeA (ofG (g y1 y2) Xxx)
abbrev XAW (Xaa:Xag):List (Nat×XcU):=[(38,s38 Xaa)]
theorem XwR (Xaa:Xag) (hS:XaF Try.prog (XaP (XAW Xaa))) (text:List UInt8) (n:Int) (res:Bool) (h:XhI Xaa text n=some res) :
 XaU Try.prog 12 10 ⟨⟨12,27,[(0,.pointer none),(1,.string ⟨⟨text⟩⟩),(2,.int .i64 n)],[.code XkV],[],false,none⟩,[],[],10⟩ (fun v H _=>Res 10 (Xxx res) v H):=by
 unfold XhI at h
 have R1:=@Xpw Xaa
 refine Xa4 XaM hS true 3000 ?_
 conv=>whnf
 exact W
def Xg4 (s:Xaz) (text:List UInt8) (n:Int):Option (Sum Unit (Bool×Xaz)):=
 let t:=if (wI .i64 (s.total+n))<1099511627776 then wI .i64 (s.total+n) else 1099511627776
 some (.inr ((true,Xaz.mk s.key Xbj.mk t)))
def XhJ (Xaa:Xag) (s:Xaz) (text:List UInt8) (n:Int):Option (Bool×Xaz):=
 (Xaa.v0 (Xaz.mk s.key Xbj.mk s.total)).bind fun x0=>
 cond (!x0)
  (
  some ((false,Xaz.mk s.key Xbj.mk s.total)))
  (
  cond (decide (n<0))
   (
   some ((false,Xaz.mk s.key Xbj.mk s.total)))
   (
   cond (decide (n>1048576))
    (
    some ((false,Xaz.mk s.key Xbj.mk s.total)))
    (
    iter (fun _=>Xg4 s text n) FUEL ())))
def XuG (x:Bool×Xaz):Xdu:=⟨.bool x.1,[],[some [.int .u64 x.2.key.A,.int .u64 x.2.key.B,.slice none 0 0,.int .i64 x.2.total],none,none,none,none,none,none,none,none,none]⟩
abbrev XgP:=Xaz→(List UInt8)→Int→Option (Bool×Xaz)
def r12v0 (g:XgP):Dec:=dTr 10 (XcE 0) fun (y0:Xaz)=>dV asS fun (y1:List UInt8)=>dV (asI .i64) fun (y2:Int)=>XeA (ofG (g y0 y1 y2) XuG)
abbrev XuJ (Xaa:Xag):List (Nat×XcU):=[(38,s38 Xaa)]
def XoX (s:Xaz) (text:List UInt8) (n:Int):VM:=
 ⟨⟨39,30,[(0,.pointer (some ⟨0,0,none⟩)),(1,.string ⟨⟨text⟩⟩),(2,.func (.func 40) ⟨[]⟩ ⟨[.pointer (some ⟨10,0,none⟩)]⟩),(11,.int .i64 0),(12,.int .i64 0)],[.code Xyf,.inLoop Xyf,.inBlock 0],[],false,none⟩,[⟨12,27,[(0,.pointer (some ⟨0,0,none⟩)),(5,.pointer (some ⟨10,0,none⟩))],[.inReg (opsD XI8 3),.code XCY],[],false,none⟩],[(0,.cells [.int .u64 s.key.A,.int .u64 s.key.B,.slice none 0 0,.int .i64 s.total]),(10,.cells [.int .i64 n])],11⟩
theorem Xu7 (Xaa:Xag) (hS:XaF Try.prog (XaP (XuJ Xaa))) {s:Xaz} {text:List UInt8} {n:Int} {res:Bool×Xaz}:∀ {fuel} {st:Unit} {o:Bool×Xaz},iter (fun _=>Xg4 s text n) fuel st=some o→(o=res) →
 XaU Try.prog 12 10 (XoX s text n ) (fun v H _=>Res 10 (XuG res) v H):=by
 apply XaO
 intro st o h hc
 try dsimp -zeta only at h ⊢
 unfold Xg4 at h
 have J:=js []
 refine Xa4 XaM hS true 3000 ?_
 conv=>whnf
 exact W
theorem XxH (Xaa:Xag) (hS:XaF Try.prog (XaP (XuJ Xaa))) (s:Xaz) (text:List UInt8) (n:Int) (res:Bool×Xaz) (h:XhJ Xaa s text n=some res) :
 XaU Try.prog 12 10 ⟨⟨12,27,[(0,.pointer (some ⟨0,0,none⟩)),(1,.string ⟨⟨text⟩⟩),(2,.int .i64 n)],[.code XkV],[],false,none⟩,[],[(0,.cells [.int .u64 s.key.A,.int .u64 s.key.B,.slice none 0 0,.int .i64 s.total])],10⟩ (fun v H _=>Res 10 (XuG res) v H):=by
 unfold XhJ at h
 have J:=js []
 refine Xa4 XaM hS true 3000 ?_
 conv=>whnf
 replace h:=Xbu.elim h;obtain ⟨x0,hy,h⟩:=h
 refine XdH.a (Xnv hy) ?_
 conv=>whnf
 refine br.h h (by rfl) ?_ ?_
 ·clear h;intro hb h;conv=>whnf
  exact W
 clear h;intro hb h;conv=>whnf
 refine br.h h (by rfl) ?_ ?_
 ·clear h;intro hb h;conv=>whnf
  exact W
 clear h;intro hb h;conv=>whnf
 refine br.h h (by rfl) ?_ ?_
 ·clear h;intro hb h;conv=>whnf
  exact W
 clear h;intro hb h;conv=>whnf
 have hl:=Xu7 Xaa hS h rfl;simp only [XoX] at hl
 exact lrA1 hl [(0,0),(1,1),(2,2),(3,3),(4,4),(5,5),(6,6),(7,7),(8,8),(9,9),(10,10)] rfl
def Xfh (Xab:Xaj) (Xaa:Xag) (s:XaA) (text:List UInt8) (n:Int):Option (Bool×XaA):=
 (Xaa.v1 s).bind fun x1=>
 cond (!x1)
  (
  some ((false,s)))
  (
  cond (decide (n<0))
   (
   some ((false,s)))
   (
   cond (decide (n>1048576))
    (
    some ((false,s)))
    (
    (Xab.v1 s 0 text).bind fun x11=>
    XaQ (decide ((0:Int)≤x11∧x11<(s.rows.m0:Int))) <|
    (s.rows.e0[x11.toNat]?).bind fun (e:Int)=>
    let t:=if (wI .i64 (e+n))<1099511627776 then wI .i64 (e+n) else 1099511627776
    XaQ (decide (x11.toNat<s.rows.e0.length)) <|
    let row:=s.rows.e0.set x11.toNat t
    let t1:=if (wI .i64 (s.total+n))<1099511627776 then wI .i64 (s.total+n) else 1099511627776
    some ((true,XaA.mk s.key (Xd4.mk row s.rows.m0) t1)))))
def Xzp (x:Bool×XaA):Xdu:=⟨.bool x.1,[(vI .i64 x.2.rows.e0)],[some [.int .u64 x.2.key.A,.int .u64 x.2.key.B,.slice (some ⟨2,0,none⟩) 1 1,.int .i64 x.2.total],some [.slice (some ⟨0,0,none⟩) x.2.rows.m0 1],none,none,none,none,none,none,none,none]⟩
abbrev XgW:=XaA→(List UInt8)→Int→Option (Bool×XaA)
def r12v1 (g:XgW):Dec:=dTr 10 (XbH 0) fun (y0:XaA)=>dV asS fun (y1:List UInt8)=>dV (asI .i64) fun (y2:Int)=>XeA (ofG (g y0 y1 y2) Xzp)
abbrev XB6 (Xab:Xaj) (Xaa:Xag):List (Nat×XcU):=[(20,s20 Xab),(38,s38 Xaa)]
theorem Xyp (Xab:Xaj) (Xaa:Xag) (hS:XaF Try.prog (XaP (XB6 Xab Xaa))) (s:XaA) (text:List UInt8) (n:Int) (res:Bool×XaA) (h:Xfh Xab Xaa s text n=some res) :
 XaU Try.prog 12 10 ⟨⟨12,27,[(0,.pointer (some ⟨0,0,none⟩)),(1,.string ⟨⟨text⟩⟩),(2,.int .i64 n)],[.code XkV],[],false,none⟩,[],[(0,.cells [.int .u64 s.key.A,.int .u64 s.key.B,.slice (some ⟨1,0,none⟩) 1 1,.int .i64 s.total]),(1,.cells [.slice (some ⟨2,0,none⟩) s.rows.m0 1]),(2,.row true (vI .i64 s.rows.e0))],10⟩ (fun v H _=>Res 10 (Xzp res) v H):=by
 unfold Xfh at h
 have R1:=@Xmm Xaa
 have R2:=@Xqd Xab
 have J:=js [2]
 refine Xa4 XaM hS true 3000 ?_
 conv=>whnf
 exact W
def Xfp (Xab:Xaj) (Xaa:Xag) (s:Xax) (text:List UInt8) (n:Int):Option (Bool×Xax):=
 (Xaa.v2 s).bind fun x2=>
 cond (!x2)
  (
  some ((false,s)))
  (
  cond (decide (n<0))
   (
   some ((false,s)))
   (
   cond (decide (n>1048576))
    (
    some ((false,s)))
    (
    (Xab.v2 s 0 text).bind fun x21=>
    XaQ (decide ((0:Int)≤x21∧x21<(s.rows.m0:Int))) <|
    (s.rows.e0[x21.toNat]?).bind fun (e:Int)=>
    let t:=if (wI .i64 (e+n))<1099511627776 then wI .i64 (e+n) else 1099511627776
    XaQ (decide (x21.toNat<s.rows.e0.length)) <|
    let row:=s.rows.e0.set x21.toNat t
    (Xab.v2 (Xax.mk s.key (XdA.mk row s.rows.e1 s.rows.m0 s.rows.m1) s.total) 1 text).bind fun x22=>
    XaQ (decide ((0:Int)≤x22∧x22<(s.rows.m1:Int))) <|
    (s.rows.e1[x22.toNat]?).bind fun (e1:Int)=>
    let t1:=if (wI .i64 (e1+n))<1099511627776 then wI .i64 (e1+n) else 1099511627776
    XaQ (decide (x22.toNat<s.rows.e1.length)) <|
    let row1:=s.rows.e1.set x22.toNat t1
    let t2:=if (wI .i64 (s.total+n))<1099511627776 then wI .i64 (s.total+n) else 1099511627776
    some ((true,Xax.mk s.key (XdA.mk row row1 s.rows.m0 s.rows.m1) t2)))))
def XxL (x:Bool×Xax):Xdu:=⟨.bool x.1,[(vI .i64 x.2.rows.e0),(vI .i64 x.2.rows.e1)],[some [.int .u64 x.2.key.A,.int .u64 x.2.key.B,.slice (some ⟨3,0,none⟩) 2 1,.int .i64 x.2.total],some [.slice (some ⟨0,0,none⟩) x.2.rows.m0 1,.slice (some ⟨1,0,none⟩) x.2.rows.m1 1],none,none,none,none,none,none,none,none]⟩
abbrev XgQ:=Xax→(List UInt8)→Int→Option (Bool×Xax)
def r12v2 (g:XgQ):Dec:=dTr 10 (XbL 0) fun (y0:Xax)=>dV asS fun (y1:List UInt8)=>dV (asI .i64) fun (y2:Int)=>XeA (ofG (g y0 y1 y2) XxL)
abbrev XBm (Xab:Xaj) (Xaa:Xag):List (Nat×XcU):=[(20,s20 Xab),(38,s38 Xaa)]
theorem Xwa (Xab:Xaj) (Xaa:Xag) (hS:XaF Try.prog (XaP (XBm Xab Xaa))) (s:Xax) (text:List UInt8) (n:Int) (res:Bool×Xax) (h:Xfp Xab Xaa s text n=some res) :
 XaU Try.prog 12 10 ⟨⟨12,27,[(0,.pointer (some ⟨0,0,none⟩)),(1,.string ⟨⟨text⟩⟩),(2,.int .i64 n)],[.code XkV],[],false,none⟩,[],[(0,.cells [.int .u64 s.key.A,.int .u64 s.key.B,.slice (some ⟨1,0,none⟩) 2 1,.int .i64 s.total]),(1,.cells [.slice (some ⟨2,0,none⟩) s.rows.m0 1,.slice (some ⟨3,0,none⟩) s.rows.m1 1]),(2,.row true (vI .i64 s.rows.e0)),(3,.row true (vI .i64 s.rows.e1))],10⟩ (fun v H _=>Res 10 (XxL res) v H):=by
 unfold Xfp at h
 have R1:=@Xmn Xaa
 have R2:=@XpS Xab
 have J:=js [2,3]
 refine Xa4 XaM hS true 3000 ?_
 conv=>whnf
 exact W
def Xff (Xab:Xaj) (Xaa:Xag) (s:Xau) (text:List UInt8) (n:Int):Option (Bool×Xau):=
 (Xaa.v3 s).bind fun x3=>
 cond (!x3)
  (
  some ((false,s)))
  (
  cond (decide (n<0))
   (
   some ((false,s)))
   (
   cond (decide (n>1048576))
    (
    some ((false,s)))
    (
    (Xab.v3 s 0 text).bind fun x31=>
    XaQ (decide ((0:Int)≤x31∧x31<(s.rows.m0:Int))) <|
    (s.rows.e0[x31.toNat]?).bind fun (e:Int)=>
    let t:=if (wI .i64 (e+n))<1099511627776 then wI .i64 (e+n) else 1099511627776
    XaQ (decide (x31.toNat<s.rows.e0.length)) <|
    let row:=s.rows.e0.set x31.toNat t
    (Xab.v3 (Xau.mk s.key (Xdp.mk row s.rows.e1 s.rows.e2 s.rows.m0 s.rows.m1 s.rows.m2) s.total) 1 text).bind fun x32=>
    XaQ (decide ((0:Int)≤x32∧x32<(s.rows.m1:Int))) <|
    (s.rows.e1[x32.toNat]?).bind fun (e1:Int)=>
    let t1:=if (wI .i64 (e1+n))<1099511627776 then wI .i64 (e1+n) else 1099511627776
    XaQ (decide (x32.toNat<s.rows.e1.length)) <|
    let row1:=s.rows.e1.set x32.toNat t1
    (Xab.v3 (Xau.mk s.key (Xdp.mk row row1 s.rows.e2 s.rows.m0 s.rows.m1 s.rows.m2) s.total) 2 text).bind fun x33=>
    XaQ (decide ((0:Int)≤x33∧x33<(s.rows.m2:Int))) <|
    (s.rows.e2[x33.toNat]?).bind fun (e2:Int)=>
    let t2:=if (wI .i64 (e2+n))<1099511627776 then wI .i64 (e2+n) else 1099511627776
    XaQ (decide (x33.toNat<s.rows.e2.length)) <|
    let row2:=s.rows.e2.set x33.toNat t2
    let t3:=if (wI .i64 (s.total+n))<1099511627776 then wI .i64 (s.total+n) else 1099511627776
    some ((true,Xau.mk s.key (Xdp.mk row row1 row2 s.rows.m0 s.rows.m1 s.rows.m2) t3)))))
def XzF (x:Bool×Xau):Xdu:=⟨.bool x.1,[(vI .i64 x.2.rows.e0),(vI .i64 x.2.rows.e1),(vI .i64 x.2.rows.e2)],[some [.int .u64 x.2.key.A,.int .u64 x.2.key.B,.slice (some ⟨4,0,none⟩) 3 1,.int .i64 x.2.total],some [.slice (some ⟨0,0,none⟩) x.2.rows.m0 1,.slice (some ⟨1,0,none⟩) x.2.rows.m1 1,.slice (some ⟨2,0,none⟩) x.2.rows.m2 1],none,none,none,none,none,none,none,none]⟩
abbrev Xg2:=Xau→(List UInt8)→Int→Option (Bool×Xau)
def r12v3 (g:Xg2):Dec:=dTr 10 (XbK 0) fun (y0:Xau)=>dV asS fun (y1:List UInt8)=>dV (asI .i64) fun (y2:Int)=>XeA (ofG (g y0 y1 y2) XzF)
abbrev XBW (Xab:Xaj) (Xaa:Xag):List (Nat×XcU):=[(20,s20 Xab),(38,s38 Xaa)]
theorem Xyl (Xab:Xaj) (Xaa:Xag) (hS:XaF Try.prog (XaP (XBW Xab Xaa))) (s:Xau) (text:List UInt8) (n:Int) (res:Bool×Xau) (h:Xff Xab Xaa s text n=some res) :
 XaU Try.prog 12 10 ⟨⟨12,27,[(0,.pointer (some ⟨0,0,none⟩)),(1,.string ⟨⟨text⟩⟩),(2,.int .i64 n)],[.code XkV],[],false,none⟩,[],[(0,.cells [.int .u64 s.key.A,.int .u64 s.key.B,.slice (some ⟨1,0,none⟩) 3 1,.int .i64 s.total]),(1,.cells [.slice (some ⟨2,0,none⟩) s.rows.m0 1,.slice (some ⟨3,0,none⟩) s.rows.m1 1,.slice (some ⟨4,0,none⟩) s.rows.m2 1]),(2,.row true (vI .i64 s.rows.e0)),(3,.row true (vI .i64 s.rows.e1)),(4,.row true (vI .i64 s.rows.e2))],10⟩ (fun v H _=>Res 10 (XzF res) v H):=by
 unfold Xff at h
 have R1:=@Xmy Xaa
 have R2:=@Xpl Xab
 have J:=js [2,3,4]
 refine Xa4 XaM hS true 3000 ?_
 conv=>whnf
 exact W
def Xfg (Xab:Xaj) (Xaa:Xag) (s:Xar) (text:List UInt8) (n:Int):Option (Bool×Xar):=
 (Xaa.v4 s).bind fun x4=>
 cond (!x4)
  (
  some ((false,s)))
  (
  cond (decide (n<0))
   (
   some ((false,s)))
   (
   cond (decide (n>1048576))
    (
    some ((false,s)))
    (
    (Xab.v4 s 0 text).bind fun x41=>
    XaQ (decide ((0:Int)≤x41∧x41<(s.rows.m0:Int))) <|
    (s.rows.e0[x41.toNat]?).bind fun (e:Int)=>
    let t:=if (wI .i64 (e+n))<1099511627776 then wI .i64 (e+n) else 1099511627776
    XaQ (decide (x41.toNat<s.rows.e0.length)) <|
    let row:=s.rows.e0.set x41.toNat t
    (Xab.v4 (Xar.mk s.key (Xc8.mk row s.rows.e1 s.rows.e2 s.rows.e3 s.rows.m0 s.rows.m1 s.rows.m2 s.rows.m3) s.total) 1 text).bind fun x42=>
    XaQ (decide ((0:Int)≤x42∧x42<(s.rows.m1:Int))) <|
    (s.rows.e1[x42.toNat]?).bind fun (e1:Int)=>
    let t1:=if (wI .i64 (e1+n))<1099511627776 then wI .i64 (e1+n) else 1099511627776
    XaQ (decide (x42.toNat<s.rows.e1.length)) <|
    let row1:=s.rows.e1.set x42.toNat t1
    (Xab.v4 (Xar.mk s.key (Xc8.mk row row1 s.rows.e2 s.rows.e3 s.rows.m0 s.rows.m1 s.rows.m2 s.rows.m3) s.total) 2 text).bind fun x43=>
    XaQ (decide ((0:Int)≤x43∧x43<(s.rows.m2:Int))) <|
    (s.rows.e2[x43.toNat]?).bind fun (e2:Int)=>
    let t2:=if (wI .i64 (e2+n))<1099511627776 then wI .i64 (e2+n) else 1099511627776
    XaQ (decide (x43.toNat<s.rows.e2.length)) <|
    let row2:=s.rows.e2.set x43.toNat t2
    (Xab.v4 (Xar.mk s.key (Xc8.mk row row1 row2 s.rows.e3 s.rows.m0 s.rows.m1 s.rows.m2 s.rows.m3) s.total) 3 text).bind fun x44=>
    XaQ (decide ((0:Int)≤x44∧x44<(s.rows.m3:Int))) <|
    (s.rows.e3[x44.toNat]?).bind fun (e3:Int)=>
    let t3:=if (wI .i64 (e3+n))<1099511627776 then wI .i64 (e3+n) else 1099511627776
    XaQ (decide (x44.toNat<s.rows.e3.length)) <|
    let row3:=s.rows.e3.set x44.toNat t3
    let t4:=if (wI .i64 (s.total+n))<1099511627776 then wI .i64 (s.total+n) else 1099511627776
    some ((true,Xar.mk s.key (Xc8.mk row row1 row2 row3 s.rows.m0 s.rows.m1 s.rows.m2 s.rows.m3) t4)))))
def Xx8 (x:Bool×Xar):Xdu:=⟨.bool x.1,[(vI .i64 x.2.rows.e0),(vI .i64 x.2.rows.e1),(vI .i64 x.2.rows.e2),(vI .i64 x.2.rows.e3)],[some [.int .u64 x.2.key.A,.int .u64 x.2.key.B,.slice (some ⟨5,0,none⟩) 4 1,.int .i64 x.2.total],some [.slice (some ⟨0,0,none⟩) x.2.rows.m0 1,.slice (some ⟨1,0,none⟩) x.2.rows.m1 1,.slice (some ⟨2,0,none⟩) x.2.rows.m2 1,.slice (some ⟨3,0,none⟩) x.2.rows.m3 1],none,none,none,none,none,none,none,none]⟩
abbrev XgF:=Xar→(List UInt8)→Int→Option (Bool×Xar)
def r12v4 (g:XgF):Dec:=dTr 10 (XbJ 0) fun (y0:Xar)=>dV asS fun (y1:List UInt8)=>dV (asI .i64) fun (y2:Int)=>XeA (ofG (g y0 y1 y2) Xx8)
abbrev XBX (Xab:Xaj) (Xaa:Xag):List (Nat×XcU):=[(20,s20 Xab),(38,s38 Xaa)]
theorem Xzc (Xab:Xaj) (Xaa:Xag) (hS:XaF Try.prog (XaP (XBX Xab Xaa))) (s:Xar) (text:List UInt8) (n:Int) (res:Bool×Xar) (h:Xfg Xab Xaa s text n=some res) :
 XaU Try.prog 12 10 ⟨⟨12,27,[(0,.pointer (some ⟨0,0,none⟩)),(1,.string ⟨⟨text⟩⟩),(2,.int .i64 n)],[.code XkV],[],false,none⟩,[],[(0,.cells [.int .u64 s.key.A,.int .u64 s.key.B,.slice (some ⟨1,0,none⟩) 4 1,.int .i64 s.total]),(1,.cells [.slice (some ⟨2,0,none⟩) s.rows.m0 1,.slice (some ⟨3,0,none⟩) s.rows.m1 1,.slice (some ⟨4,0,none⟩) s.rows.m2 1,.slice (some ⟨5,0,none⟩) s.rows.m3 1]),(2,.row true (vI .i64 s.rows.e0)),(3,.row true (vI .i64 s.rows.e1)),(4,.row true (vI .i64 s.rows.e2)),(5,.row true (vI .i64 s.rows.e3))],10⟩ (fun v H _=>Res 10 (Xx8 res) v H):=by
 unfold Xfg at h
 have R1:=@Xl5 Xaa
 have R2:=@Xp5 Xab
 have J:=js [2,3,4,5]
 refine Xa4 XaM hS true 3000 ?_
 conv=>whnf
 exact W
def Xfk (Xab:Xaj) (Xaa:Xag) (s:Xap) (text:List UInt8) (n:Int):Option (Bool×Xap):=
 (Xaa.v5 s).bind fun x5=>
 cond (!x5)
  (
  some ((false,s)))
  (
  cond (decide (n<0))
   (
   some ((false,s)))
   (
   cond (decide (n>1048576))
    (
    some ((false,s)))
    (
    (Xab.v5 s 0 text).bind fun x51=>
    XaQ (decide ((0:Int)≤x51∧x51<(s.rows.m0:Int))) <|
    (s.rows.e0[x51.toNat]?).bind fun (e:Int)=>
    let t:=if (wI .i64 (e+n))<1099511627776 then wI .i64 (e+n) else 1099511627776
    XaQ (decide (x51.toNat<s.rows.e0.length)) <|
    let row:=s.rows.e0.set x51.toNat t
    (Xab.v5 (Xap.mk s.key (XcH.mk row s.rows.e1 s.rows.e2 s.rows.e3 s.rows.e4 s.rows.m0 s.rows.m1 s.rows.m2 s.rows.m3 s.rows.m4) s.total) 1 text).bind fun x52=>
    XaQ (decide ((0:Int)≤x52∧x52<(s.rows.m1:Int))) <|
    (s.rows.e1[x52.toNat]?).bind fun (e1:Int)=>
    let t1:=if (wI .i64 (e1+n))<1099511627776 then wI .i64 (e1+n) else 1099511627776
    XaQ (decide (x52.toNat<s.rows.e1.length)) <|
    let row1:=s.rows.e1.set x52.toNat t1
    (Xab.v5 (Xap.mk s.key (XcH.mk row row1 s.rows.e2 s.rows.e3 s.rows.e4 s.rows.m0 s.rows.m1 s.rows.m2 s.rows.m3 s.rows.m4) s.total) 2 text).bind fun x53=>
    XaQ (decide ((0:Int)≤x53∧x53<(s.rows.m2:Int))) <|
    (s.rows.e2[x53.toNat]?).bind fun (e2:Int)=>
    let t2:=if (wI .i64 (e2+n))<1099511627776 then wI .i64 (e2+n) else 1099511627776
    XaQ (decide (x53.toNat<s.rows.e2.length)) <|
    let row2:=s.rows.e2.set x53.toNat t2
    (Xab.v5 (Xap.mk s.key (XcH.mk row row1 row2 s.rows.e3 s.rows.e4 s.rows.m0 s.rows.m1 s.rows.m2 s.rows.m3 s.rows.m4) s.total) 3 text).bind fun x54=>
    XaQ (decide ((0:Int)≤x54∧x54<(s.rows.m3:Int))) <|
    (s.rows.e3[x54.toNat]?).bind fun (e3:Int)=>
    let t3:=if (wI .i64 (e3+n))<1099511627776 then wI .i64 (e3+n) else 1099511627776
    XaQ (decide (x54.toNat<s.rows.e3.length)) <|
    let row3:=s.rows.e3.set x54.toNat t3
    (Xab.v5 (Xap.mk s.key (XcH.mk row row1 row2 row3 s.rows.e4 s.rows.m0 s.rows.m1 s.rows.m2 s.rows.m3 s.rows.m4) s.total) 4 text).bind fun x55=>
    XaQ (decide ((0:Int)≤x55∧x55<(s.rows.m4:Int))) <|
    (s.rows.e4[x55.toNat]?).bind fun (e4:Int)=>
    let t4:=if (wI .i64 (e4+n))<1099511627776 then wI .i64 (e4+n) else 1099511627776
    XaQ (decide (x55.toNat<s.rows.e4.length)) <|
    let row4:=s.rows.e4.set x55.toNat t4
    let t5:=if (wI .i64 (s.total+n))<1099511627776 then wI .i64 (s.total+n) else 1099511627776
    some ((true,Xap.mk s.key (XcH.mk row row1 row2 row3 row4 s.rows.m0 s.rows.m1 s.rows.m2 s.rows.m3 s.rows.m4) t5)))))
def XyR (x:Bool×Xap):Xdu:=⟨.bool x.1,[(vI .i64 x.2.rows.e0),(vI .i64 x.2.rows.e1),(vI .i64 x.2.rows.e2),(vI .i64 x.2.rows.e3),(vI .i64 x.2.rows.e4)],[some [.int .u64 x.2.key.A,.int .u64 x.2.key.B,.slice (some ⟨6,0,none⟩) 5 1,.int .i64 x.2.total],some [.slice (some ⟨0,0,none⟩) x.2.rows.m0 1,.slice (some ⟨1,0,none⟩) x.2.rows.m1 1,.slice (some ⟨2,0,none⟩) x.2.rows.m2 1,.slice (some ⟨3,0,none⟩) x.2.rows.m3 1,.slice (some ⟨4,0,none⟩) x.2.rows.m4 1],none,none,none,none,none,none,none,none]⟩
abbrev XgM:=Xap→(List UInt8)→Int→Option (Bool×Xap)
def r12v5 (g:XgM):Dec:=dTr 10 (XbG 0) fun (y0:Xap)=>dV asS fun (y1:List UInt8)=>dV (asI .i64) fun (y2:Int)=>XeA (ofG (g y0 y1 y2) XyR)
abbrev XAI (Xab:Xaj) (Xaa:Xag):List (Nat×XcU):=[(20,s20 Xab),(38,s38 Xaa)]
theorem XyH (Xab:Xaj) (Xaa:Xag) (hS:XaF Try.prog (XaP (XAI Xab Xaa))) (s:Xap) (text:List UInt8) (n:Int) (res:Bool×Xap) (h:Xfk Xab Xaa s text n=some res) :
 XaU Try.prog 12 10 ⟨⟨12,27,[(0,.pointer (some ⟨0,0,none⟩)),(1,.string ⟨⟨text⟩⟩),(2,.int .i64 n)],[.code XkV],[],false,none⟩,[],[(0,.cells [.int .u64 s.key.A,.int .u64 s.key.B,.slice (some ⟨1,0,none⟩) 5 1,.int .i64 s.total]),(1,.cells [.slice (some ⟨2,0,none⟩) s.rows.m0 1,.slice (some ⟨3,0,none⟩) s.rows.m1 1,.slice (some ⟨4,0,none⟩) s.rows.m2 1,.slice (some ⟨5,0,none⟩) s.rows.m3 1,.slice (some ⟨6,0,none⟩) s.rows.m4 1]),(2,.row true (vI .i64 s.rows.e0)),(3,.row true (vI .i64 s.rows.e1)),(4,.row true (vI .i64 s.rows.e2)),(5,.row true (vI .i64 s.rows.e3)),(6,.row true (vI .i64 s.rows.e4))],10⟩ (fun v H _=>Res 10 (XyR res) v H):=by
 unfold Xfk at h
 have R1:=@Xmk Xaa
 have R2:=@Xpk Xab
 have J:=js [2,3,4,5,6]
 refine Xa4 XaM hS true 3000 ?_
 conv=>whnf
 exact W
def Xfj (Xab:Xaj) (Xaa:Xag) (s:Xan) (text:List UInt8) (n:Int):Option (Bool×Xan):=
 (Xaa.v6 s).bind fun x6=>
 cond (!x6)
  (
  some ((false,s)))
  (
  cond (decide (n<0))
   (
   some ((false,s)))
   (
   cond (decide (n>1048576))
    (
    some ((false,s)))
    (
    (Xab.v6 s 0 text).bind fun x61=>
    XaQ (decide ((0:Int)≤x61∧x61<(s.rows.m0:Int))) <|
    (s.rows.e0[x61.toNat]?).bind fun (e:Int)=>
    let t:=if (wI .i64 (e+n))<1099511627776 then wI .i64 (e+n) else 1099511627776
    XaQ (decide (x61.toNat<s.rows.e0.length)) <|
    let row:=s.rows.e0.set x61.toNat t
    (Xab.v6 (Xan.mk s.key (Xb9.mk row s.rows.e1 s.rows.e2 s.rows.e3 s.rows.e4 s.rows.e5 s.rows.m0 s.rows.m1 s.rows.m2 s.rows.m3 s.rows.m4 s.rows.m5) s.total) 1 text).bind fun x62=>
    XaQ (decide ((0:Int)≤x62∧x62<(s.rows.m1:Int))) <|
    (s.rows.e1[x62.toNat]?).bind fun (e1:Int)=>
    let t1:=if (wI .i64 (e1+n))<1099511627776 then wI .i64 (e1+n) else 1099511627776
    XaQ (decide (x62.toNat<s.rows.e1.length)) <|
    let row1:=s.rows.e1.set x62.toNat t1
    (Xab.v6 (Xan.mk s.key (Xb9.mk row row1 s.rows.e2 s.rows.e3 s.rows.e4 s.rows.e5 s.rows.m0 s.rows.m1 s.rows.m2 s.rows.m3 s.rows.m4 s.rows.m5) s.total) 2 text).bind fun x63=>
    XaQ (decide ((0:Int)≤x63∧x63<(s.rows.m2:Int))) <|
    (s.rows.e2[x63.toNat]?).bind fun (e2:Int)=>
    let t2:=if (wI .i64 (e2+n))<1099511627776 then wI .i64 (e2+n) else 1099511627776
    XaQ (decide (x63.toNat<s.rows.e2.length)) <|
    let row2:=s.rows.e2.set x63.toNat t2
    (Xab.v6 (Xan.mk s.key (Xb9.mk row row1 row2 s.rows.e3 s.rows.e4 s.rows.e5 s.rows.m0 s.rows.m1 s.rows.m2 s.rows.m3 s.rows.m4 s.rows.m5) s.total) 3 text).bind fun x64=>
    XaQ (decide ((0:Int)≤x64∧x64<(s.rows.m3:Int))) <|
    (s.rows.e3[x64.toNat]?).bind fun (e3:Int)=>
    let t3:=if (wI .i64 (e3+n))<1099511627776 then wI .i64 (e3+n) else 1099511627776
    XaQ (decide (x64.toNat<s.rows.e3.length)) <|
    let row3:=s.rows.e3.set x64.toNat t3
    (Xab.v6 (Xan.mk s.key (Xb9.mk row row1 row2 row3 s.rows.e4 s.rows.e5 s.rows.m0 s.rows.m1 s.rows.m2 s.rows.m3 s.rows.m4 s.rows.m5) s.total) 4 text).bind fun x65=>
    XaQ (decide ((0:Int)≤x65∧x65<(s.rows.m4:Int))) <|
    (s.rows.e4[x65.toNat]?).bind fun (e4:Int)=>
    let t4:=if (wI .i64 (e4+n))<1099511627776 then wI .i64 (e4+n) else 1099511627776
    XaQ (decide (x65.toNat<s.rows.e4.length)) <|
    let row4:=s.rows.e4.set x65.toNat t4
    (Xab.v6 (Xan.mk s.key (Xb9.mk row row1 row2 row3 row4 s.rows.e5 s.rows.m0 s.rows.m1 s.rows.m2 s.rows.m3 s.rows.m4 s.rows.m5) s.total) 5 text).bind fun x66=>
    XaQ (decide ((0:Int)≤x66∧x66<(s.rows.m5:Int))) <|
    (s.rows.e5[x66.toNat]?).bind fun (e5:Int)=>
    let t5:=if (wI .i64 (e5+n))<1099511627776 then wI .i64 (e5+n) else 1099511627776
    XaQ (decide (x66.toNat<s.rows.e5.length)) <|
    let row5:=s.rows.e5.set x66.toNat t5
    let t6:=if (wI .i64 (s.total+n))<1099511627776 then wI .i64 (s.total+n) else 1099511627776
    some ((true,Xan.mk s.key (Xb9.mk row row1 row2 row3 row4 row5 s.rows.m0 s.rows.m1 s.rows.m2 s.rows.m3 s.rows.m4 s.rows.m5) t6)))))
def Xwt (x:Bool×Xan):Xdu:=⟨.bool x.1,[(vI .i64 x.2.rows.e0),(vI .i64 x.2.rows.e1),(vI .i64 x.2.rows.e2),(vI .i64 x.2.rows.e3),(vI .i64 x.2.rows.e4),(vI .i64 x.2.rows.e5)],[some [.int .u64 x.2.key.A,.int .u64 x.2.key.B,.slice (some ⟨7,0,none⟩) 6 1,.int .i64 x.2.total],some [.slice (some ⟨0,0,none⟩) x.2.rows.m0 1,.slice (some ⟨1,0,none⟩) x.2.rows.m1 1,.slice (some ⟨2,0,none⟩) x.2.rows.m2 1,.slice (some ⟨3,0,none⟩) x.2.rows.m3 1,.slice (some ⟨4,0,none⟩) x.2.rows.m4 1,.slice (some ⟨5,0,none⟩) x.2.rows.m5 1],none,none,none,none,none,none,none,none]⟩
abbrev Xg9:=Xan→(List UInt8)→Int→Option (Bool×Xan)
def r12v6 (g:Xg9):Dec:=dTr 10 (XbF 0) fun (y0:Xan)=>dV asS fun (y1:List UInt8)=>dV (asI .i64) fun (y2:Int)=>XeA (ofG (g y0 y1 y2) Xwt)
abbrev XB3 (Xab:Xaj) (Xaa:Xag):List (Nat×XcU):=[(20,s20 Xab),(38,s38 Xaa)]
theorem Xya (Xab:Xaj) (Xaa:Xag) (hS:XaF Try.prog (XaP (XB3 Xab Xaa))) (s:Xan) (text:List UInt8) (n:Int) (res:Bool×Xan) (h:Xfj Xab Xaa s text n=some res) :
 XaU Try.prog 12 10 ⟨⟨12,27,[(0,.pointer (some ⟨0,0,none⟩)),(1,.string ⟨⟨text⟩⟩),(2,.int .i64 n)],[.code XkV],[],false,none⟩,[],[(0,.cells [.int .u64 s.key.A,.int .u64 s.key.B,.slice (some ⟨1,0,none⟩) 6 1,.int .i64 s.total]),(1,.cells [.slice (some ⟨2,0,none⟩) s.rows.m0 1,.slice (some ⟨3,0,none⟩) s.rows.m1 1,.slice (some ⟨4,0,none⟩) s.rows.m2 1,.slice (some ⟨5,0,none⟩) s.rows.m3 1,.slice (some ⟨6,0,none⟩) s.rows.m4 1,.slice (some ⟨7,0,none⟩) s.rows.m5 1]),(2,.row true (vI .i64 s.rows.e0)),(3,.row true (vI .i64 s.rows.e1)),(4,.row true (vI .i64 s.rows.e2)),(5,.row true (vI .i64 s.rows.e3)),(6,.row true (vI .i64 s.rows.e4)),(7,.row true (vI .i64 s.rows.e5))],10⟩ (fun v H _=>Res 10 (Xwt res) v H):=by
 unfold Xfj at h
 have R1:=@Xmt Xaa
 have R2:=@Xpj Xab
 have J:=js [2,3,4,5,6,7]
 refine Xa4 XaM hS true 3000 ?_
 conv=>whnf
 exact W
def Xfm (Xab:Xaj) (Xaa:Xag) (s:Xal) (text:List UInt8) (n:Int):Option (Bool×Xal):=
 (Xaa.v7 s).bind fun x7=>
 cond (!x7)
  (
  some ((false,s)))
  (
  cond (decide (n<0))
   (
   some ((false,s)))
   (
   cond (decide (n>1048576))
    (
    some ((false,s)))
    (
    (Xab.v7 s 0 text).bind fun x71=>
    XaQ (decide ((0:Int)≤x71∧x71<(s.rows.m0:Int))) <|
    (s.rows.e0[x71.toNat]?).bind fun (e:Int)=>
    let t:=if (wI .i64 (e+n))<1099511627776 then wI .i64 (e+n) else 1099511627776
    XaQ (decide (x71.toNat<s.rows.e0.length)) <|
    let row:=s.rows.e0.set x71.toNat t
    (Xab.v7 (Xal.mk s.key (XbV.mk row s.rows.e1 s.rows.e2 s.rows.e3 s.rows.e4 s.rows.e5 s.rows.e6 s.rows.m0 s.rows.m1 s.rows.m2 s.rows.m3 s.rows.m4 s.rows.m5 s.rows.m6) s.total) 1 text).bind fun x72=>
    XaQ (decide ((0:Int)≤x72∧x72<(s.rows.m1:Int))) <|
    (s.rows.e1[x72.toNat]?).bind fun (e1:Int)=>
    let t1:=if (wI .i64 (e1+n))<1099511627776 then wI .i64 (e1+n) else 1099511627776
    XaQ (decide (x72.toNat<s.rows.e1.length)) <|
    let row1:=s.rows.e1.set x72.toNat t1
    (Xab.v7 (Xal.mk s.key (XbV.mk row row1 s.rows.e2 s.rows.e3 s.rows.e4 s.rows.e5 s.rows.e6 s.rows.m0 s.rows.m1 s.rows.m2 s.rows.m3 s.rows.m4 s.rows.m5 s.rows.m6) s.total) 2 text).bind fun x73=>
    XaQ (decide ((0:Int)≤x73∧x73<(s.rows.m2:Int))) <|
    (s.rows.e2[x73.toNat]?).bind fun (e2:Int)=>
    let t2:=if (wI .i64 (e2+n))<1099511627776 then wI .i64 (e2+n) else 1099511627776
    XaQ (decide (x73.toNat<s.rows.e2.length)) <|
    let row2:=s.rows.e2.set x73.toNat t2
    (Xab.v7 (Xal.mk s.key (XbV.mk row row1 row2 s.rows.e3 s.rows.e4 s.rows.e5 s.rows.e6 s.rows.m0 s.rows.m1 s.rows.m2 s.rows.m3 s.rows.m4 s.rows.m5 s.rows.m6) s.total) 3 text).bind fun x74=>
    XaQ (decide ((0:Int)≤x74∧x74<(s.rows.m3:Int))) <|
    (s.rows.e3[x74.toNat]?).bind fun (e3:Int)=>
    let t3:=if (wI .i64 (e3+n))<1099511627776 then wI .i64 (e3+n) else 1099511627776
    XaQ (decide (x74.toNat<s.rows.e3.length)) <|
    let row3:=s.rows.e3.set x74.toNat t3
    (Xab.v7 (Xal.mk s.key (XbV.mk row row1 row2 row3 s.rows.e4 s.rows.e5 s.rows.e6 s.rows.m0 s.rows.m1 s.rows.m2 s.rows.m3 s.rows.m4 s.rows.m5 s.rows.m6) s.total) 4 text).bind fun x75=>
    XaQ (decide ((0:Int)≤x75∧x75<(s.rows.m4:Int))) <|
    (s.rows.e4[x75.toNat]?).bind fun (e4:Int)=>
    let t4:=if (wI .i64 (e4+n))<1099511627776 then wI .i64 (e4+n) else 1099511627776
    XaQ (decide (x75.toNat<s.rows.e4.length)) <|
    let row4:=s.rows.e4.set x75.toNat t4
    (Xab.v7 (Xal.mk s.key (XbV.mk row row1 row2 row3 row4 s.rows.e5 s.rows.e6 s.rows.m0 s.rows.m1 s.rows.m2 s.rows.m3 s.rows.m4 s.rows.m5 s.rows.m6) s.total) 5 text).bind fun x76=>
    XaQ (decide ((0:Int)≤x76∧x76<(s.rows.m5:Int))) <|
    (s.rows.e5[x76.toNat]?).bind fun (e5:Int)=>
    let t5:=if (wI .i64 (e5+n))<1099511627776 then wI .i64 (e5+n) else 1099511627776
    XaQ (decide (x76.toNat<s.rows.e5.length)) <|
    let row5:=s.rows.e5.set x76.toNat t5
    (Xab.v7 (Xal.mk s.key (XbV.mk row row1 row2 row3 row4 row5 s.rows.e6 s.rows.m0 s.rows.m1 s.rows.m2 s.rows.m3 s.rows.m4 s.rows.m5 s.rows.m6) s.total) 6 text).bind fun x77=>
    XaQ (decide ((0:Int)≤x77∧x77<(s.rows.m6:Int))) <|
    (s.rows.e6[x77.toNat]?).bind fun (e6:Int)=>
    let t6:=if (wI .i64 (e6+n))<1099511627776 then wI .i64 (e6+n) else 1099511627776
    XaQ (decide (x77.toNat<s.rows.e6.length)) <|
    let row6:=s.rows.e6.set x77.toNat t6
    let t7:=if (wI .i64 (s.total+n))<1099511627776 then wI .i64 (s.total+n) else 1099511627776
    some ((true,Xal.mk s.key (XbV.mk row row1 row2 row3 row4 row5 row6 s.rows.m0 s.rows.m1 s.rows.m2 s.rows.m3 s.rows.m4 s.rows.m5 s.rows.m6) t7)))))
def Xyn (x:Bool×Xal):Xdu:=⟨.bool x.1,[(vI .i64 x.2.rows.e0),(vI .i64 x.2.rows.e1),(vI .i64 x.2.rows.e2),(vI .i64 x.2.rows.e3),(vI .i64 x.2.rows.e4),(vI .i64 x.2.rows.e5),(vI .i64 x.2.rows.e6)],[some [.int .u64 x.2.key.A,.int .u64 x.2.key.B,.slice (some ⟨8,0,none⟩) 7 1,.int .i64 x.2.total],some [.slice (some ⟨0,0,none⟩) x.2.rows.m0 1,.slice (some ⟨1,0,none⟩) x.2.rows.m1 1,.slice (some ⟨2,0,none⟩) x.2.rows.m2 1,.slice (some ⟨3,0,none⟩) x.2.rows.m3 1,.slice (some ⟨4,0,none⟩) x.2.rows.m4 1,.slice (some ⟨5,0,none⟩) x.2.rows.m5 1,.slice (some ⟨6,0,none⟩) x.2.rows.m6 1],none,none,none,none,none,none,none,none]⟩
abbrev Xg6:=Xal→(List UInt8)→Int→Option (Bool×Xal)
def r12v7 (g:Xg6):Dec:=dTr 10 (XbM 0) fun (y0:Xal)=>dV asS fun (y1:List UInt8)=>dV (asI .i64) fun (y2:Int)=>XeA (ofG (g y0 y1 y2) Xyn)
abbrev XCx (Xab:Xaj) (Xaa:Xag):List (Nat×XcU):=[(20,s20 Xab),(38,s38 Xaa)]
theorem Xzd (Xab:Xaj) (Xaa:Xag) (hS:XaF Try.prog (XaP (XCx Xab Xaa))) (s:Xal) (text:List UInt8) (n:Int) (res:Bool×Xal) (h:Xfm Xab Xaa s text n=some res) :
 XaU Try.prog 12 10 ⟨⟨12,27,[(0,.pointer (some ⟨0,0,none⟩)),(1,.string ⟨⟨text⟩⟩),(2,.int .i64 n)],[.code XkV],[],false,none⟩,[],[(0,.cells [.int .u64 s.key.A,.int .u64 s.key.B,.slice (some ⟨1,0,none⟩) 7 1,.int .i64 s.total]),(1,.cells [.slice (some ⟨2,0,none⟩) s.rows.m0 1,.slice (some ⟨3,0,none⟩) s.rows.m1 1,.slice (some ⟨4,0,none⟩) s.rows.m2 1,.slice (some ⟨5,0,none⟩) s.rows.m3 1,.slice (some ⟨6,0,none⟩) s.rows.m4 1,.slice (some ⟨7,0,none⟩) s.rows.m5 1,.slice (some ⟨8,0,none⟩) s.rows.m6 1]),(2,.row true (vI .i64 s.rows.e0)),(3,.row true (vI .i64 s.rows.e1)),(4,.row true (vI .i64 s.rows.e2)),(5,.row true (vI .i64 s.rows.e3)),(6,.row true (vI .i64 s.rows.e4)),(7,.row true (vI .i64 s.rows.e5)),(8,.row true (vI .i64 s.rows.e6))],10⟩ (fun v H _=>Res 10 (Xyn res) v H):=by
 unfold Xfm at h
 have R1:=@XmI Xaa
 have R2:=@XpC Xab
 have J:=js [2,3,4,5,6,7,8]
 refine Xa4 XaM hS true 3000 ?_
 conv=>whnf
 exact W
def Xfi (Xab:Xaj) (Xaa:Xag) (s:Xak) (text:List UInt8) (n:Int):Option (Bool×Xak):=
 (Xaa.v8 s).bind fun x8=>
 cond (!x8)
  (
  some ((false,s)))
  (
  cond (decide (n<0))
   (
   some ((false,s)))
   (
   cond (decide (n>1048576))
    (
    some ((false,s)))
    (
    (Xab.v8 s 0 text).bind fun x81=>
    XaQ (decide ((0:Int)≤x81∧x81<(s.rows.m0:Int))) <|
    (s.rows.e0[x81.toNat]?).bind fun (e:Int)=>
    let t:=if (wI .i64 (e+n))<1099511627776 then wI .i64 (e+n) else 1099511627776
    XaQ (decide (x81.toNat<s.rows.e0.length)) <|
    let row:=s.rows.e0.set x81.toNat t
    (Xab.v8 (Xak.mk s.key (XbC.mk row s.rows.e1 s.rows.e2 s.rows.e3 s.rows.e4 s.rows.e5 s.rows.e6 s.rows.e7 s.rows.m0 s.rows.m1 s.rows.m2 s.rows.m3 s.rows.m4 s.rows.m5 s.rows.m6 s.rows.m7) s.total) 1 text).bind fun x82=>
    XaQ (decide ((0:Int)≤x82∧x82<(s.rows.m1:Int))) <|
    (s.rows.e1[x82.toNat]?).bind fun (e1:Int)=>
    let t1:=if (wI .i64 (e1+n))<1099511627776 then wI .i64 (e1+n) else 1099511627776
    XaQ (decide (x82.toNat<s.rows.e1.length)) <|
    let row1:=s.rows.e1.set x82.toNat t1
    (Xab.v8 (Xak.mk s.key (XbC.mk row row1 s.rows.e2 s.rows.e3 s.rows.e4 s.rows.e5 s.rows.e6 s.rows.e7 s.rows.m0 s.rows.m1 s.rows.m2 s.rows.m3 s.rows.m4 s.rows.m5 s.rows.m6 s.rows.m7) s.total) 2 text).bind fun x83=>
    XaQ (decide ((0:Int)≤x83∧x83<(s.rows.m2:Int))) <|
    (s.rows.e2[x83.toNat]?).bind fun (e2:Int)=>
    let t2:=if (wI .i64 (e2+n))<1099511627776 then wI .i64 (e2+n) else 1099511627776
    XaQ (decide (x83.toNat<s.rows.e2.length)) <|
    let row2:=s.rows.e2.set x83.toNat t2
    (Xab.v8 (Xak.mk s.key (XbC.mk row row1 row2 s.rows.e3 s.rows.e4 s.rows.e5 s.rows.e6 s.rows.e7 s.rows.m0 s.rows.m1 s.rows.m2 s.rows.m3 s.rows.m4 s.rows.m5 s.rows.m6 s.rows.m7) s.total) 3 text).bind fun x84=>
    XaQ (decide ((0:Int)≤x84∧x84<(s.rows.m3:Int))) <|
    (s.rows.e3[x84.toNat]?).bind fun (e3:Int)=>
    let t3:=if (wI .i64 (e3+n))<1099511627776 then wI .i64 (e3+n) else 1099511627776
    XaQ (decide (x84.toNat<s.rows.e3.length)) <|
    let row3:=s.rows.e3.set x84.toNat t3
    (Xab.v8 (Xak.mk s.key (XbC.mk row row1 row2 row3 s.rows.e4 s.rows.e5 s.rows.e6 s.rows.e7 s.rows.m0 s.rows.m1 s.rows.m2 s.rows.m3 s.rows.m4 s.rows.m5 s.rows.m6 s.rows.m7) s.total) 4 text).bind fun x85=>
    XaQ (decide ((0:Int)≤x85∧x85<(s.rows.m4:Int))) <|
    (s.rows.e4[x85.toNat]?).bind fun (e4:Int)=>
    let t4:=if (wI .i64 (e4+n))<1099511627776 then wI .i64 (e4+n) else 1099511627776
    XaQ (decide (x85.toNat<s.rows.e4.length)) <|
    let row4:=s.rows.e4.set x85.toNat t4
    (Xab.v8 (Xak.mk s.key (XbC.mk row row1 row2 row3 row4 s.rows.e5 s.rows.e6 s.rows.e7 s.rows.m0 s.rows.m1 s.rows.m2 s.rows.m3 s.rows.m4 s.rows.m5 s.rows.m6 s.rows.m7) s.total) 5 text).bind fun x86=>
    XaQ (decide ((0:Int)≤x86∧x86<(s.rows.m5:Int))) <|
    (s.rows.e5[x86.toNat]?).bind fun (e5:Int)=>
    let t5:=if (wI .i64 (e5+n))<1099511627776 then wI .i64 (e5+n) else 1099511627776
    XaQ (decide (x86.toNat<s.rows.e5.length)) <|
    let row5:=s.rows.e5.set x86.toNat t5
    (Xab.v8 (Xak.mk s.key (XbC.mk row row1 row2 row3 row4 row5 s.rows.e6 s.rows.e7 s.rows.m0 s.rows.m1 s.rows.m2 s.rows.m3 s.rows.m4 s.rows.m5 s.rows.m6 s.rows.m7) s.total) 6 text).bind fun x87=>
    XaQ (decide ((0:Int)≤x87∧x87<(s.rows.m6:Int))) <|
    (s.rows.e6[x87.toNat]?).bind fun (e6:Int)=>
    let t6:=if (wI .i64 (e6+n))<1099511627776 then wI .i64 (e6+n) else 1099511627776
    XaQ (decide (x87.toNat<s.rows.e6.length)) <|
    let row6:=s.rows.e6.set x87.toNat t6
    (Xab.v8 (Xak.mk s.key (XbC.mk row row1 row2 row3 row4 row5 row6 s.rows.e7 s.rows.m0 s.rows.m1 s.rows.m2 s.rows.m3 s.rows.m4 s.rows.m5 s.rows.m6 s.rows.m7) s.total) 7 text).bind fun x88=>
    XaQ (decide ((0:Int)≤x88∧x88<(s.rows.m7:Int))) <|
    (s.rows.e7[x88.toNat]?).bind fun (e7:Int)=>
    let t7:=if (wI .i64 (e7+n))<1099511627776 then wI .i64 (e7+n) else 1099511627776
    XaQ (decide (x88.toNat<s.rows.e7.length)) <|
    let row7:=s.rows.e7.set x88.toNat t7
    let t8:=if (wI .i64 (s.total+n))<1099511627776 then wI .i64 (s.total+n) else 1099511627776
    some ((true,Xak.mk s.key (XbC.mk row row1 row2 row3 row4 row5 row6 row7 s.rows.m0 s.rows.m1 s.rows.m2 s.rows.m3 s.rows.m4 s.rows.m5 s.rows.m6 s.rows.m7) t8)))))
def Xwl (x:Bool×Xak):Xdu:=⟨.bool x.1,[(vI .i64 x.2.rows.e0),(vI .i64 x.2.rows.e1),(vI .i64 x.2.rows.e2),(vI .i64 x.2.rows.e3),(vI .i64 x.2.rows.e4),(vI .i64 x.2.rows.e5),(vI .i64 x.2.rows.e6),(vI .i64 x.2.rows.e7)],[some [.int .u64 x.2.key.A,.int .u64 x.2.key.B,.slice (some ⟨9,0,none⟩) 8 1,.int .i64 x.2.total],some [.slice (some ⟨0,0,none⟩) x.2.rows.m0 1,.slice (some ⟨1,0,none⟩) x.2.rows.m1 1,.slice (some ⟨2,0,none⟩) x.2.rows.m2 1,.slice (some ⟨3,0,none⟩) x.2.rows.m3 1,.slice (some ⟨4,0,none⟩) x.2.rows.m4 1,.slice (some ⟨5,0,none⟩) x.2.rows.m5 1,.slice (some ⟨6,0,none⟩) x.2.rows.m6 1,.slice (some ⟨7,0,none⟩) x.2.rows.m7 1],none,none,none,none,none,none,none,none]⟩
abbrev XgG:=Xak→(List UInt8)→Int→Option (Bool×Xak)
def r12v8 (g:XgG):Dec:=dTr 10 (XbE 0) fun (y0:Xak)=>dV asS fun (y1:List UInt8)=>dV (asI .i64) fun (y2:Int)=>XeA (ofG (g y0 y1 y2) Xwl)
abbrev XBf (Xab:Xaj) (Xaa:Xag):List (Nat×XcU):=[(20,s20 Xab),(38,s38 Xaa)]
theorem Xxb (Xab:Xaj) (Xaa:Xag) (hS:XaF Try.prog (XaP (XBf Xab Xaa))) (s:Xak) (text:List UInt8) (n:Int) (res:Bool×Xak) (h:Xfi Xab Xaa s text n=some res) :
 XaU Try.prog 12 10 ⟨⟨12,27,[(0,.pointer (some ⟨0,0,none⟩)),(1,.string ⟨⟨text⟩⟩),(2,.int .i64 n)],[.code XkV],[],false,none⟩,[],[(0,.cells [.int .u64 s.key.A,.int .u64 s.key.B,.slice (some ⟨1,0,none⟩) 8 1,.int .i64 s.total]),(1,.cells [.slice (some ⟨2,0,none⟩) s.rows.m0 1,.slice (some ⟨3,0,none⟩) s.rows.m1 1,.slice (some ⟨4,0,none⟩) s.rows.m2 1,.slice (some ⟨5,0,none⟩) s.rows.m3 1,.slice (some ⟨6,0,none⟩) s.rows.m4 1,.slice (some ⟨7,0,none⟩) s.rows.m5 1,.slice (some ⟨8,0,none⟩) s.rows.m6 1,.slice (some ⟨9,0,none⟩) s.rows.m7 1]),(2,.row true (vI .i64 s.rows.e0)),(3,.row true (vI .i64 s.rows.e1)),(4,.row true (vI .i64 s.rows.e2)),(5,.row true (vI .i64 s.rows.e3)),(6,.row true (vI .i64 s.rows.e4)),(7,.row true (vI .i64 s.rows.e5)),(8,.row true (vI .i64 s.rows.e6)),(9,.row true (vI .i64 s.rows.e7))],10⟩ (fun v H _=>Res 10 (Xwl res) v H):=by
 unfold Xfi at h
 have R1:=@Xms Xaa
 have R2:=@Xp9 Xab
 have J:=js [2,3,4,5,6,7,8,9]
 refine Xa4 XaM hS true 3000 ?_
 conv=>whnf
 exact W
structure XaE where
 vn:Xg1
 v0:XgP
 v1:XgW
 v2:XgQ
 v3:Xg2
 v4:XgF
 v5:XgM
 v6:Xg9
 v7:Xg6
 v8:XgG
def s12 (g:XaE):XcU:=⟨[.tr [⟨none,0,0,1,none⟩,⟨some 0,2,0,1,none⟩,⟨some 1,0,0,2,none⟩,⟨some 1,1,0,2,none⟩,⟨some 1,2,0,2,none⟩,⟨some 1,3,0,2,none⟩,⟨some 1,4,0,2,none⟩,⟨some 1,5,0,2,none⟩,⟨some 1,6,0,2,none⟩,⟨some 1,7,0,2,none⟩],.v,.v],orD (r12vn g.vn) (orD (r12v0 g.v0) (orD (r12v1 g.v1) (orD (r12v2 g.v2) (orD (r12v3 g.v3) (orD (r12v4 g.v4) (orD (r12v5 g.v5) (orD (r12v6 g.v6) (orD (r12v7 g.v7) (r12v8 g.v8)))))))))⟩
theorem XuL {g:XaE} {y1:List UInt8} {y2:Int} {x:Bool} (hx:g.vn y1 y2=some x):(s12 g).run [.pointer none,.string ⟨⟨y1⟩⟩,.int .i64 y2] [none,none,none,none,none,none,none,none,none,none]=some (Xxx x):=by dsimp only [s12];exact (XdM ((XtU).trans ((Xbz (XhC)).trans ((Xbz (Xd1 _)).trans (Xbc hx)))))
theorem XtR {g:XaE} {y0:Xaz} {y1:List UInt8} {y2:Int} {x:Bool×Xaz} (hx:g.v0 y0 y1 y2=some x):(s12 g).run [.pointer (some ⟨0,0,none⟩),.string ⟨⟨y1⟩⟩,.int .i64 y2] [some [.int .u64 y0.key.A,.int .u64 y0.key.B,.slice none 0 0,.int .i64 y0.total],none,none,none,none,none,none,none,none,none]=some (XuG x):=by dsimp only [s12];exact (XaL rfl (XdM ((Xbn rfl rfl (Xfe 0 _)).trans ((Xbz (XhC)).trans ((Xbz (Xd1 _)).trans (Xbc hx))))))
theorem XtP {g:XaE} {y0:XaA} {y1:List UInt8} {y2:Int} {x:Bool×XaA} (hx:g.v1 y0 y1 y2=some x):(s12 g).run [.pointer (some ⟨0,0,none⟩),.string ⟨⟨y1⟩⟩,.int .i64 y2] [some [.int .u64 y0.key.A,.int .u64 y0.key.B,.slice (some ⟨1,0,none⟩) 1 1,.int .i64 y0.total],some [.slice (some ⟨2,0,none⟩) y0.rows.m0 1],some (vI .i64 y0.rows.e0),none,none,none,none,none,none,none]=some (Xzp x):=by dsimp only [s12];exact (XaL rfl (XaL rfl (XdM ((Xbn rfl rfl (XcR 0 _)).trans ((Xbz (XhC)).trans ((Xbz (Xd1 _)).trans (Xbc hx)))))))
theorem Xl1 {g:XaE} {y0:Xax} {y1:List UInt8} {y2:Int} {x:Bool×Xax} (hx:g.v2 y0 y1 y2=some x):(s12 g).run [.pointer (some ⟨0,0,none⟩),.string ⟨⟨y1⟩⟩,.int .i64 y2] [some [.int .u64 y0.key.A,.int .u64 y0.key.B,.slice (some ⟨1,0,none⟩) 2 1,.int .i64 y0.total],some [.slice (some ⟨2,0,none⟩) y0.rows.m0 1,.slice (some ⟨3,0,none⟩) y0.rows.m1 1],some (vI .i64 y0.rows.e0),some (vI .i64 y0.rows.e1),none,none,none,none,none,none]=some (XxL x):=by dsimp only [s12];exact (XaL rfl (XaL rfl (XaL rfl (XdM ((Xbn rfl rfl (XcM 0 _)).trans ((Xbz (XhC)).trans ((Xbz (Xd1 _)).trans (Xbc hx))))))))
theorem Xuu {g:XaE} {y0:Xau} {y1:List UInt8} {y2:Int} {x:Bool×Xau} (hx:g.v3 y0 y1 y2=some x):(s12 g).run [.pointer (some ⟨0,0,none⟩),.string ⟨⟨y1⟩⟩,.int .i64 y2] [some [.int .u64 y0.key.A,.int .u64 y0.key.B,.slice (some ⟨1,0,none⟩) 3 1,.int .i64 y0.total],some [.slice (some ⟨2,0,none⟩) y0.rows.m0 1,.slice (some ⟨3,0,none⟩) y0.rows.m1 1,.slice (some ⟨4,0,none⟩) y0.rows.m2 1],some (vI .i64 y0.rows.e0),some (vI .i64 y0.rows.e1),some (vI .i64 y0.rows.e2),none,none,none,none,none]=some (XzF x):=by dsimp only [s12];exact (XaL rfl (XaL rfl (XaL rfl (XaL rfl (XdM ((Xbn rfl rfl (XcK 0 _)).trans ((Xbz (XhC)).trans ((Xbz (Xd1 _)).trans (Xbc hx)))))))))
theorem XtX {g:XaE} {y0:Xar} {y1:List UInt8} {y2:Int} {x:Bool×Xar} (hx:g.v4 y0 y1 y2=some x):(s12 g).run [.pointer (some ⟨0,0,none⟩),.string ⟨⟨y1⟩⟩,.int .i64 y2] [some [.int .u64 y0.key.A,.int .u64 y0.key.B,.slice (some ⟨1,0,none⟩) 4 1,.int .i64 y0.total],some [.slice (some ⟨2,0,none⟩) y0.rows.m0 1,.slice (some ⟨3,0,none⟩) y0.rows.m1 1,.slice (some ⟨4,0,none⟩) y0.rows.m2 1,.slice (some ⟨5,0,none⟩) y0.rows.m3 1],some (vI .i64 y0.rows.e0),some (vI .i64 y0.rows.e1),some (vI .i64 y0.rows.e2),some (vI .i64 y0.rows.e3),none,none,none,none]=some (Xx8 x):=by dsimp only [s12];exact (XaL rfl (XaL rfl (XaL rfl (XaL rfl (XaL rfl (XdM ((Xbn rfl rfl (XcN 0 _)).trans ((Xbz (XhC)).trans ((Xbz (Xd1 _)).trans (Xbc hx))))))))))
theorem XtF {g:XaE} {y0:Xap} {y1:List UInt8} {y2:Int} {x:Bool×Xap} (hx:g.v5 y0 y1 y2=some x):(s12 g).run [.pointer (some ⟨0,0,none⟩),.string ⟨⟨y1⟩⟩,.int .i64 y2] [some [.int .u64 y0.key.A,.int .u64 y0.key.B,.slice (some ⟨1,0,none⟩) 5 1,.int .i64 y0.total],some [.slice (some ⟨2,0,none⟩) y0.rows.m0 1,.slice (some ⟨3,0,none⟩) y0.rows.m1 1,.slice (some ⟨4,0,none⟩) y0.rows.m2 1,.slice (some ⟨5,0,none⟩) y0.rows.m3 1,.slice (some ⟨6,0,none⟩) y0.rows.m4 1],some (vI .i64 y0.rows.e0),some (vI .i64 y0.rows.e1),some (vI .i64 y0.rows.e2),some (vI .i64 y0.rows.e3),some (vI .i64 y0.rows.e4),none,none,none]=some (XyR x):=by dsimp only [s12];exact (XaL rfl (XaL rfl (XaL rfl (XaL rfl (XaL rfl (XaL rfl (XdM ((Xbn rfl rfl (XcO 0 _)).trans ((Xbz (XhC)).trans ((Xbz (Xd1 _)).trans (Xbc hx)))))))))))
theorem Xtz {g:XaE} {y0:Xan} {y1:List UInt8} {y2:Int} {x:Bool×Xan} (hx:g.v6 y0 y1 y2=some x):(s12 g).run [.pointer (some ⟨0,0,none⟩),.string ⟨⟨y1⟩⟩,.int .i64 y2] [some [.int .u64 y0.key.A,.int .u64 y0.key.B,.slice (some ⟨1,0,none⟩) 6 1,.int .i64 y0.total],some [.slice (some ⟨2,0,none⟩) y0.rows.m0 1,.slice (some ⟨3,0,none⟩) y0.rows.m1 1,.slice (some ⟨4,0,none⟩) y0.rows.m2 1,.slice (some ⟨5,0,none⟩) y0.rows.m3 1,.slice (some ⟨6,0,none⟩) y0.rows.m4 1,.slice (some ⟨7,0,none⟩) y0.rows.m5 1],some (vI .i64 y0.rows.e0),some (vI .i64 y0.rows.e1),some (vI .i64 y0.rows.e2),some (vI .i64 y0.rows.e3),some (vI .i64 y0.rows.e4),some (vI .i64 y0.rows.e5),none,none]=some (Xwt x):=by dsimp only [s12];exact (XaL rfl (XaL rfl (XaL rfl (XaL rfl (XaL rfl (XaL rfl (XaL rfl (XdM ((Xbn rfl rfl (XcQ 0 _)).trans ((Xbz (XhC)).trans ((Xbz (Xd1 _)).trans (Xbc hx))))))))))))
theorem Xt2 {g:XaE} {y0:Xal} {y1:List UInt8} {y2:Int} {x:Bool×Xal} (hx:g.v7 y0 y1 y2=some x):(s12 g).run [.pointer (some ⟨0,0,none⟩),.string ⟨⟨y1⟩⟩,.int .i64 y2] [some [.int .u64 y0.key.A,.int .u64 y0.key.B,.slice (some ⟨1,0,none⟩) 7 1,.int .i64 y0.total],some [.slice (some ⟨2,0,none⟩) y0.rows.m0 1,.slice (some ⟨3,0,none⟩) y0.rows.m1 1,.slice (some ⟨4,0,none⟩) y0.rows.m2 1,.slice (some ⟨5,0,none⟩) y0.rows.m3 1,.slice (some ⟨6,0,none⟩) y0.rows.m4 1,.slice (some ⟨7,0,none⟩) y0.rows.m5 1,.slice (some ⟨8,0,none⟩) y0.rows.m6 1],some (vI .i64 y0.rows.e0),some (vI .i64 y0.rows.e1),some (vI .i64 y0.rows.e2),some (vI .i64 y0.rows.e3),some (vI .i64 y0.rows.e4),some (vI .i64 y0.rows.e5),some (vI .i64 y0.rows.e6),none]=some (Xyn x):=by dsimp only [s12];exact (XaL rfl (XaL rfl (XaL rfl (XaL rfl (XaL rfl (XaL rfl (XaL rfl (XaL rfl (XdM ((Xbn rfl rfl (XcL 0 _)).trans ((Xbz (XhC)).trans ((Xbz (Xd1 _)).trans (Xbc hx)))))))))))))
theorem XtC {g:XaE} {y0:Xak} {y1:List UInt8} {y2:Int} {x:Bool×Xak} (hx:g.v8 y0 y1 y2=some x):(s12 g).run [.pointer (some ⟨0,0,none⟩),.string ⟨⟨y1⟩⟩,.int .i64 y2] [some [.int .u64 y0.key.A,.int .u64 y0.key.B,.slice (some ⟨1,0,none⟩) 8 1,.int .i64 y0.total],some [.slice (some ⟨2,0,none⟩) y0.rows.m0 1,.slice (some ⟨3,0,none⟩) y0.rows.m1 1,.slice (some ⟨4,0,none⟩) y0.rows.m2 1,.slice (some ⟨5,0,none⟩) y0.rows.m3 1,.slice (some ⟨6,0,none⟩) y0.rows.m4 1,.slice (some ⟨7,0,none⟩) y0.rows.m5 1,.slice (some ⟨8,0,none⟩) y0.rows.m6 1,.slice (some ⟨9,0,none⟩) y0.rows.m7 1],some (vI .i64 y0.rows.e0),some (vI .i64 y0.rows.e1),some (vI .i64 y0.rows.e2),some (vI .i64 y0.rows.e3),some (vI .i64 y0.rows.e4),some (vI .i64 y0.rows.e5),some (vI .i64 y0.rows.e6),some (vI .i64 y0.rows.e7)]=some (Xwl x):=by dsimp only [s12];exact (XaL rfl (XaL rfl (XaL rfl (XaL rfl (XaL rfl (XaL rfl (XaL rfl (XaL rfl (XaL rfl ((Xbn rfl rfl (XcP 0 _)).trans ((Xbz (XhC)).trans ((Xbz (Xd1 _)).trans (Xbc hx)))))))))))))
def XlE:Xg1:=XhI Xaa
def XlJ:XgP:=XhJ Xaa
def XhR:XgW:=Xfh Xab Xaa
def XhY:XgQ:=Xfp Xab Xaa
def XhW:Xg2:=Xff Xab Xaa
def XhS:XgF:=Xfg Xab Xaa
def XhV:XgM:=Xfk Xab Xaa
def XhT:Xg9:=Xfj Xab Xaa
def XhU:Xg6:=Xfm Xab Xaa
def XhX:XgG:=Xfi Xab Xaa
def Xaf:XaE:=⟨XlE,XlJ,XhR,XhY,XhW,XhS,XhV,XhT,XhU,XhX⟩
theorem XIU:XeG Try.prog 12 (s12 Xaf):=by
 have L0:=XwR Xaa (XaF.Xba ⟨Xc9,trivial⟩)
 have L1:=XxH Xaa (XaF.Xba ⟨Xc9,trivial⟩)
 have L2:=Xyp Xab Xaa (XaF.Xba ⟨XiL,Xc9,trivial⟩)
 have L3:=Xwa Xab Xaa (XaF.Xba ⟨XiL,Xc9,trivial⟩)
 have L4:=Xyl Xab Xaa (XaF.Xba ⟨XiL,Xc9,trivial⟩)
 have L5:=Xzc Xab Xaa (XaF.Xba ⟨XiL,Xc9,trivial⟩)
 have L6:=XyH Xab Xaa (XaF.Xba ⟨XiL,Xc9,trivial⟩)
 have L7:=Xya Xab Xaa (XaF.Xba ⟨XiL,Xc9,trivial⟩)
 have L8:=Xzd Xab Xaa (XaF.Xba ⟨XiL,Xc9,trivial⟩)
 have L9:=Xxb Xab Xaa (XaF.Xba ⟨XiL,Xc9,trivial⟩)
 refine XeG.Xjn XaM (fun ar os r ha hr=>?_) ⟨Try.f12,rfl,by decide,rfl⟩
 generalize hc:XiS os=C at hr
 replace hr:=orD.elim hr;rcases hr with hr|hr
 ·have LL:=L0;exact okB
 replace hr:=orD.elim hr;rcases hr with hr|hr
 ·have LL:=L1;have U1:=@XdZ;exact okB
 replace hr:=orD.elim hr;rcases hr with hr|hr
 ·have LL:=L2;have U1:=@Xc2;exact okB
 replace hr:=orD.elim hr;rcases hr with hr|hr
 ·have LL:=L3;have U1:=@Xc6;exact okB
 replace hr:=orD.elim hr;rcases hr with hr|hr
 ·have LL:=L4;have U1:=@XcW;exact okB
 replace hr:=orD.elim hr;rcases hr with hr|hr
 ·have LL:=L5;have U1:=@Xc3;exact okB
 replace hr:=orD.elim hr;rcases hr with hr|hr
 ·have LL:=L6;have U1:=@Xc4;exact okB
 replace hr:=orD.elim hr;rcases hr with hr|hr
 ·have LL:=L7;have U1:=@Xc1;exact okB
 replace hr:=orD.elim hr;rcases hr with hr|hr
 ·have LL:=L8;have U1:=@XcX;exact okB
 have LL:=L9;have U1:=@XcY;exact okB
def Xg0 (Xaa:Xag) (text:List UInt8):Option Int:=
 (Xaa.vn).bind fun n=>
 cond (!n)
  (
  some (0))
  (
  none)
def Xx3 (x:Int):Xdu:=⟨.int .i64 x,[],[none,none,none,none,none,none,none,none,none,none]⟩
abbrev Xfu:=(List UInt8)→Option Int
def r16vn (g:Xfu):Dec:=dNl 10<|dV asS fun (y1:List UInt8)=>XeA (ofG (g y1) Xx3)
abbrev XAi (Xaa:Xag):List (Nat×XcU):=[(38,s38 Xaa)]
theorem Xwd (Xaa:Xag) (hS:XaF Try.prog (XaP (XAi Xaa))) (text:List UInt8) (res:Int) (h:Xg0 Xaa text=some res) :
 XaU Try.prog 16 10 ⟨⟨16,14,[(0,.pointer none),(1,.string ⟨⟨text⟩⟩)],[.code Xlv],[],false,none⟩,[],[],10⟩ (fun v H _=>Res 10 (Xx3 res) v H):=by
 unfold Xg0 at h
 have R1:=@Xpw Xaa
 refine Xa4 XaM hS true 3000 ?_
 conv=>whnf
 exact W
def XeY (Xab:Xaj) (Xaa:Xag) (s:XaA) (text:List UInt8):Option Int:=
 (Xaa.v1 s).bind fun x1=>
 cond (!x1)
  (
  some (0))
  (
  (Xab.v1 s 0 text).bind fun x11=>
  XaQ (decide ((0:Int)≤x11∧x11<(s.rows.m0:Int))) <|
  (s.rows.e0[x11.toNat]?).bind fun (e:Int)=>
  let t:=if e<1099511627776 then e else 1099511627776
  some (t))
def Xzm (x:Int):Xdu:=⟨.int .i64 x,[],[none,none,none,none,none,none,none,none,none,none]⟩
abbrev Xgd:=XaA→(List UInt8)→Option Int
def r16v1 (g:Xgd):Dec:=dTr 10 (XbH 0) fun (y0:XaA)=>dV asS fun (y1:List UInt8)=>XeA (ofG (g y0 y1) Xzm)
abbrev XCp (Xab:Xaj) (Xaa:Xag):List (Nat×XcU):=[(20,s20 Xab),(38,s38 Xaa)]
theorem Xxv (Xab:Xaj) (Xaa:Xag) (hS:XaF Try.prog (XaP (XCp Xab Xaa))) (s:XaA) (text:List UInt8) (res:Int) (h:XeY Xab Xaa s text=some res) :
 XaU Try.prog 16 10 ⟨⟨16,14,[(0,.pointer (some ⟨0,0,none⟩)),(1,.string ⟨⟨text⟩⟩)],[.code Xlv],[],false,none⟩,[],[(0,.row false [.int .u64 s.key.A,.int .u64 s.key.B,.slice (some ⟨1,0,none⟩) 1 1,.int .i64 s.total]),(1,.row false [.slice (some ⟨2,0,none⟩) s.rows.m0 1]),(2,.row false (vI .i64 s.rows.e0))],10⟩ (fun v H _=>Res 10 (Xzm res) v H):=by
 unfold XeY at h
 have R1:=@Xmm Xaa
 have R2:=@Xqd Xab
 have J:=js []
 refine Xa4 XaM hS true 3000 ?_
 conv=>whnf
 exact W
def XeN (Xab:Xaj) (Xaa:Xag) (s:Xax) (text:List UInt8):Option Int:=
 (Xaa.v2 s).bind fun x2=>
 cond (!x2)
  (
  some (0))
  (
  (Xab.v2 s 0 text).bind fun x21=>
  XaQ (decide ((0:Int)≤x21∧x21<(s.rows.m0:Int))) <|
  (s.rows.e0[x21.toNat]?).bind fun (e:Int)=>
  let t:=if e<1099511627776 then e else 1099511627776
  (Xab.v2 s 1 text).bind fun x22=>
  XaQ (decide ((0:Int)≤x22∧x22<(s.rows.m1:Int))) <|
  (s.rows.e1[x22.toNat]?).bind fun (e1:Int)=>
  some (if e1<t then e1 else t))
def XzP (x:Int):Xdu:=⟨.int .i64 x,[],[none,none,none,none,none,none,none,none,none,none]⟩
abbrev XfJ:=Xax→(List UInt8)→Option Int
def r16v2 (g:XfJ):Dec:=dTr 10 (XbL 0) fun (y0:Xax)=>dV asS fun (y1:List UInt8)=>XeA (ofG (g y0 y1) XzP)
abbrev XA6 (Xab:Xaj) (Xaa:Xag):List (Nat×XcU):=[(20,s20 Xab),(38,s38 Xaa)]
theorem XwE (Xab:Xaj) (Xaa:Xag) (hS:XaF Try.prog (XaP (XA6 Xab Xaa))) (s:Xax) (text:List UInt8) (res:Int) (h:XeN Xab Xaa s text=some res) :
 XaU Try.prog 16 10 ⟨⟨16,14,[(0,.pointer (some ⟨0,0,none⟩)),(1,.string ⟨⟨text⟩⟩)],[.code Xlv],[],false,none⟩,[],[(0,.row false [.int .u64 s.key.A,.int .u64 s.key.B,.slice (some ⟨1,0,none⟩) 2 1,.int .i64 s.total]),(1,.row false [.slice (some ⟨2,0,none⟩) s.rows.m0 1,.slice (some ⟨3,0,none⟩) s.rows.m1 1]),(2,.row false (vI .i64 s.rows.e0)),(3,.row false (vI .i64 s.rows.e1))],10⟩ (fun v H _=>Res 10 (XzP res) v H):=by
 unfold XeN at h
 have R1:=@Xmn Xaa
 have R2:=@XpS Xab
 have J:=js []
 refine Xa4 XaM hS true 3000 ?_
 conv=>whnf
 exact W
def XeT (Xab:Xaj) (Xaa:Xag) (s:Xau) (text:List UInt8):Option Int:=
 (Xaa.v3 s).bind fun x3=>
 cond (!x3)
  (
  some (0))
  (
  (Xab.v3 s 0 text).bind fun x31=>
  XaQ (decide ((0:Int)≤x31∧x31<(s.rows.m0:Int))) <|
  (s.rows.e0[x31.toNat]?).bind fun (e:Int)=>
  let t:=if e<1099511627776 then e else 1099511627776
  (Xab.v3 s 1 text).bind fun x32=>
  XaQ (decide ((0:Int)≤x32∧x32<(s.rows.m1:Int))) <|
  (s.rows.e1[x32.toNat]?).bind fun (e1:Int)=>
  (Xab.v3 s 2 text).bind fun x33=>
  XaQ (decide ((0:Int)≤x33∧x33<(s.rows.m2:Int))) <|
  (s.rows.e2[x33.toNat]?).bind fun (e2:Int)=>
  let t1:=if e2<(if e1<t then e1 else t) then e2 else if e1<t then e1 else t
  some (t1))
def XxP (x:Int):Xdu:=⟨.int .i64 x,[],[none,none,none,none,none,none,none,none,none,none]⟩
abbrev XfF:=Xau→(List UInt8)→Option Int
def r16v3 (g:XfF):Dec:=dTr 10 (XbK 0) fun (y0:Xau)=>dV asS fun (y1:List UInt8)=>XeA (ofG (g y0 y1) XxP)
abbrev XAZ (Xab:Xaj) (Xaa:Xag):List (Nat×XcU):=[(20,s20 Xab),(38,s38 Xaa)]
theorem Xz0 (Xab:Xaj) (Xaa:Xag) (hS:XaF Try.prog (XaP (XAZ Xab Xaa))) (s:Xau) (text:List UInt8) (res:Int) (h:XeT Xab Xaa s text=some res) :
 XaU Try.prog 16 10 ⟨⟨16,14,[(0,.pointer (some ⟨0,0,none⟩)),(1,.string ⟨⟨text⟩⟩)],[.code Xlv],[],false,none⟩,[],[(0,.row false [.int .u64 s.key.A,.int .u64 s.key.B,.slice (some ⟨1,0,none⟩) 3 1,.int .i64 s.total]),(1,.row false [.slice (some ⟨2,0,none⟩) s.rows.m0 1,.slice (some ⟨3,0,none⟩) s.rows.m1 1,.slice (some ⟨4,0,none⟩) s.rows.m2 1]),(2,.row false (vI .i64 s.rows.e0)),(3,.row false (vI .i64 s.rows.e1)),(4,.row false (vI .i64 s.rows.e2))],10⟩ (fun v H _=>Res 10 (XxP res) v H):=by
 unfold XeT at h
 have R1:=@Xmy Xaa
 have R2:=@Xpl Xab
 have J:=js []
 refine Xa4 XaM hS true 3000 ?_
 conv=>whnf
 exact W
def XeQ (Xab:Xaj) (Xaa:Xag) (s:Xar) (text:List UInt8):Option Int:=
 (Xaa.v4 s).bind fun x4=>
 cond (!x4)
  (
  some (0))
  (
  (Xab.v4 s 0 text).bind fun x41=>
  XaQ (decide ((0:Int)≤x41∧x41<(s.rows.m0:Int))) <|
  (s.rows.e0[x41.toNat]?).bind fun (e:Int)=>
  let t:=if e<1099511627776 then e else 1099511627776
  (Xab.v4 s 1 text).bind fun x42=>
  XaQ (decide ((0:Int)≤x42∧x42<(s.rows.m1:Int))) <|
  (s.rows.e1[x42.toNat]?).bind fun (e1:Int)=>
  (Xab.v4 s 2 text).bind fun x43=>
  XaQ (decide ((0:Int)≤x43∧x43<(s.rows.m2:Int))) <|
  (s.rows.e2[x43.toNat]?).bind fun (e2:Int)=>
  let t1:=if e2<(if e1<t then e1 else t) then e2 else if e1<t then e1 else t
  (Xab.v4 s 3 text).bind fun x44=>
  XaQ (decide ((0:Int)≤x44∧x44<(s.rows.m3:Int))) <|
  (s.rows.e3[x44.toNat]?).bind fun (e3:Int)=>
  some (if e3<t1 then e3 else t1))
def Xy7 (x:Int):Xdu:=⟨.int .i64 x,[],[none,none,none,none,none,none,none,none,none,none]⟩
abbrev XfP:=Xar→(List UInt8)→Option Int
def r16v4 (g:XfP):Dec:=dTr 10 (XbJ 0) fun (y0:Xar)=>dV asS fun (y1:List UInt8)=>XeA (ofG (g y0 y1) Xy7)
abbrev XCz (Xab:Xaj) (Xaa:Xag):List (Nat×XcU):=[(20,s20 Xab),(38,s38 Xaa)]
theorem Xxj (Xab:Xaj) (Xaa:Xag) (hS:XaF Try.prog (XaP (XCz Xab Xaa))) (s:Xar) (text:List UInt8) (res:Int) (h:XeQ Xab Xaa s text=some res) :
 XaU Try.prog 16 10 ⟨⟨16,14,[(0,.pointer (some ⟨0,0,none⟩)),(1,.string ⟨⟨text⟩⟩)],[.code Xlv],[],false,none⟩,[],[(0,.row false [.int .u64 s.key.A,.int .u64 s.key.B,.slice (some ⟨1,0,none⟩) 4 1,.int .i64 s.total]),(1,.row false [.slice (some ⟨2,0,none⟩) s.rows.m0 1,.slice (some ⟨3,0,none⟩) s.rows.m1 1,.slice (some ⟨4,0,none⟩) s.rows.m2 1,.slice (some ⟨5,0,none⟩) s.rows.m3 1]),(2,.row false (vI .i64 s.rows.e0)),(3,.row false (vI .i64 s.rows.e1)),(4,.row false (vI .i64 s.rows.e2)),(5,.row false (vI .i64 s.rows.e3))],10⟩ (fun v H _=>Res 10 (Xy7 res) v H):=by
 unfold XeQ at h
 have R1:=@Xl5 Xaa
 have R2:=@Xp5 Xab
 have J:=js []
 refine Xa4 XaM hS true 3000 ?_
 conv=>whnf
 exact W
def XeU (Xab:Xaj) (Xaa:Xag) (s:Xap) (text:List UInt8):Option Int:=
 (Xaa.v5 s).bind fun x5=>
 cond (!x5)
  (
  some (0))
  (
  (Xab.v5 s 0 text).bind fun x51=>
  XaQ (decide ((0:Int)≤x51∧x51<(s.rows.m0:Int))) <|
  (s.rows.e0[x51.toNat]?).bind fun (e:Int)=>
  let t:=if e<1099511627776 then e else 1099511627776
  (Xab.v5 s 1 text).bind fun x52=>
  XaQ (decide ((0:Int)≤x52∧x52<(s.rows.m1:Int))) <|
  (s.rows.e1[x52.toNat]?).bind fun (e1:Int)=>
  (Xab.v5 s 2 text).bind fun x53=>
  XaQ (decide ((0:Int)≤x53∧x53<(s.rows.m2:Int))) <|
  (s.rows.e2[x53.toNat]?).bind fun (e2:Int)=>
  let t1:=if e2<(if e1<t then e1 else t) then e2 else if e1<t then e1 else t
  (Xab.v5 s 3 text).bind fun x54=>
  XaQ (decide ((0:Int)≤x54∧x54<(s.rows.m3:Int))) <|
  (s.rows.e3[x54.toNat]?).bind fun (e3:Int)=>
  (Xab.v5 s 4 text).bind fun x55=>
  XaQ (decide ((0:Int)≤x55∧x55<(s.rows.m4:Int))) <|
  (s.rows.e4[x55.toNat]?).bind fun (e4:Int)=>
  let t2:=if e4<(if e3<t1 then e3 else t1) then e4 else if e3<t1 then e3 else t1
  some (t2))
def XxU (x:Int):Xdu:=⟨.int .i64 x,[],[none,none,none,none,none,none,none,none,none,none]⟩
abbrev Xfx:=Xap→(List UInt8)→Option Int
def r16v5 (g:Xfx):Dec:=dTr 10 (XbG 0) fun (y0:Xap)=>dV asS fun (y1:List UInt8)=>XeA (ofG (g y0 y1) XxU)
abbrev XAp (Xab:Xaj) (Xaa:Xag):List (Nat×XcU):=[(20,s20 Xab),(38,s38 Xaa)]
theorem XyA (Xab:Xaj) (Xaa:Xag) (hS:XaF Try.prog (XaP (XAp Xab Xaa))) (s:Xap) (text:List UInt8) (res:Int) (h:XeU Xab Xaa s text=some res) :
 XaU Try.prog 16 10 ⟨⟨16,14,[(0,.pointer (some ⟨0,0,none⟩)),(1,.string ⟨⟨text⟩⟩)],[.code Xlv],[],false,none⟩,[],[(0,.row false [.int .u64 s.key.A,.int .u64 s.key.B,.slice (some ⟨1,0,none⟩) 5 1,.int .i64 s.total]),(1,.row false [.slice (some ⟨2,0,none⟩) s.rows.m0 1,.slice (some ⟨3,0,none⟩) s.rows.m1 1,.slice (some ⟨4,0,none⟩) s.rows.m2 1,.slice (some ⟨5,0,none⟩) s.rows.m3 1,.slice (some ⟨6,0,none⟩) s.rows.m4 1]),(2,.row false (vI .i64 s.rows.e0)),(3,.row false (vI .i64 s.rows.e1)),(4,.row false (vI .i64 s.rows.e2)),(5,.row false (vI .i64 s.rows.e3)),(6,.row false (vI .i64 s.rows.e4))],10⟩ (fun v H _=>Res 10 (XxU res) v H):=by
 unfold XeU at h
 have R1:=@Xmk Xaa
 have R2:=@Xpk Xab
 have J:=js []
 refine Xa4 XaM hS true 3000 ?_
 conv=>whnf
 exact W
def XeX (Xab:Xaj) (Xaa:Xag) (s:Xan) (text:List UInt8):Option Int:=
 (Xaa.v6 s).bind fun x6=>
 cond (!x6)
  (
  some (0))
  (
  (Xab.v6 s 0 text).bind fun x61=>
  XaQ (decide ((0:Int)≤x61∧x61<(s.rows.m0:Int))) <|
  (s.rows.e0[x61.toNat]?).bind fun (e:Int)=>
  let t:=if e<1099511627776 then e else 1099511627776
  (Xab.v6 s 1 text).bind fun x62=>
  XaQ (decide ((0:Int)≤x62∧x62<(s.rows.m1:Int))) <|
  (s.rows.e1[x62.toNat]?).bind fun (e1:Int)=>
  (Xab.v6 s 2 text).bind fun x63=>
  XaQ (decide ((0:Int)≤x63∧x63<(s.rows.m2:Int))) <|
  (s.rows.e2[x63.toNat]?).bind fun (e2:Int)=>
  let t1:=if e2<(if e1<t then e1 else t) then e2 else if e1<t then e1 else t
  (Xab.v6 s 3 text).bind fun x64=>
  XaQ (decide ((0:Int)≤x64∧x64<(s.rows.m3:Int))) <|
  (s.rows.e3[x64.toNat]?).bind fun (e3:Int)=>
  (Xab.v6 s 4 text).bind fun x65=>
  XaQ (decide ((0:Int)≤x65∧x65<(s.rows.m4:Int))) <|
  (s.rows.e4[x65.toNat]?).bind fun (e4:Int)=>
  let t2:=if e4<(if e3<t1 then e3 else t1) then e4 else if e3<t1 then e3 else t1
  (Xab.v6 s 5 text).bind fun x66=>
  XaQ (decide ((0:Int)≤x66∧x66<(s.rows.m5:Int))) <|
  (s.rows.e5[x66.toNat]?).bind fun (e5:Int)=>
  some (if e5<t2 then e5 else t2))
def XzU (x:Int):Xdu:=⟨.int .i64 x,[],[none,none,none,none,none,none,none,none,none,none]⟩
abbrev Xfv:=Xan→(List UInt8)→Option Int
def r16v6 (g:Xfv):Dec:=dTr 10 (XbF 0) fun (y0:Xan)=>dV asS fun (y1:List UInt8)=>XeA (ofG (g y0 y1) XzU)
abbrev XCj (Xab:Xaj) (Xaa:Xag):List (Nat×XcU):=[(20,s20 Xab),(38,s38 Xaa)]
theorem Xyt (Xab:Xaj) (Xaa:Xag) (hS:XaF Try.prog (XaP (XCj Xab Xaa))) (s:Xan) (text:List UInt8) (res:Int) (h:XeX Xab Xaa s text=some res) :
 XaU Try.prog 16 10 ⟨⟨16,14,[(0,.pointer (some ⟨0,0,none⟩)),(1,.string ⟨⟨text⟩⟩)],[.code Xlv],[],false,none⟩,[],[(0,.row false [.int .u64 s.key.A,.int .u64 s.key.B,.slice (some ⟨1,0,none⟩) 6 1,.int .i64 s.total]),(1,.row false [.slice (some ⟨2,0,none⟩) s.rows.m0 1,.slice (some ⟨3,0,none⟩) s.rows.m1 1,.slice (some ⟨4,0,none⟩) s.rows.m2 1,.slice (some ⟨5,0,none⟩) s.rows.m3 1,.slice (some ⟨6,0,none⟩) s.rows.m4 1,.slice (some ⟨7,0,none⟩) s.rows.m5 1]),(2,.row false (vI .i64 s.rows.e0)),(3,.row false (vI .i64 s.rows.e1)),(4,.row false (vI .i64 s.rows.e2)),(5,.row false (vI .i64 s.rows.e3)),(6,.row false (vI .i64 s.rows.e4)),(7,.row false (vI .i64 s.rows.e5))],10⟩ (fun v H _=>Res 10 (XzU res) v H):=by
 unfold XeX at h
 have R1:=@Xmt Xaa
 have R2:=@Xpj Xab
 have J:=js []
 refine Xa4 XaM hS true 3000 ?_
 conv=>whnf
 exact W
def XeW (Xab:Xaj) (Xaa:Xag) (s:Xal) (text:List UInt8):Option Int:=
 (Xaa.v7 s).bind fun x7=>
 cond (!x7)
  (
  some (0))
  (
  (Xab.v7 s 0 text).bind fun x71=>
  XaQ (decide ((0:Int)≤x71∧x71<(s.rows.m0:Int))) <|
  (s.rows.e0[x71.toNat]?).bind fun (e:Int)=>
  let t:=if e<1099511627776 then e else 1099511627776
  (Xab.v7 s 1 text).bind fun x72=>
  XaQ (decide ((0:Int)≤x72∧x72<(s.rows.m1:Int))) <|
  (s.rows.e1[x72.toNat]?).bind fun (e1:Int)=>
  (Xab.v7 s 2 text).bind fun x73=>
  XaQ (decide ((0:Int)≤x73∧x73<(s.rows.m2:Int))) <|
  (s.rows.e2[x73.toNat]?).bind fun (e2:Int)=>
  let t1:=if e2<(if e1<t then e1 else t) then e2 else if e1<t then e1 else t
  (Xab.v7 s 3 text).bind fun x74=>
  XaQ (decide ((0:Int)≤x74∧x74<(s.rows.m3:Int))) <|
  (s.rows.e3[x74.toNat]?).bind fun (e3:Int)=>
  (Xab.v7 s 4 text).bind fun x75=>
  XaQ (decide ((0:Int)≤x75∧x75<(s.rows.m4:Int))) <|
  (s.rows.e4[x75.toNat]?).bind fun (e4:Int)=>
  let t2:=if e4<(if e3<t1 then e3 else t1) then e4 else if e3<t1 then e3 else t1
  (Xab.v7 s 5 text).bind fun x76=>
  XaQ (decide ((0:Int)≤x76∧x76<(s.rows.m5:Int))) <|
  (s.rows.e5[x76.toNat]?).bind fun (e5:Int)=>
  (Xab.v7 s 6 text).bind fun x77=>
  XaQ (decide ((0:Int)≤x77∧x77<(s.rows.m6:Int))) <|
  (s.rows.e6[x77.toNat]?).bind fun (e6:Int)=>
  let t3:=if e6<(if e5<t2 then e5 else t2) then e6 else if e5<t2 then e5 else t2
  some (t3))
def Xzr (x:Int):Xdu:=⟨.int .i64 x,[],[none,none,none,none,none,none,none,none,none,none]⟩
abbrev XfM:=Xal→(List UInt8)→Option Int
def r16v7 (g:XfM):Dec:=dTr 10 (XbM 0) fun (y0:Xal)=>dV asS fun (y1:List UInt8)=>XeA (ofG (g y0 y1) Xzr)
abbrev XBd (Xab:Xaj) (Xaa:Xag):List (Nat×XcU):=[(20,s20 Xab),(38,s38 Xaa)]
theorem Xxi (Xab:Xaj) (Xaa:Xag) (hS:XaF Try.prog (XaP (XBd Xab Xaa))) (s:Xal) (text:List UInt8) (res:Int) (h:XeW Xab Xaa s text=some res) :
 XaU Try.prog 16 10 ⟨⟨16,14,[(0,.pointer (some ⟨0,0,none⟩)),(1,.string ⟨⟨text⟩⟩)],[.code Xlv],[],false,none⟩,[],[(0,.row false [.int .u64 s.key.A,.int .u64 s.key.B,.slice (some ⟨1,0,none⟩) 7 1,.int .i64 s.total]),(1,.row false [.slice (some ⟨2,0,none⟩) s.rows.m0 1,.slice (some ⟨3,0,none⟩) s.rows.m1 1,.slice (some ⟨4,0,none⟩) s.rows.m2 1,.slice (some ⟨5,0,none⟩) s.rows.m3 1,.slice (some ⟨6,0,none⟩) s.rows.m4 1,.slice (some ⟨7,0,none⟩) s.rows.m5 1,.slice (some ⟨8,0,none⟩) s.rows.m6 1]),(2,.row false (vI .i64 s.rows.e0)),(3,.row false (vI .i64 s.rows.e1)),(4,.row false (vI .i64 s.rows.e2)),(5,.row false (vI .i64 s.rows.e3)),(6,.row false (vI .i64 s.rows.e4)),(7,.row false (vI .i64 s.rows.e5)),(8,.row false (vI .i64 s.rows.e6))],10⟩ (fun v H _=>Res 10 (Xzr res) v H):=by
 unfold XeW at h
 have R1:=@XmI Xaa
 have R2:=@XpC Xab
 have J:=js []
 refine Xa4 XaM hS true 3000 ?_
 conv=>whnf
 exact W
def Xe0 (Xab:Xaj) (Xaa:Xag) (s:Xak) (text:List UInt8):Option Int:=
 (Xaa.v8 s).bind fun x8=>
 cond (!x8)
  (
  some (0))
  (
  (Xab.v8 s 0 text).bind fun x81=>
  XaQ (decide ((0:Int)≤x81∧x81<(s.rows.m0:Int))) <|
  (s.rows.e0[x81.toNat]?).bind fun (e:Int)=>
  let t:=if e<1099511627776 then e else 1099511627776
  (Xab.v8 s 1 text).bind fun x82=>
  XaQ (decide ((0:Int)≤x82∧x82<(s.rows.m1:Int))) <|
  (s.rows.e1[x82.toNat]?).bind fun (e1:Int)=>
  (Xab.v8 s 2 text).bind fun x83=>
  XaQ (decide ((0:Int)≤x83∧x83<(s.rows.m2:Int))) <|
  (s.rows.e2[x83.toNat]?).bind fun (e2:Int)=>
  let t1:=if e2<(if e1<t then e1 else t) then e2 else if e1<t then e1 else t
  (Xab.v8 s 3 text).bind fun x84=>
  XaQ (decide ((0:Int)≤x84∧x84<(s.rows.m3:Int))) <|
  (s.rows.e3[x84.toNat]?).bind fun (e3:Int)=>
  (Xab.v8 s 4 text).bind fun x85=>
  XaQ (decide ((0:Int)≤x85∧x85<(s.rows.m4:Int))) <|
  (s.rows.e4[x85.toNat]?).bind fun (e4:Int)=>
  let t2:=if e4<(if e3<t1 then e3 else t1) then e4 else if e3<t1 then e3 else t1
  (Xab.v8 s 5 text).bind fun x86=>
  XaQ (decide ((0:Int)≤x86∧x86<(s.rows.m5:Int))) <|
  (s.rows.e5[x86.toNat]?).bind fun (e5:Int)=>
  (Xab.v8 s 6 text).bind fun x87=>
  XaQ (decide ((0:Int)≤x87∧x87<(s.rows.m6:Int))) <|
  (s.rows.e6[x87.toNat]?).bind fun (e6:Int)=>
  let t3:=if e6<(if e5<t2 then e5 else t2) then e6 else if e5<t2 then e5 else t2
  (Xab.v8 s 7 text).bind fun x88=>
  XaQ (decide ((0:Int)≤x88∧x88<(s.rows.m7:Int))) <|
  (s.rows.e7[x88.toNat]?).bind fun (e7:Int)=>
  some (if e7<t3 then e7 else t3))
def Xyw (x:Int):Xdu:=⟨.int .i64 x,[],[none,none,none,none,none,none,none,none,none,none]⟩
abbrev XfI:=Xak→(List UInt8)→Option Int
def r16v8 (g:XfI):Dec:=dTr 10 (XbE 0) fun (y0:Xak)=>dV asS fun (y1:List UInt8)=>XeA (ofG (g y0 y1) Xyw)
abbrev XA4 (Xab:Xaj) (Xaa:Xag):List (Nat×XcU):=[(20,s20 Xab),(38,s38 Xaa)]
theorem XzY (Xab:Xaj) (Xaa:Xag) (hS:XaF Try.prog (XaP (XA4 Xab Xaa))) (s:Xak) (text:List UInt8) (res:Int) (h:Xe0 Xab Xaa s text=some res) :
 XaU Try.prog 16 10 ⟨⟨16,14,[(0,.pointer (some ⟨0,0,none⟩)),(1,.string ⟨⟨text⟩⟩)],[.code Xlv],[],false,none⟩,[],[(0,.row false [.int .u64 s.key.A,.int .u64 s.key.B,.slice (some ⟨1,0,none⟩) 8 1,.int .i64 s.total]),(1,.row false [.slice (some ⟨2,0,none⟩) s.rows.m0 1,.slice (some ⟨3,0,none⟩) s.rows.m1 1,.slice (some ⟨4,0,none⟩) s.rows.m2 1,.slice (some ⟨5,0,none⟩) s.rows.m3 1,.slice (some ⟨6,0,none⟩) s.rows.m4 1,.slice (some ⟨7,0,none⟩) s.rows.m5 1,.slice (some ⟨8,0,none⟩) s.rows.m6 1,.slice (some ⟨9,0,none⟩) s.rows.m7 1]),(2,.row false (vI .i64 s.rows.e0)),(3,.row false (vI .i64 s.rows.e1)),(4,.row false (vI .i64 s.rows.e2)),(5,.row false (vI .i64 s.rows.e3)),(6,.row false (vI .i64 s.rows.e4)),(7,.row false (vI .i64 s.rows.e5)),(8,.row false (vI .i64 s.rows.e6)),(9,.row false (vI .i64 s.rows.e7))],10⟩ (fun v H _=>Res 10 (Xyw res) v H):=by
 unfold Xe0 at h
 have R1:=@Xms Xaa
 have R2:=@Xp9 Xab
 have J:=js []
 refine Xa4 XaM hS true 3000 ?_
 conv=>whnf
 exact W
structure XaB where
 vn:Xfu
 v1:Xgd
 v2:XfJ
 v3:XfF
 v4:XfP
 v5:Xfx
 v6:Xfv
 v7:XfM
 v8:XfI
def s16 (g:XaB):XcU:=⟨[.tr [⟨none,0,0,0,none⟩,⟨some 0,2,0,0,none⟩,⟨some 1,0,0,0,none⟩,⟨some 1,1,0,0,none⟩,⟨some 1,2,0,0,none⟩,⟨some 1,3,0,0,none⟩,⟨some 1,4,0,0,none⟩,⟨some 1,5,0,0,none⟩,⟨some 1,6,0,0,none⟩,⟨some 1,7,0,0,none⟩],.v],orD (r16vn g.vn) (orD (r16v1 g.v1) (orD (r16v2 g.v2) (orD (r16v3 g.v3) (orD (r16v4 g.v4) (orD (r16v5 g.v5) (orD (r16v6 g.v6) (orD (r16v7 g.v7) (r16v8 g.v8))))))))⟩
theorem Xt1 {g:XaB} {y1:List UInt8} {x:Int} (hx:g.vn y1=some x):(s16 g).run [.pointer none,.string ⟨⟨y1⟩⟩] [none,none,none,none,none,none,none,none,none,none]=some (Xx3 x):=by dsimp only [s16];exact (XdM ((XtU).trans ((Xbz (XhC)).trans (Xbc hx))))
theorem XBt {g:XaB} {y0:XaA} {y1:List UInt8} {x:Int} (hx:g.v1 y0 y1=some x):(s16 g).run [.pointer (some ⟨0,0,none⟩),.string ⟨⟨y1⟩⟩] [some [.int .u64 y0.key.A,.int .u64 y0.key.B,.slice (some ⟨1,0,none⟩) 1 1,.int .i64 y0.total],some [.slice (some ⟨2,0,none⟩) y0.rows.m0 1],some (vI .i64 y0.rows.e0),none,none,none,none,none,none,none]=some (Xzm x):=by dsimp only [s16];exact (XaL rfl (XdM ((Xbn rfl rfl (XcR 0 _)).trans ((Xbz (XhC)).trans (Xbc hx)))))
theorem XpQ {g:XaB} {y0:Xax} {y1:List UInt8} {x:Int} (hx:g.v2 y0 y1=some x):(s16 g).run [.pointer (some ⟨0,0,none⟩),.string ⟨⟨y1⟩⟩] [some [.int .u64 y0.key.A,.int .u64 y0.key.B,.slice (some ⟨1,0,none⟩) 2 1,.int .i64 y0.total],some [.slice (some ⟨2,0,none⟩) y0.rows.m0 1,.slice (some ⟨3,0,none⟩) y0.rows.m1 1],some (vI .i64 y0.rows.e0),some (vI .i64 y0.rows.e1),none,none,none,none,none,none]=some (XzP x):=by dsimp only [s16];exact (XaL rfl (XaL rfl (XdM ((Xbn rfl rfl (XcM 0 _)).trans ((Xbz (XhC)).trans (Xbc hx))))))
theorem XAs {g:XaB} {y0:Xau} {y1:List UInt8} {x:Int} (hx:g.v3 y0 y1=some x):(s16 g).run [.pointer (some ⟨0,0,none⟩),.string ⟨⟨y1⟩⟩] [some [.int .u64 y0.key.A,.int .u64 y0.key.B,.slice (some ⟨1,0,none⟩) 3 1,.int .i64 y0.total],some [.slice (some ⟨2,0,none⟩) y0.rows.m0 1,.slice (some ⟨3,0,none⟩) y0.rows.m1 1,.slice (some ⟨4,0,none⟩) y0.rows.m2 1],some (vI .i64 y0.rows.e0),some (vI .i64 y0.rows.e1),some (vI .i64 y0.rows.e2),none,none,none,none,none]=some (XxP x):=by dsimp only [s16];exact (XaL rfl (XaL rfl (XaL rfl (XdM ((Xbn rfl rfl (XcK 0 _)).trans ((Xbz (XhC)).trans (Xbc hx)))))))
theorem XBl {g:XaB} {y0:Xar} {y1:List UInt8} {x:Int} (hx:g.v4 y0 y1=some x):(s16 g).run [.pointer (some ⟨0,0,none⟩),.string ⟨⟨y1⟩⟩] [some [.int .u64 y0.key.A,.int .u64 y0.key.B,.slice (some ⟨1,0,none⟩) 4 1,.int .i64 y0.total],some [.slice (some ⟨2,0,none⟩) y0.rows.m0 1,.slice (some ⟨3,0,none⟩) y0.rows.m1 1,.slice (some ⟨4,0,none⟩) y0.rows.m2 1,.slice (some ⟨5,0,none⟩) y0.rows.m3 1],some (vI .i64 y0.rows.e0),some (vI .i64 y0.rows.e1),some (vI .i64 y0.rows.e2),some (vI .i64 y0.rows.e3),none,none,none,none]=some (Xy7 x):=by dsimp only [s16];exact (XaL rfl (XaL rfl (XaL rfl (XaL rfl (XdM ((Xbn rfl rfl (XcN 0 _)).trans ((Xbz (XhC)).trans (Xbc hx))))))))
theorem XAM {g:XaB} {y0:Xap} {y1:List UInt8} {x:Int} (hx:g.v5 y0 y1=some x):(s16 g).run [.pointer (some ⟨0,0,none⟩),.string ⟨⟨y1⟩⟩] [some [.int .u64 y0.key.A,.int .u64 y0.key.B,.slice (some ⟨1,0,none⟩) 5 1,.int .i64 y0.total],some [.slice (some ⟨2,0,none⟩) y0.rows.m0 1,.slice (some ⟨3,0,none⟩) y0.rows.m1 1,.slice (some ⟨4,0,none⟩) y0.rows.m2 1,.slice (some ⟨5,0,none⟩) y0.rows.m3 1,.slice (some ⟨6,0,none⟩) y0.rows.m4 1],some (vI .i64 y0.rows.e0),some (vI .i64 y0.rows.e1),some (vI .i64 y0.rows.e2),some (vI .i64 y0.rows.e3),some (vI .i64 y0.rows.e4),none,none,none]=some (XxU x):=by dsimp only [s16];exact (XaL rfl (XaL rfl (XaL rfl (XaL rfl (XaL rfl (XdM ((Xbn rfl rfl (XcO 0 _)).trans ((Xbz (XhC)).trans (Xbc hx)))))))))
theorem XBB {g:XaB} {y0:Xan} {y1:List UInt8} {x:Int} (hx:g.v6 y0 y1=some x):(s16 g).run [.pointer (some ⟨0,0,none⟩),.string ⟨⟨y1⟩⟩] [some [.int .u64 y0.key.A,.int .u64 y0.key.B,.slice (some ⟨1,0,none⟩) 6 1,.int .i64 y0.total],some [.slice (some ⟨2,0,none⟩) y0.rows.m0 1,.slice (some ⟨3,0,none⟩) y0.rows.m1 1,.slice (some ⟨4,0,none⟩) y0.rows.m2 1,.slice (some ⟨5,0,none⟩) y0.rows.m3 1,.slice (some ⟨6,0,none⟩) y0.rows.m4 1,.slice (some ⟨7,0,none⟩) y0.rows.m5 1],some (vI .i64 y0.rows.e0),some (vI .i64 y0.rows.e1),some (vI .i64 y0.rows.e2),some (vI .i64 y0.rows.e3),some (vI .i64 y0.rows.e4),some (vI .i64 y0.rows.e5),none,none]=some (XzU x):=by dsimp only [s16];exact (XaL rfl (XaL rfl (XaL rfl (XaL rfl (XaL rfl (XaL rfl (XdM ((Xbn rfl rfl (XcQ 0 _)).trans ((Xbz (XhC)).trans (Xbc hx))))))))))
theorem XBh {g:XaB} {y0:Xal} {y1:List UInt8} {x:Int} (hx:g.v7 y0 y1=some x):(s16 g).run [.pointer (some ⟨0,0,none⟩),.string ⟨⟨y1⟩⟩] [some [.int .u64 y0.key.A,.int .u64 y0.key.B,.slice (some ⟨1,0,none⟩) 7 1,.int .i64 y0.total],some [.slice (some ⟨2,0,none⟩) y0.rows.m0 1,.slice (some ⟨3,0,none⟩) y0.rows.m1 1,.slice (some ⟨4,0,none⟩) y0.rows.m2 1,.slice (some ⟨5,0,none⟩) y0.rows.m3 1,.slice (some ⟨6,0,none⟩) y0.rows.m4 1,.slice (some ⟨7,0,none⟩) y0.rows.m5 1,.slice (some ⟨8,0,none⟩) y0.rows.m6 1],some (vI .i64 y0.rows.e0),some (vI .i64 y0.rows.e1),some (vI .i64 y0.rows.e2),some (vI .i64 y0.rows.e3),some (vI .i64 y0.rows.e4),some (vI .i64 y0.rows.e5),some (vI .i64 y0.rows.e6),none]=some (Xzr x):=by dsimp only [s16];exact (XaL rfl (XaL rfl (XaL rfl (XaL rfl (XaL rfl (XaL rfl (XaL rfl (XdM ((Xbn rfl rfl (XcL 0 _)).trans ((Xbz (XhC)).trans (Xbc hx)))))))))))
theorem XBj {g:XaB} {y0:Xak} {y1:List UInt8} {x:Int} (hx:g.v8 y0 y1=some x):(s16 g).run [.pointer (some ⟨0,0,none⟩),.string ⟨⟨y1⟩⟩] [some [.int .u64 y0.key.A,.int .u64 y0.key.B,.slice (some ⟨1,0,none⟩) 8 1,.int .i64 y0.total],some [.slice (some ⟨2,0,none⟩) y0.rows.m0 1,.slice (some ⟨3,0,none⟩) y0.rows.m1 1,.slice (some ⟨4,0,none⟩) y0.rows.m2 1,.slice (some ⟨5,0,none⟩) y0.rows.m3 1,.slice (some ⟨6,0,none⟩) y0.rows.m4 1,.slice (some ⟨7,0,none⟩) y0.rows.m5 1,.slice (some ⟨8,0,none⟩) y0.rows.m6 1,.slice (some ⟨9,0,none⟩) y0.rows.m7 1],some (vI .i64 y0.rows.e0),some (vI .i64 y0.rows.e1),some (vI .i64 y0.rows.e2),some (vI .i64 y0.rows.e3),some (vI .i64 y0.rows.e4),some (vI .i64 y0.rows.e5),some (vI .i64 y0.rows.e6),some (vI .i64 y0.rows.e7)]=some (Xyw x):=by dsimp only [s16];exact (XaL rfl (XaL rfl (XaL rfl (XaL rfl (XaL rfl (XaL rfl (XaL rfl (XaL rfl ((Xbn rfl rfl (XcP 0 _)).trans ((Xbz (XhC)).trans (Xbc hx)))))))))))
def Xkc:Xfu:=Xg0 Xaa
def Xhg:Xgd:=XeY Xab Xaa
def Xhr:XfJ:=XeN Xab Xaa
def Xhj:XfF:=XeT Xab Xaa
def Xht:XfP:=XeQ Xab Xaa
def Xhl:Xfx:=XeU Xab Xaa
def Xhu:Xfv:=XeX Xab Xaa
def Xhh:XfM:=XeW Xab Xaa
def Xhk:XfI:=Xe0 Xab Xaa
def Xad:XaB:=⟨Xkc,Xhg,Xhr,Xhj,Xht,Xhl,Xhu,Xhh,Xhk⟩
theorem XJd:XeG Try.prog 16 (s16 Xad):=by
 have L0:=Xwd Xaa (XaF.Xba ⟨Xc9,trivial⟩)
 have L1:=Xxv Xab Xaa (XaF.Xba ⟨XiL,Xc9,trivial⟩)
 have L2:=XwE Xab Xaa (XaF.Xba ⟨XiL,Xc9,trivial⟩)
 have L3:=Xz0 Xab Xaa (XaF.Xba ⟨XiL,Xc9,trivial⟩)
 have L4:=Xxj Xab Xaa (XaF.Xba ⟨XiL,Xc9,trivial⟩)
 have L5:=XyA Xab Xaa (XaF.Xba ⟨XiL,Xc9,trivial⟩)
 have L6:=Xyt Xab Xaa (XaF.Xba ⟨XiL,Xc9,trivial⟩)
 have L7:=Xxi Xab Xaa (XaF.Xba ⟨XiL,Xc9,trivial⟩)
 have L8:=XzY Xab Xaa (XaF.Xba ⟨XiL,Xc9,trivial⟩)
 refine XeG.Xjn XaM (fun ar os r ha hr=>?_) ⟨Try.f16,rfl,by decide,rfl⟩
 generalize hc:XiS os=C at hr
 replace hr:=orD.elim hr;rcases hr with hr|hr
 ·have LL:=L0;exact okB
 replace hr:=orD.elim hr;rcases hr with hr|hr
 ·have LL:=L1;have U1:=@Xc2;exact okB
 replace hr:=orD.elim hr;rcases hr with hr|hr
 ·have LL:=L2;have U1:=@Xc6;exact okB
 replace hr:=orD.elim hr;rcases hr with hr|hr
 ·have LL:=L3;have U1:=@XcW;exact okB
 replace hr:=orD.elim hr;rcases hr with hr|hr
 ·have LL:=L4;have U1:=@Xc3;exact okB
 replace hr:=orD.elim hr;rcases hr with hr|hr
 ·have LL:=L5;have U1:=@Xc4;exact okB
 replace hr:=orD.elim hr;rcases hr with hr|hr
 ·have LL:=L6;have U1:=@Xc1;exact okB
 replace hr:=orD.elim hr;rcases hr with hr|hr
 ·have LL:=L7;have U1:=@XcX;exact okB
 have LL:=L8;have U1:=@XcY;exact okB
def XgX (Xaa:Xag) (s:Xaz):Option Int:=
 (Xaa.v0 (Xaz.mk s.key Xbj.mk s.total)).bind fun x0=>
 cond (!x0)
  (
  some (0))
  (
  some (s.total))
def XxB (x:Int):Xdu:=⟨.int .i64 x,[],[none,none,none,none,none,none,none,none,none,none]⟩
abbrev Xfs:=Xaz→Option Int
def r18v0 (g:Xfs):Dec:=dTr 10 (XcE 0) fun (y0:Xaz)=>XeA (ofG (g y0) XxB)
abbrev XAw (Xaa:Xag):List (Nat×XcU):=[(38,s38 Xaa)]
theorem Xwk (Xaa:Xag) (hS:XaF Try.prog (XaP (XAw Xaa))) (s:Xaz) (res:Int) (h:XgX Xaa s=some res) :
 XaU Try.prog 18 10 ⟨⟨18,10,[(0,.pointer (some ⟨0,0,none⟩))],[.code XoG],[],false,none⟩,[],[(0,.row false [.int .u64 s.key.A,.int .u64 s.key.B,.slice none 0 0,.int .i64 s.total])],10⟩ (fun v H _=>Res 10 (XxB res) v H):=by
 unfold XgX at h
 have R1:=@Xnv Xaa
 have J:=js []
 refine Xa4 XaM hS true 3000 ?_
 conv=>whnf
 exact W
def XgJ (Xaa:Xag) (s:XaA):Option Int:=
 (Xaa.v1 s).bind fun x1=>
 cond (!x1)
  (
  some (0))
  (
  some (s.total))
def Xzn (x:Int):Xdu:=⟨.int .i64 x,[],[none,none,none,none,none,none,none,none,none,none]⟩
abbrev Xft:=XaA→Option Int
def r18v1 (g:Xft):Dec:=dTr 10 (XbH 0) fun (y0:XaA)=>XeA (ofG (g y0) Xzn)
abbrev XAe (Xaa:Xag):List (Nat×XcU):=[(38,s38 Xaa)]
theorem XyM (Xaa:Xag) (hS:XaF Try.prog (XaP (XAe Xaa))) (s:XaA) (res:Int) (h:XgJ Xaa s=some res) :
 XaU Try.prog 18 10 ⟨⟨18,10,[(0,.pointer (some ⟨0,0,none⟩))],[.code XoG],[],false,none⟩,[],[(0,.row false [.int .u64 s.key.A,.int .u64 s.key.B,.slice (some ⟨1,0,none⟩) 1 1,.int .i64 s.total]),(1,.row false [.slice (some ⟨2,0,none⟩) s.rows.m0 1]),(2,.row false (vI .i64 s.rows.e0))],10⟩ (fun v H _=>Res 10 (Xzn res) v H):=by
 unfold XgJ at h
 have R1:=@Xmm Xaa
 have J:=js []
 refine Xa4 XaM hS true 3000 ?_
 conv=>whnf
 exact W
def Xha (Xaa:Xag) (s:Xax):Option Int:=
 (Xaa.v2 s).bind fun x2=>
 cond (!x2)
  (
  some (0))
  (
  some (s.total))
def Xzj (x:Int):Xdu:=⟨.int .i64 x,[],[none,none,none,none,none,none,none,none,none,none]⟩
abbrev Xfw:=Xax→Option Int
def r18v2 (g:Xfw):Dec:=dTr 10 (XbL 0) fun (y0:Xax)=>XeA (ofG (g y0) Xzj)
abbrev XBE (Xaa:Xag):List (Nat×XcU):=[(38,s38 Xaa)]
theorem XwQ (Xaa:Xag) (hS:XaF Try.prog (XaP (XBE Xaa))) (s:Xax) (res:Int) (h:Xha Xaa s=some res) :
 XaU Try.prog 18 10 ⟨⟨18,10,[(0,.pointer (some ⟨0,0,none⟩))],[.code XoG],[],false,none⟩,[],[(0,.row false [.int .u64 s.key.A,.int .u64 s.key.B,.slice (some ⟨1,0,none⟩) 2 1,.int .i64 s.total]),(1,.row false [.slice (some ⟨2,0,none⟩) s.rows.m0 1,.slice (some ⟨3,0,none⟩) s.rows.m1 1]),(2,.row false (vI .i64 s.rows.e0)),(3,.row false (vI .i64 s.rows.e1))],10⟩ (fun v H _=>Res 10 (Xzj res) v H):=by
 unfold Xha at h
 have R1:=@Xmn Xaa
 have J:=js []
 refine Xa4 XaM hS true 3000 ?_
 conv=>whnf
 exact W
def XgV (Xaa:Xag) (s:Xau):Option Int:=
 (Xaa.v3 s).bind fun x3=>
 cond (!x3)
  (
  some (0))
  (
  some (s.total))
def Xzh (x:Int):Xdu:=⟨.int .i64 x,[],[none,none,none,none,none,none,none,none,none,none]⟩
abbrev Xf7:=Xau→Option Int
def r18v3 (g:Xf7):Dec:=dTr 10 (XbK 0) fun (y0:Xau)=>XeA (ofG (g y0) Xzh)
abbrev XBe (Xaa:Xag):List (Nat×XcU):=[(38,s38 Xaa)]
theorem XxM (Xaa:Xag) (hS:XaF Try.prog (XaP (XBe Xaa))) (s:Xau) (res:Int) (h:XgV Xaa s=some res) :
 XaU Try.prog 18 10 ⟨⟨18,10,[(0,.pointer (some ⟨0,0,none⟩))],[.code XoG],[],false,none⟩,[],[(0,.row false [.int .u64 s.key.A,.int .u64 s.key.B,.slice (some ⟨1,0,none⟩) 3 1,.int .i64 s.total]),(1,.row false [.slice (some ⟨2,0,none⟩) s.rows.m0 1,.slice (some ⟨3,0,none⟩) s.rows.m1 1,.slice (some ⟨4,0,none⟩) s.rows.m2 1]),(2,.row false (vI .i64 s.rows.e0)),(3,.row false (vI .i64 s.rows.e1)),(4,.row false (vI .i64 s.rows.e2))],10⟩ (fun v H _=>Res 10 (Xzh res) v H):=by
 unfold XgV at h
 have R1:=@Xmy Xaa
 have J:=js []
 refine Xa4 XaM hS true 3000 ?_
 conv=>whnf
 exact W
def Xg5 (Xaa:Xag) (s:Xar):Option Int:=
 (Xaa.v4 s).bind fun x4=>
 cond (!x4)
  (
  some (0))
  (
  some (s.total))
def Xxp (x:Int):Xdu:=⟨.int .i64 x,[],[none,none,none,none,none,none,none,none,none,none]⟩
abbrev XfC:=Xar→Option Int
def r18v4 (g:XfC):Dec:=dTr 10 (XbJ 0) fun (y0:Xar)=>XeA (ofG (g y0) Xxp)
abbrev XAY (Xaa:Xag):List (Nat×XcU):=[(38,s38 Xaa)]
theorem Xwr (Xaa:Xag) (hS:XaF Try.prog (XaP (XAY Xaa))) (s:Xar) (res:Int) (h:Xg5 Xaa s=some res) :
 XaU Try.prog 18 10 ⟨⟨18,10,[(0,.pointer (some ⟨0,0,none⟩))],[.code XoG],[],false,none⟩,[],[(0,.row false [.int .u64 s.key.A,.int .u64 s.key.B,.slice (some ⟨1,0,none⟩) 4 1,.int .i64 s.total]),(1,.row false [.slice (some ⟨2,0,none⟩) s.rows.m0 1,.slice (some ⟨3,0,none⟩) s.rows.m1 1,.slice (some ⟨4,0,none⟩) s.rows.m2 1,.slice (some ⟨5,0,none⟩) s.rows.m3 1]),(2,.row false (vI .i64 s.rows.e0)),(3,.row false (vI .i64 s.rows.e1)),(4,.row false (vI .i64 s.rows.e2)),(5,.row false (vI .i64 s.rows.e3))],10⟩ (fun v H _=>Res 10 (Xxp res) v H):=by
 unfold Xg5 at h
 have R1:=@Xl5 Xaa
 have J:=js []
 refine Xa4 XaM hS true 3000 ?_
 conv=>whnf
 exact W
def XgI (Xaa:Xag) (s:Xap):Option Int:=
 (Xaa.v5 s).bind fun x5=>
 cond (!x5)
  (
  some (0))
  (
  some (s.total))
def Xx0 (x:Int):Xdu:=⟨.int .i64 x,[],[none,none,none,none,none,none,none,none,none,none]⟩
abbrev Xga:=Xap→Option Int
def r18v5 (g:Xga):Dec:=dTr 10 (XbG 0) fun (y0:Xap)=>XeA (ofG (g y0) Xx0)
abbrev XBc (Xaa:Xag):List (Nat×XcU):=[(38,s38 Xaa)]
theorem XxZ (Xaa:Xag) (hS:XaF Try.prog (XaP (XBc Xaa))) (s:Xap) (res:Int) (h:XgI Xaa s=some res) :
 XaU Try.prog 18 10 ⟨⟨18,10,[(0,.pointer (some ⟨0,0,none⟩))],[.code XoG],[],false,none⟩,[],[(0,.row false [.int .u64 s.key.A,.int .u64 s.key.B,.slice (some ⟨1,0,none⟩) 5 1,.int .i64 s.total]),(1,.row false [.slice (some ⟨2,0,none⟩) s.rows.m0 1,.slice (some ⟨3,0,none⟩) s.rows.m1 1,.slice (some ⟨4,0,none⟩) s.rows.m2 1,.slice (some ⟨5,0,none⟩) s.rows.m3 1,.slice (some ⟨6,0,none⟩) s.rows.m4 1]),(2,.row false (vI .i64 s.rows.e0)),(3,.row false (vI .i64 s.rows.e1)),(4,.row false (vI .i64 s.rows.e2)),(5,.row false (vI .i64 s.rows.e3)),(6,.row false (vI .i64 s.rows.e4))],10⟩ (fun v H _=>Res 10 (Xx0 res) v H):=by
 unfold XgI at h
 have R1:=@Xmk Xaa
 have J:=js []
 refine Xa4 XaM hS true 3000 ?_
 conv=>whnf
 exact W
def XgZ (Xaa:Xag) (s:Xan):Option Int:=
 (Xaa.v6 s).bind fun x6=>
 cond (!x6)
  (
  some (0))
  (
  some (s.total))
def XzI (x:Int):Xdu:=⟨.int .i64 x,[],[none,none,none,none,none,none,none,none,none,none]⟩
abbrev Xfq:=Xan→Option Int
def r18v6 (g:Xfq):Dec:=dTr 10 (XbF 0) fun (y0:Xan)=>XeA (ofG (g y0) XzI)
abbrev XBp (Xaa:Xag):List (Nat×XcU):=[(38,s38 Xaa)]
theorem Xwb (Xaa:Xag) (hS:XaF Try.prog (XaP (XBp Xaa))) (s:Xan) (res:Int) (h:XgZ Xaa s=some res) :
 XaU Try.prog 18 10 ⟨⟨18,10,[(0,.pointer (some ⟨0,0,none⟩))],[.code XoG],[],false,none⟩,[],[(0,.row false [.int .u64 s.key.A,.int .u64 s.key.B,.slice (some ⟨1,0,none⟩) 6 1,.int .i64 s.total]),(1,.row false [.slice (some ⟨2,0,none⟩) s.rows.m0 1,.slice (some ⟨3,0,none⟩) s.rows.m1 1,.slice (some ⟨4,0,none⟩) s.rows.m2 1,.slice (some ⟨5,0,none⟩) s.rows.m3 1,.slice (some ⟨6,0,none⟩) s.rows.m4 1,.slice (some ⟨7,0,none⟩) s.rows.m5 1]),(2,.row false (vI .i64 s.rows.e0)),(3,.row false (vI .i64 s.rows.e1)),(4,.row false (vI .i64 s.rows.e2)),(5,.row false (vI .i64 s.rows.e3)),(6,.row false (vI .i64 s.rows.e4)),(7,.row false (vI .i64 s.rows.e5))],10⟩ (fun v H _=>Res 10 (XzI res) v H):=by
 unfold XgZ at h
 have R1:=@Xmt Xaa
 have J:=js []
 refine Xa4 XaM hS true 3000 ?_
 conv=>whnf
 exact W
def Xhb (Xaa:Xag) (s:Xal):Option Int:=
 (Xaa.v7 s).bind fun x7=>
 cond (!x7)
  (
  some (0))
  (
  some (s.total))
def XwL (x:Int):Xdu:=⟨.int .i64 x,[],[none,none,none,none,none,none,none,none,none,none]⟩
abbrev Xfz:=Xal→Option Int
def r18v7 (g:Xfz):Dec:=dTr 10 (XbM 0) fun (y0:Xal)=>XeA (ofG (g y0) XwL)
abbrev XBr (Xaa:Xag):List (Nat×XcU):=[(38,s38 Xaa)]
theorem Xxm (Xaa:Xag) (hS:XaF Try.prog (XaP (XBr Xaa))) (s:Xal) (res:Int) (h:Xhb Xaa s=some res) :
 XaU Try.prog 18 10 ⟨⟨18,10,[(0,.pointer (some ⟨0,0,none⟩))],[.code XoG],[],false,none⟩,[],[(0,.row false [.int .u64 s.key.A,.int .u64 s.key.B,.slice (some ⟨1,0,none⟩) 7 1,.int .i64 s.total]),(1,.row false [.slice (some ⟨2,0,none⟩) s.rows.m0 1,.slice (some ⟨3,0,none⟩) s.rows.m1 1,.slice (some ⟨4,0,none⟩) s.rows.m2 1,.slice (some ⟨5,0,none⟩) s.rows.m3 1,.slice (some ⟨6,0,none⟩) s.rows.m4 1,.slice (some ⟨7,0,none⟩) s.rows.m5 1,.slice (some ⟨8,0,none⟩) s.rows.m6 1]),(2,.row false (vI .i64 s.rows.e0)),(3,.row false (vI .i64 s.rows.e1)),(4,.row false (vI .i64 s.rows.e2)),(5,.row false (vI .i64 s.rows.e3)),(6,.row false (vI .i64 s.rows.e4)),(7,.row false (vI .i64 s.rows.e5)),(8,.row false (vI .i64 s.rows.e6))],10⟩ (fun v H _=>Res 10 (XwL res) v H):=by
 unfold Xhb at h
 have R1:=@XmI Xaa
 have J:=js []
 refine Xa4 XaM hS true 3000 ?_
 conv=>whnf
 exact W
def XgO (Xaa:Xag) (s:Xak):Option Int:=
 (Xaa.v8 s).bind fun x8=>
 cond (!x8)
  (
  some (0))
  (
  some (s.total))
def Xv9 (x:Int):Xdu:=⟨.int .i64 x,[],[none,none,none,none,none,none,none,none,none,none]⟩
abbrev Xf1:=Xak→Option Int
def r18v8 (g:Xf1):Dec:=dTr 10 (XbE 0) fun (y0:Xak)=>XeA (ofG (g y0) Xv9)
abbrev XBM (Xaa:Xag):List (Nat×XcU):=[(38,s38 Xaa)]
theorem Xxt (Xaa:Xag) (hS:XaF Try.prog (XaP (XBM Xaa))) (s:Xak) (res:Int) (h:XgO Xaa s=some res) :
 XaU Try.prog 18 10 ⟨⟨18,10,[(0,.pointer (some ⟨0,0,none⟩))],[.code XoG],[],false,none⟩,[],[(0,.row false [.int .u64 s.key.A,.int .u64 s.key.B,.slice (some ⟨1,0,none⟩) 8 1,.int .i64 s.total]),(1,.row false [.slice (some ⟨2,0,none⟩) s.rows.m0 1,.slice (some ⟨3,0,none⟩) s.rows.m1 1,.slice (some ⟨4,0,none⟩) s.rows.m2 1,.slice (some ⟨5,0,none⟩) s.rows.m3 1,.slice (some ⟨6,0,none⟩) s.rows.m4 1,.slice (some ⟨7,0,none⟩) s.rows.m5 1,.slice (some ⟨8,0,none⟩) s.rows.m6 1,.slice (some ⟨9,0,none⟩) s.rows.m7 1]),(2,.row false (vI .i64 s.rows.e0)),(3,.row false (vI .i64 s.rows.e1)),(4,.row false (vI .i64 s.rows.e2)),(5,.row false (vI .i64 s.rows.e3)),(6,.row false (vI .i64 s.rows.e4)),(7,.row false (vI .i64 s.rows.e5)),(8,.row false (vI .i64 s.rows.e6)),(9,.row false (vI .i64 s.rows.e7))],10⟩ (fun v H _=>Res 10 (Xv9 res) v H):=by
 unfold XgO at h
 have R1:=@Xms Xaa
 have J:=js []
 refine Xa4 XaM hS true 3000 ?_
 conv=>whnf
 exact W
structure XaC where
 v0:Xfs
 v1:Xft
 v2:Xfw
 v3:Xf7
 v4:XfC
 v5:Xga
 v6:Xfq
 v7:Xfz
 v8:Xf1
def s18 (g:XaC):XcU:=⟨[.tr [⟨none,0,0,0,none⟩,⟨some 0,2,0,0,none⟩,⟨some 1,0,0,0,none⟩,⟨some 1,1,0,0,none⟩,⟨some 1,2,0,0,none⟩,⟨some 1,3,0,0,none⟩,⟨some 1,4,0,0,none⟩,⟨some 1,5,0,0,none⟩,⟨some 1,6,0,0,none⟩,⟨some 1,7,0,0,none⟩]],orD (r18v0 g.v0) (orD (r18v1 g.v1) (orD (r18v2 g.v2) (orD (r18v3 g.v3) (orD (r18v4 g.v4) (orD (r18v5 g.v5) (orD (r18v6 g.v6) (orD (r18v7 g.v7) (r18v8 g.v8))))))))⟩
theorem Xul {g:XaC} {y0:Xaz} {x:Int} (hx:g.v0 y0=some x):(s18 g).run [.pointer (some ⟨0,0,none⟩)] [some [.int .u64 y0.key.A,.int .u64 y0.key.B,.slice none 0 0,.int .i64 y0.total],none,none,none,none,none,none,none,none,none]=some (XxB x):=by dsimp only [s18];exact (XdM ((Xbn rfl rfl (Xfe 0 _)).trans (Xbc hx)))
theorem XCl {g:XaC} {y0:XaA} {x:Int} (hx:g.v1 y0=some x):(s18 g).run [.pointer (some ⟨0,0,none⟩)] [some [.int .u64 y0.key.A,.int .u64 y0.key.B,.slice (some ⟨1,0,none⟩) 1 1,.int .i64 y0.total],some [.slice (some ⟨2,0,none⟩) y0.rows.m0 1],some (vI .i64 y0.rows.e0),none,none,none,none,none,none,none]=some (Xzn x):=by dsimp only [s18];exact (XaL rfl (XdM ((Xbn rfl rfl (XcR 0 _)).trans (Xbc hx))))
theorem Xp8 {g:XaC} {y0:Xax} {x:Int} (hx:g.v2 y0=some x):(s18 g).run [.pointer (some ⟨0,0,none⟩)] [some [.int .u64 y0.key.A,.int .u64 y0.key.B,.slice (some ⟨1,0,none⟩) 2 1,.int .i64 y0.total],some [.slice (some ⟨2,0,none⟩) y0.rows.m0 1,.slice (some ⟨3,0,none⟩) y0.rows.m1 1],some (vI .i64 y0.rows.e0),some (vI .i64 y0.rows.e1),none,none,none,none,none,none]=some (Xzj x):=by dsimp only [s18];exact (XaL rfl (XaL rfl (XdM ((Xbn rfl rfl (XcM 0 _)).trans (Xbc hx)))))
theorem XA3 {g:XaC} {y0:Xau} {x:Int} (hx:g.v3 y0=some x):(s18 g).run [.pointer (some ⟨0,0,none⟩)] [some [.int .u64 y0.key.A,.int .u64 y0.key.B,.slice (some ⟨1,0,none⟩) 3 1,.int .i64 y0.total],some [.slice (some ⟨2,0,none⟩) y0.rows.m0 1,.slice (some ⟨3,0,none⟩) y0.rows.m1 1,.slice (some ⟨4,0,none⟩) y0.rows.m2 1],some (vI .i64 y0.rows.e0),some (vI .i64 y0.rows.e1),some (vI .i64 y0.rows.e2),none,none,none,none,none]=some (Xzh x):=by dsimp only [s18];exact (XaL rfl (XaL rfl (XaL rfl (XdM ((Xbn rfl rfl (XcK 0 _)).trans (Xbc hx))))))
theorem XAz {g:XaC} {y0:Xar} {x:Int} (hx:g.v4 y0=some x):(s18 g).run [.pointer (some ⟨0,0,none⟩)] [some [.int .u64 y0.key.A,.int .u64 y0.key.B,.slice (some ⟨1,0,none⟩) 4 1,.int .i64 y0.total],some [.slice (some ⟨2,0,none⟩) y0.rows.m0 1,.slice (some ⟨3,0,none⟩) y0.rows.m1 1,.slice (some ⟨4,0,none⟩) y0.rows.m2 1,.slice (some ⟨5,0,none⟩) y0.rows.m3 1],some (vI .i64 y0.rows.e0),some (vI .i64 y0.rows.e1),some (vI .i64 y0.rows.e2),some (vI .i64 y0.rows.e3),none,none,none,none]=some (Xxp x):=by dsimp only [s18];exact (XaL rfl (XaL rfl (XaL rfl (XaL rfl (XdM ((Xbn rfl rfl (XcN 0 _)).trans (Xbc hx)))))))
theorem XCr {g:XaC} {y0:Xap} {x:Int} (hx:g.v5 y0=some x):(s18 g).run [.pointer (some ⟨0,0,none⟩)] [some [.int .u64 y0.key.A,.int .u64 y0.key.B,.slice (some ⟨1,0,none⟩) 5 1,.int .i64 y0.total],some [.slice (some ⟨2,0,none⟩) y0.rows.m0 1,.slice (some ⟨3,0,none⟩) y0.rows.m1 1,.slice (some ⟨4,0,none⟩) y0.rows.m2 1,.slice (some ⟨5,0,none⟩) y0.rows.m3 1,.slice (some ⟨6,0,none⟩) y0.rows.m4 1],some (vI .i64 y0.rows.e0),some (vI .i64 y0.rows.e1),some (vI .i64 y0.rows.e2),some (vI .i64 y0.rows.e3),some (vI .i64 y0.rows.e4),none,none,none]=some (Xx0 x):=by dsimp only [s18];exact (XaL rfl (XaL rfl (XaL rfl (XaL rfl (XaL rfl (XdM ((Xbn rfl rfl (XcO 0 _)).trans (Xbc hx))))))))
theorem XAt {g:XaC} {y0:Xan} {x:Int} (hx:g.v6 y0=some x):(s18 g).run [.pointer (some ⟨0,0,none⟩)] [some [.int .u64 y0.key.A,.int .u64 y0.key.B,.slice (some ⟨1,0,none⟩) 6 1,.int .i64 y0.total],some [.slice (some ⟨2,0,none⟩) y0.rows.m0 1,.slice (some ⟨3,0,none⟩) y0.rows.m1 1,.slice (some ⟨4,0,none⟩) y0.rows.m2 1,.slice (some ⟨5,0,none⟩) y0.rows.m3 1,.slice (some ⟨6,0,none⟩) y0.rows.m4 1,.slice (some ⟨7,0,none⟩) y0.rows.m5 1],some (vI .i64 y0.rows.e0),some (vI .i64 y0.rows.e1),some (vI .i64 y0.rows.e2),some (vI .i64 y0.rows.e3),some (vI .i64 y0.rows.e4),some (vI .i64 y0.rows.e5),none,none]=some (XzI x):=by dsimp only [s18];exact (XaL rfl (XaL rfl (XaL rfl (XaL rfl (XaL rfl (XaL rfl (XdM ((Xbn rfl rfl (XcQ 0 _)).trans (Xbc hx)))))))))
theorem XBz {g:XaC} {y0:Xal} {x:Int} (hx:g.v7 y0=some x):(s18 g).run [.pointer (some ⟨0,0,none⟩)] [some [.int .u64 y0.key.A,.int .u64 y0.key.B,.slice (some ⟨1,0,none⟩) 7 1,.int .i64 y0.total],some [.slice (some ⟨2,0,none⟩) y0.rows.m0 1,.slice (some ⟨3,0,none⟩) y0.rows.m1 1,.slice (some ⟨4,0,none⟩) y0.rows.m2 1,.slice (some ⟨5,0,none⟩) y0.rows.m3 1,.slice (some ⟨6,0,none⟩) y0.rows.m4 1,.slice (some ⟨7,0,none⟩) y0.rows.m5 1,.slice (some ⟨8,0,none⟩) y0.rows.m6 1],some (vI .i64 y0.rows.e0),some (vI .i64 y0.rows.e1),some (vI .i64 y0.rows.e2),some (vI .i64 y0.rows.e3),some (vI .i64 y0.rows.e4),some (vI .i64 y0.rows.e5),some (vI .i64 y0.rows.e6),none]=some (XwL x):=by dsimp only [s18];exact (XaL rfl (XaL rfl (XaL rfl (XaL rfl (XaL rfl (XaL rfl (XaL rfl (XdM ((Xbn rfl rfl (XcL 0 _)).trans (Xbc hx))))))))))
theorem XBH {g:XaC} {y0:Xak} {x:Int} (hx:g.v8 y0=some x):(s18 g).run [.pointer (some ⟨0,0,none⟩)] [some [.int .u64 y0.key.A,.int .u64 y0.key.B,.slice (some ⟨1,0,none⟩) 8 1,.int .i64 y0.total],some [.slice (some ⟨2,0,none⟩) y0.rows.m0 1,.slice (some ⟨3,0,none⟩) y0.rows.m1 1,.slice (some ⟨4,0,none⟩) y0.rows.m2 1,.slice (some ⟨5,0,none⟩) y0.rows.m3 1,.slice (some ⟨6,0,none⟩) y0.rows.m4 1,.slice (some ⟨7,0,none⟩) y0.rows.m5 1,.slice (some ⟨8,0,none⟩) y0.rows.m6 1,.slice (some ⟨9,0,none⟩) y0.rows.m7 1],some (vI .i64 y0.rows.e0),some (vI .i64 y0.rows.e1),some (vI .i64 y0.rows.e2),some (vI .i64 y0.rows.e3),some (vI .i64 y0.rows.e4),some (vI .i64 y0.rows.e5),some (vI .i64 y0.rows.e6),some (vI .i64 y0.rows.e7)]=some (Xv9 x):=by dsimp only [s18];exact (XaL rfl (XaL rfl (XaL rfl (XaL rfl (XaL rfl (XaL rfl (XaL rfl (XaL rfl ((Xbn rfl rfl (XcP 0 _)).trans (Xbc hx))))))))))
def XkQ:Xfs:=XgX Xaa
def XiN:Xft:=XgJ Xaa
def XiC:Xfw:=Xha Xaa
def XiA:Xf7:=XgV Xaa
def XiO:XfC:=Xg5 Xaa
def XiD:Xga:=XgI Xaa
def XiM:Xfq:=XgZ Xaa
def XiH:Xfz:=Xhb Xaa
def XiI:Xf1:=XgO Xaa
def Xae:XaC:=⟨XkQ,XiN,XiC,XiA,XiO,XiD,XiM,XiH,XiI⟩
theorem XG6:XeG Try.prog 18 (s18 Xae):=by
 have L0:=Xwk Xaa (XaF.Xba ⟨Xc9,trivial⟩)
 have L1:=XyM Xaa (XaF.Xba ⟨Xc9,trivial⟩)
 have L2:=XwQ Xaa (XaF.Xba ⟨Xc9,trivial⟩)
 have L3:=XxM Xaa (XaF.Xba ⟨Xc9,trivial⟩)
 have L4:=Xwr Xaa (XaF.Xba ⟨Xc9,trivial⟩)
 have L5:=XxZ Xaa (XaF.Xba ⟨Xc9,trivial⟩)
 have L6:=Xwb Xaa (XaF.Xba ⟨Xc9,trivial⟩)
 have L7:=Xxm Xaa (XaF.Xba ⟨Xc9,trivial⟩)
 have L8:=Xxt Xaa (XaF.Xba ⟨Xc9,trivial⟩)
 refine XeG.Xjn XaM (fun ar os r ha hr=>?_) ⟨Try.f18,rfl,by decide,rfl⟩
 generalize hc:XiS os=C at hr
 replace hr:=orD.elim hr;rcases hr with hr|hr
 ·have LL:=L0;have U1:=@XdZ;exact okB
 replace hr:=orD.elim hr;rcases hr with hr|hr
 ·have LL:=L1;have U1:=@Xc2;exact okB
 replace hr:=orD.elim hr;rcases hr with hr|hr
 ·have LL:=L2;have U1:=@Xc6;exact okB
 replace hr:=orD.elim hr;rcases hr with hr|hr
 ·have LL:=L3;have U1:=@XcW;exact okB
 replace hr:=orD.elim hr;rcases hr with hr|hr
 ·have LL:=L4;have U1:=@Xc3;exact okB
 replace hr:=orD.elim hr;rcases hr with hr|hr
 ·have LL:=L5;have U1:=@Xc4;exact okB
 replace hr:=orD.elim hr;rcases hr with hr|hr
 ·have LL:=L6;have U1:=@Xc1;exact okB
 replace hr:=orD.elim hr;rcases hr with hr|hr
 ·have LL:=L7;have U1:=@XcX;exact okB
 have LL:=L8;have U1:=@XcY;exact okB
end Go.Vm.Code
namespace Go.Vm.Code
open Go Go.Vm
set_option maxHeartbeats 4000000
theorem Xhe {α:Type} {pl:Option Int} {q m p:Nat} {row:List Int} {K:Int→Option α} (hp:pl=some (q:Int)) (hq:q<p) (hm:m=p) (hl:row.length=p) :
 (pl.bind fun x=>XaQ (decide ((0:Int)≤x∧x<(m:Int)))<|(row[x.toNat]?).bind fun (e:Int)=>K e)=K (row.getD q 0):=by
 subst hp hm
 rw [Option.bind_some,XaH (by omega),Int.toNat_natCast,List.getD_eq_getElem?_getD,List.getElem?_eq_getElem (by omega),Option.bind_some];rfl
theorem Xj9 {p:Nat} {x:SkS} (hp:1≤p) (hx:Xdk p x) (k:Xat) (i:Nat) (t:List UInt8):∃ v,(x.R i)[plN k p i t]?=some v∧(0≤v∧v≤1099511627776)∧plN k p i t<p∧(x.R i).length=p∧(x.R i).getD (plN k p i t) 0=v:=by
 have q:=XdC hp k i t
 have l:=hx.len i
 have e:(x.R i)[plN k p i t]?=some ((x.R i)[plN k p i t]'(by omega)):=List.getElem?_eq_getElem _
 exact ⟨_,e,hx.rng i _ (List.getElem_mem _),q,l,by rw [List.getD_eq_getElem?_getD,e];rfl⟩
theorem sN {n:Int} (h:0≤n) (h2:n≤1099511627776) {N:Int} (hN:0≤N∧N≤1048576):(if wI .i64 (n+N)<1099511627776 then wI .i64 (n+N) else 1099511627776)=cap (n+N):=by rw [XfG (by omega) (by omega)];rfl
theorem XeD {e:Xay} (h:e.N<0∨1048576<e.N):Xj8 e=false:=by unfold Xj8;exact decide_eq_false (by omega)
theorem XhG {e:Xay} (h:¬ e.N<0) (h2:¬ 1048576<e.N):Xj8 e=true:=by unfold Xj8;exact decide_eq_true (by omega)
theorem Xfo {k:Xat} {p:Nat} {x:SkS} {e:Xay} (h:Xj8 e=false):stepS k p x e=x:=by unfold stepS;rw [h];rfl
theorem XiE {k:Xat} {p:Nat} {x:SkS} {e:Xay} (h:Xj8 e=true):stepS k p x e=⟨fun i=>Xs1 k p e.Text e.N i (x.R i),cap (x.tot+e.N)⟩:=by unfold stepS;rw [h];rfl
def Xjo (k:Xat) (p:Nat) (x:SkS):XaA:=⟨k,⟨x.R 0,p⟩,x.tot⟩
theorem Xoa {k:Xat} {p:Nat} (hp:1≤p∧p≤4096) (s:XaA) (hk:s.key=k) (hm:s.rows.m0=p) {t:List UInt8} (ht:t.length≤20) (i:Nat) (hi:i<1):Xed s i t=some (plN k p i t:Int):=by
 unfold Xed XdR
 rw [show Xaa.v1 s=some true from rfl,Option.bind_some,show (!true)=false from rfl,cond_false,Xa7 (by omega),Xa7 (by omega),hk,Xkq ht,Option.bind_some,XaH (by omega),Int.toNat_natCast]
 obtain rfl:i=0:=by omega
 ·show (XaD _ (s.rows.m0:Int)).bind _=_;rw [hm,Xd2 hp.1 hp.2];rfl
theorem Xx6 {k:Xat} {p:Nat} (hp:1≤p∧p≤4096) {x:SkS} (hx:Xdk p x) {e:Xay} (he:e.Text.length≤20):XhR (Xjo k p x) e.Text e.N=some (Xj8 e,Xjo k p (stepS k p x e)):=by
 unfold XhR Xfh
 rw [show Xaa.v1 (Xjo k p x)=some true from rfl,Option.bind_some,show (!true)=false from rfl,cond_false]
 by_cases h1:e.N<0
 ·rw [Xbd h1,XeD (.inl h1),Xfo (XeD (.inl h1))]
 rw [Xa7 h1]
 by_cases h2:e.N>1048576
 ·rw [Xbd h2,XeD (.inr h2),Xfo (XeD (.inr h2))]
 have hN:0≤e.N∧e.N≤1048576:=by omega
 rw [Xa7 h2,XhG h1 h2,XiE (XhG h1 h2)]
 obtain ⟨v0,e0,a0,q0,l0,g0⟩:=Xj9 hp.1 hx k 0 e.Text
 unfold Xjo
 dsimp only
 rw [show Xab.v1 ⟨_,_,_⟩ 0 e.Text=some (plN k p 0 e.Text:Int) from Xoa hp _ (by rfl) (by rfl) he 0 (by decide),Option.bind_some,XaH (by omega),Int.toNat_natCast,e0,Option.bind_some,XfG (n:=v0+e.N) (by omega) (by omega),XaH (by omega)]
 rw [sN hx.tot.1 hx.tot.2 hN]
 unfold Xs1
 rw [g0];rfl
theorem Xw6 {k:Xat} {p:Nat} (hp:1≤p∧p≤4096) {x:SkS} (hx:Xdk p x) {t:List UInt8} (ht:t.length≤20):Xhg (Xjo k p x) t=some (XnJ k p x t 1):=by
 unfold Xhg XeY
 rw [show Xaa.v1 (Xjo k p x)=some true from rfl,Option.bind_some,show (!true)=false from rfl,cond_false]
 refine Eq.trans (Xhe (Xoa hp _ (by rfl) (by rfl) ht 0 (by decide)) (XdC hp.1 _ _ _) (by rfl) (hx.len 0)) ?_
 rfl
theorem Xww {k:Xat} {p:Nat} {x:SkS}:XiN (Xjo k p x)=some x.tot:=rfl
def XiQ (k:Xat) (p:Nat) (x:SkS):Xax:=⟨k,⟨x.R 0,x.R 1,p,p⟩,x.tot⟩
theorem XkH {k:Xat} {p:Nat} (hp:1≤p∧p≤4096) (s:Xax) (hk:s.key=k) (hm:s.rows.m0=p∧s.rows.m1=p) {t:List UInt8} (ht:t.length≤20) (i:Nat) (hi:i<2):Xeg s i t=some (plN k p i t:Int):=by
 unfold Xeg XdT
 rw [show Xaa.v2 s=some true from rfl,Option.bind_some,show (!true)=false from rfl,cond_false,Xa7 (by omega),Xa7 (by omega),hk,Xkq ht,Option.bind_some,XaH (by omega),Int.toNat_natCast]
 obtain rfl|rfl:i=0∨i=1:=by omega
 ·show (XaD _ (s.rows.m0:Int)).bind _=_;rw [hm.1,Xd2 hp.1 hp.2];rfl
 ·show (XaD _ (s.rows.m1:Int)).bind _=_;rw [hm.2,Xd2 hp.1 hp.2];rfl
theorem XyL {k:Xat} {p:Nat} (hp:1≤p∧p≤4096) {x:SkS} (hx:Xdk p x) {e:Xay} (he:e.Text.length≤20):XhY (XiQ k p x) e.Text e.N=some (Xj8 e,XiQ k p (stepS k p x e)):=by
 unfold XhY Xfp
 rw [show Xaa.v2 (XiQ k p x)=some true from rfl,Option.bind_some,show (!true)=false from rfl,cond_false]
 by_cases h1:e.N<0
 ·rw [Xbd h1,XeD (.inl h1),Xfo (XeD (.inl h1))]
 rw [Xa7 h1]
 by_cases h2:e.N>1048576
 ·rw [Xbd h2,XeD (.inr h2),Xfo (XeD (.inr h2))]
 have hN:0≤e.N∧e.N≤1048576:=by omega
 rw [Xa7 h2,XhG h1 h2,XiE (XhG h1 h2)]
 obtain ⟨v0,e0,a0,q0,l0,g0⟩:=Xj9 hp.1 hx k 0 e.Text
 obtain ⟨v1,e1,a1,q1,l1,g1⟩:=Xj9 hp.1 hx k 1 e.Text
 unfold XiQ
 dsimp only
 rw [show Xab.v2 ⟨_,_,_⟩ 0 e.Text=some (plN k p 0 e.Text:Int) from XkH hp _ (by rfl) (by exact ⟨rfl,rfl⟩) he 0 (by decide),Option.bind_some,XaH (by omega),Int.toNat_natCast,e0,Option.bind_some,XfG (n:=v0+e.N) (by omega) (by omega),XaH (by omega)]
 rw [show Xab.v2 ⟨_,_,_⟩ 1 e.Text=some (plN k p 1 e.Text:Int) from XkH hp _ (by rfl) (by exact ⟨rfl,rfl⟩) he 1 (by decide),Option.bind_some,XaH (by omega),Int.toNat_natCast,e1,Option.bind_some,XfG (n:=v1+e.N) (by omega) (by omega),XaH (by omega)]
 rw [sN hx.tot.1 hx.tot.2 hN]
 unfold Xs1
 rw [g0,g1];rfl
theorem XyC {k:Xat} {p:Nat} (hp:1≤p∧p≤4096) {x:SkS} (hx:Xdk p x) {t:List UInt8} (ht:t.length≤20):Xhr (XiQ k p x) t=some (XnJ k p x t 2):=by
 unfold Xhr XeN
 rw [show Xaa.v2 (XiQ k p x)=some true from rfl,Option.bind_some,show (!true)=false from rfl,cond_false]
 refine Eq.trans (Xhe (XkH hp _ (by rfl) (by exact ⟨rfl,rfl⟩) ht 0 (by decide)) (XdC hp.1 _ _ _) (by rfl) (hx.len 0)) ?_
 refine Eq.trans (Xhe (XkH hp _ (by rfl) (by exact ⟨rfl,rfl⟩) ht 1 (by decide)) (XdC hp.1 _ _ _) (by rfl) (hx.len 1)) ?_
 rfl
theorem Xz1 {k:Xat} {p:Nat} {x:SkS}:XiC (XiQ k p x)=some x.tot:=rfl
def Xh8 (k:Xat) (p:Nat) (x:SkS):Xau:=⟨k,⟨x.R 0,x.R 1,x.R 2,p,p,p⟩,x.tot⟩
theorem Xjc {k:Xat} {p:Nat} (hp:1≤p∧p≤4096) (s:Xau) (hk:s.key=k) (hm:s.rows.m0=p∧s.rows.m1=p∧s.rows.m2=p) {t:List UInt8} (ht:t.length≤20) (i:Nat) (hi:i<3):Xd6 s i t=some (plN k p i t:Int):=by
 unfold Xd6 XdQ
 rw [show Xaa.v3 s=some true from rfl,Option.bind_some,show (!true)=false from rfl,cond_false,Xa7 (by omega),Xa7 (by omega),hk,Xkq ht,Option.bind_some,XaH (by omega),Int.toNat_natCast]
 obtain rfl|rfl|rfl:i=0∨i=1∨i=2:=by omega
 ·show (XaD _ (s.rows.m0:Int)).bind _=_;rw [hm.1,Xd2 hp.1 hp.2];rfl
 ·show (XaD _ (s.rows.m1:Int)).bind _=_;rw [hm.2.1,Xd2 hp.1 hp.2];rfl
 ·show (XaD _ (s.rows.m2:Int)).bind _=_;rw [hm.2.2,Xd2 hp.1 hp.2];rfl
theorem XzH {k:Xat} {p:Nat} (hp:1≤p∧p≤4096) {x:SkS} (hx:Xdk p x) {e:Xay} (he:e.Text.length≤20):XhW (Xh8 k p x) e.Text e.N=some (Xj8 e,Xh8 k p (stepS k p x e)):=by
 unfold XhW Xff
 rw [show Xaa.v3 (Xh8 k p x)=some true from rfl,Option.bind_some,show (!true)=false from rfl,cond_false]
 by_cases h1:e.N<0
 ·rw [Xbd h1,XeD (.inl h1),Xfo (XeD (.inl h1))]
 rw [Xa7 h1]
 by_cases h2:e.N>1048576
 ·rw [Xbd h2,XeD (.inr h2),Xfo (XeD (.inr h2))]
 have hN:0≤e.N∧e.N≤1048576:=by omega
 rw [Xa7 h2,XhG h1 h2,XiE (XhG h1 h2)]
 obtain ⟨v0,e0,a0,q0,l0,g0⟩:=Xj9 hp.1 hx k 0 e.Text
 obtain ⟨v1,e1,a1,q1,l1,g1⟩:=Xj9 hp.1 hx k 1 e.Text
 obtain ⟨v2,e2,a2,q2,l2,g2⟩:=Xj9 hp.1 hx k 2 e.Text
 unfold Xh8
 dsimp only
 rw [show Xab.v3 ⟨_,_,_⟩ 0 e.Text=some (plN k p 0 e.Text:Int) from Xjc hp _ (by rfl) (by exact ⟨rfl,rfl,rfl⟩) he 0 (by decide),Option.bind_some,XaH (by omega),Int.toNat_natCast,e0,Option.bind_some,XfG (n:=v0+e.N) (by omega) (by omega),XaH (by omega)]
 rw [show Xab.v3 ⟨_,_,_⟩ 1 e.Text=some (plN k p 1 e.Text:Int) from Xjc hp _ (by rfl) (by exact ⟨rfl,rfl,rfl⟩) he 1 (by decide),Option.bind_some,XaH (by omega),Int.toNat_natCast,e1,Option.bind_some,XfG (n:=v1+e.N) (by omega) (by omega),XaH (by omega)]
 rw [show Xab.v3 ⟨_,_,_⟩ 2 e.Text=some (plN k p 2 e.Text:Int) from Xjc hp _ (by rfl) (by exact ⟨rfl,rfl,rfl⟩) he 2 (by decide),Option.bind_some,XaH (by omega),Int.toNat_natCast,e2,Option.bind_some,XfG (n:=v2+e.N) (by omega) (by omega),XaH (by omega)]
 rw [sN hx.tot.1 hx.tot.2 hN]
 unfold Xs1
 rw [g0,g1,g2];rfl
theorem XxA {k:Xat} {p:Nat} (hp:1≤p∧p≤4096) {x:SkS} (hx:Xdk p x) {t:List UInt8} (ht:t.length≤20):Xhj (Xh8 k p x) t=some (XnJ k p x t 3):=by
 unfold Xhj XeT
 rw [show Xaa.v3 (Xh8 k p x)=some true from rfl,Option.bind_some,show (!true)=false from rfl,cond_false]
 refine Eq.trans (Xhe (Xjc hp _ (by rfl) (by exact ⟨rfl,rfl,rfl⟩) ht 0 (by decide)) (XdC hp.1 _ _ _) (by rfl) (hx.len 0)) ?_
 refine Eq.trans (Xhe (Xjc hp _ (by rfl) (by exact ⟨rfl,rfl,rfl⟩) ht 1 (by decide)) (XdC hp.1 _ _ _) (by rfl) (hx.len 1)) ?_
 refine Eq.trans (Xhe (Xjc hp _ (by rfl) (by exact ⟨rfl,rfl,rfl⟩) ht 2 (by decide)) (XdC hp.1 _ _ _) (by rfl) (hx.len 2)) ?_
 rfl
theorem XyK {k:Xat} {p:Nat} {x:SkS}:XiA (Xh8 k p x)=some x.tot:=rfl
def XhF (k:Xat) (p:Nat) (x:SkS):Xar:=⟨k,⟨x.R 0,x.R 1,x.R 2,x.R 3,p,p,p,p⟩,x.tot⟩
theorem Xic {k:Xat} {p:Nat} (hp:1≤p∧p≤4096) (s:Xar) (hk:s.key=k) (hm:s.rows.m0=p∧s.rows.m1=p∧s.rows.m2=p∧s.rows.m3=p) {t:List UInt8} (ht:t.length≤20) (i:Nat) (hi:i<4):Xd9 s i t=some (plN k p i t:Int):=by
 unfold Xd9 XdV
 rw [show Xaa.v4 s=some true from rfl,Option.bind_some,show (!true)=false from rfl,cond_false,Xa7 (by omega),Xa7 (by omega),hk,Xkq ht,Option.bind_some,XaH (by omega),Int.toNat_natCast]
 obtain rfl|rfl|rfl|rfl:i=0∨i=1∨i=2∨i=3:=by omega
 ·show (XaD _ (s.rows.m0:Int)).bind _=_;rw [hm.1,Xd2 hp.1 hp.2];rfl
 ·show (XaD _ (s.rows.m1:Int)).bind _=_;rw [hm.2.1,Xd2 hp.1 hp.2];rfl
 ·show (XaD _ (s.rows.m2:Int)).bind _=_;rw [hm.2.2.1,Xd2 hp.1 hp.2];rfl
 ·show (XaD _ (s.rows.m3:Int)).bind _=_;rw [hm.2.2.2,Xd2 hp.1 hp.2];rfl
theorem Xyb {k:Xat} {p:Nat} (hp:1≤p∧p≤4096) {x:SkS} (hx:Xdk p x) {e:Xay} (he:e.Text.length≤20):XhS (XhF k p x) e.Text e.N=some (Xj8 e,XhF k p (stepS k p x e)):=by
 unfold XhS Xfg
 rw [show Xaa.v4 (XhF k p x)=some true from rfl,Option.bind_some,show (!true)=false from rfl,cond_false]
 by_cases h1:e.N<0
 ·rw [Xbd h1,XeD (.inl h1),Xfo (XeD (.inl h1))]
 rw [Xa7 h1]
 by_cases h2:e.N>1048576
 ·rw [Xbd h2,XeD (.inr h2),Xfo (XeD (.inr h2))]
 have hN:0≤e.N∧e.N≤1048576:=by omega
 rw [Xa7 h2,XhG h1 h2,XiE (XhG h1 h2)]
 obtain ⟨v0,e0,a0,q0,l0,g0⟩:=Xj9 hp.1 hx k 0 e.Text
 obtain ⟨v1,e1,a1,q1,l1,g1⟩:=Xj9 hp.1 hx k 1 e.Text
 obtain ⟨v2,e2,a2,q2,l2,g2⟩:=Xj9 hp.1 hx k 2 e.Text
 obtain ⟨v3,e3,a3,q3,l3,g3⟩:=Xj9 hp.1 hx k 3 e.Text
 unfold XhF
 dsimp only
 rw [show Xab.v4 ⟨_,_,_⟩ 0 e.Text=some (plN k p 0 e.Text:Int) from Xic hp _ (by rfl) (by exact ⟨rfl,rfl,rfl,rfl⟩) he 0 (by decide),Option.bind_some,XaH (by omega),Int.toNat_natCast,e0,Option.bind_some,XfG (n:=v0+e.N) (by omega) (by omega),XaH (by omega)]
 rw [show Xab.v4 ⟨_,_,_⟩ 1 e.Text=some (plN k p 1 e.Text:Int) from Xic hp _ (by rfl) (by exact ⟨rfl,rfl,rfl,rfl⟩) he 1 (by decide),Option.bind_some,XaH (by omega),Int.toNat_natCast,e1,Option.bind_some,XfG (n:=v1+e.N) (by omega) (by omega),XaH (by omega)]
 rw [show Xab.v4 ⟨_,_,_⟩ 2 e.Text=some (plN k p 2 e.Text:Int) from Xic hp _ (by rfl) (by exact ⟨rfl,rfl,rfl,rfl⟩) he 2 (by decide),Option.bind_some,XaH (by omega),Int.toNat_natCast,e2,Option.bind_some,XfG (n:=v2+e.N) (by omega) (by omega),XaH (by omega)]
 rw [show Xab.v4 ⟨_,_,_⟩ 3 e.Text=some (plN k p 3 e.Text:Int) from Xic hp _ (by rfl) (by exact ⟨rfl,rfl,rfl,rfl⟩) he 3 (by decide),Option.bind_some,XaH (by omega),Int.toNat_natCast,e3,Option.bind_some,XfG (n:=v3+e.N) (by omega) (by omega),XaH (by omega)]
 rw [sN hx.tot.1 hx.tot.2 hN]
 unfold Xs1
 rw [g0,g1,g2,g3];rfl
theorem Xyh {k:Xat} {p:Nat} (hp:1≤p∧p≤4096) {x:SkS} (hx:Xdk p x) {t:List UInt8} (ht:t.length≤20):Xht (XhF k p x) t=some (XnJ k p x t 4):=by
 unfold Xht XeQ
 rw [show Xaa.v4 (XhF k p x)=some true from rfl,Option.bind_some,show (!true)=false from rfl,cond_false]
 refine Eq.trans (Xhe (Xic hp _ (by rfl) (by exact ⟨rfl,rfl,rfl,rfl⟩) ht 0 (by decide)) (XdC hp.1 _ _ _) (by rfl) (hx.len 0)) ?_
 refine Eq.trans (Xhe (Xic hp _ (by rfl) (by exact ⟨rfl,rfl,rfl,rfl⟩) ht 1 (by decide)) (XdC hp.1 _ _ _) (by rfl) (hx.len 1)) ?_
 refine Eq.trans (Xhe (Xic hp _ (by rfl) (by exact ⟨rfl,rfl,rfl,rfl⟩) ht 2 (by decide)) (XdC hp.1 _ _ _) (by rfl) (hx.len 2)) ?_
 refine Eq.trans (Xhe (Xic hp _ (by rfl) (by exact ⟨rfl,rfl,rfl,rfl⟩) ht 3 (by decide)) (XdC hp.1 _ _ _) (by rfl) (hx.len 3)) ?_
 rfl
theorem Xza {k:Xat} {p:Nat} {x:SkS}:XiO (XhF k p x)=some x.tot:=rfl
def XgB (k:Xat) (p:Nat) (x:SkS):Xap:=⟨k,⟨x.R 0,x.R 1,x.R 2,x.R 3,x.R 4,p,p,p,p,p⟩,x.tot⟩
theorem Xhi {k:Xat} {p:Nat} (hp:1≤p∧p≤4096) (s:Xap) (hk:s.key=k) (hm:s.rows.m0=p∧s.rows.m1=p∧s.rows.m2=p∧s.rows.m3=p∧s.rows.m4=p) {t:List UInt8} (ht:t.length≤20) (i:Nat) (hi:i<5):Xef s i t=some (plN k p i t:Int):=by
 unfold Xef XdP
 rw [show Xaa.v5 s=some true from rfl,Option.bind_some,show (!true)=false from rfl,cond_false,Xa7 (by omega),Xa7 (by omega),hk,Xkq ht,Option.bind_some,XaH (by omega),Int.toNat_natCast]
 obtain rfl|rfl|rfl|rfl|rfl:i=0∨i=1∨i=2∨i=3∨i=4:=by omega
 ·show (XaD _ (s.rows.m0:Int)).bind _=_;rw [hm.1,Xd2 hp.1 hp.2];rfl
 ·show (XaD _ (s.rows.m1:Int)).bind _=_;rw [hm.2.1,Xd2 hp.1 hp.2];rfl
 ·show (XaD _ (s.rows.m2:Int)).bind _=_;rw [hm.2.2.1,Xd2 hp.1 hp.2];rfl
 ·show (XaD _ (s.rows.m3:Int)).bind _=_;rw [hm.2.2.2.1,Xd2 hp.1 hp.2];rfl
 ·show (XaD _ (s.rows.m4:Int)).bind _=_;rw [hm.2.2.2.2,Xd2 hp.1 hp.2];rfl
theorem XzX {k:Xat} {p:Nat} (hp:1≤p∧p≤4096) {x:SkS} (hx:Xdk p x) {e:Xay} (he:e.Text.length≤20):XhV (XgB k p x) e.Text e.N=some (Xj8 e,XgB k p (stepS k p x e)):=by
 unfold XhV Xfk
 rw [show Xaa.v5 (XgB k p x)=some true from rfl,Option.bind_some,show (!true)=false from rfl,cond_false]
 by_cases h1:e.N<0
 ·rw [Xbd h1,XeD (.inl h1),Xfo (XeD (.inl h1))]
 rw [Xa7 h1]
 by_cases h2:e.N>1048576
 ·rw [Xbd h2,XeD (.inr h2),Xfo (XeD (.inr h2))]
 have hN:0≤e.N∧e.N≤1048576:=by omega
 rw [Xa7 h2,XhG h1 h2,XiE (XhG h1 h2)]
 obtain ⟨v0,e0,a0,q0,l0,g0⟩:=Xj9 hp.1 hx k 0 e.Text
 obtain ⟨v1,e1,a1,q1,l1,g1⟩:=Xj9 hp.1 hx k 1 e.Text
 obtain ⟨v2,e2,a2,q2,l2,g2⟩:=Xj9 hp.1 hx k 2 e.Text
 obtain ⟨v3,e3,a3,q3,l3,g3⟩:=Xj9 hp.1 hx k 3 e.Text
 obtain ⟨v4,e4,a4,q4,l4,g4⟩:=Xj9 hp.1 hx k 4 e.Text
 unfold XgB
 dsimp only
 rw [show Xab.v5 ⟨_,_,_⟩ 0 e.Text=some (plN k p 0 e.Text:Int) from Xhi hp _ (by rfl) (by exact ⟨rfl,rfl,rfl,rfl,rfl⟩) he 0 (by decide),Option.bind_some,XaH (by omega),Int.toNat_natCast,e0,Option.bind_some,XfG (n:=v0+e.N) (by omega) (by omega),XaH (by omega)]
 rw [show Xab.v5 ⟨_,_,_⟩ 1 e.Text=some (plN k p 1 e.Text:Int) from Xhi hp _ (by rfl) (by exact ⟨rfl,rfl,rfl,rfl,rfl⟩) he 1 (by decide),Option.bind_some,XaH (by omega),Int.toNat_natCast,e1,Option.bind_some,XfG (n:=v1+e.N) (by omega) (by omega),XaH (by omega)]
 rw [show Xab.v5 ⟨_,_,_⟩ 2 e.Text=some (plN k p 2 e.Text:Int) from Xhi hp _ (by rfl) (by exact ⟨rfl,rfl,rfl,rfl,rfl⟩) he 2 (by decide),Option.bind_some,XaH (by omega),Int.toNat_natCast,e2,Option.bind_some,XfG (n:=v2+e.N) (by omega) (by omega),XaH (by omega)]
 rw [show Xab.v5 ⟨_,_,_⟩ 3 e.Text=some (plN k p 3 e.Text:Int) from Xhi hp _ (by rfl) (by exact ⟨rfl,rfl,rfl,rfl,rfl⟩) he 3 (by decide),Option.bind_some,XaH (by omega),Int.toNat_natCast,e3,Option.bind_some,XfG (n:=v3+e.N) (by omega) (by omega),XaH (by omega)]
 rw [show Xab.v5 ⟨_,_,_⟩ 4 e.Text=some (plN k p 4 e.Text:Int) from Xhi hp _ (by rfl) (by exact ⟨rfl,rfl,rfl,rfl,rfl⟩) he 4 (by decide),Option.bind_some,XaH (by omega),Int.toNat_natCast,e4,Option.bind_some,XfG (n:=v4+e.N) (by omega) (by omega),XaH (by omega)]
 rw [sN hx.tot.1 hx.tot.2 hN]
 unfold Xs1
 rw [g0,g1,g2,g3,g4];rfl
theorem XyW {k:Xat} {p:Nat} (hp:1≤p∧p≤4096) {x:SkS} (hx:Xdk p x) {t:List UInt8} (ht:t.length≤20):Xhl (XgB k p x) t=some (XnJ k p x t 5):=by
 unfold Xhl XeU
 rw [show Xaa.v5 (XgB k p x)=some true from rfl,Option.bind_some,show (!true)=false from rfl,cond_false]
 refine Eq.trans (Xhe (Xhi hp _ (by rfl) (by exact ⟨rfl,rfl,rfl,rfl,rfl⟩) ht 0 (by decide)) (XdC hp.1 _ _ _) (by rfl) (hx.len 0)) ?_
 refine Eq.trans (Xhe (Xhi hp _ (by rfl) (by exact ⟨rfl,rfl,rfl,rfl,rfl⟩) ht 1 (by decide)) (XdC hp.1 _ _ _) (by rfl) (hx.len 1)) ?_
 refine Eq.trans (Xhe (Xhi hp _ (by rfl) (by exact ⟨rfl,rfl,rfl,rfl,rfl⟩) ht 2 (by decide)) (XdC hp.1 _ _ _) (by rfl) (hx.len 2)) ?_
 refine Eq.trans (Xhe (Xhi hp _ (by rfl) (by exact ⟨rfl,rfl,rfl,rfl,rfl⟩) ht 3 (by decide)) (XdC hp.1 _ _ _) (by rfl) (hx.len 3)) ?_
 refine Eq.trans (Xhe (Xhi hp _ (by rfl) (by exact ⟨rfl,rfl,rfl,rfl,rfl⟩) ht 4 (by decide)) (XdC hp.1 _ _ _) (by rfl) (hx.len 4)) ?_
 rfl
theorem XxD {k:Xat} {p:Nat} {x:SkS}:XiD (XgB k p x)=some x.tot:=rfl
def Xfl (k:Xat) (p:Nat) (x:SkS):Xan:=⟨k,⟨x.R 0,x.R 1,x.R 2,x.R 3,x.R 4,x.R 5,p,p,p,p,p,p⟩,x.tot⟩
theorem XfD {k:Xat} {p:Nat} (hp:1≤p∧p≤4096) (s:Xan) (hk:s.key=k) (hm:s.rows.m0=p∧s.rows.m1=p∧s.rows.m2=p∧s.rows.m3=p∧s.rows.m4=p∧s.rows.m5=p) {t:List UInt8} (ht:t.length≤20) (i:Nat) (hi:i<6):Xej s i t=some (plN k p i t:Int):=by
 unfold Xej XdU
 rw [show Xaa.v6 s=some true from rfl,Option.bind_some,show (!true)=false from rfl,cond_false,Xa7 (by omega),Xa7 (by omega),hk,Xkq ht,Option.bind_some,XaH (by omega),Int.toNat_natCast]
 obtain rfl|rfl|rfl|rfl|rfl|rfl:i=0∨i=1∨i=2∨i=3∨i=4∨i=5:=by omega
 ·show (XaD _ (s.rows.m0:Int)).bind _=_;rw [hm.1,Xd2 hp.1 hp.2];rfl
 ·show (XaD _ (s.rows.m1:Int)).bind _=_;rw [hm.2.1,Xd2 hp.1 hp.2];rfl
 ·show (XaD _ (s.rows.m2:Int)).bind _=_;rw [hm.2.2.1,Xd2 hp.1 hp.2];rfl
 ·show (XaD _ (s.rows.m3:Int)).bind _=_;rw [hm.2.2.2.1,Xd2 hp.1 hp.2];rfl
 ·show (XaD _ (s.rows.m4:Int)).bind _=_;rw [hm.2.2.2.2.1,Xd2 hp.1 hp.2];rfl
 ·show (XaD _ (s.rows.m5:Int)).bind _=_;rw [hm.2.2.2.2.2,Xd2 hp.1 hp.2];rfl
theorem Xyx {k:Xat} {p:Nat} (hp:1≤p∧p≤4096) {x:SkS} (hx:Xdk p x) {e:Xay} (he:e.Text.length≤20):XhT (Xfl k p x) e.Text e.N=some (Xj8 e,Xfl k p (stepS k p x e)):=by
 unfold XhT Xfj
 rw [show Xaa.v6 (Xfl k p x)=some true from rfl,Option.bind_some,show (!true)=false from rfl,cond_false]
 by_cases h1:e.N<0
 ·rw [Xbd h1,XeD (.inl h1),Xfo (XeD (.inl h1))]
 rw [Xa7 h1]
 by_cases h2:e.N>1048576
 ·rw [Xbd h2,XeD (.inr h2),Xfo (XeD (.inr h2))]
 have hN:0≤e.N∧e.N≤1048576:=by omega
 rw [Xa7 h2,XhG h1 h2,XiE (XhG h1 h2)]
 obtain ⟨v0,e0,a0,q0,l0,g0⟩:=Xj9 hp.1 hx k 0 e.Text
 obtain ⟨v1,e1,a1,q1,l1,g1⟩:=Xj9 hp.1 hx k 1 e.Text
 obtain ⟨v2,e2,a2,q2,l2,g2⟩:=Xj9 hp.1 hx k 2 e.Text
 obtain ⟨v3,e3,a3,q3,l3,g3⟩:=Xj9 hp.1 hx k 3 e.Text
 obtain ⟨v4,e4,a4,q4,l4,g4⟩:=Xj9 hp.1 hx k 4 e.Text
 obtain ⟨v5,e5,a5,q5,l5,g5⟩:=Xj9 hp.1 hx k 5 e.Text
 unfold Xfl
 dsimp only
 rw [show Xab.v6 ⟨_,_,_⟩ 0 e.Text=some (plN k p 0 e.Text:Int) from XfD hp _ (by rfl) (by exact ⟨rfl,rfl,rfl,rfl,rfl,rfl⟩) he 0 (by decide),Option.bind_some,XaH (by omega),Int.toNat_natCast,e0,Option.bind_some,XfG (n:=v0+e.N) (by omega) (by omega),XaH (by omega)]
 rw [show Xab.v6 ⟨_,_,_⟩ 1 e.Text=some (plN k p 1 e.Text:Int) from XfD hp _ (by rfl) (by exact ⟨rfl,rfl,rfl,rfl,rfl,rfl⟩) he 1 (by decide),Option.bind_some,XaH (by omega),Int.toNat_natCast,e1,Option.bind_some,XfG (n:=v1+e.N) (by omega) (by omega),XaH (by omega)]
 rw [show Xab.v6 ⟨_,_,_⟩ 2 e.Text=some (plN k p 2 e.Text:Int) from XfD hp _ (by rfl) (by exact ⟨rfl,rfl,rfl,rfl,rfl,rfl⟩) he 2 (by decide),Option.bind_some,XaH (by omega),Int.toNat_natCast,e2,Option.bind_some,XfG (n:=v2+e.N) (by omega) (by omega),XaH (by omega)]
 rw [show Xab.v6 ⟨_,_,_⟩ 3 e.Text=some (plN k p 3 e.Text:Int) from XfD hp _ (by rfl) (by exact ⟨rfl,rfl,rfl,rfl,rfl,rfl⟩) he 3 (by decide),Option.bind_some,XaH (by omega),Int.toNat_natCast,e3,Option.bind_some,XfG (n:=v3+e.N) (by omega) (by omega),XaH (by omega)]
 rw [show Xab.v6 ⟨_,_,_⟩ 4 e.Text=some (plN k p 4 e.Text:Int) from XfD hp _ (by rfl) (by exact ⟨rfl,rfl,rfl,rfl,rfl,rfl⟩) he 4 (by decide),Option.bind_some,XaH (by omega),Int.toNat_natCast,e4,Option.bind_some,XfG (n:=v4+e.N) (by omega) (by omega),XaH (by omega)]
 rw [show Xab.v6 ⟨_,_,_⟩ 5 e.Text=some (plN k p 5 e.Text:Int) from XfD hp _ (by rfl) (by exact ⟨rfl,rfl,rfl,rfl,rfl,rfl⟩) he 5 (by decide),Option.bind_some,XaH (by omega),Int.toNat_natCast,e5,Option.bind_some,XfG (n:=v5+e.N) (by omega) (by omega),XaH (by omega)]
 rw [sN hx.tot.1 hx.tot.2 hN]
 unfold Xs1
 rw [g0,g1,g2,g3,g4,g5];rfl
theorem XxX {k:Xat} {p:Nat} (hp:1≤p∧p≤4096) {x:SkS} (hx:Xdk p x) {t:List UInt8} (ht:t.length≤20):Xhu (Xfl k p x) t=some (XnJ k p x t 6):=by
 unfold Xhu XeX
 rw [show Xaa.v6 (Xfl k p x)=some true from rfl,Option.bind_some,show (!true)=false from rfl,cond_false]
 refine Eq.trans (Xhe (XfD hp _ (by rfl) (by exact ⟨rfl,rfl,rfl,rfl,rfl,rfl⟩) ht 0 (by decide)) (XdC hp.1 _ _ _) (by rfl) (hx.len 0)) ?_
 refine Eq.trans (Xhe (XfD hp _ (by rfl) (by exact ⟨rfl,rfl,rfl,rfl,rfl,rfl⟩) ht 1 (by decide)) (XdC hp.1 _ _ _) (by rfl) (hx.len 1)) ?_
 refine Eq.trans (Xhe (XfD hp _ (by rfl) (by exact ⟨rfl,rfl,rfl,rfl,rfl,rfl⟩) ht 2 (by decide)) (XdC hp.1 _ _ _) (by rfl) (hx.len 2)) ?_
 refine Eq.trans (Xhe (XfD hp _ (by rfl) (by exact ⟨rfl,rfl,rfl,rfl,rfl,rfl⟩) ht 3 (by decide)) (XdC hp.1 _ _ _) (by rfl) (hx.len 3)) ?_
 refine Eq.trans (Xhe (XfD hp _ (by rfl) (by exact ⟨rfl,rfl,rfl,rfl,rfl,rfl⟩) ht 4 (by decide)) (XdC hp.1 _ _ _) (by rfl) (hx.len 4)) ?_
 refine Eq.trans (Xhe (XfD hp _ (by rfl) (by exact ⟨rfl,rfl,rfl,rfl,rfl,rfl⟩) ht 5 (by decide)) (XdC hp.1 _ _ _) (by rfl) (hx.len 5)) ?_
 rfl
theorem Xxn {k:Xat} {p:Nat} {x:SkS}:XiM (Xfl k p x)=some x.tot:=rfl
def Xe4 (k:Xat) (p:Nat) (x:SkS):Xal:=⟨k,⟨x.R 0,x.R 1,x.R 2,x.R 3,x.R 4,x.R 5,x.R 6,p,p,p,p,p,p,p⟩,x.tot⟩
theorem XeK {k:Xat} {p:Nat} (hp:1≤p∧p≤4096) (s:Xal) (hk:s.key=k) (hm:s.rows.m0=p∧s.rows.m1=p∧s.rows.m2=p∧s.rows.m3=p∧s.rows.m4=p∧s.rows.m5=p∧s.rows.m6=p) {t:List UInt8} (ht:t.length≤20) (i:Nat) (hi:i<7):Xec s i t=some (plN k p i t:Int):=by
 unfold Xec XdO
 rw [show Xaa.v7 s=some true from rfl,Option.bind_some,show (!true)=false from rfl,cond_false,Xa7 (by omega),Xa7 (by omega),hk,Xkq ht,Option.bind_some,XaH (by omega),Int.toNat_natCast]
 obtain rfl|rfl|rfl|rfl|rfl|rfl|rfl:i=0∨i=1∨i=2∨i=3∨i=4∨i=5∨i=6:=by omega
 ·show (XaD _ (s.rows.m0:Int)).bind _=_;rw [hm.1,Xd2 hp.1 hp.2];rfl
 ·show (XaD _ (s.rows.m1:Int)).bind _=_;rw [hm.2.1,Xd2 hp.1 hp.2];rfl
 ·show (XaD _ (s.rows.m2:Int)).bind _=_;rw [hm.2.2.1,Xd2 hp.1 hp.2];rfl
 ·show (XaD _ (s.rows.m3:Int)).bind _=_;rw [hm.2.2.2.1,Xd2 hp.1 hp.2];rfl
 ·show (XaD _ (s.rows.m4:Int)).bind _=_;rw [hm.2.2.2.2.1,Xd2 hp.1 hp.2];rfl
 ·show (XaD _ (s.rows.m5:Int)).bind _=_;rw [hm.2.2.2.2.2.1,Xd2 hp.1 hp.2];rfl
 ·show (XaD _ (s.rows.m6:Int)).bind _=_;rw [hm.2.2.2.2.2.2,Xd2 hp.1 hp.2];rfl
theorem Xzt {k:Xat} {p:Nat} (hp:1≤p∧p≤4096) {x:SkS} (hx:Xdk p x) {e:Xay} (he:e.Text.length≤20):XhU (Xe4 k p x) e.Text e.N=some (Xj8 e,Xe4 k p (stepS k p x e)):=by
 unfold XhU Xfm
 rw [show Xaa.v7 (Xe4 k p x)=some true from rfl,Option.bind_some,show (!true)=false from rfl,cond_false]
 by_cases h1:e.N<0
 ·rw [Xbd h1,XeD (.inl h1),Xfo (XeD (.inl h1))]
 rw [Xa7 h1]
 by_cases h2:e.N>1048576
 ·rw [Xbd h2,XeD (.inr h2),Xfo (XeD (.inr h2))]
 have hN:0≤e.N∧e.N≤1048576:=by omega
 rw [Xa7 h2,XhG h1 h2,XiE (XhG h1 h2)]
 obtain ⟨v0,e0,a0,q0,l0,g0⟩:=Xj9 hp.1 hx k 0 e.Text
 obtain ⟨v1,e1,a1,q1,l1,g1⟩:=Xj9 hp.1 hx k 1 e.Text
 obtain ⟨v2,e2,a2,q2,l2,g2⟩:=Xj9 hp.1 hx k 2 e.Text
 obtain ⟨v3,e3,a3,q3,l3,g3⟩:=Xj9 hp.1 hx k 3 e.Text
 obtain ⟨v4,e4,a4,q4,l4,g4⟩:=Xj9 hp.1 hx k 4 e.Text
 obtain ⟨v5,e5,a5,q5,l5,g5⟩:=Xj9 hp.1 hx k 5 e.Text
 obtain ⟨v6,e6,a6,q6,l6,g6⟩:=Xj9 hp.1 hx k 6 e.Text
 unfold Xe4
 dsimp only
 rw [show Xab.v7 ⟨_,_,_⟩ 0 e.Text=some (plN k p 0 e.Text:Int) from XeK hp _ (by rfl) (by exact ⟨rfl,rfl,rfl,rfl,rfl,rfl,rfl⟩) he 0 (by decide),Option.bind_some,XaH (by omega),Int.toNat_natCast,e0,Option.bind_some,XfG (n:=v0+e.N) (by omega) (by omega),XaH (by omega)]
 rw [show Xab.v7 ⟨_,_,_⟩ 1 e.Text=some (plN k p 1 e.Text:Int) from XeK hp _ (by rfl) (by exact ⟨rfl,rfl,rfl,rfl,rfl,rfl,rfl⟩) he 1 (by decide),Option.bind_some,XaH (by omega),Int.toNat_natCast,e1,Option.bind_some,XfG (n:=v1+e.N) (by omega) (by omega),XaH (by omega)]
 rw [show Xab.v7 ⟨_,_,_⟩ 2 e.Text=some (plN k p 2 e.Text:Int) from XeK hp _ (by rfl) (by exact ⟨rfl,rfl,rfl,rfl,rfl,rfl,rfl⟩) he 2 (by decide),Option.bind_some,XaH (by omega),Int.toNat_natCast,e2,Option.bind_some,XfG (n:=v2+e.N) (by omega) (by omega),XaH (by omega)]
 rw [show Xab.v7 ⟨_,_,_⟩ 3 e.Text=some (plN k p 3 e.Text:Int) from XeK hp _ (by rfl) (by exact ⟨rfl,rfl,rfl,rfl,rfl,rfl,rfl⟩) he 3 (by decide),Option.bind_some,XaH (by omega),Int.toNat_natCast,e3,Option.bind_some,XfG (n:=v3+e.N) (by omega) (by omega),XaH (by omega)]
 rw [show Xab.v7 ⟨_,_,_⟩ 4 e.Text=some (plN k p 4 e.Text:Int) from XeK hp _ (by rfl) (by exact ⟨rfl,rfl,rfl,rfl,rfl,rfl,rfl⟩) he 4 (by decide),Option.bind_some,XaH (by omega),Int.toNat_natCast,e4,Option.bind_some,XfG (n:=v4+e.N) (by omega) (by omega),XaH (by omega)]
 rw [show Xab.v7 ⟨_,_,_⟩ 5 e.Text=some (plN k p 5 e.Text:Int) from XeK hp _ (by rfl) (by exact ⟨rfl,rfl,rfl,rfl,rfl,rfl,rfl⟩) he 5 (by decide),Option.bind_some,XaH (by omega),Int.toNat_natCast,e5,Option.bind_some,XfG (n:=v5+e.N) (by omega) (by omega),XaH (by omega)]
 rw [show Xab.v7 ⟨_,_,_⟩ 6 e.Text=some (plN k p 6 e.Text:Int) from XeK hp _ (by rfl) (by exact ⟨rfl,rfl,rfl,rfl,rfl,rfl,rfl⟩) he 6 (by decide),Option.bind_some,XaH (by omega),Int.toNat_natCast,e6,Option.bind_some,XfG (n:=v6+e.N) (by omega) (by omega),XaH (by omega)]
 rw [sN hx.tot.1 hx.tot.2 hN]
 unfold Xs1
 rw [g0,g1,g2,g3,g4,g5,g6];rfl
theorem Xxs {k:Xat} {p:Nat} (hp:1≤p∧p≤4096) {x:SkS} (hx:Xdk p x) {t:List UInt8} (ht:t.length≤20):Xhh (Xe4 k p x) t=some (XnJ k p x t 7):=by
 unfold Xhh XeW
 rw [show Xaa.v7 (Xe4 k p x)=some true from rfl,Option.bind_some,show (!true)=false from rfl,cond_false]
 refine Eq.trans (Xhe (XeK hp _ (by rfl) (by exact ⟨rfl,rfl,rfl,rfl,rfl,rfl,rfl⟩) ht 0 (by decide)) (XdC hp.1 _ _ _) (by rfl) (hx.len 0)) ?_
 refine Eq.trans (Xhe (XeK hp _ (by rfl) (by exact ⟨rfl,rfl,rfl,rfl,rfl,rfl,rfl⟩) ht 1 (by decide)) (XdC hp.1 _ _ _) (by rfl) (hx.len 1)) ?_
 refine Eq.trans (Xhe (XeK hp _ (by rfl) (by exact ⟨rfl,rfl,rfl,rfl,rfl,rfl,rfl⟩) ht 2 (by decide)) (XdC hp.1 _ _ _) (by rfl) (hx.len 2)) ?_
 refine Eq.trans (Xhe (XeK hp _ (by rfl) (by exact ⟨rfl,rfl,rfl,rfl,rfl,rfl,rfl⟩) ht 3 (by decide)) (XdC hp.1 _ _ _) (by rfl) (hx.len 3)) ?_
 refine Eq.trans (Xhe (XeK hp _ (by rfl) (by exact ⟨rfl,rfl,rfl,rfl,rfl,rfl,rfl⟩) ht 4 (by decide)) (XdC hp.1 _ _ _) (by rfl) (hx.len 4)) ?_
 refine Eq.trans (Xhe (XeK hp _ (by rfl) (by exact ⟨rfl,rfl,rfl,rfl,rfl,rfl,rfl⟩) ht 5 (by decide)) (XdC hp.1 _ _ _) (by rfl) (hx.len 5)) ?_
 refine Eq.trans (Xhe (XeK hp _ (by rfl) (by exact ⟨rfl,rfl,rfl,rfl,rfl,rfl,rfl⟩) ht 6 (by decide)) (XdC hp.1 _ _ _) (by rfl) (hx.len 6)) ?_
 rfl
theorem XzA {k:Xat} {p:Nat} {x:SkS}:XiH (Xe4 k p x)=some x.tot:=rfl
def Xey (k:Xat) (p:Nat) (x:SkS):Xak:=⟨k,⟨x.R 0,x.R 1,x.R 2,x.R 3,x.R 4,x.R 5,x.R 6,x.R 7,p,p,p,p,p,p,p,p⟩,x.tot⟩
theorem Xel {k:Xat} {p:Nat} (hp:1≤p∧p≤4096) (s:Xak) (hk:s.key=k) (hm:s.rows.m0=p∧s.rows.m1=p∧s.rows.m2=p∧s.rows.m3=p∧s.rows.m4=p∧s.rows.m5=p∧s.rows.m6=p∧s.rows.m7=p) {t:List UInt8} (ht:t.length≤20) (i:Nat) (hi:i<8):Xeb s i t=some (plN k p i t:Int):=by
 unfold Xeb XdS
 rw [show Xaa.v8 s=some true from rfl,Option.bind_some,show (!true)=false from rfl,cond_false,Xa7 (by omega),Xa7 (by omega),hk,Xkq ht,Option.bind_some,XaH (by omega),Int.toNat_natCast]
 obtain rfl|rfl|rfl|rfl|rfl|rfl|rfl|rfl:i=0∨i=1∨i=2∨i=3∨i=4∨i=5∨i=6∨i=7:=by omega
 ·show (XaD _ (s.rows.m0:Int)).bind _=_;rw [hm.1,Xd2 hp.1 hp.2];rfl
 ·show (XaD _ (s.rows.m1:Int)).bind _=_;rw [hm.2.1,Xd2 hp.1 hp.2];rfl
 ·show (XaD _ (s.rows.m2:Int)).bind _=_;rw [hm.2.2.1,Xd2 hp.1 hp.2];rfl
 ·show (XaD _ (s.rows.m3:Int)).bind _=_;rw [hm.2.2.2.1,Xd2 hp.1 hp.2];rfl
 ·show (XaD _ (s.rows.m4:Int)).bind _=_;rw [hm.2.2.2.2.1,Xd2 hp.1 hp.2];rfl
 ·show (XaD _ (s.rows.m5:Int)).bind _=_;rw [hm.2.2.2.2.2.1,Xd2 hp.1 hp.2];rfl
 ·show (XaD _ (s.rows.m6:Int)).bind _=_;rw [hm.2.2.2.2.2.2.1,Xd2 hp.1 hp.2];rfl
 ·show (XaD _ (s.rows.m7:Int)).bind _=_;rw [hm.2.2.2.2.2.2.2,Xd2 hp.1 hp.2];rfl
theorem Xwc {k:Xat} {p:Nat} (hp:1≤p∧p≤4096) {x:SkS} (hx:Xdk p x) {e:Xay} (he:e.Text.length≤20):XhX (Xey k p x) e.Text e.N=some (Xj8 e,Xey k p (stepS k p x e)):=by
 unfold XhX Xfi
 rw [show Xaa.v8 (Xey k p x)=some true from rfl,Option.bind_some,show (!true)=false from rfl,cond_false]
 by_cases h1:e.N<0
 ·rw [Xbd h1,XeD (.inl h1),Xfo (XeD (.inl h1))]
 rw [Xa7 h1]
 by_cases h2:e.N>1048576
 ·rw [Xbd h2,XeD (.inr h2),Xfo (XeD (.inr h2))]
 have hN:0≤e.N∧e.N≤1048576:=by omega
 rw [Xa7 h2,XhG h1 h2,XiE (XhG h1 h2)]
 obtain ⟨v0,e0,a0,q0,l0,g0⟩:=Xj9 hp.1 hx k 0 e.Text
 obtain ⟨v1,e1,a1,q1,l1,g1⟩:=Xj9 hp.1 hx k 1 e.Text
 obtain ⟨v2,e2,a2,q2,l2,g2⟩:=Xj9 hp.1 hx k 2 e.Text
 obtain ⟨v3,e3,a3,q3,l3,g3⟩:=Xj9 hp.1 hx k 3 e.Text
 obtain ⟨v4,e4,a4,q4,l4,g4⟩:=Xj9 hp.1 hx k 4 e.Text
 obtain ⟨v5,e5,a5,q5,l5,g5⟩:=Xj9 hp.1 hx k 5 e.Text
 obtain ⟨v6,e6,a6,q6,l6,g6⟩:=Xj9 hp.1 hx k 6 e.Text
 obtain ⟨v7,e7,a7,q7,l7,g7⟩:=Xj9 hp.1 hx k 7 e.Text
 unfold Xey
 dsimp only
 rw [show Xab.v8 ⟨_,_,_⟩ 0 e.Text=some (plN k p 0 e.Text:Int) from Xel hp _ (by rfl) (by exact ⟨rfl,rfl,rfl,rfl,rfl,rfl,rfl,rfl⟩) he 0 (by decide),Option.bind_some,XaH (by omega),Int.toNat_natCast,e0,Option.bind_some,XfG (n:=v0+e.N) (by omega) (by omega),XaH (by omega)]
 rw [show Xab.v8 ⟨_,_,_⟩ 1 e.Text=some (plN k p 1 e.Text:Int) from Xel hp _ (by rfl) (by exact ⟨rfl,rfl,rfl,rfl,rfl,rfl,rfl,rfl⟩) he 1 (by decide),Option.bind_some,XaH (by omega),Int.toNat_natCast,e1,Option.bind_some,XfG (n:=v1+e.N) (by omega) (by omega),XaH (by omega)]
 rw [show Xab.v8 ⟨_,_,_⟩ 2 e.Text=some (plN k p 2 e.Text:Int) from Xel hp _ (by rfl) (by exact ⟨rfl,rfl,rfl,rfl,rfl,rfl,rfl,rfl⟩) he 2 (by decide),Option.bind_some,XaH (by omega),Int.toNat_natCast,e2,Option.bind_some,XfG (n:=v2+e.N) (by omega) (by omega),XaH (by omega)]
 rw [show Xab.v8 ⟨_,_,_⟩ 3 e.Text=some (plN k p 3 e.Text:Int) from Xel hp _ (by rfl) (by exact ⟨rfl,rfl,rfl,rfl,rfl,rfl,rfl,rfl⟩) he 3 (by decide),Option.bind_some,XaH (by omega),Int.toNat_natCast,e3,Option.bind_some,XfG (n:=v3+e.N) (by omega) (by omega),XaH (by omega)]
 rw [show Xab.v8 ⟨_,_,_⟩ 4 e.Text=some (plN k p 4 e.Text:Int) from Xel hp _ (by rfl) (by exact ⟨rfl,rfl,rfl,rfl,rfl,rfl,rfl,rfl⟩) he 4 (by decide),Option.bind_some,XaH (by omega),Int.toNat_natCast,e4,Option.bind_some,XfG (n:=v4+e.N) (by omega) (by omega),XaH (by omega)]
 rw [show Xab.v8 ⟨_,_,_⟩ 5 e.Text=some (plN k p 5 e.Text:Int) from Xel hp _ (by rfl) (by exact ⟨rfl,rfl,rfl,rfl,rfl,rfl,rfl,rfl⟩) he 5 (by decide),Option.bind_some,XaH (by omega),Int.toNat_natCast,e5,Option.bind_some,XfG (n:=v5+e.N) (by omega) (by omega),XaH (by omega)]
 rw [show Xab.v8 ⟨_,_,_⟩ 6 e.Text=some (plN k p 6 e.Text:Int) from Xel hp _ (by rfl) (by exact ⟨rfl,rfl,rfl,rfl,rfl,rfl,rfl,rfl⟩) he 6 (by decide),Option.bind_some,XaH (by omega),Int.toNat_natCast,e6,Option.bind_some,XfG (n:=v6+e.N) (by omega) (by omega),XaH (by omega)]
 rw [show Xab.v8 ⟨_,_,_⟩ 7 e.Text=some (plN k p 7 e.Text:Int) from Xel hp _ (by rfl) (by exact ⟨rfl,rfl,rfl,rfl,rfl,rfl,rfl,rfl⟩) he 7 (by decide),Option.bind_some,XaH (by omega),Int.toNat_natCast,e7,Option.bind_some,XfG (n:=v7+e.N) (by omega) (by omega),XaH (by omega)]
 rw [sN hx.tot.1 hx.tot.2 hN]
 unfold Xs1
 rw [g0,g1,g2,g3,g4,g5,g6,g7];rfl
theorem Xy8 {k:Xat} {p:Nat} (hp:1≤p∧p≤4096) {x:SkS} (hx:Xdk p x) {t:List UInt8} (ht:t.length≤20):Xhk (Xey k p x) t=some (XnJ k p x t 8):=by
 unfold Xhk Xe0
 rw [show Xaa.v8 (Xey k p x)=some true from rfl,Option.bind_some,show (!true)=false from rfl,cond_false]
 refine Eq.trans (Xhe (Xel hp _ (by rfl) (by exact ⟨rfl,rfl,rfl,rfl,rfl,rfl,rfl,rfl⟩) ht 0 (by decide)) (XdC hp.1 _ _ _) (by rfl) (hx.len 0)) ?_
 refine Eq.trans (Xhe (Xel hp _ (by rfl) (by exact ⟨rfl,rfl,rfl,rfl,rfl,rfl,rfl,rfl⟩) ht 1 (by decide)) (XdC hp.1 _ _ _) (by rfl) (hx.len 1)) ?_
 refine Eq.trans (Xhe (Xel hp _ (by rfl) (by exact ⟨rfl,rfl,rfl,rfl,rfl,rfl,rfl,rfl⟩) ht 2 (by decide)) (XdC hp.1 _ _ _) (by rfl) (hx.len 2)) ?_
 refine Eq.trans (Xhe (Xel hp _ (by rfl) (by exact ⟨rfl,rfl,rfl,rfl,rfl,rfl,rfl,rfl⟩) ht 3 (by decide)) (XdC hp.1 _ _ _) (by rfl) (hx.len 3)) ?_
 refine Eq.trans (Xhe (Xel hp _ (by rfl) (by exact ⟨rfl,rfl,rfl,rfl,rfl,rfl,rfl,rfl⟩) ht 4 (by decide)) (XdC hp.1 _ _ _) (by rfl) (hx.len 4)) ?_
 refine Eq.trans (Xhe (Xel hp _ (by rfl) (by exact ⟨rfl,rfl,rfl,rfl,rfl,rfl,rfl,rfl⟩) ht 5 (by decide)) (XdC hp.1 _ _ _) (by rfl) (hx.len 5)) ?_
 refine Eq.trans (Xhe (Xel hp _ (by rfl) (by exact ⟨rfl,rfl,rfl,rfl,rfl,rfl,rfl,rfl⟩) ht 6 (by decide)) (XdC hp.1 _ _ _) (by rfl) (hx.len 6)) ?_
 refine Eq.trans (Xhe (Xel hp _ (by rfl) (by exact ⟨rfl,rfl,rfl,rfl,rfl,rfl,rfl,rfl⟩) ht 7 (by decide)) (XdC hp.1 _ _ _) (by rfl) (hx.len 7)) ?_
 rfl
theorem Xyz {k:Xat} {p:Nat} {x:SkS}:XiI (Xey k p x)=some x.tot:=rfl
theorem Xmc {rows:Int} {p:Nat} (hr:1≤rows∧rows≤8) (hp:1≤p∧p≤4096) (k:Xat):Xao rows (p:Int) k=some (match rows.toNat with
 | 1=>.v1 (Xjo k p (newS p))
 | 2=>.v2 (XiQ k p (newS p))
 | 3=>.v3 (Xh8 k p (newS p))
 | 4=>.v4 (XhF k p (newS p))
 | 5=>.v5 (XgB k p (newS p))
 | 6=>.v6 (Xfl k p (newS p))
 | 7=>.v7 (Xe4 k p (newS p))
 | 8=>.v8 (Xey k p (newS p))
 | _=>.nil):=by
 have hq:0≤(p:Int)∧(p:Int)≤p∧(p:Int)<2^63∧(8:Int)*p≤2^48:=by omega
 unfold Xao Xi7
 rw [Xa7 (by omega),Xa7 (by omega),Xa7 (by omega),Xa7 (by omega)]
 obtain rfl|rfl|rfl|rfl|rfl|rfl|rfl|rfl:rows=1∨rows=2∨rows=3∨rows=4∨rows=5∨rows=6∨rows=7∨rows=8:=by omega
 all_goals (simp only [XaH hq,Int.toNat_natCast];rfl)
end Go.Vm.Code
namespace Go.Vm.Code
open Go Go.Vm
def rowA (a b:List Int) (j:Nat):List Int:=a.mapIdx fun q v=>if q<j then cap (v+b.getD q 0) else v
theorem XjV (a b:List Int) (j:Nat):(rowA a b j).length=a.length:=List.length_mapIdx
theorem Xmv (a b:List Int) (j q:Nat) (h:q<a.length):(rowA a b j)[q]?=some (if q<j then cap (a[q]+b.getD q 0) else a[q]):=by
 unfold rowA;rw [List.getElem?_mapIdx,List.getElem?_eq_getElem h];rfl
theorem Xxy (a b:List Int):rowA a b 0=a:=by
 refine List.ext_getElem? fun q=>?_
 rcases Nat.lt_or_ge q a.length with h|h
 ·rw [Xmv a b 0 q h,if_neg (by omega),List.getElem?_eq_getElem h]
 ·rw [List.getElem?_eq_none (by rw [XjV];exact h),List.getElem?_eq_none h]
theorem XxT (a b:List Int) (j:Nat) (h:j<a.length):(rowA a b j).set j (cap (a[j]+b.getD j 0))=rowA a b (j+1):=by
 refine List.ext_getElem? fun q=>?_
 rw [List.getElem?_set,XjV]
 rcases Nat.lt_or_ge q a.length with hq|hq
 ·rw [Xmv a b (j+1) q hq,Xmv a b j q hq]
  by_cases e:j=q
  ·subst e;rw [if_pos rfl,if_pos h,if_pos (by omega)]
  ·rw [if_neg e]
   by_cases h2:q<j
   ·rw [if_pos h2,if_pos (by omega)]
   ·rw [if_neg h2,if_neg (by omega)]
 ·rw [if_neg (by omega),List.getElem?_eq_none (by rw [XjV];exact hq),List.getElem?_eq_none (by rw [XjV];exact hq)]
def Xbf (a b:List Int):List Int:=rowA a b a.length
theorem XcS {ρ:Type} {a b:List Int} {p:Nat} (ha:a.length=p) (hb:b.length=p) (hp:p≤4096) (ra:∀ e∈a,0≤e∧e≤1099511627776) (rb:∀ e∈b,0≤e∧e≤1099511627776) {step:Int×List Int→Option (Sum (Int×List Int) ρ)} {K:List Int→Option (Sum (Int×List Int) ρ)} {r:ρ}
 (h1:∀ t c,step (t,c)=cond (decide (t<(p:Int))) (XaQ (decide ((0:Int)≤t∧t<(p:Int)))<|(b[t.toNat]?).bind fun (e:Int)=>XaQ (decide ((0:Int)≤t∧t<(p:Int)))<|(c[t.toNat]?).bind fun (e1:Int)=>
   let y:=if (wI .i64 (e1+e))<1099511627776 then wI .i64 (e1+e) else 1099511627776
   XaQ (decide (t.toNat<c.length))<|let z:=c.set t.toNat y;some (.inl (wI .i64 (t+1),z))) (K c)) (hK:K (Xbf a b)=some (.inr r)):iter step FUEL (0,a)=some r:=by
 rw [show ((0:Int),a)=(fun j:Nat=>((j:Int),rowA a b j)) 0 by simp only [Xxy];rfl]
 refine Xd3 (fun j:Nat=>((j:Int),rowA a b j)) r p (fun j hj=>?_) ?_ (by rw [Xd0];omega)
 ·have g1:=ra _ (List.getElem_mem (l:=a) (n:=j) (by omega))
  have g2:=rb _ (List.getElem_mem (l:=b) (n:=j) (by omega))
  have hbj:b.getD j 0=b[j]'(by omega):=by rw [List.getD_eq_getElem?_getD,List.getElem?_eq_getElem (by omega)];rfl
  rw [h1,Xbd (by omega),XaH (by omega),Int.toNat_natCast,List.getElem?_eq_getElem (by omega),Option.bind_some,XaH (by omega),Xmv a b j j (by omega),if_neg (by omega),Option.bind_some,XfG (by omega) (by omega)]
  simp only []
  rw [XaH (by rw [XjV];omega),XfG (by omega) (by omega),←XxT a b j (by omega),hbj];rfl
 ·rw [h1,Xa7 (by omega)]
  have:rowA a b p=Xbf a b:=by unfold Xbf;rw [ha]
  rw [this,hK]
def Xdt (x y:SkS):SkS:=⟨fun i=>Xbf (x.R i) (y.R i),cap (x.tot+y.tot)⟩
theorem Xq0 {a b:List Int} {p:Nat} (ha:a.length=p) {q:Nat} (hq:q<p):(Xbf a b).getD q 0=cap (a.getD q 0+b.getD q 0):=by
 unfold Xbf
 have h1:a.getD q 0=a[q]'(by omega):=by rw [List.getD_eq_getElem?_getD,List.getElem?_eq_getElem (by omega)];rfl
 rw [List.getD_eq_getElem?_getD,Xmv a b _ q (by omega),if_pos (by omega),h1];rfl
theorem Xdk.add {p:Nat} {x y:SkS} (hx:Xdk p x) (hy:Xdk p y):Xdk p (Xdt x y):=by
 refine ⟨fun i=>?_,fun i e he=>?_,XnM (by have:=hx.tot;have:=hy.tot;omega)⟩
 ·show (Xbf _ _).length=p;unfold Xbf;rw [XjV,hx.len i]
 ·obtain ⟨q,hq⟩:=List.getElem?_of_mem he
  have hl:(Xbf (x.R i) (y.R i)).length=p:=by unfold Xbf;rw [XjV,hx.len i]
  have h:q<p:=by
   rcases Nat.lt_or_ge q p with h|h
   ·exact h
   ·rw [show (Xdt x y).R i=Xbf (x.R i) (y.R i) from rfl,List.getElem?_eq_none (by omega)] at hq;cases hq
  have:=Xq0 (a:=x.R i) (b:=y.R i) (hx.len i) h
  rw [List.getD_eq_getElem?_getD,show (Xbf (x.R i) (y.R i))[q]?=some e from hq] at this
  rw [show e=_ from this]
  have:=hx.getD i q;have:=hy.getD i q
  exact XnM (by omega)
end Go.Vm.Code
namespace Go.Vm.Code
open Go Go.Vm Go.Proofs
set_option maxRecDepth 100000
set_option maxHeartbeats 4000000
set_option linter.unusedVariables false
def Xe8 (a:List Int) (b:List Int):Option Bool:=
 some ((a.length:Int)==(b.length:Int))
def rx55 (x:Bool):Xdu:=⟨.bool x,[],[none,none]⟩
abbrev XaJ:=(List Int)→(List Int)→Option Bool
def r55 (g:XaJ):Dec:=dSl 0 1 (unL (asI .i64)) fun (y0:List Int)=>dSl 1 1 (unL (asI .i64)) fun (y1:List Int)=>XeA (ofG (g y0 y1) rx55)
theorem r55_c {g:XaJ} {y0:List Int} {y1:List Int} {x:Bool} (hx:g y0 y1=some x):r55 g [.slice (some ⟨0,0,none⟩) y0.length 1,.slice (some ⟨1,0,none⟩) y1.length 1] [some (vI .i64 y0),some (vI .i64 y1)]=some (rx55 x):=(Xqw (XdL _ _)).trans ((Xqw (XdL _ _)).trans (Xbc hx))
def s55 (g:XaJ):XcU:=⟨[.sl 1,.sl 1],r55 g⟩
theorem Xm7 {g:XaJ} {y0:List Int} {y1:List Int} {x:Bool} (hx:g y0 y1=some x):(s55 g).run [.slice (some ⟨0,0,none⟩) y0.length 1,.slice (some ⟨1,0,none⟩) y1.length 1] [some (vI .i64 y0),some (vI .i64 y1)]=some (rx55 x):=r55_c hx
abbrev XIs:List (Nat×XcU):=[]
theorem XFB (hS:XaF Try.prog (XaP (XIs))) (a:List Int) (b:List Int) (res:Bool) (h:Xe8 a b=some res) :
 XaU Try.prog 55 2 ⟨⟨55,10,[(0,.slice (some ⟨0,0,none⟩) a.length 1),(1,.slice (some ⟨1,0,none⟩) b.length 1)],[.code XIk],[],false,none⟩,[],[(0,.row false (vI .i64 a)),(1,.row false (vI .i64 b))],2⟩ (fun v H _=>Res 2 (rx55 res) v H):=by
 unfold Xe8 at h
 refine Xa4 XaM hS true 3000 ?_
 conv=>whnf
 exact W
def Xai:XaJ:=Xe8
theorem Xm9:XeG Try.prog 55 (s55 Xai):=by
 have hL:=XFB (XaF.Xba trivial)
 exact okA ⟨Try.f55,rfl,by decide,rfl⟩
def XfS (s:Xaz) (oa1:Xaz):Option (Sum Unit Bool):=
 some (.inr (true))
def XgU (Xaa:Xag) (s:Xaz) (oa1:Xaz):Option Bool:=
 (Xaa.v0 (Xaz.mk s.key Xbj.mk s.total)).bind fun x0=>
 cond (!x0)
  (
  some (false))
  (
  (Xaa.v0 (Xaz.mk oa1.key Xbj.mk oa1.total)).bind fun x01=>
  cond (!x01)
   (
   some (false))
   (
   let t:=!((s.key.A==oa1.key.A)&&((s.key.B==oa1.key.B)&&true))
   cond (t)
    (
    some (false))
    (
    iter (fun _=>XfS s oa1) FUEL ())))
def XpZ (x:Bool):Xdu:=⟨.bool x,[],[none,none,none,none,none,none,none,none,none,none,none,none,none,none,none,none,none,none,none,none]⟩
abbrev Xf4:=Xaz→Xaz→Option Bool
def XG2 (g:Xf4):Dec:=dTr 10 (XcE 0) fun (y0:Xaz)=>dTr 10 (XcE 10) fun (y1:Xaz)=>XeA (ofG (g y0 y1) XpZ)
abbrev XqY (Xaa:Xag):List (Nat×XcU):=[(38,s38 Xaa)]
def Xn7 (s:Xaz) (oa1:Xaz):VM:=
 ⟨⟨54,32,[(1,.slice none 0 0),(2,.func (.func 55) ⟨[]⟩ ⟨[]⟩),(15,.slice none 0 0),(16,.int .i64 0),(17,.int .i64 0)],[.code XyV,.inLoop XyV,.inBlock 0,.code XDk],[],false,none⟩,[⟨42,33,[],[.inReg (opsD XIR 0),.code .ret],[],false,none⟩],[(0,.row false [.int .u64 s.key.A,.int .u64 s.key.B,.slice none 0 0,.int .i64 s.total]),(10,.row false [.int .u64 oa1.key.A,.int .u64 oa1.key.B,.slice none 0 0,.int .i64 oa1.total])],45⟩
theorem Xrx (Xaa:Xag) (hS:XaF Try.prog (XaP (XqY Xaa))) {s:Xaz} {oa1:Xaz} {res:Bool}:∀ {fuel} {st:Unit} {o:Bool},iter (fun _=>XfS s oa1) fuel st=some o→(o=res) →
 XaU Try.prog 42 20 (Xn7 s oa1 ) (fun v H _=>Res 20 (XpZ res) v H):=by
 apply XaO
 intro st o h hc
 try dsimp -zeta only at h ⊢
 unfold XfS at h
 have J:=js []
 refine Xa4 XaM hS true 3000 ?_
 conv=>whnf
 exact W
theorem XvX (Xaa:Xag) (hS:XaF Try.prog (XaP (XqY Xaa))) (s:Xaz) (oa1:Xaz) (res:Bool) (h:XgU Xaa s oa1=some res) :
 XaU Try.prog 42 20 ⟨⟨42,33,[(0,.pointer (some ⟨0,0,none⟩)),(1,.pointer (some ⟨10,0,none⟩))],[.code XoF],[],false,none⟩,[],[(0,.row false [.int .u64 s.key.A,.int .u64 s.key.B,.slice none 0 0,.int .i64 s.total]),(10,.row false [.int .u64 oa1.key.A,.int .u64 oa1.key.B,.slice none 0 0,.int .i64 oa1.total])],20⟩ (fun v H _=>Res 20 (XpZ res) v H):=by
 unfold XgU at h
 have J:=js []
 refine Xa4 XaM hS true 3000 ?_
 conv=>whnf
 replace h:=Xbu.elim h;obtain ⟨x0,hy,h⟩:=h
 refine XdH.a (Xnv hy) ?_
 conv=>whnf
 refine br.h h (by rfl) ?_ ?_
 ·clear h;intro hb h;conv=>whnf
  exact W
 clear h;intro hb h;conv=>whnf
 replace h:=Xbu.elim h;obtain ⟨x01,hy,h⟩:=h
 refine XdH.a (Xnv hy) ?_
 conv=>whnf
 refine br.h h (by rfl) ?_ ?_
 ·clear h;intro hb h;conv=>whnf
  exact W
 clear h;intro hb h;conv=>whnf
 let t:Bool:=!((s.key.A==oa1.key.A)&&((s.key.B==oa1.key.B)&&true))
 refine br.h h (by rfl) ?_ ?_
 ·clear h;intro hb h;conv=>whnf
  exact W
 clear h;intro hb h;conv=>whnf
 have hl:=Xrx Xaa hS h rfl;simp only [Xn7] at hl
 exact lrA1 hl [(0,0),(1,1),(2,2),(3,3),(4,4),(5,5),(6,6),(7,7),(8,8),(9,9),(10,10),(11,11),(12,12),(13,13),(14,14),(15,15),(16,16),(17,17),(18,18),(19,19)] rfl
def XeS (Xaa:Xag) (Xai:XaJ) (s:XaA) (oa1:XaA):Option Bool:=
 (Xaa.v1 s).bind fun x1=>
 cond (!x1)
  (
  some (false))
  (
  (Xaa.v1 oa1).bind fun x11=>
  cond (!x11)
   (
   some (false))
   (
   let t:=!((s.key.A==oa1.key.A)&&((s.key.B==oa1.key.B)&&true))
   cond (t)
    (
    some (false))
    (
    XaQ (decide (s.rows.m0≤s.rows.e0.length)) <|
    XaQ (decide (oa1.rows.m0≤oa1.rows.e0.length)) <|
    (Xai (s.rows.e0.take s.rows.m0) (oa1.rows.e0.take oa1.rows.m0)).bind fun x12=>
    cond (!x12)
     (
     some (false))
     (
     some (true)))))
def XsH (x:Bool):Xdu:=⟨.bool x,[],[none,none,none,none,none,none,none,none,none,none,none,none,none,none,none,none,none,none,none,none]⟩
abbrev XfQ:=XaA→XaA→Option Bool
def XHL (g:XfQ):Dec:=dTr 10 (XbH 0) fun (y0:XaA)=>dTr 10 (XbH 10) fun (y1:XaA)=>XeA (ofG (g y0 y1) XsH)
abbrev Xxu (Xaa:Xag) (Xai:XaJ):List (Nat×XcU):=[(38,s38 Xaa),(55,s55 Xai)]
theorem Xu4 (Xaa:Xag) (Xai:XaJ) (hS:XaF Try.prog (XaP (Xxu Xaa Xai))) (s:XaA) (oa1:XaA) (res:Bool) (h:XeS Xaa Xai s oa1=some res) :
 XaU Try.prog 42 20 ⟨⟨42,33,[(0,.pointer (some ⟨0,0,none⟩)),(1,.pointer (some ⟨10,0,none⟩))],[.code XoF],[],false,none⟩,[],[(0,.row false [.int .u64 s.key.A,.int .u64 s.key.B,.slice (some ⟨1,0,none⟩) 1 1,.int .i64 s.total]),(1,.row false [.slice (some ⟨2,0,none⟩) s.rows.m0 1]),(2,.row false (vI .i64 s.rows.e0)),(10,.row false [.int .u64 oa1.key.A,.int .u64 oa1.key.B,.slice (some ⟨11,0,none⟩) 1 1,.int .i64 oa1.total]),(11,.row false [.slice (some ⟨12,0,none⟩) oa1.rows.m0 1]),(12,.row false (vI .i64 oa1.rows.e0))],20⟩ (fun v H _=>Res 20 (XsH res) v H):=by
 unfold XeS at h
 have R1:=@Xmm Xaa
 have R2:=@Xm7 Xai
 have J:=js []
 refine Xa4 XaM hS true 3000 ?_
 conv=>whnf
 exact W
def XeR (Xaa:Xag) (Xai:XaJ) (s:Xax) (oa1:Xax):Option Bool:=
 (Xaa.v2 s).bind fun x2=>
 cond (!x2)
  (
  some (false))
  (
  (Xaa.v2 oa1).bind fun x21=>
  cond (!x21)
   (
   some (false))
   (
   let t:=!((s.key.A==oa1.key.A)&&((s.key.B==oa1.key.B)&&true))
   cond (t)
    (
    some (false))
    (
    XaQ (decide (s.rows.m0≤s.rows.e0.length)) <|
    XaQ (decide (oa1.rows.m0≤oa1.rows.e0.length)) <|
    (Xai (s.rows.e0.take s.rows.m0) (oa1.rows.e0.take oa1.rows.m0)).bind fun x1=>
    cond (!x1)
     (
     some (false))
     (
     XaQ (decide (s.rows.m1≤s.rows.e1.length)) <|
     XaQ (decide (oa1.rows.m1≤oa1.rows.e1.length)) <|
     (Xai (s.rows.e1.take s.rows.m1) (oa1.rows.e1.take oa1.rows.m1)).bind fun x11=>
     cond (!x11)
      (
      some (false))
      (
      some (true))))))
def Xte (x:Bool):Xdu:=⟨.bool x,[],[none,none,none,none,none,none,none,none,none,none,none,none,none,none,none,none,none,none,none,none]⟩
abbrev XfA:=Xax→Xax→Option Bool
def XHA (g:XfA):Dec:=dTr 10 (XbL 0) fun (y0:Xax)=>dTr 10 (XbL 10) fun (y1:Xax)=>XeA (ofG (g y0 y1) Xte)
abbrev XzC (Xaa:Xag) (Xai:XaJ):List (Nat×XcU):=[(38,s38 Xaa),(55,s55 Xai)]
theorem Xve (Xaa:Xag) (Xai:XaJ) (hS:XaF Try.prog (XaP (XzC Xaa Xai))) (s:Xax) (oa1:Xax) (res:Bool) (h:XeR Xaa Xai s oa1=some res) :
 XaU Try.prog 42 20 ⟨⟨42,33,[(0,.pointer (some ⟨0,0,none⟩)),(1,.pointer (some ⟨10,0,none⟩))],[.code XoF],[],false,none⟩,[],[(0,.row false [.int .u64 s.key.A,.int .u64 s.key.B,.slice (some ⟨1,0,none⟩) 2 1,.int .i64 s.total]),(1,.row false [.slice (some ⟨2,0,none⟩) s.rows.m0 1,.slice (some ⟨3,0,none⟩) s.rows.m1 1]),(2,.row false (vI .i64 s.rows.e0)),(3,.row false (vI .i64 s.rows.e1)),(10,.row false [.int .u64 oa1.key.A,.int .u64 oa1.key.B,.slice (some ⟨11,0,none⟩) 2 1,.int .i64 oa1.total]),(11,.row false [.slice (some ⟨12,0,none⟩) oa1.rows.m0 1,.slice (some ⟨13,0,none⟩) oa1.rows.m1 1]),(12,.row false (vI .i64 oa1.rows.e0)),(13,.row false (vI .i64 oa1.rows.e1))],20⟩ (fun v H _=>Res 20 (Xte res) v H):=by
 unfold XeR at h
 have R1:=@Xmn Xaa
 have R2:=@Xm7 Xai
 have J:=js []
 refine Xa4 XaM hS true 3000 ?_
 conv=>whnf
 exact W
def XeO (Xaa:Xag) (Xai:XaJ) (s:Xau) (oa1:Xau):Option Bool:=
 (Xaa.v3 s).bind fun x3=>
 cond (!x3)
  (
  some (false))
  (
  (Xaa.v3 oa1).bind fun x31=>
  cond (!x31)
   (
   some (false))
   (
   let t:=!((s.key.A==oa1.key.A)&&((s.key.B==oa1.key.B)&&true))
   cond (t)
    (
    some (false))
    (
    XaQ (decide (s.rows.m0≤s.rows.e0.length)) <|
    XaQ (decide (oa1.rows.m0≤oa1.rows.e0.length)) <|
    (Xai (s.rows.e0.take s.rows.m0) (oa1.rows.e0.take oa1.rows.m0)).bind fun x1=>
    cond (!x1)
     (
     some (false))
     (
     XaQ (decide (s.rows.m1≤s.rows.e1.length)) <|
     XaQ (decide (oa1.rows.m1≤oa1.rows.e1.length)) <|
     (Xai (s.rows.e1.take s.rows.m1) (oa1.rows.e1.take oa1.rows.m1)).bind fun x11=>
     cond (!x11)
      (
      some (false))
      (
      XaQ (decide (s.rows.m2≤s.rows.e2.length)) <|
      XaQ (decide (oa1.rows.m2≤oa1.rows.e2.length)) <|
      (Xai (s.rows.e2.take s.rows.m2) (oa1.rows.e2.take oa1.rows.m2)).bind fun x12=>
      cond (!x12)
       (
       some (false))
       (
       some (true)))))))
def Xsc (x:Bool):Xdu:=⟨.bool x,[],[none,none,none,none,none,none,none,none,none,none,none,none,none,none,none,none,none,none,none,none]⟩
abbrev Xgc:=Xau→Xau→Option Bool
def XIJ (g:Xgc):Dec:=dTr 10 (XbK 0) fun (y0:Xau)=>dTr 10 (XbK 10) fun (y1:Xau)=>XeA (ofG (g y0 y1) Xsc)
abbrev Xyo (Xaa:Xag) (Xai:XaJ):List (Nat×XcU):=[(38,s38 Xaa),(55,s55 Xai)]
theorem XvB (Xaa:Xag) (Xai:XaJ) (hS:XaF Try.prog (XaP (Xyo Xaa Xai))) (s:Xau) (oa1:Xau) (res:Bool) (h:XeO Xaa Xai s oa1=some res) :
 XaU Try.prog 42 20 ⟨⟨42,33,[(0,.pointer (some ⟨0,0,none⟩)),(1,.pointer (some ⟨10,0,none⟩))],[.code XoF],[],false,none⟩,[],[(0,.row false [.int .u64 s.key.A,.int .u64 s.key.B,.slice (some ⟨1,0,none⟩) 3 1,.int .i64 s.total]),(1,.row false [.slice (some ⟨2,0,none⟩) s.rows.m0 1,.slice (some ⟨3,0,none⟩) s.rows.m1 1,.slice (some ⟨4,0,none⟩) s.rows.m2 1]),(2,.row false (vI .i64 s.rows.e0)),(3,.row false (vI .i64 s.rows.e1)),(4,.row false (vI .i64 s.rows.e2)),(10,.row false [.int .u64 oa1.key.A,.int .u64 oa1.key.B,.slice (some ⟨11,0,none⟩) 3 1,.int .i64 oa1.total]),(11,.row false [.slice (some ⟨12,0,none⟩) oa1.rows.m0 1,.slice (some ⟨13,0,none⟩) oa1.rows.m1 1,.slice (some ⟨14,0,none⟩) oa1.rows.m2 1]),(12,.row false (vI .i64 oa1.rows.e0)),(13,.row false (vI .i64 oa1.rows.e1)),(14,.row false (vI .i64 oa1.rows.e2))],20⟩ (fun v H _=>Res 20 (Xsc res) v H):=by
 unfold XeO at h
 have R1:=@Xmy Xaa
 have R2:=@Xm7 Xai
 have J:=js []
 refine Xa4 XaM hS true 3000 ?_
 conv=>whnf
 exact W
def Xe1 (Xaa:Xag) (Xai:XaJ) (s:Xar) (oa1:Xar):Option Bool:=
 (Xaa.v4 s).bind fun x4=>
 cond (!x4)
  (
  some (false))
  (
  (Xaa.v4 oa1).bind fun x41=>
  cond (!x41)
   (
   some (false))
   (
   let t:=!((s.key.A==oa1.key.A)&&((s.key.B==oa1.key.B)&&true))
   cond (t)
    (
    some (false))
    (
    XaQ (decide (s.rows.m0≤s.rows.e0.length)) <|
    XaQ (decide (oa1.rows.m0≤oa1.rows.e0.length)) <|
    (Xai (s.rows.e0.take s.rows.m0) (oa1.rows.e0.take oa1.rows.m0)).bind fun x1=>
    cond (!x1)
     (
     some (false))
     (
     XaQ (decide (s.rows.m1≤s.rows.e1.length)) <|
     XaQ (decide (oa1.rows.m1≤oa1.rows.e1.length)) <|
     (Xai (s.rows.e1.take s.rows.m1) (oa1.rows.e1.take oa1.rows.m1)).bind fun x11=>
     cond (!x11)
      (
      some (false))
      (
      XaQ (decide (s.rows.m2≤s.rows.e2.length)) <|
      XaQ (decide (oa1.rows.m2≤oa1.rows.e2.length)) <|
      (Xai (s.rows.e2.take s.rows.m2) (oa1.rows.e2.take oa1.rows.m2)).bind fun x12=>
      cond (!x12)
       (
       some (false))
       (
       XaQ (decide (s.rows.m3≤s.rows.e3.length)) <|
       XaQ (decide (oa1.rows.m3≤oa1.rows.e3.length)) <|
       (Xai (s.rows.e3.take s.rows.m3) (oa1.rows.e3.take oa1.rows.m3)).bind fun x13=>
       cond (!x13)
        (
        some (false))
        (
        some (true))))))))
def XrM (x:Bool):Xdu:=⟨.bool x,[],[none,none,none,none,none,none,none,none,none,none,none,none,none,none,none,none,none,none,none,none]⟩
abbrev XfO:=Xar→Xar→Option Bool
def XJD (g:XfO):Dec:=dTr 10 (XbJ 0) fun (y0:Xar)=>dTr 10 (XbJ 10) fun (y1:Xar)=>XeA (ofG (g y0 y1) XrM)
abbrev XxN (Xaa:Xag) (Xai:XaJ):List (Nat×XcU):=[(38,s38 Xaa),(55,s55 Xai)]
theorem Xvw (Xaa:Xag) (Xai:XaJ) (hS:XaF Try.prog (XaP (XxN Xaa Xai))) (s:Xar) (oa1:Xar) (res:Bool) (h:Xe1 Xaa Xai s oa1=some res) :
 XaU Try.prog 42 20 ⟨⟨42,33,[(0,.pointer (some ⟨0,0,none⟩)),(1,.pointer (some ⟨10,0,none⟩))],[.code XoF],[],false,none⟩,[],[(0,.row false [.int .u64 s.key.A,.int .u64 s.key.B,.slice (some ⟨1,0,none⟩) 4 1,.int .i64 s.total]),(1,.row false [.slice (some ⟨2,0,none⟩) s.rows.m0 1,.slice (some ⟨3,0,none⟩) s.rows.m1 1,.slice (some ⟨4,0,none⟩) s.rows.m2 1,.slice (some ⟨5,0,none⟩) s.rows.m3 1]),(2,.row false (vI .i64 s.rows.e0)),(3,.row false (vI .i64 s.rows.e1)),(4,.row false (vI .i64 s.rows.e2)),(5,.row false (vI .i64 s.rows.e3)),(10,.row false [.int .u64 oa1.key.A,.int .u64 oa1.key.B,.slice (some ⟨11,0,none⟩) 4 1,.int .i64 oa1.total]),(11,.row false [.slice (some ⟨12,0,none⟩) oa1.rows.m0 1,.slice (some ⟨13,0,none⟩) oa1.rows.m1 1,.slice (some ⟨14,0,none⟩) oa1.rows.m2 1,.slice (some ⟨15,0,none⟩) oa1.rows.m3 1]),(12,.row false (vI .i64 oa1.rows.e0)),(13,.row false (vI .i64 oa1.rows.e1)),(14,.row false (vI .i64 oa1.rows.e2)),(15,.row false (vI .i64 oa1.rows.e3))],20⟩ (fun v H _=>Res 20 (XrM res) v H):=by
 unfold Xe1 at h
 have R1:=@Xl5 Xaa
 have R2:=@Xm7 Xai
 have J:=js []
 refine Xa4 XaM hS true 3000 ?_
 conv=>whnf
 exact W
def XeP (Xaa:Xag) (Xai:XaJ) (s:Xap) (oa1:Xap):Option Bool:=
 (Xaa.v5 s).bind fun x5=>
 cond (!x5)
  (
  some (false))
  (
  (Xaa.v5 oa1).bind fun x51=>
  cond (!x51)
   (
   some (false))
   (
   let t:=!((s.key.A==oa1.key.A)&&((s.key.B==oa1.key.B)&&true))
   cond (t)
    (
    some (false))
    (
    XaQ (decide (s.rows.m0≤s.rows.e0.length)) <|
    XaQ (decide (oa1.rows.m0≤oa1.rows.e0.length)) <|
    (Xai (s.rows.e0.take s.rows.m0) (oa1.rows.e0.take oa1.rows.m0)).bind fun x1=>
    cond (!x1)
     (
     some (false))
     (
     XaQ (decide (s.rows.m1≤s.rows.e1.length)) <|
     XaQ (decide (oa1.rows.m1≤oa1.rows.e1.length)) <|
     (Xai (s.rows.e1.take s.rows.m1) (oa1.rows.e1.take oa1.rows.m1)).bind fun x11=>
     cond (!x11)
      (
      some (false))
      (
      XaQ (decide (s.rows.m2≤s.rows.e2.length)) <|
      XaQ (decide (oa1.rows.m2≤oa1.rows.e2.length)) <|
      (Xai (s.rows.e2.take s.rows.m2) (oa1.rows.e2.take oa1.rows.m2)).bind fun x12=>
      cond (!x12)
       (
       some (false))
       (
       XaQ (decide (s.rows.m3≤s.rows.e3.length)) <|
       XaQ (decide (oa1.rows.m3≤oa1.rows.e3.length)) <|
       (Xai (s.rows.e3.take s.rows.m3) (oa1.rows.e3.take oa1.rows.m3)).bind fun x13=>
       cond (!x13)
        (
        some (false))
        (
        XaQ (decide (s.rows.m4≤s.rows.e4.length)) <|
        XaQ (decide (oa1.rows.m4≤oa1.rows.e4.length)) <|
        (Xai (s.rows.e4.take s.rows.m4) (oa1.rows.e4.take oa1.rows.m4)).bind fun x14=>
        cond (!x14)
         (
         some (false))
         (
         some (true)))))))))
def Xsa (x:Bool):Xdu:=⟨.bool x,[],[none,none,none,none,none,none,none,none,none,none,none,none,none,none,none,none,none,none,none,none]⟩
abbrev XfR:=Xap→Xap→Option Bool
def XI1 (g:XfR):Dec:=dTr 10 (XbG 0) fun (y0:Xap)=>dTr 10 (XbG 10) fun (y1:Xap)=>XeA (ofG (g y0 y1) Xsa)
abbrev XxC (Xaa:Xag) (Xai:XaJ):List (Nat×XcU):=[(38,s38 Xaa),(55,s55 Xai)]
theorem XvD (Xaa:Xag) (Xai:XaJ) (hS:XaF Try.prog (XaP (XxC Xaa Xai))) (s:Xap) (oa1:Xap) (res:Bool) (h:XeP Xaa Xai s oa1=some res) :
 XaU Try.prog 42 20 ⟨⟨42,33,[(0,.pointer (some ⟨0,0,none⟩)),(1,.pointer (some ⟨10,0,none⟩))],[.code XoF],[],false,none⟩,[],[(0,.row false [.int .u64 s.key.A,.int .u64 s.key.B,.slice (some ⟨1,0,none⟩) 5 1,.int .i64 s.total]),(1,.row false [.slice (some ⟨2,0,none⟩) s.rows.m0 1,.slice (some ⟨3,0,none⟩) s.rows.m1 1,.slice (some ⟨4,0,none⟩) s.rows.m2 1,.slice (some ⟨5,0,none⟩) s.rows.m3 1,.slice (some ⟨6,0,none⟩) s.rows.m4 1]),(2,.row false (vI .i64 s.rows.e0)),(3,.row false (vI .i64 s.rows.e1)),(4,.row false (vI .i64 s.rows.e2)),(5,.row false (vI .i64 s.rows.e3)),(6,.row false (vI .i64 s.rows.e4)),(10,.row false [.int .u64 oa1.key.A,.int .u64 oa1.key.B,.slice (some ⟨11,0,none⟩) 5 1,.int .i64 oa1.total]),(11,.row false [.slice (some ⟨12,0,none⟩) oa1.rows.m0 1,.slice (some ⟨13,0,none⟩) oa1.rows.m1 1,.slice (some ⟨14,0,none⟩) oa1.rows.m2 1,.slice (some ⟨15,0,none⟩) oa1.rows.m3 1,.slice (some ⟨16,0,none⟩) oa1.rows.m4 1]),(12,.row false (vI .i64 oa1.rows.e0)),(13,.row false (vI .i64 oa1.rows.e1)),(14,.row false (vI .i64 oa1.rows.e2)),(15,.row false (vI .i64 oa1.rows.e3)),(16,.row false (vI .i64 oa1.rows.e4))],20⟩ (fun v H _=>Res 20 (Xsa res) v H):=by
 unfold XeP at h
 have R1:=@Xmk Xaa
 have R2:=@Xm7 Xai
 have J:=js []
 refine Xa4 XaM hS true 3000 ?_
 conv=>whnf
 exact W
def XeV (Xaa:Xag) (Xai:XaJ) (s:Xan) (oa1:Xan):Option Bool:=
 (Xaa.v6 s).bind fun x6=>
 cond (!x6)
  (
  some (false))
  (
  (Xaa.v6 oa1).bind fun x61=>
  cond (!x61)
   (
   some (false))
   (
   let t:=!((s.key.A==oa1.key.A)&&((s.key.B==oa1.key.B)&&true))
   cond (t)
    (
    some (false))
    (
    XaQ (decide (s.rows.m0≤s.rows.e0.length)) <|
    XaQ (decide (oa1.rows.m0≤oa1.rows.e0.length)) <|
    (Xai (s.rows.e0.take s.rows.m0) (oa1.rows.e0.take oa1.rows.m0)).bind fun x1=>
    cond (!x1)
     (
     some (false))
     (
     XaQ (decide (s.rows.m1≤s.rows.e1.length)) <|
     XaQ (decide (oa1.rows.m1≤oa1.rows.e1.length)) <|
     (Xai (s.rows.e1.take s.rows.m1) (oa1.rows.e1.take oa1.rows.m1)).bind fun x11=>
     cond (!x11)
      (
      some (false))
      (
      XaQ (decide (s.rows.m2≤s.rows.e2.length)) <|
      XaQ (decide (oa1.rows.m2≤oa1.rows.e2.length)) <|
      (Xai (s.rows.e2.take s.rows.m2) (oa1.rows.e2.take oa1.rows.m2)).bind fun x12=>
      cond (!x12)
       (
       some (false))
       (
       XaQ (decide (s.rows.m3≤s.rows.e3.length)) <|
       XaQ (decide (oa1.rows.m3≤oa1.rows.e3.length)) <|
       (Xai (s.rows.e3.take s.rows.m3) (oa1.rows.e3.take oa1.rows.m3)).bind fun x13=>
       cond (!x13)
        (
        some (false))
        (
        XaQ (decide (s.rows.m4≤s.rows.e4.length)) <|
        XaQ (decide (oa1.rows.m4≤oa1.rows.e4.length)) <|
        (Xai (s.rows.e4.take s.rows.m4) (oa1.rows.e4.take oa1.rows.m4)).bind fun x14=>
        cond (!x14)
         (
         some (false))
         (
         XaQ (decide (s.rows.m5≤s.rows.e5.length)) <|
         XaQ (decide (oa1.rows.m5≤oa1.rows.e5.length)) <|
         (Xai (s.rows.e5.take s.rows.m5) (oa1.rows.e5.take oa1.rows.m5)).bind fun x15=>
         cond (!x15)
          (
          some (false))
          (
          some (true))))))))))
def Xrs (x:Bool):Xdu:=⟨.bool x,[],[none,none,none,none,none,none,none,none,none,none,none,none,none,none,none,none,none,none,none,none]⟩
abbrev XfB:=Xan→Xan→Option Bool
def XIL (g:XfB):Dec:=dTr 10 (XbF 0) fun (y0:Xan)=>dTr 10 (XbF 10) fun (y1:Xan)=>XeA (ofG (g y0 y1) Xrs)
abbrev Xwf (Xaa:Xag) (Xai:XaJ):List (Nat×XcU):=[(38,s38 Xaa),(55,s55 Xai)]
theorem Xvn (Xaa:Xag) (Xai:XaJ) (hS:XaF Try.prog (XaP (Xwf Xaa Xai))) (s:Xan) (oa1:Xan) (res:Bool) (h:XeV Xaa Xai s oa1=some res) :
 XaU Try.prog 42 20 ⟨⟨42,33,[(0,.pointer (some ⟨0,0,none⟩)),(1,.pointer (some ⟨10,0,none⟩))],[.code XoF],[],false,none⟩,[],[(0,.row false [.int .u64 s.key.A,.int .u64 s.key.B,.slice (some ⟨1,0,none⟩) 6 1,.int .i64 s.total]),(1,.row false [.slice (some ⟨2,0,none⟩) s.rows.m0 1,.slice (some ⟨3,0,none⟩) s.rows.m1 1,.slice (some ⟨4,0,none⟩) s.rows.m2 1,.slice (some ⟨5,0,none⟩) s.rows.m3 1,.slice (some ⟨6,0,none⟩) s.rows.m4 1,.slice (some ⟨7,0,none⟩) s.rows.m5 1]),(2,.row false (vI .i64 s.rows.e0)),(3,.row false (vI .i64 s.rows.e1)),(4,.row false (vI .i64 s.rows.e2)),(5,.row false (vI .i64 s.rows.e3)),(6,.row false (vI .i64 s.rows.e4)),(7,.row false (vI .i64 s.rows.e5)),(10,.row false [.int .u64 oa1.key.A,.int .u64 oa1.key.B,.slice (some ⟨11,0,none⟩) 6 1,.int .i64 oa1.total]),(11,.row false [.slice (some ⟨12,0,none⟩) oa1.rows.m0 1,.slice (some ⟨13,0,none⟩) oa1.rows.m1 1,.slice (some ⟨14,0,none⟩) oa1.rows.m2 1,.slice (some ⟨15,0,none⟩) oa1.rows.m3 1,.slice (some ⟨16,0,none⟩) oa1.rows.m4 1,.slice (some ⟨17,0,none⟩) oa1.rows.m5 1]),(12,.row false (vI .i64 oa1.rows.e0)),(13,.row false (vI .i64 oa1.rows.e1)),(14,.row false (vI .i64 oa1.rows.e2)),(15,.row false (vI .i64 oa1.rows.e3)),(16,.row false (vI .i64 oa1.rows.e4)),(17,.row false (vI .i64 oa1.rows.e5))],20⟩ (fun v H _=>Res 20 (Xrs res) v H):=by
 unfold XeV at h
 have R1:=@Xmt Xaa
 have R2:=@Xm7 Xai
 have J:=js []
 refine Xa4 XaM hS true 3000 ?_
 conv=>whnf
 exact W
def Xe2 (Xaa:Xag) (Xai:XaJ) (s:Xal) (oa1:Xal):Option Bool:=
 (Xaa.v7 s).bind fun x7=>
 cond (!x7)
  (
  some (false))
  (
  (Xaa.v7 oa1).bind fun x71=>
  cond (!x71)
   (
   some (false))
   (
   let t:=!((s.key.A==oa1.key.A)&&((s.key.B==oa1.key.B)&&true))
   cond (t)
    (
    some (false))
    (
    XaQ (decide (s.rows.m0≤s.rows.e0.length)) <|
    XaQ (decide (oa1.rows.m0≤oa1.rows.e0.length)) <|
    (Xai (s.rows.e0.take s.rows.m0) (oa1.rows.e0.take oa1.rows.m0)).bind fun x1=>
    cond (!x1)
     (
     some (false))
     (
     XaQ (decide (s.rows.m1≤s.rows.e1.length)) <|
     XaQ (decide (oa1.rows.m1≤oa1.rows.e1.length)) <|
     (Xai (s.rows.e1.take s.rows.m1) (oa1.rows.e1.take oa1.rows.m1)).bind fun x11=>
     cond (!x11)
      (
      some (false))
      (
      XaQ (decide (s.rows.m2≤s.rows.e2.length)) <|
      XaQ (decide (oa1.rows.m2≤oa1.rows.e2.length)) <|
      (Xai (s.rows.e2.take s.rows.m2) (oa1.rows.e2.take oa1.rows.m2)).bind fun x12=>
      cond (!x12)
       (
       some (false))
       (
       XaQ (decide (s.rows.m3≤s.rows.e3.length)) <|
       XaQ (decide (oa1.rows.m3≤oa1.rows.e3.length)) <|
       (Xai (s.rows.e3.take s.rows.m3) (oa1.rows.e3.take oa1.rows.m3)).bind fun x13=>
       cond (!x13)
        (
        some (false))
        (
        XaQ (decide (s.rows.m4≤s.rows.e4.length)) <|
        XaQ (decide (oa1.rows.m4≤oa1.rows.e4.length)) <|
        (Xai (s.rows.e4.take s.rows.m4) (oa1.rows.e4.take oa1.rows.m4)).bind fun x14=>
        cond (!x14)
         (
         some (false))
         (
         XaQ (decide (s.rows.m5≤s.rows.e5.length)) <|
         XaQ (decide (oa1.rows.m5≤oa1.rows.e5.length)) <|
         (Xai (s.rows.e5.take s.rows.m5) (oa1.rows.e5.take oa1.rows.m5)).bind fun x15=>
         cond (!x15)
          (
          some (false))
          (
          XaQ (decide (s.rows.m6≤s.rows.e6.length)) <|
          XaQ (decide (oa1.rows.m6≤oa1.rows.e6.length)) <|
          (Xai (s.rows.e6.take s.rows.m6) (oa1.rows.e6.take oa1.rows.m6)).bind fun x16=>
          cond (!x16)
           (
           some (false))
           (
           some (true)))))))))))
def Xr6 (x:Bool):Xdu:=⟨.bool x,[],[none,none,none,none,none,none,none,none,none,none,none,none,none,none,none,none,none,none,none,none]⟩
abbrev XfE:=Xal→Xal→Option Bool
def XHS (g:XfE):Dec:=dTr 10 (XbM 0) fun (y0:Xal)=>dTr 10 (XbM 10) fun (y1:Xal)=>XeA (ofG (g y0 y1) Xr6)
abbrev Xwp (Xaa:Xag) (Xai:XaJ):List (Nat×XcU):=[(38,s38 Xaa),(55,s55 Xai)]
theorem XvV (Xaa:Xag) (Xai:XaJ) (hS:XaF Try.prog (XaP (Xwp Xaa Xai))) (s:Xal) (oa1:Xal) (res:Bool) (h:Xe2 Xaa Xai s oa1=some res) :
 XaU Try.prog 42 20 ⟨⟨42,33,[(0,.pointer (some ⟨0,0,none⟩)),(1,.pointer (some ⟨10,0,none⟩))],[.code XoF],[],false,none⟩,[],[(0,.row false [.int .u64 s.key.A,.int .u64 s.key.B,.slice (some ⟨1,0,none⟩) 7 1,.int .i64 s.total]),(1,.row false [.slice (some ⟨2,0,none⟩) s.rows.m0 1,.slice (some ⟨3,0,none⟩) s.rows.m1 1,.slice (some ⟨4,0,none⟩) s.rows.m2 1,.slice (some ⟨5,0,none⟩) s.rows.m3 1,.slice (some ⟨6,0,none⟩) s.rows.m4 1,.slice (some ⟨7,0,none⟩) s.rows.m5 1,.slice (some ⟨8,0,none⟩) s.rows.m6 1]),(2,.row false (vI .i64 s.rows.e0)),(3,.row false (vI .i64 s.rows.e1)),(4,.row false (vI .i64 s.rows.e2)),(5,.row false (vI .i64 s.rows.e3)),(6,.row false (vI .i64 s.rows.e4)),(7,.row false (vI .i64 s.rows.e5)),(8,.row false (vI .i64 s.rows.e6)),(10,.row false [.int .u64 oa1.key.A,.int .u64 oa1.key.B,.slice (some ⟨11,0,none⟩) 7 1,.int .i64 oa1.total]),(11,.row false [.slice (some ⟨12,0,none⟩) oa1.rows.m0 1,.slice (some ⟨13,0,none⟩) oa1.rows.m1 1,.slice (some ⟨14,0,none⟩) oa1.rows.m2 1,.slice (some ⟨15,0,none⟩) oa1.rows.m3 1,.slice (some ⟨16,0,none⟩) oa1.rows.m4 1,.slice (some ⟨17,0,none⟩) oa1.rows.m5 1,.slice (some ⟨18,0,none⟩) oa1.rows.m6 1]),(12,.row false (vI .i64 oa1.rows.e0)),(13,.row false (vI .i64 oa1.rows.e1)),(14,.row false (vI .i64 oa1.rows.e2)),(15,.row false (vI .i64 oa1.rows.e3)),(16,.row false (vI .i64 oa1.rows.e4)),(17,.row false (vI .i64 oa1.rows.e5)),(18,.row false (vI .i64 oa1.rows.e6))],20⟩ (fun v H _=>Res 20 (Xr6 res) v H):=by
 unfold Xe2 at h
 have R1:=@XmI Xaa
 have R2:=@Xm7 Xai
 have J:=js []
 refine Xa4 XaM hS true 3000 ?_
 conv=>whnf
 exact W
def Xe3 (Xaa:Xag) (Xai:XaJ) (s:Xak) (oa1:Xak):Option Bool:=
 (Xaa.v8 s).bind fun x8=>
 cond (!x8)
  (
  some (false))
  (
  (Xaa.v8 oa1).bind fun x81=>
  cond (!x81)
   (
   some (false))
   (
   let t:=!((s.key.A==oa1.key.A)&&((s.key.B==oa1.key.B)&&true))
   cond (t)
    (
    some (false))
    (
    XaQ (decide (s.rows.m0≤s.rows.e0.length)) <|
    XaQ (decide (oa1.rows.m0≤oa1.rows.e0.length)) <|
    (Xai (s.rows.e0.take s.rows.m0) (oa1.rows.e0.take oa1.rows.m0)).bind fun x1=>
    cond (!x1)
     (
     some (false))
     (
     XaQ (decide (s.rows.m1≤s.rows.e1.length)) <|
     XaQ (decide (oa1.rows.m1≤oa1.rows.e1.length)) <|
     (Xai (s.rows.e1.take s.rows.m1) (oa1.rows.e1.take oa1.rows.m1)).bind fun x11=>
     cond (!x11)
      (
      some (false))
      (
      XaQ (decide (s.rows.m2≤s.rows.e2.length)) <|
      XaQ (decide (oa1.rows.m2≤oa1.rows.e2.length)) <|
      (Xai (s.rows.e2.take s.rows.m2) (oa1.rows.e2.take oa1.rows.m2)).bind fun x12=>
      cond (!x12)
       (
       some (false))
       (
       XaQ (decide (s.rows.m3≤s.rows.e3.length)) <|
       XaQ (decide (oa1.rows.m3≤oa1.rows.e3.length)) <|
       (Xai (s.rows.e3.take s.rows.m3) (oa1.rows.e3.take oa1.rows.m3)).bind fun x13=>
       cond (!x13)
        (
        some (false))
        (
        XaQ (decide (s.rows.m4≤s.rows.e4.length)) <|
        XaQ (decide (oa1.rows.m4≤oa1.rows.e4.length)) <|
        (Xai (s.rows.e4.take s.rows.m4) (oa1.rows.e4.take oa1.rows.m4)).bind fun x14=>
        cond (!x14)
         (
         some (false))
         (
         XaQ (decide (s.rows.m5≤s.rows.e5.length)) <|
         XaQ (decide (oa1.rows.m5≤oa1.rows.e5.length)) <|
         (Xai (s.rows.e5.take s.rows.m5) (oa1.rows.e5.take oa1.rows.m5)).bind fun x15=>
         cond (!x15)
          (
          some (false))
          (
          XaQ (decide (s.rows.m6≤s.rows.e6.length)) <|
          XaQ (decide (oa1.rows.m6≤oa1.rows.e6.length)) <|
          (Xai (s.rows.e6.take s.rows.m6) (oa1.rows.e6.take oa1.rows.m6)).bind fun x16=>
          cond (!x16)
           (
           some (false))
           (
           XaQ (decide (s.rows.m7≤s.rows.e7.length)) <|
           XaQ (decide (oa1.rows.m7≤oa1.rows.e7.length)) <|
           (Xai (s.rows.e7.take s.rows.m7) (oa1.rows.e7.take oa1.rows.m7)).bind fun x17=>
           cond (!x17)
            (
            some (false))
            (
            some (true))))))))))))
def Xth (x:Bool):Xdu:=⟨.bool x,[],[none,none,none,none,none,none,none,none,none,none,none,none,none,none,none,none,none,none,none,none]⟩
abbrev Xf0:=Xak→Xak→Option Bool
def XI5 (g:Xf0):Dec:=dTr 10 (XbE 0) fun (y0:Xak)=>dTr 10 (XbE 10) fun (y1:Xak)=>XeA (ofG (g y0 y1) Xth)
abbrev XxE (Xaa:Xag) (Xai:XaJ):List (Nat×XcU):=[(38,s38 Xaa),(55,s55 Xai)]
theorem Xu8 (Xaa:Xag) (Xai:XaJ) (hS:XaF Try.prog (XaP (XxE Xaa Xai))) (s:Xak) (oa1:Xak) (res:Bool) (h:Xe3 Xaa Xai s oa1=some res) :
 XaU Try.prog 42 20 ⟨⟨42,33,[(0,.pointer (some ⟨0,0,none⟩)),(1,.pointer (some ⟨10,0,none⟩))],[.code XoF],[],false,none⟩,[],[(0,.row false [.int .u64 s.key.A,.int .u64 s.key.B,.slice (some ⟨1,0,none⟩) 8 1,.int .i64 s.total]),(1,.row false [.slice (some ⟨2,0,none⟩) s.rows.m0 1,.slice (some ⟨3,0,none⟩) s.rows.m1 1,.slice (some ⟨4,0,none⟩) s.rows.m2 1,.slice (some ⟨5,0,none⟩) s.rows.m3 1,.slice (some ⟨6,0,none⟩) s.rows.m4 1,.slice (some ⟨7,0,none⟩) s.rows.m5 1,.slice (some ⟨8,0,none⟩) s.rows.m6 1,.slice (some ⟨9,0,none⟩) s.rows.m7 1]),(2,.row false (vI .i64 s.rows.e0)),(3,.row false (vI .i64 s.rows.e1)),(4,.row false (vI .i64 s.rows.e2)),(5,.row false (vI .i64 s.rows.e3)),(6,.row false (vI .i64 s.rows.e4)),(7,.row false (vI .i64 s.rows.e5)),(8,.row false (vI .i64 s.rows.e6)),(9,.row false (vI .i64 s.rows.e7)),(10,.row false [.int .u64 oa1.key.A,.int .u64 oa1.key.B,.slice (some ⟨11,0,none⟩) 8 1,.int .i64 oa1.total]),(11,.row false [.slice (some ⟨12,0,none⟩) oa1.rows.m0 1,.slice (some ⟨13,0,none⟩) oa1.rows.m1 1,.slice (some ⟨14,0,none⟩) oa1.rows.m2 1,.slice (some ⟨15,0,none⟩) oa1.rows.m3 1,.slice (some ⟨16,0,none⟩) oa1.rows.m4 1,.slice (some ⟨17,0,none⟩) oa1.rows.m5 1,.slice (some ⟨18,0,none⟩) oa1.rows.m6 1,.slice (some ⟨19,0,none⟩) oa1.rows.m7 1]),(12,.row false (vI .i64 oa1.rows.e0)),(13,.row false (vI .i64 oa1.rows.e1)),(14,.row false (vI .i64 oa1.rows.e2)),(15,.row false (vI .i64 oa1.rows.e3)),(16,.row false (vI .i64 oa1.rows.e4)),(17,.row false (vI .i64 oa1.rows.e5)),(18,.row false (vI .i64 oa1.rows.e6)),(19,.row false (vI .i64 oa1.rows.e7))],20⟩ (fun v H _=>Res 20 (Xth res) v H):=by
 unfold Xe3 at h
 have R1:=@Xms Xaa
 have R2:=@Xm7 Xai
 have J:=js []
 refine Xa4 XaM hS true 3000 ?_
 conv=>whnf
 exact W
structure Xaq where
 v00:Xf4
 v11:XfQ
 v22:XfA
 v33:Xgc
 v44:XfO
 v55:XfR
 v66:XfB
 v77:XfE
 v88:Xf0
def s42 (g:Xaq):XcU:=⟨[.tr [⟨none,0,0,0,none⟩,⟨some 0,2,0,0,none⟩,⟨some 1,0,0,0,none⟩,⟨some 1,1,0,0,none⟩,⟨some 1,2,0,0,none⟩,⟨some 1,3,0,0,none⟩,⟨some 1,4,0,0,none⟩,⟨some 1,5,0,0,none⟩,⟨some 1,6,0,0,none⟩,⟨some 1,7,0,0,none⟩],.tr [⟨none,0,0,0,none⟩,⟨some 0,2,0,0,none⟩,⟨some 1,0,0,0,none⟩,⟨some 1,1,0,0,none⟩,⟨some 1,2,0,0,none⟩,⟨some 1,3,0,0,none⟩,⟨some 1,4,0,0,none⟩,⟨some 1,5,0,0,none⟩,⟨some 1,6,0,0,none⟩,⟨some 1,7,0,0,none⟩]],orD (XG2 g.v00) (orD (XHL g.v11) (orD (XHA g.v22) (orD (XIJ g.v33) (orD (XJD g.v44) (orD (XI1 g.v55) (orD (XIL g.v66) (orD (XHS g.v77) (XI5 g.v88))))))))⟩
theorem Xog {g:Xaq} {y0:Xaz} {y1:Xaz} {x:Bool} (hx:g.v00 y0 y1=some x):(s42 g).run [.pointer (some ⟨0,0,none⟩),.pointer (some ⟨10,0,none⟩)] [some [.int .u64 y0.key.A,.int .u64 y0.key.B,.slice none 0 0,.int .i64 y0.total],none,none,none,none,none,none,none,none,none,some [.int .u64 y1.key.A,.int .u64 y1.key.B,.slice none 0 0,.int .i64 y1.total],none,none,none,none,none,none,none,none,none]=some (XpZ x):=by dsimp only [s42];exact (XdM ((Xbn rfl rfl (Xfe 0 _)).trans ((Xbn rfl rfl (Xfe 10 _)).trans (Xbc hx))))
theorem Xxc {g:Xaq} {y0:XaA} {y1:XaA} {x:Bool} (hx:g.v11 y0 y1=some x):(s42 g).run [.pointer (some ⟨0,0,none⟩),.pointer (some ⟨10,0,none⟩)] [some [.int .u64 y0.key.A,.int .u64 y0.key.B,.slice (some ⟨1,0,none⟩) 1 1,.int .i64 y0.total],some [.slice (some ⟨2,0,none⟩) y0.rows.m0 1],some (vI .i64 y0.rows.e0),none,none,none,none,none,none,none,some [.int .u64 y1.key.A,.int .u64 y1.key.B,.slice (some ⟨11,0,none⟩) 1 1,.int .i64 y1.total],some [.slice (some ⟨12,0,none⟩) y1.rows.m0 1],some (vI .i64 y1.rows.e0),none,none,none,none,none,none,none]=some (XsH x):=by dsimp only [s42];exact (XaL rfl (XdM ((Xbn rfl rfl (XcR 0 _)).trans ((Xbn rfl rfl (XcR 10 _)).trans (Xbc hx)))))
theorem Xy3 {g:Xaq} {y0:Xax} {y1:Xax} {x:Bool} (hx:g.v22 y0 y1=some x):(s42 g).run [.pointer (some ⟨0,0,none⟩),.pointer (some ⟨10,0,none⟩)] [some [.int .u64 y0.key.A,.int .u64 y0.key.B,.slice (some ⟨1,0,none⟩) 2 1,.int .i64 y0.total],some [.slice (some ⟨2,0,none⟩) y0.rows.m0 1,.slice (some ⟨3,0,none⟩) y0.rows.m1 1],some (vI .i64 y0.rows.e0),some (vI .i64 y0.rows.e1),none,none,none,none,none,none,some [.int .u64 y1.key.A,.int .u64 y1.key.B,.slice (some ⟨11,0,none⟩) 2 1,.int .i64 y1.total],some [.slice (some ⟨12,0,none⟩) y1.rows.m0 1,.slice (some ⟨13,0,none⟩) y1.rows.m1 1],some (vI .i64 y1.rows.e0),some (vI .i64 y1.rows.e1),none,none,none,none,none,none]=some (Xte x):=by dsimp only [s42];exact (XaL rfl (XaL rfl (XdM ((Xbn rfl rfl (XcM 0 _)).trans ((Xbn rfl rfl (XcM 10 _)).trans (Xbc hx))))))
theorem XwS {g:Xaq} {y0:Xau} {y1:Xau} {x:Bool} (hx:g.v33 y0 y1=some x):(s42 g).run [.pointer (some ⟨0,0,none⟩),.pointer (some ⟨10,0,none⟩)] [some [.int .u64 y0.key.A,.int .u64 y0.key.B,.slice (some ⟨1,0,none⟩) 3 1,.int .i64 y0.total],some [.slice (some ⟨2,0,none⟩) y0.rows.m0 1,.slice (some ⟨3,0,none⟩) y0.rows.m1 1,.slice (some ⟨4,0,none⟩) y0.rows.m2 1],some (vI .i64 y0.rows.e0),some (vI .i64 y0.rows.e1),some (vI .i64 y0.rows.e2),none,none,none,none,none,some [.int .u64 y1.key.A,.int .u64 y1.key.B,.slice (some ⟨11,0,none⟩) 3 1,.int .i64 y1.total],some [.slice (some ⟨12,0,none⟩) y1.rows.m0 1,.slice (some ⟨13,0,none⟩) y1.rows.m1 1,.slice (some ⟨14,0,none⟩) y1.rows.m2 1],some (vI .i64 y1.rows.e0),some (vI .i64 y1.rows.e1),some (vI .i64 y1.rows.e2),none,none,none,none,none]=some (Xsc x):=by dsimp only [s42];exact (XaL rfl (XaL rfl (XaL rfl (XdM ((Xbn rfl rfl (XcK 0 _)).trans ((Xbn rfl rfl (XcK 10 _)).trans (Xbc hx)))))))
theorem Xx9 {g:Xaq} {y0:Xar} {y1:Xar} {x:Bool} (hx:g.v44 y0 y1=some x):(s42 g).run [.pointer (some ⟨0,0,none⟩),.pointer (some ⟨10,0,none⟩)] [some [.int .u64 y0.key.A,.int .u64 y0.key.B,.slice (some ⟨1,0,none⟩) 4 1,.int .i64 y0.total],some [.slice (some ⟨2,0,none⟩) y0.rows.m0 1,.slice (some ⟨3,0,none⟩) y0.rows.m1 1,.slice (some ⟨4,0,none⟩) y0.rows.m2 1,.slice (some ⟨5,0,none⟩) y0.rows.m3 1],some (vI .i64 y0.rows.e0),some (vI .i64 y0.rows.e1),some (vI .i64 y0.rows.e2),some (vI .i64 y0.rows.e3),none,none,none,none,some [.int .u64 y1.key.A,.int .u64 y1.key.B,.slice (some ⟨11,0,none⟩) 4 1,.int .i64 y1.total],some [.slice (some ⟨12,0,none⟩) y1.rows.m0 1,.slice (some ⟨13,0,none⟩) y1.rows.m1 1,.slice (some ⟨14,0,none⟩) y1.rows.m2 1,.slice (some ⟨15,0,none⟩) y1.rows.m3 1],some (vI .i64 y1.rows.e0),some (vI .i64 y1.rows.e1),some (vI .i64 y1.rows.e2),some (vI .i64 y1.rows.e3),none,none,none,none]=some (XrM x):=by dsimp only [s42];exact (XaL rfl (XaL rfl (XaL rfl (XaL rfl (XdM ((Xbn rfl rfl (XcN 0 _)).trans ((Xbn rfl rfl (XcN 10 _)).trans (Xbc hx))))))))
theorem Xxh {g:Xaq} {y0:Xap} {y1:Xap} {x:Bool} (hx:g.v55 y0 y1=some x):(s42 g).run [.pointer (some ⟨0,0,none⟩),.pointer (some ⟨10,0,none⟩)] [some [.int .u64 y0.key.A,.int .u64 y0.key.B,.slice (some ⟨1,0,none⟩) 5 1,.int .i64 y0.total],some [.slice (some ⟨2,0,none⟩) y0.rows.m0 1,.slice (some ⟨3,0,none⟩) y0.rows.m1 1,.slice (some ⟨4,0,none⟩) y0.rows.m2 1,.slice (some ⟨5,0,none⟩) y0.rows.m3 1,.slice (some ⟨6,0,none⟩) y0.rows.m4 1],some (vI .i64 y0.rows.e0),some (vI .i64 y0.rows.e1),some (vI .i64 y0.rows.e2),some (vI .i64 y0.rows.e3),some (vI .i64 y0.rows.e4),none,none,none,some [.int .u64 y1.key.A,.int .u64 y1.key.B,.slice (some ⟨11,0,none⟩) 5 1,.int .i64 y1.total],some [.slice (some ⟨12,0,none⟩) y1.rows.m0 1,.slice (some ⟨13,0,none⟩) y1.rows.m1 1,.slice (some ⟨14,0,none⟩) y1.rows.m2 1,.slice (some ⟨15,0,none⟩) y1.rows.m3 1,.slice (some ⟨16,0,none⟩) y1.rows.m4 1],some (vI .i64 y1.rows.e0),some (vI .i64 y1.rows.e1),some (vI .i64 y1.rows.e2),some (vI .i64 y1.rows.e3),some (vI .i64 y1.rows.e4),none,none,none]=some (Xsa x):=by dsimp only [s42];exact (XaL rfl (XaL rfl (XaL rfl (XaL rfl (XaL rfl (XdM ((Xbn rfl rfl (XcO 0 _)).trans ((Xbn rfl rfl (XcO 10 _)).trans (Xbc hx)))))))))
theorem XwW {g:Xaq} {y0:Xan} {y1:Xan} {x:Bool} (hx:g.v66 y0 y1=some x):(s42 g).run [.pointer (some ⟨0,0,none⟩),.pointer (some ⟨10,0,none⟩)] [some [.int .u64 y0.key.A,.int .u64 y0.key.B,.slice (some ⟨1,0,none⟩) 6 1,.int .i64 y0.total],some [.slice (some ⟨2,0,none⟩) y0.rows.m0 1,.slice (some ⟨3,0,none⟩) y0.rows.m1 1,.slice (some ⟨4,0,none⟩) y0.rows.m2 1,.slice (some ⟨5,0,none⟩) y0.rows.m3 1,.slice (some ⟨6,0,none⟩) y0.rows.m4 1,.slice (some ⟨7,0,none⟩) y0.rows.m5 1],some (vI .i64 y0.rows.e0),some (vI .i64 y0.rows.e1),some (vI .i64 y0.rows.e2),some (vI .i64 y0.rows.e3),some (vI .i64 y0.rows.e4),some (vI .i64 y0.rows.e5),none,none,some [.int .u64 y1.key.A,.int .u64 y1.key.B,.slice (some ⟨11,0,none⟩) 6 1,.int .i64 y1.total],some [.slice (some ⟨12,0,none⟩) y1.rows.m0 1,.slice (some ⟨13,0,none⟩) y1.rows.m1 1,.slice (some ⟨14,0,none⟩) y1.rows.m2 1,.slice (some ⟨15,0,none⟩) y1.rows.m3 1,.slice (some ⟨16,0,none⟩) y1.rows.m4 1,.slice (some ⟨17,0,none⟩) y1.rows.m5 1],some (vI .i64 y1.rows.e0),some (vI .i64 y1.rows.e1),some (vI .i64 y1.rows.e2),some (vI .i64 y1.rows.e3),some (vI .i64 y1.rows.e4),some (vI .i64 y1.rows.e5),none,none]=some (Xrs x):=by dsimp only [s42];exact (XaL rfl (XaL rfl (XaL rfl (XaL rfl (XaL rfl (XaL rfl (XdM ((Xbn rfl rfl (XcQ 0 _)).trans ((Xbn rfl rfl (XcQ 10 _)).trans (Xbc hx))))))))))
theorem Xxa {g:Xaq} {y0:Xal} {y1:Xal} {x:Bool} (hx:g.v77 y0 y1=some x):(s42 g).run [.pointer (some ⟨0,0,none⟩),.pointer (some ⟨10,0,none⟩)] [some [.int .u64 y0.key.A,.int .u64 y0.key.B,.slice (some ⟨1,0,none⟩) 7 1,.int .i64 y0.total],some [.slice (some ⟨2,0,none⟩) y0.rows.m0 1,.slice (some ⟨3,0,none⟩) y0.rows.m1 1,.slice (some ⟨4,0,none⟩) y0.rows.m2 1,.slice (some ⟨5,0,none⟩) y0.rows.m3 1,.slice (some ⟨6,0,none⟩) y0.rows.m4 1,.slice (some ⟨7,0,none⟩) y0.rows.m5 1,.slice (some ⟨8,0,none⟩) y0.rows.m6 1],some (vI .i64 y0.rows.e0),some (vI .i64 y0.rows.e1),some (vI .i64 y0.rows.e2),some (vI .i64 y0.rows.e3),some (vI .i64 y0.rows.e4),some (vI .i64 y0.rows.e5),some (vI .i64 y0.rows.e6),none,some [.int .u64 y1.key.A,.int .u64 y1.key.B,.slice (some ⟨11,0,none⟩) 7 1,.int .i64 y1.total],some [.slice (some ⟨12,0,none⟩) y1.rows.m0 1,.slice (some ⟨13,0,none⟩) y1.rows.m1 1,.slice (some ⟨14,0,none⟩) y1.rows.m2 1,.slice (some ⟨15,0,none⟩) y1.rows.m3 1,.slice (some ⟨16,0,none⟩) y1.rows.m4 1,.slice (some ⟨17,0,none⟩) y1.rows.m5 1,.slice (some ⟨18,0,none⟩) y1.rows.m6 1],some (vI .i64 y1.rows.e0),some (vI .i64 y1.rows.e1),some (vI .i64 y1.rows.e2),some (vI .i64 y1.rows.e3),some (vI .i64 y1.rows.e4),some (vI .i64 y1.rows.e5),some (vI .i64 y1.rows.e6),none]=some (Xr6 x):=by dsimp only [s42];exact (XaL rfl (XaL rfl (XaL rfl (XaL rfl (XaL rfl (XaL rfl (XaL rfl (XdM ((Xbn rfl rfl (XcL 0 _)).trans ((Xbn rfl rfl (XcL 10 _)).trans (Xbc hx)))))))))))
theorem XyJ {g:Xaq} {y0:Xak} {y1:Xak} {x:Bool} (hx:g.v88 y0 y1=some x):(s42 g).run [.pointer (some ⟨0,0,none⟩),.pointer (some ⟨10,0,none⟩)] [some [.int .u64 y0.key.A,.int .u64 y0.key.B,.slice (some ⟨1,0,none⟩) 8 1,.int .i64 y0.total],some [.slice (some ⟨2,0,none⟩) y0.rows.m0 1,.slice (some ⟨3,0,none⟩) y0.rows.m1 1,.slice (some ⟨4,0,none⟩) y0.rows.m2 1,.slice (some ⟨5,0,none⟩) y0.rows.m3 1,.slice (some ⟨6,0,none⟩) y0.rows.m4 1,.slice (some ⟨7,0,none⟩) y0.rows.m5 1,.slice (some ⟨8,0,none⟩) y0.rows.m6 1,.slice (some ⟨9,0,none⟩) y0.rows.m7 1],some (vI .i64 y0.rows.e0),some (vI .i64 y0.rows.e1),some (vI .i64 y0.rows.e2),some (vI .i64 y0.rows.e3),some (vI .i64 y0.rows.e4),some (vI .i64 y0.rows.e5),some (vI .i64 y0.rows.e6),some (vI .i64 y0.rows.e7),some [.int .u64 y1.key.A,.int .u64 y1.key.B,.slice (some ⟨11,0,none⟩) 8 1,.int .i64 y1.total],some [.slice (some ⟨12,0,none⟩) y1.rows.m0 1,.slice (some ⟨13,0,none⟩) y1.rows.m1 1,.slice (some ⟨14,0,none⟩) y1.rows.m2 1,.slice (some ⟨15,0,none⟩) y1.rows.m3 1,.slice (some ⟨16,0,none⟩) y1.rows.m4 1,.slice (some ⟨17,0,none⟩) y1.rows.m5 1,.slice (some ⟨18,0,none⟩) y1.rows.m6 1,.slice (some ⟨19,0,none⟩) y1.rows.m7 1],some (vI .i64 y1.rows.e0),some (vI .i64 y1.rows.e1),some (vI .i64 y1.rows.e2),some (vI .i64 y1.rows.e3),some (vI .i64 y1.rows.e4),some (vI .i64 y1.rows.e5),some (vI .i64 y1.rows.e6),some (vI .i64 y1.rows.e7)]=some (Xth x):=by dsimp only [s42];exact (XaL rfl (XaL rfl (XaL rfl (XaL rfl (XaL rfl (XaL rfl (XaL rfl (XaL rfl ((Xbn rfl rfl (XcP 0 _)).trans ((Xbn rfl rfl (XcP 10 _)).trans (Xbc hx)))))))))))
def Xkx:Xf4:=XgU Xaa
def Xhp:XfQ:=XeS Xaa Xai
def Xhz:XfA:=XeR Xaa Xai
def Xhq:Xgc:=XeO Xaa Xai
def Xhs:XfO:=Xe1 Xaa Xai
def Xho:XfR:=XeP Xaa Xai
def Xhn:XfB:=XeV Xaa Xai
def Xhm:XfE:=Xe2 Xaa Xai
def Xhx:Xf0:=Xe3 Xaa Xai
def Xac:Xaq:=⟨Xkx,Xhp,Xhz,Xhq,Xhs,Xho,Xhn,Xhm,Xhx⟩
theorem Xlu:XeG Try.prog 42 (s42 Xac):=by
 have L0:=XvX Xaa (XaF.Xba ⟨Xc9,trivial⟩)
 have L1:=Xu4 Xaa Xai (XaF.Xba ⟨Xc9,Xm9,trivial⟩)
 have L2:=Xve Xaa Xai (XaF.Xba ⟨Xc9,Xm9,trivial⟩)
 have L3:=XvB Xaa Xai (XaF.Xba ⟨Xc9,Xm9,trivial⟩)
 have L4:=Xvw Xaa Xai (XaF.Xba ⟨Xc9,Xm9,trivial⟩)
 have L5:=XvD Xaa Xai (XaF.Xba ⟨Xc9,Xm9,trivial⟩)
 have L6:=Xvn Xaa Xai (XaF.Xba ⟨Xc9,Xm9,trivial⟩)
 have L7:=XvV Xaa Xai (XaF.Xba ⟨Xc9,Xm9,trivial⟩)
 have L8:=Xu8 Xaa Xai (XaF.Xba ⟨Xc9,Xm9,trivial⟩)
 refine XeG.Xjn XaM (fun ar os r ha hr=>?_) ⟨Try.f42,rfl,by decide,rfl⟩
 generalize hc:XiS os=C at hr
 replace hr:=orD.elim hr;rcases hr with hr|hr
 ·have LL:=L0;have U1:=@XdZ;exact okB
 replace hr:=orD.elim hr;rcases hr with hr|hr
 ·have LL:=L1;have U1:=@Xc2;exact okB
 replace hr:=orD.elim hr;rcases hr with hr|hr
 ·have LL:=L2;have U1:=@Xc6;exact okB
 replace hr:=orD.elim hr;rcases hr with hr|hr
 ·have LL:=L3;have U1:=@XcW;exact okB
 replace hr:=orD.elim hr;rcases hr with hr|hr
 ·have LL:=L4;have U1:=@Xc3;exact okB
 replace hr:=orD.elim hr;rcases hr with hr|hr
 ·have LL:=L5;have U1:=@Xc4;exact okB
 replace hr:=orD.elim hr;rcases hr with hr|hr
 ·have LL:=L6;have U1:=@Xc1;exact okB
 replace hr:=orD.elim hr;rcases hr with hr|hr
 ·have LL:=L7;have U1:=@XcX;exact okB
 have LL:=L8;have U1:=@XcY;exact okB
end Go.Vm.Code
