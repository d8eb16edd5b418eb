import Derived.Test.YtgmodbbcnfdpdaaGreatNShimPlaysa
namespace Go.Vm
open Go Go.RowKit
section
variable {P:Program} {w0:World} {U:UG} {ρ:Ren} {o:Oper} {a:Operand→Value} {w:World} {H:Hp} {top:Nat} [NG U top]
 {x:Option Value} {H':Hp} {top':Nat} {vals:List Value}
theorem nil0 {e:TypeId}:∀ z',XmJ 0 (.const z')=true→Xia 0 (.pointer e) z':=(fun z' hn=>by unfold XmJ at hn;split at hn<;>first|(cases hn;done)|(exfalso;omega)|(rename_i e1;cases e1;rfl))
theorem nil1 {e:TypeId}:∀ z',XmJ 1 (.const z')=true→Xia 1 (.slice e) z':=(fun z' hn=>by unfold XmJ at hn;split at hn<;>first|(cases hn;done)|(exfalso;omega)|(rename_i e1;cases e1;rfl))
theorem nil2 {p q:Array TypeId} {r:Bool}:∀ z',XmJ 2 (.const z')=true→Xia 2 (.func p q r) z':=(fun z' hn=>by unfold XmJ at hn;split at hn<;>first|(cases hn;done)|(exfalso;omega)|(rename_i e1;cases e1;rfl))
theorem nil3 {e:Array (String×TypeId)}:∀ z',XmJ 3 (.const z')=true→Xia 3 (.interface e) z':=(fun z' hn=>by unfold XmJ at hn;split at hn<;>first|(cases hn;done)|(exfalso;omega)|(rename_i e1;cases e1;rfl))
theorem nil4 {p q:TypeId}:∀ z',XmJ 4 (.const z')=true→Xia 4 (.map p q) z':=(fun z' hn=>by unfold XmJ at hn;split at hn<;>first|(cases hn;done)|(exfalso;omega)|(rename_i e1;cases e1;rfl))
theorem Xkv {t:TypeId} {os:List (Nat×SK)} (h:Xqw P t=some os):∃ fs,P.underlying t=some (.struct fs)∧Xeq P 12 t 0=some os∧XoY P 12 t=true:=by
 unfold Xqw at h
 split at h<;>try (cases h;done)
 rename_i fs hd
 split at h<;>try (cases h;done)
 exact ⟨fs,hd,h,by assumption⟩
theorem XAU (h:HpR P w0 U ρ H top w) {v:VOp} (hc:Xcq P o.op=some v) (ha:∀ c,a (.const c)=c) (haf:∀ f,a (.func f)=.func (.func f) #[] #[]) (hv:VRL ρ vals (v.ops.map a)) (hr:XcO v vals H top=some (x,H',top')):Done P w0 U ρ o a w x H' top':=by
 cases hop:o.op<;>rw [hop] at hc
 case move y=>
  simp only [Xcq,Option.some.injEq] at hc;subst hc
  exact XPA h (by simp [execOp,hop]) hv hr
 case assign y=>
  simp only [Xcq,Option.some.injEq] at hc;subst hc
  exact XPA h (by simp [execOp,hop]) hv hr
 case pick c y z=>
  simp only [Xcq,Option.some.injEq] at hc;subst hc
  exact XMV h hop hv hr
 case alloc t=>
  simp only [Xcq] at hc
  split at hc<;>try (cases hc;done)
  rename_i i hi
  split at hc
  ·rename_i e hb
   cases hc
   exact Xzs h hop hi hb hv hr
  ·split at hc<;>try (cases hc;done)
   rename_i z hz
   split at hc<;>try (cases hc;done)
   rename_i hf
   cases hc
   exact XEN h hop hi hz hf hv hr
 case box t y=>
  simp only [Xcq,Option.some.injEq] at hc;subst hc
  exact XOB h hop hv hr
 case build t ps=>
  simp only [Xcq] at hc
  split at hc<;>try (cases hc;done)
  rename_i i hi
  split at hc<;>try (cases hc;done)
  rename_i z hz
  split at hc<;>try (cases hc;done)
  rename_i hf
  split at hc<;>try (cases hc;done)
  ·rename_i fs hd
   split at hc<;>try (cases hc;done)
   rename_i hall
   split at hc<;>try (cases hc;done)
   rename_i q hq
   cases hc
   refine Xyo h hop hi hz hf hd hall hq ?_ hr
   simpa [VOp.ops,Function.comp_def] using hv
  ·rename_i m e hd
   split at hc<;>try (cases hc;done)
   rename_i j hj
   cases hc
   refine Xzz h hop hi hz hf hd hj ?_ hr
   simpa [VOp.ops,Function.comp_def] using hv
 case buildSlice t len ps=>
  simp only [Xcq] at hc
  split at hc<;>try (cases hc;done)
  rename_i e hd
  split at hc<;>try (cases hc;done)
  rename_i i hi
  split at hc<;>try (cases hc;done)
  rename_i z hz
  split at hc<;>try (cases hc;done)
  rename_i hf
  cases hc
  refine XxA h hop hd hi hz hf.1 hf.2.1 hf.2.2.1 hf.2.2.2 ?_ hr
  simpa [VOp.ops,Function.comp_def] using hv
 case load t y=>
  simp only [Xcq] at hc
  split at hc<;>try (cases hc;done)
  rename_i i hi
  split at hc<;>try (cases hc;done)
  rename_i d hd
  split at hc
  ·rename_i hag
   split at hc<;>try (cases hc;done)
   rename_i hl
   cases hc
   exact XCT h hop hd hag hi hl hv hr
  ·rename_i hag
   cases hc
   exact XDz h hop hd (by simpa using hag) hv hr
 case store t y z=>
  simp only [Xcq] at hc
  split at hc<;>try (cases hc;done)
  rename_i i hi
  cases hc
  exact XDC h hop hi hv hr
 case nilCheck y=>
  simp only [Xcq,Option.some.injEq] at hc;subst hc
  exact Xvj h hop hv hr
 case binOp op t y z u=>
  simp only [Xcq] at hc
  unfold Xzp at hc
  have nilc:∀ k d,P.underlying t=some d→(∀ z',XmJ k (.const z')=true→Xia k d z')→Xms k op y z=some v→Done P w0 U ρ o a w x H' top':=by
   intro k d hd hcase hcn
   unfold Xms at hcn
   split at hcn<;>try (cases hcn;done)
   all_goals
    split at hcn<;>try (cases hcn;done)
    rename_i hn
    cases hcn
    cases z with
    | const z'=>exact XDi h (neg:=_) (by first|(exact hop)|(simpa using hop)) hd (hcase z' hn) (ha _) hv hr
    | _=>cases k<;>simp [XmJ] at hn
  split at hc<;>try (cases hc;done)
  ·rename_i hd
   split at hc<;>try (cases hc;done)
   ·cases hc;exact XGi h (neg:=false) hop hd hv hr
   ·cases hc;exact XGi h (neg:=true) hop hd hv hr
  ·cases hc;exact XFv h hop hv hr
  ·cases hc;exact XFv h hop hv hr
  ·rename_i e hd
   split at hc
   ·rename_i v' hv'
    cases hc
    exact nilc 0 _ hd nil0 hv'
   ·split at hc<;>try (cases hc;done)
    split at hc<;>try (cases hc;done)
    rename_i hi
    cases hc
    exact XOQ h hop hd hi hv hr
  ·rename_i e hd
   exact nilc 1 _ hd nil1 hc
  ·rename_i p q r hd
   exact nilc 2 _ hd nil2 hc
  ·rename_i e hd
   exact nilc 3 _ hd nil3 hc
  ·rename_i p q hd
   exact nilc 4 _ hd nil4 hc
  ·rename_i fs hd
   split at hc<;>try (cases hc;done)
   all_goals
    split at hc<;>try (cases hc;done)
    rename_i hg
    split at hc<;>try (cases hc;done)
    rename_i os hos
    cases hc
   ·exact Xo3 h (neg:=false) hop hd (.inl ⟨_,rfl⟩) (by simpa using hg) hos hv hr
   ·exact Xo3 h (neg:=true) hop hd (.inl ⟨_,rfl⟩) (by simpa using hg) hos hv hr
  ·rename_i n e hd
   split at hc<;>try (cases hc;done)
   all_goals
    split at hc<;>try (cases hc;done)
    rename_i hg
    split at hc<;>try (cases hc;done)
    rename_i os hos
    cases hc
   ·exact Xo3 h (neg:=false) hop hd (.inr ⟨_,_,rfl⟩) (by simpa using hg) hos hv hr
   ·exact Xo3 h (neg:=true) hop hd (.inr ⟨_,_,rfl⟩) (by simpa using hg) hos hv hr
 case unOp op t y=>
  simp only [Xcq] at hc
  split at hc<;>try (cases hc;done)
  ·cases hc;exact XNT h hop hv hr
  ·cases hc;exact XOa h hop hv hr
  ·cases hc;exact XLF h hop hv hr
 case convert s t y=>
  simp only [Xcq] at hc
  split at hc<;>try (cases hc;done)
  ·rename_i k k' hs ht
   cases hc;exact XH7 h hop hs ht hv hr
  ·rename_i hs ht
   cases hc;exact XTp h hop hs ht hv hr
  ·rename_i k hs ht
   cases hc;exact XTl h hop hs ht hv hr
  ·rename_i q hs ht
   split at hc<;>try (cases hc;done)
   rename_i i hi
   split at hc<;>try (cases hc;done)
   rename_i hz
   cases hc;exact XRK h hop hs ht hi hz hv hr
  ·rename_i q hs ht
   split at hc<;>try (cases hc;done)
   rename_i i hi
   split at hc<;>try (cases hc;done)
   rename_i hz
   cases hc;exact XQg h hop hs ht hi hz hv hr
  ·rename_i e hs ht
   split at hc<;>try (cases hc;done)
   rename_i he
   cases hc;exact XPa h hop hs ht he hv hr
  ·rename_i e hs ht
   split at hc<;>try (cases hc;done)
   rename_i he
   cases hc;exact XQA h hop hs ht he hv hr
 case makeInterface t y=>
  simp only [Xcq] at hc
  split at hc<;>try (cases hc;done)
  rename_i d hn hd
  cases hc;exact XBW h hop hd (fun ms e=>hn ms e) hv hr
 case typeAssert y s t ok=>
  cases ok
  ·simp [Xcq] at hc
  ·simp only [Xcq] at hc
   split at hc<;>try (cases hc;done)
   rename_i d hn hd
   split at hc<;>try (cases hc;done)
   rename_i i hi
   split at hc<;>try (cases hc;done)
   rename_i z hz
   split at hc<;>try (cases hc;done)
   rename_i hf
   cases hc;exact XxR h hop hd (fun ms e=>hn ms e) hi hz hf hv hr
 case makeFunc fn first caps=>
  cases fn<;>simp only [Xcq] at hc<;>try (cases hc;done)
  cases hc
  exact XAE h hop hv hr
 case makeSlice t y n=>
  simp only [Xcq] at hc
  split at hc<;>try (cases hc;done)
  rename_i e hd
  split at hc<;>try (cases hc;done)
  rename_i i hi
  split at hc<;>try (cases hc;done)
  rename_i z hz
  split at hc<;>try (cases hc;done)
  rename_i hf
  cases hc
  exact XII h hop hd hi hz hf.1 hf.2.1 hf.2.2 hv hr
 case slice t y lo hi mx=>
  cases mx with
  | some m=>simp [Xcq] at hc
  | none=>
    simp only [Xcq] at hc
    split at hc<;>try (cases hc;done)
    ·rename_i hd
     cases hc;exact XAP h hop hd hv hr
    ·rename_i e hd
     split at hc<;>try (cases hc;done)
     rename_i j hj
     cases hc;exact XxY h hop hd hj hv hr
    ·rename_i n e hd
     split at hc<;>try (cases hc;done)
     rename_i j hj
     cases hc;exact Xz5 h hop hd hj hv hr
 case fieldAddr t y f=>
  simp only [Xcq] at hc
  split at hc<;>try (cases hc;done)
  rename_i fs hd
  split at hc<;>try (cases hc;done)
  rename_i fd hf
  split at hc<;>try (cases hc;done)
  rename_i i hi
  split at hc<;>try (cases hc;done)
  rename_i hs
  cases hc;exact XAK h hop hd hf hi hs hv hr
 case field t y f=>
  simp only [Xcq] at hc
  split at hc<;>try (cases hc;done)
  rename_i fs hd
  split at hc<;>try (cases hc;done)
  rename_i fd hf
  split at hc<;>try (cases hc;done)
  rename_i i hi
  split at hc<;>try (cases hc;done)
  rename_i d hdd
  split at hc
  ·rename_i hag
   cases hc;exact XFc h hop hd hf hdd hi hag hv hr
  ·rename_i hag
   cases hc;exact XD8 h hop hd hf hdd (by simpa using hag) hv hr
 case indexAddr t y i=>
  simp only [Xcq] at hc
  split at hc<;>try (cases hc;done)
  ·rename_i n e hd
   split at hc<;>try (cases hc;done)
   rename_i j hj
   cases hc;exact XCg h hop hd hj hv hr
  ·rename_i e hd
   split at hc<;>try (cases hc;done)
   rename_i j hj
   cases hc;exact XCi h hop hd hj hv hr
 case index t y i=>
  simp only [Xcq] at hc
  split at hc<;>try (cases hc;done)
  ·rename_i n e hd
   split at hc<;>try (cases hc;done)
   rename_i j hj
   split at hc<;>try (cases hc;done)
   rename_i d hdd
   split at hc
   ·rename_i hag
    cases hc;exact XBZ h hop hd hj hdd hag hv hr
   ·rename_i hag
    split at hc<;>try (cases hc;done)
    rename_i h1
    cases hc;exact XDF h hop hd hj hdd (by simpa using hag) h1 hv hr
  ·rename_i hd
   cases hc;exact XKO h hop hd hv hr
 case extract y i=>
  simp only [Xcq,Option.some.injEq] at hc;subst hc
  exact XxB h hop hv hr
 case range t y=>
  simp only [Xcq] at hc
  split at hc<;>try (cases hc;done)
  rename_i hd
  cases hc;exact Xyy h hop hd hv hr
 case next it s=>
  cases s
  ·simp [Xcq] at hc
  ·simp only [Xcq,Option.some.injEq] at hc;subst hc
   exact XEz h hop hv hr
 case makeMap t r=>
  cases r
  ·simp only [Xcq,Option.some.injEq] at hc;subst hc
   exact XCD h hop hv hr
  ·simp [Xcq] at hc
 case lookup t m k ok=>
  simp only [Xcq] at hc
  split at hc<;>try (cases hc;done)
  rename_i kt vt ht
  split at hc<;>try (cases hc;done)
  rename_i os i hos hi
  split at hc<;>try (cases hc;done)
  rename_i z hz
  split at hc<;>try (cases hc;done)
  rename_i hzf
  cases hc
  obtain ⟨fs,hd,h1,h2⟩:=Xkv hos
  exact XMJ h hop ht hd h1 h2 hi hz hzf hv hr
 case mapUpdate t m k y=>
  simp only [Xcq] at hc
  split at hc<;>try (cases hc;done)
  rename_i kt vt ht
  split at hc<;>try (cases hc;done)
  rename_i os hos
  cases hc
  obtain ⟨fs,hd,h1,h2⟩:=Xkv hos
  exact XAo h (.inl hop) ht hd h1 h2 hv hr
 case insert t m k y=>
  simp only [Xcq] at hc
  split at hc<;>try (cases hc;done)
  rename_i kt vt ht
  split at hc<;>try (cases hc;done)
  rename_i os hos
  cases hc
  obtain ⟨fs,hd,h1,h2⟩:=Xkv hos
  exact XAo h (.inr hop) ht hd h1 h2 hv hr
 case call c=>
  obtain ⟨callee,args,tys⟩:=c
  cases callee with
  | value f=>
    cases f<;>first|(simp [Xcq] at hc;done)|skip
    rcases args with ⟨_|⟨y,_|⟨z,_|_⟩⟩⟩<;>first|(simp [Xcq] at hc;done)|skip
    ·simp only [Xcq] at hc
     split at hc<;>try (cases hc;done)
     rename_i fn hf
     split at hc<;>try (cases hc;done)
     rename_i hcond
     cases hc
     exact XCt h hop (haf _) hf hcond.1 hcond.2.1 hcond.2.2 hv hr
    ·simp only [Xcq] at hc
     split at hc<;>try (cases hc;done)
     rename_i fn hf
     split at hc<;>try (cases hc;done)
     rename_i hcond
     cases hc
     exact XRT h hop (haf _) hf hcond.1 hcond.2.1 hcond.2.2 hv hr
  | invoke r m=>simp [Xcq] at hc
  | builtin b=>
    cases b<;>first|(simp [Xcq] at hc;done)|skip
    case append=>
     rcases args with ⟨_|⟨s,_|⟨y,_|_⟩⟩⟩<;>first|(simp [Xcq] at hc;done)|skip
     rcases tys with ⟨_|⟨t,_|⟨u,_|_⟩⟩⟩<;>first|(simp [Xcq] at hc;done)|skip
     simp only [Xcq] at hc
     split at hc<;>try (cases hc;done)
     ·rename_i e e' ht hu
      split at hc<;>try (cases hc;done)
      rename_i i hi
      split at hc<;>try (cases hc;done)
      rename_i z hz
      split at hc<;>try (cases hc;done)
      rename_i hb
      cases hc
      exact XGB h hop ht hu (.inr ⟨_,rfl⟩) hi hz hb.1 hb.2.2 hv hr
     ·rename_i e ht hu
      split at hc<;>try (cases hc;done)
      rename_i i hi
      split at hc<;>try (cases hc;done)
      rename_i z hz
      split at hc<;>try (cases hc;done)
      rename_i hb
      cases hc
      exact XGB h hop ht hu (.inl rfl) hi hz hb.1 hb.2.2 hv hr
    case len=>
     rcases args with ⟨_|⟨y,_|_⟩⟩<;>first|(simp [Xcq] at hc;done)|skip
     rcases tys with ⟨_|⟨t,_|_⟩⟩<;>first|(simp [Xcq] at hc;done)|skip
     simp only [Xcq] at hc
     split at hc<;>try (cases hc;done)
     ·rename_i ht
      cases hc;exact XK1 h hop ht hv hr
     ·rename_i e ht
      cases hc;exact XLe h hop ht hv hr
     ·rename_i n e ht
      cases hc;exact Xza h hop (.inl ht) hv hr
     ·rename_i q ht
      split at hc<;>try (cases hc;done)
      rename_i n e hq
      cases hc;exact Xza h hop (.inr ⟨_,ht,hq⟩) hv hr
     ·rename_i kt vt ht
      cases hc;exact XJU h hop ht hv hr
    case delete=>
     rcases args with ⟨_|⟨m,_|⟨k,_|_⟩⟩⟩<;>first|(simp [Xcq] at hc;done)|skip
     rcases tys with ⟨_|⟨t,_|⟨u,_|_⟩⟩⟩<;>first|(simp [Xcq] at hc;done)|skip
     simp only [Xcq] at hc
     split at hc<;>try (cases hc;done)
     rename_i kt vt ht
     split at hc<;>try (cases hc;done)
     rename_i os hos
     cases hc
     obtain ⟨fs,hd,h1,h2⟩:=Xkv hos
     exact XK5 h hop ht hd h1 h2 hv hr
    case unsafeSliceData=>
     rcases args with ⟨_|⟨y,_|_⟩⟩<;>first|(simp [Xcq] at hc;done)|skip
     simp only [Xcq,Option.some.injEq] at hc;subst hc
     exact XE3 h hop hv hr
    case unsafeString=>
     rcases args with ⟨_|⟨y,_|⟨z,_|_⟩⟩⟩<;>first|(simp [Xcq] at hc;done)|skip
     rcases tys with ⟨_|⟨t,_|⟨u,_|_⟩⟩⟩<;>first|(simp [Xcq] at hc;done)|skip
     simp only [Xcq] at hc
     split at hc<;>try (cases hc;done)
     rename_i e ht
     split at hc<;>try (cases hc;done)
     rename_i i hi
     split at hc<;>try (cases hc;done)
     rename_i hs
     cases hc
     exact XL9 h hop ht hi hs hv hr
    case clear=>
     rcases args with ⟨_|⟨y,_|_⟩⟩<;>first|(simp [Xcq] at hc;done)|skip
     rcases tys with ⟨_|⟨t,_|_⟩⟩<;>first|(simp [Xcq] at hc;done)|skip
     simp only [Xcq] at hc
     split at hc<;>try (cases hc;done)
     rename_i e ht
     split at hc<;>try (cases hc;done)
     rename_i i hi
     split at hc<;>try (cases hc;done)
     rename_i z hz
     split at hc<;>try (cases hc;done)
     rename_i hb
     cases hc
     exact XRF h hop ht hi hz hb.1 hb.2.1 hb.2.2.1 hb.2.2.2 hv hr
    case max=>
     simp only [Xcq,Option.some.injEq] at hc;subst hc
     exact Xtc h (mx:=true) hop hv hr
    case min=>
     simp only [Xcq,Option.some.injEq] at hc;subst hc
     exact Xtc h (mx:=false) hop hv hr
 all_goals (simp [Xcq] at hc)
end
abbrev mkF (fn:FuncId) (tmps:Array Value) (todo:List Item) (defers:List Deferred) (round:Option Nat):Frame:=
 { fn,tmps,todo,defers,mode:=.run,kind:=.normal,roundOf:=round }
abbrev mkR (fn:FuncId) (tmps:Array Value) (todo:List Item) (defers:List Deferred) (round:Option Nat):Frame:=
 { fn,tmps,todo,defers,mode:=.returning,kind:=.normal,roundOf:=round }
section
variable {P:Program} {fn:FuncId} {t:Array Value} {k:List Item} {d:List Deferred} {r:Option Nat} {cs:List Frame} {w w':World}
theorem XTe:step P (lone (mkF fn t [] d none) cs w)=.next (lone (mkR fn t [] d none) cs w):=step_lone_go (by simp [stepG,stepG.exec])
theorem XRs:step P (lone (mkF fn t (.code .ret::k) d none) cs w)=.next (lone (mkR fn t (.code .ret::k) d none) cs w):=step_lone_go (by simp [stepG,stepG.exec])
theorem XIL:step P (lone (mkF fn t (.code .skip::k) d r) cs w)=.next (lone (mkF fn t k d r) cs w):=step_lone_go (by simp [stepG,stepG.exec])
theorem Xxt {id:Nat}:step P (lone (mkF fn t (.inBlock id::k) d r) cs w)=.next (lone (mkF fn t k d r) cs w):=step_lone_go (by simp [stepG,stepG.exec])
theorem XDG {l:Nat}:step P (lone (mkF fn t (.code (.label l)::k) d r) cs w)=.next (lone (mkF fn t k d r) cs w):=step_lone_go (by simp [stepG,stepG.exec])
theorem Xw5 {c:Code}:step P (lone (mkF fn t (.inScope c::k) d r) cs w)=.next (lone (mkF fn t k d r) cs w):=step_lone_go (by simp [stepG,stepG.exec])
theorem XDh {c:Code}:step P (lone (mkF fn t (.code (.scope c)::k) d r) cs w)=.next (lone (mkF fn t (.code c::.inScope c::k) d r) cs w):=step_lone_go (by simp [stepG,stepG.exec])
theorem XSa {x y:Code}:step P (lone (mkF fn t (.code (.seq x y)::k) d r) cs w)=.next (lone (mkF fn t (.code x::.code y::k) d r) cs w):=step_lone_go (by simp [stepG,stepG.exec])
theorem XJy {c:Operand} {x y:Code} {b:Bool} (h:(mkF fn t (.code (.cond c x y)::k) d r).eval c=.bool b) :
 step P (lone (mkF fn t (.code (.cond c x y)::k) d r) cs w)=.next (lone (mkF fn t (.code (if b then x else y)::k) d r) cs w):=step_lone_go (by simp [stepG,stepG.exec,h])
theorem XD9 {id:Nat} {c:Code}:step P (lone (mkF fn t (.code (.block id c)::k) d r) cs w)=.next (lone (mkF fn t (.code c::.inBlock id::k) d r) cs w):=step_lone_go (by simp [stepG,stepG.exec])
theorem XKX {c:Code}:step P (lone (mkF fn t (.code (.loop c)::k) d r) cs w)=.next (lone (mkF fn t (.code c::.inLoop c::k) d r) cs w):=step_lone_go (by simp [stepG,stepG.exec])
theorem XyY {c:Code}:step P (lone (mkF fn t (.inLoop c::k) d r) cs w)=.next (lone (mkF fn t (.code c::.inLoop c::k) d r) cs w):=step_lone_go (by simp [stepG,stepG.exec])
theorem XIK {id:Nat} {k':List Item} (h:Go.exitTo id k=some k'):step P (lone (mkF fn t (.code (.exit id)::k) d r) cs w)=.next (lone (mkF fn t k' d r) cs w):=
 step_lone_go (by simp [stepG,stepG.exec,h])
theorem XRH {id:Nat} {ops:Array Oper}:step P (lone (mkF fn t (.code (.region id ops false)::k) d r) cs w)=.next (lone (mkF fn t (.inRegion ops (List.range ops.size)::k) d r) cs w):=
 step_lone_go (by simp [stepG,stepG.exec])
theorem Xz9 {ops:Array Oper}:step P (lone (mkF fn t (.inRegion ops []::k) d r) cs w)=.next (lone (mkF fn t k d r) cs w):=step_lone_go (by simp [stepG,stepG.exec])
theorem Xs9 {ops:Array Oper} {i:Nat} {rest:List Nat} (h:((ops[i]?).map (Region.wanted · (yielded ops t))).getD false=false) :
 step P (lone (mkF fn t (.inRegion ops (i::rest)::k) d r) cs w)=.next (lone ((mkF fn t (.inRegion ops (i::rest)::k) d r).finish undef) cs w):=by
 refine step_lone_go ?_
 simp only [stepG,stepG.exec,h]
 rfl
theorem Xwk {ops:Array Oper} {i:Nat} {rest:List Nat} {o:Oper} (ho:ops[i]?=some o) (hw:Region.wanted o (yielded ops t)=true) (hd:∀ c,o.op≠.defer c) :
 stepG P true { frame:=mkF fn t (.inRegion ops (i::rest)::k) d r,callers:=cs,status:=.running,dying:=none } w =
  stepG.apply P true (mkF fn t (.inRegion ops (i::rest)::k) d r) cs none (execOp (mkF fn t (.inRegion ops (i::rest)::k) d r).eval o) w:=by
 simp only [stepG,stepG.exec,ho,Option.map_some,hw,Option.getD_some,↓reduceIte,stepG.oper,Frame.oper?]
 cases r with
 | none=>rfl
 | some l=>
   cases hop:o.op<;>first|rfl|exact absurd hop (hd _)
theorem Xv3 {ops:Array Oper} {i:Nat} {rest:List Nat} {o:Oper} {v:Value} (ho:ops[i]?=some o) (hw:Region.wanted o (yielded ops t)=true) (hd:∀ c,o.op≠.defer c)
 (hr:(execOp (mkF fn t (.inRegion ops (i::rest)::k) d r).eval o).run P w=.ok (.value v) w') :
 step P (lone (mkF fn t (.inRegion ops (i::rest)::k) d r) cs w)=.next (lone ((mkF fn t (.inRegion ops (i::rest)::k) d r).finish v) cs w'):=
 step_lone_go (by rw [Xwk ho hw hd];simp only [stepG.apply,Sem.runT_eq,hr,↓reduceIte,GStep.bare_after];rfl)
theorem Xs8 {ops:Array Oper} {i:Nat} {rest:List Nat} {o:Oper} (ho:ops[i]?=some o) (hw:Region.wanted o (yielded ops t)=true) (hd:∀ c,o.op≠.defer c)
 (hr:(execOp (mkF fn t (.inRegion ops (i::rest)::k) d r).eval o).run P w=.ok .skip w') :
 step P (lone (mkF fn t (.inRegion ops (i::rest)::k) d r) cs w)=.next (lone ((mkF fn t (.inRegion ops (i::rest)::k) d r).finish undef) cs w'):=
 step_lone_go (by rw [Xwk ho hw hd];simp only [stepG.apply,Sem.runT_eq,hr,↓reduceIte,GStep.bare_after];rfl)
theorem Xo4 {ops:Array Oper} {i:Nat} {rest:List Nat} {o:Oper} {f:FuncId} {args:Array Value} (ho:ops[i]?=some o) (hw:Region.wanted o (yielded ops t)=true) (hd:∀ c,o.op≠.defer c)
 (hr:(execOp (mkF fn t (.inRegion ops (i::rest)::k) d r).eval o).run P w=.ok (.enter f args) w') :
 step P (lone (mkF fn t (.inRegion ops (i::rest)::k) d r) cs w)=.next (lone (Frame.enter P f args .normal) (mkF fn t (.inRegion ops (i::rest)::k) d r::cs) w'):=
 step_lone_go (by rw [Xwk ho hw hd];simp only [stepG.apply,Sem.runT_eq,hr,↓reduceIte,GStep.bare_after];rfl)
theorem XC2 {ops:Array Oper} {i:Nat} {rest:List Nat} {o:Oper} {l:Nat} {f:FuncId} {tm:Array Value} {aqs bd:Code} (ho:ops[i]?=some o) (hw:Region.wanted o (yielded ops t)=true) (hd:∀ c,o.op≠.defer c)
 (hr:(execOp (mkF fn t (.inRegion ops (i::rest)::k) d r).eval o).run P w=.ok (.round l f tm aqs bd) w') :
 step P (lone (mkF fn t (.inRegion ops (i::rest)::k) d r) cs w)=.next (lone (mkF f tm [.code aqs,.beginRound,.code bd] [] (some l)) (mkF fn t (.inRegion ops (i::rest)::k) d r::cs) w'):=
 step_lone_go (by rw [Xwk ho hw hd];simp only [stepG.apply,Sem.runT_eq,hr,↓reduceIte,GStep.bare_after];rfl)
theorem XES {f:Func} {v:Value} {c:Frame} (hf:P.funcs[fn]?=some f) (hr:(results f t).run P w=.ok v w) :
 step P (lone (mkR fn t k [] r) (c::cs) w)=.next (lone (c.finish v) cs w):=
 step_lone_go (by simp [stepG,unwind,doReturn,hf,hr])
end
inductive Xlb {α β:Type} (R:α→β→Prop):List α→List β→Prop
 | nil:Xlb R [] []
 | cons {a b l m} (h:R a b) (t:Xlb R l m):Xlb R (a::l) (b::m)
theorem Xlb.mono {α β:Type} {R S:α→β→Prop} (h:∀ a b,R a b→S a b):∀ {l:List α} {m:List β},Xlb R l m→Xlb S l m
 | _,_,.nil=>.nil
 | _,_,.cons x t=>.cons (h _ _ x) (Xlb.mono h t)
theorem Xlb.append {α β:Type} {R:α→β→Prop}:∀ {l l':List α} {m m':List β},Xlb R l m→Xlb R l' m'→Xlb R (l++l') (m++m')
 | _,_,_,_,.nil,k=>k
 | _,_,_,_,.cons x t,k=>.cons x (Xlb.append t k)
inductive XvO (P:Program) (ops:Array Oper):List Nat→List Xdj→Prop
 | nil:XvO P ops [] []
 | cons {i is o v vs} (ho:ops[i]?=some o) (hc:XiW P ops o=some v) (t:XvO P ops is vs):XvO P ops (i::is) (v::vs)
inductive XhQ (P:Program) (ρ:Ren):XfX→Item→Prop
 | code {c:VC} {c':Code} (h:Xfi P c'=some c):XhQ P ρ (.code c) (.code c')
 | inBlock (id:Nat):XhQ P ρ (.inBlock id) (.inBlock id)
 | inScope (c:Code):XhQ P ρ .inScope (.inScope c)
 | inLoop {c:VC} {c':Code} (h:Xfi P c'=some c):XhQ P ρ (.inLoop c) (.inLoop c')
 | inReg {ops:Array Oper} {is:List Nat} {vs:List Xdj} (h:XvO P ops is vs):XhQ P ρ (.inReg vs) (.inRegion ops is)
 | inRangeFunc {r:Nat} {l:Loc} (h:ρ r=some l):XhQ P ρ (.inRangeFunc r) (.inRangeFunc l.blk)
 | endRangeFunc {r:Nat} {l:Loc} (h:ρ r=some l):XhQ P ρ (.endRangeFunc r) (.endRangeFunc l.blk)
 | beginRound:XhQ P ρ .beginRound .beginRound
theorem XhQ.mono {P:Program} {ρ ρ':Ren} (x:Ext ρ ρ'):∀ v i,XhQ P ρ v i→XhQ P ρ' v i
 | _,_,.code h=>.code h
 | _,_,.inBlock id=>.inBlock id
 | _,_,.inScope c=>.inScope c
 | _,_,.inLoop h=>.inLoop h
 | _,_,.inReg h=>.inReg h
 | _,_,.inRangeFunc h=>.inRangeFunc (x _ _ h)
 | _,_,.endRangeFunc h=>.endRangeFunc (x _ _ h)
 | _,_,.beginRound=>.beginRound
def XNo (ρ:Ren) (r:Nat) (d:Deferred):Prop:=∃ l,ρ r=some l∧d={ target:=.collected l.blk,args:=#[] }
def Xvz (ρ:Ren):Option Nat→Option Nat→Prop
 | none,none=>True
 | some r,some q=>∃ l,ρ r=some l∧q=l.blk∧l.sh=0
 | _,_=>False
theorem Xvz.mono {ρ ρ':Ren} (x:Ext ρ ρ'):∀ {a b:Option Nat},Xvz ρ a b→Xvz ρ' a b
 | none,none,_=>trivial
 | some _,some _,⟨l,h,e⟩=>⟨l,x _ _ h,e⟩
 | none,some _,h=>h.elim
 | some _,none,h=>h.elim
structure FrR (P:Program) (ρ:Ren) (v:Xb3) (f:Frame):Prop where
 fn:f.fn=v.fn
 size:f.tmps.size=v.nt
 env:XsS ρ v.env f.tmps
 todo:Xlb (XhQ P ρ) v.todo f.todo
 defers:Xlb (XNo ρ) v.defers f.defers
 mode:f.mode=if v.ret then .returning else .run
 kind:f.kind=.normal
 round:Xvz ρ v.round f.roundOf
theorem FrR.mono {P:Program} {ρ ρ':Ren} (x:Ext ρ ρ') {v:Xb3} {f:Frame} (h:FrR P ρ v f):FrR P ρ' v f:=
 { h with env:=h.env.mono x,todo:=h.todo.mono (XhQ.mono x),defers:=h.defers.mono (fun _ _ ⟨l,a,b⟩=>⟨l,x _ _ a,b⟩),round:=h.round.mono x }
structure VMR (P:Program) (w0:World) (U:Nat→Nat→Prop) (ρ:Ren) (vm:VM) (fr:Frame) (frs:List Frame) (w:World):Prop where
 cur:FrR P ρ vm.cur fr
 up:Xlb (FrR P ρ) vm.up frs
 heap:HpR P w0 (.of U) ρ vm.heap vm.top w
structure Xb8 (P:Program) (f:Nat) (s:XbS):Prop where
 fn : ∃ fn, P.funcs[f]? = some fn ∧ fn.name ≠ "runtime.NumGoroutine" ∧ fn.body.isSome = true
 calls:∀ (w0:World) (U:UG) (ρ:Ren) (H:Hp) (top:Nat) (w:World) (vals rvals:List Value) (v:Value) (H':Hp) (top':Nat),U.lo≤top→(∀ j,top≤j→j<top'→¬ U.g j)→HpR P w0 U ρ H top w→VRL ρ vals rvals→XiN s vals H top=some (v,H',top') →
  Calls P f ⟨rvals⟩ w fun e w'=>∃ ρ' rv,e=.returned rv∧VR ρ' v rv∧HpR P w0 U ρ' H' top' w'∧Ext ρ ρ'
def Xaq (P:Program) (S:Xmn):Prop:=∀ f s,S f=some s→Xb8 P f s
section
variable {P:Program} {w0:World} {U:Nat→Nat→Prop} {ρ:Ren} {F:Fns} {S:Xmn}
theorem Xsb {e:Env} {tmps:Array Value} (he:XsS ρ e tmps) {x:Operand} (hx:okO x=true) {v:Value} (h:Xn3 e x=some v) {f:Frame} (hf:f.tmps=tmps):VR ρ v (f.eval x):=by
 cases x with
 | tmp i=>
   obtain ⟨v',g,r⟩:=he i v h
   simp only [Frame.eval,hf,Array.getD_eq_getD_getElem?,g,Option.getD_some];exact r
 | const c=>
   simp only [Xn3,Option.some.injEq] at h;subst h
   exact VR.flat ρ c hx
 | global g=>cases hx
 | func g=>
   simp only [Xn3,Option.some.injEq] at h;subst h
   exact .func g .nil .nil
theorem XvU {e:Env} {tmps:Array Value} (he:XsS ρ e tmps) {f:Frame} (hf:f.tmps=tmps):∀ {xs:List Operand} {vs:List Value},xs.all okO=true→XmR e xs=some vs→VRL ρ vs (xs.map f.eval)
 | [],vs,_,h=>by simp only [XmR,Option.some.injEq] at h;subst h;exact .nil
 | x::xs,vs,hx,h=>by
   simp only [List.all_cons,Bool.and_eq_true] at hx
   simp only [XmR] at h
   split at h
   ·rename_i v hv
    split at h
    ·rename_i ws hws
     cases h
     exact .cons (Xsb he hx.1 hv hf) (XvU he hf hx.2 hws)
    ·cases h
   ·cases h
theorem XA3 {e:Env} {tmps:Array Value} {n:Nat} (he:XsS ρ e tmps) (hs:tmps.size=n) (d:Option Nat) {v v':Value} (hv:VR ρ v v') :
 XsS ρ (XqE n e d v) (match d with|some d=>tmps.setIfInBounds d v'|none=>tmps):=by
 cases d with
 | none=>exact he
 | some d=>
   simp only [XqE]
   cases hb:Nat.blt d n with
   | false=>
     have:¬ d<n:=fun h=>by rw [←Nat.blt_eq] at h;simp [hb] at h
     simp only [cond_false]
     rw [Array.setIfInBounds,dif_neg (by omega)]
     exact he
   | true=>
     have hlt:d<n:=by rw [←Nat.blt_eq];exact hb
     simp only [cond_true]
     intro i u hu
     rw [Xbh] at hu
     by_cases hi:d=i
     ·subst hi
      rw [if_pos rfl] at hu;cases hu
      exact ⟨v',by simp [hs,hlt],hv⟩
     ·rw [if_neg hi] at hu
      obtain ⟨u',g,r⟩:=he i u hu
      exact ⟨u',by rw [Array.getElem?_setIfInBounds_ne hi];exact g,r⟩
theorem XvK:∀ (vs:List Value) (k i:Nat) (v:Value),XaL (Xoh k vs) i=some v→k≤i∧vs[i - k]?=some v
 | [],k,i,v,h=>by simp [Xoh,XaL] at h
 | x::vs,k,i,v,h=>by
   simp only [Xoh,XaL] at h
   cases hb:Nat.beq k i with
   | true=>
     have:=Nat.eq_of_beq_eq_true hb
     subst this
     simp only [hb,cond_true,Option.some.injEq] at h
     subst h
     exact ⟨Nat.le_refl _,by simp⟩
   | false=>
     simp only [hb,cond_false] at h
     obtain ⟨h1,h2⟩:=XvK vs (k+1) i v h
     refine ⟨by omega,?_⟩
     rw [show i - k=(i - (k+1))+1 by omega,List.getElem?_cons_succ];exact h2
theorem XkC (hF:Xlt P F) {f:Nat} {args rargs:List Value} {c:Xb3} (h:Xjl F f args=some c) (hr:VRL ρ args rargs) :
 FrR P ρ c (Frame.enter P f ⟨rargs⟩ .normal) ∧ ∃ fn, P.funcs[f]? = some fn ∧ fn.name ≠ "runtime.NumGoroutine" ∧ fn.body.isSome = true := by
 unfold Xjl at h
 split at h
 ·rename_i vf hvf
  split at h
  ·rename_i hle
   cases h
   obtain ⟨fn,hfn,hcf⟩:=hF f vf hvf
   unfold XaV at hcf
   split at hcf
   ·rename_i b hb
    split at hcf
    ·cases hcf
    ·rename_i hname
     split at hcf
     ·rename_i cc hcc
      split at hcf
      ·rename_i rs hrs
       cases hcf
       have hlen:=hr.length
       refine ⟨⟨rfl,?_,?_,?_,.nil,rfl,rfl,trivial⟩,fn,hfn,hname,by simp [hb]⟩
       ·simp [Frame.enter,hfn];simp at hle;omega
       ·intro i v hi
        obtain ⟨h1,h2⟩:=XvK _ _ _ _ hi
        obtain ⟨v',g1,g2⟩:=hr.get h2
        refine ⟨v',?_,g2⟩
        simp only [Nat.sub_zero] at g1
        have hlt:i<rargs.length:=by
         rcases Nat.lt_or_ge i rargs.length with h|h
         ·exact h
         ·rw [List.getElem?_eq_none h] at g1;cases g1
        simp only [Frame.enter]
        rw [Array.getElem?_append_left (by simpa using hlt)]
        simpa using g1
       ·simp only [Frame.enter,hfn,Option.bind_some,hb,Option.getD_some]
        exact .cons (.code hcc) .nil
      ·cases hcf
     ·cases hcf
   ·cases hcf
  ·cases h
 ·cases h
theorem Xk1 {f : Nat} {args : Array Value} {w : World} (h : ∃ fn, P.funcs[f]? = some fn ∧ fn.name ≠ "runtime.NumGoroutine" ∧ fn.body.isSome = true) : (callFunc f args).run P w = .ok (.enter f args) w := by
 obtain ⟨fn,h1,h2,h3⟩:=h
 obtain ⟨b,hb⟩:=Option.isSome_iff_exists.1 h3
 simp [callFunc,h1,h2,hb]
theorem XpT {e:Env} {tmps:Array Value} (he:XsS ρ e tmps) {ops:Array Oper} {o:Oper} {v:Xdj} (hc:XiW P ops o=some v) {b:Bool} (h:Xet e v.g=some b):Region.wanted o (yielded ops tmps)=b:=by
 unfold XiW at hc
 split at hc<;>try (cases hc;done)
 split at hc<;>try (cases hc;done)
 split at hc
 ·rename_i hg
  cases hc
  simp only [Xet,Option.some.injEq] at h
  simp [Region.wanted,hg,←h]
 ·rename_i j w hg
  split at hc<;>try (cases hc;done)
  rename_i p hp
  split at hc<;>try (cases hc;done)
  rename_i d hd
  cases hc
  simp only [Xet] at h
  split at h
  ·rename_i x hx
   cases h
   obtain ⟨v',g,r⟩:=he d _ hx
   cases r
   simp only [Region.wanted,hg,yielded,hp,Option.bind_some,hd,g]
   cases x<;>cases w<;>rfl
  ·rename_i hx
   cases h
   obtain ⟨v',g,r⟩:=he d _ hx
   cases r with
   | tuple hl=>
     cases hl
     simp only [Region.wanted,hg,yielded,hp,Option.bind_some,hd,g]
     rfl
  ·cases h
theorem XoO {ops:Array Oper} {o:Oper} {v:Xdj} (hc:XiW P ops o=some v):o.dst=v.dst∧v.op.ops.all okO=true∧XpB P o.op=some v.op:=by
 unfold XiW at hc
 split at hc<;>try (cases hc;done)
 rename_i vo hvo
 split at hc<;>try (cases hc;done)
 rename_i hok
 split at hc
 ·cases hc;exact ⟨rfl,hok,hvo⟩
 ·split at hc<;>try (cases hc;done)
  split at hc<;>try (cases hc;done)
  cases hc;exact ⟨rfl,hok,hvo⟩
theorem Xp2 {u u':Xb3} {f:Frame} {v v':Value} (h:FrR P ρ u f) (hv:VR ρ v v') (hf:finish u v=some u'):FrR P ρ u' (f.finish v'):=by
 obtain ⟨h1,h2,h3,h4,h5,h6,h7,h8⟩:=h
 unfold finish at hf
 split at hf
 ·rename_i o rest k htd
  cases hf
  rw [htd] at h4
  cases hft:f.todo with
  | nil=>rw [hft] at h4;cases h4
  | cons it k'=>
    rw [hft] at h4
    cases h4 with|cons hi hk=>
    cases hi with|inReg hr=>
    cases hr with|@cons i is oo _ _ ho hc ht=>
    have hdst:=(XoO hc).1
    have he:=XA3 (d:=o.dst) h3 h2 hv
    refine ⟨?_,?_,?_,?_,?_,?_,?_,?_⟩<;>simp only [Frame.finish,hft,ho,Option.bind_some,hdst]
    ·exact h1
    ·cases o.dst with
     | none=>exact h2
     | some d=>simpa using h2
    ·cases hd:o.dst with
     | none=>rw [hd] at he;exact he
     | some d=>rw [hd] at he;exact he
    ·exact .cons (.inReg ht) hk
    ·exact h5
    ·exact h6
    ·exact h7
    ·exact h8
 ·rename_i l k htd
  cases hf
  rw [htd] at h4
  cases hft:f.todo with
  | nil=>rw [hft] at h4;cases h4
  | cons it k'=>
    rw [hft] at h4
    cases h4 with|cons hi hk=>
    cases hi with|inRangeFunc hl=>
    exact ⟨by simp [Frame.finish,hft,h1],by simp [Frame.finish,hft,h2],by simpa [Frame.finish,hft] using h3,by simpa [Frame.finish,hft] using .cons (.endRangeFunc hl) hk,by simpa [Frame.finish,hft] using h5,by simp [Frame.finish,hft,h6],by simp [Frame.finish,hft,h7],by simpa [Frame.finish,hft] using h8⟩
 ·cases hf
def XrF (tmps:Array Value):ResultVar→Sem Value
 | .tmp t=>pure (tmps.getD t undef)
 | .cell a t=>do loadVar t (←asAddr (tmps.getD a undef))
theorem XMw {e:Env} {tmps:Array Value} {H:Hp} {top:Nat} {w:World} (he:XsS ρ e tmps) (hh:HpR P w0 (.of U) ρ H top w) {r:ResultVar} {vr:XBq} (hc:XrO P r=some vr) {v:Value} (h:resV e H vr=some v) :
 ∃ v',VR ρ v v'∧(XrF tmps r).run P w=.ok v' w:=by
 cases r with
 | tmp t=>
   simp only [XrO,Option.some.injEq] at hc;subst hc
   obtain ⟨v',g,r⟩:=he t v h
   exact ⟨v',r,by simp [XrF,Array.getD_eq_getD_getElem?,g]⟩
 | cell a t=>
   simp only [XrO] at hc
   split at hc<;>try (cases hc;done)
   rename_i i hi
   split at hc<;>try (cases hc;done)
   rename_i d hd
   have key:∀ ks agg,vr=.cell a ks agg→∃ b q ob cs l,XaL e a=some (.pointer (some ⟨b,q,none⟩))∧XaL H b=some ob∧ob.cs=some cs∧ρ b=some l∧tmps.getD a undef=.pointer (some ⟨l.blk,l.sh+q,none⟩)∧(∃ own,XbA ρ w l own cs) ∧
    (if agg then (if q+ks.length≤cs.length then some (.agg ⟨(cs.drop q).take ks.length⟩) else none) else cs[q]?)=some v:=by
    intro ks agg e'
    subst e'
    simp only [resV] at h
    split at h<;>try (cases h;done)
    rename_i b q hp
    split at h<;>try (cases h;done)
    rename_i ob hob
    split at h<;>try (cases h;done)
    rename_i cs hcs
    obtain ⟨v',g,r⟩:=he a _ hp
    cases r with|ptr hl=>
    obtain ⟨l',hl',hor,_⟩:=hh.obj b ob hob
    rw [hl] at hl';cases hl'
    exact ⟨b,q,ob,cs,_,hp,hob,hcs,hl,by simp [Array.getD_eq_getD_getElem?,g],hor.cells hcs,h⟩
   split at hc
   ·rename_i hag
    split at hc<;>try (cases hc;done)
    rename_i hlen
    obtain ⟨b,q,ob,cs,l,k1,k2,k3,k4,k5,⟨own,k6⟩,k7⟩:=key _ _ (Option.some.inj hc).symm
    simp only [↓reduceIte] at k7
    split at k7
    ·rename_i hle
     cases k7
     obtain ⟨vs,g1,g2,g3⟩:=k6.values q _ hle
     refine ⟨.agg ⟨vs⟩,.agg g1,?_⟩
     simp only [XrF,k5,asAddr,Sem.run_bind,Sem.run_pure,Result.andThen_ok,loadVar,Xe4 hd,hag,↓reduceIte,XdI hi,←hlen,XfN g2 g3]
    ·cases k7
   ·rename_i hag
    obtain ⟨b,q,ob,cs,l,k1,k2,k3,k4,k5,⟨own,k6⟩,k7⟩:=key _ _ (Option.some.inj hc).symm
    simp only [Bool.false_eq_true,↓reduceIte] at k7
    obtain ⟨v',g1,g2⟩:=k6.2.1 q v k7
    refine ⟨v',g2,?_⟩
    simp [XrF,k5,asAddr,loadVar,Xe4 hd,hag,g1]
theorem XqX {e:Env} {tmps:Array Value} {H:Hp} {top:Nat} {w:World} (he:XsS ρ e tmps) (hh:HpR P w0 (.of U) ρ H top w):∀ {rs:List ResultVar} {vrs:List XBq} {vs:List Value},XlR P rs=some vrs→Xqs e H vrs=some vs →
 ∃ vs',VRL ρ vs vs'∧(rs.mapM (XrF tmps)).run P w=.ok vs' w
 | [],vrs,vs,hc,h=>by
   simp only [XlR,Option.some.injEq] at hc;subst hc
   simp only [Xqs,Option.some.injEq] at h;subst h
   exact ⟨[],.nil,rfl⟩
 | r::rs,vrs,vs,hc,h=>by
   simp only [XlR] at hc
   split at hc<;>try (cases hc;done)
   rename_i vr hvr
   split at hc<;>try (cases hc;done)
   rename_i vrs' hvrs
   cases hc
   simp only [Xqs] at h
   split at h<;>try (cases h;done)
   rename_i v hv
   split at h<;>try (cases h;done)
   rename_i ws hws
   cases h
   obtain ⟨v',g1,g2⟩:=XMw he hh hvr hv
   obtain ⟨vs',g3,g4⟩:=XqX he hh hvrs hws
   refine ⟨v'::vs',.cons g1 g3,?_⟩
   rw [List.mapM_cons]
   simp only [Sem.run_bind,g2,Result.andThen_ok,g4,Sem.run_pure]
theorem XPB {vs vs':List Value} (h:VRL ρ vs vs'):VR ρ (XFo vs) (if hs:(⟨vs'⟩:Array Value).size=1 then (⟨vs'⟩:Array Value)[0] else .tuple ⟨vs'⟩):=by
 cases h with
 | nil=>exact .tuple .nil
 | cons h hl=>
   cases hl with
   | nil=>simpa [XFo] using h
   | cons k kl=>
     simp only [XFo]
     rw [dif_neg (by simp)]
     exact .tuple (.cons h (.cons k kl))
theorem Xqx {fn:Func} {e:Env} {tmps:Array Value} {H:Hp} {top:Nat} {w:World} (he:XsS ρ e tmps) (hh:HpR P w0 (.of U) ρ H top w) {vrs:List XBq} {vs:List Value} (hc:XlR P fn.results.toList=some vrs) (h:Xqs e H vrs=some vs) :
 ∃ v',VR ρ (XFo vs) v'∧(results fn tmps).run P w=.ok v' w:=by
 obtain ⟨vs',g1,g2⟩:=XqX he hh hc h
 refine ⟨_,XPB g1,?_⟩
 have hres:results fn tmps=(do let vals ←fn.results.mapM (XrF tmps);return if h:vals.size=1 then vals[0] else .tuple vals):=by
  unfold results
  congr 2
 rw [hres,Array.mapM_eq_mapM_toList]
 simp only [Sem.run_bind,Sem.run_map,g2,Result.andThen_ok,Sem.run_pure]
end
section
variable {P:Program} {w0:World} {U:Nat→Nat→Prop} {ρ:Ren} {F:Fns} {S:Xmn}
def Goes (P:Program) (w0:World) (U:Nat→Nat→Prop) (ρ:Ren) (cs:List Frame) (vm':VM) (rf:Frame) (rfs:List Frame) (w:World):Prop:=
 ∃ ρ' rf' rfs' w',Steps P (lone rf (rfs++cs) w) (lone rf' (rfs'++cs) w')∧VMR P w0 U ρ' vm' rf' rfs' w'∧Ext ρ ρ'
theorem Goes.one {cs:List Frame} {vm':VM} {rf rf':Frame} {rfs rfs':List Frame} {w w':World} (h:step P (lone rf (rfs++cs) w)=.next (lone rf' (rfs'++cs) w'))
 (hr:VMR P w0 U ρ vm' rf' rfs' w'):Goes P w0 U ρ cs vm' rf rfs w:=⟨ρ,rf',rfs',w',.one h,hr,Ext.refl ρ⟩
theorem Goes.trans {cs:List Frame} {vm vm':VM} {rf:Frame} {rfs:List Frame} {w:World} (h:Goes P w0 U ρ cs vm rf rfs w)
 (k:∀ ρ' rf' rfs' w',VMR P w0 U ρ' vm rf' rfs' w'→Goes P w0 U ρ' cs vm' rf' rfs' w'):Goes P w0 U ρ cs vm' rf rfs w:=by
 obtain ⟨ρ1,rf1,rfs1,w1,s1,r1,e1⟩:=h
 obtain ⟨ρ2,rf2,rfs2,w2,s2,r2,e2⟩:=k _ _ _ _ r1
 exact ⟨ρ2,rf2,rfs2,w2,s1.trans s2,r2,e1.trans e2⟩
theorem XhM {f:Frame} {v:Xb3} (h:FrR P ρ v f) (hr:v.ret=false):f=mkF f.fn f.tmps f.todo f.defers f.roundOf:=by
 obtain ⟨_,_,_,_,_,hm,hk,_⟩:=h
 cases f
 simp only at hm hk
 subst hm hk
 simp [hr]
theorem XxI {f:Frame} {v:Xb3} (h:FrR P ρ v f) (hr:v.ret=true):f=mkR f.fn f.tmps f.todo f.defers f.roundOf:=by
 obtain ⟨_,_,_,_,_,hm,hk,_⟩:=h
 cases f
 simp only at hm hk
 subst hm hk
 simp [hr]
theorem Xkp {fr:Xb3} {rf:Frame} (h:FrR P ρ fr rf) {o:Xdj} {rest:List Xdj} {k:List XfX} (ht:fr.todo=.inReg (o::rest)::k) {v v':Value} (hv:VR ρ v v') :
 FrR P ρ { fr with env:=XqE fr.nt fr.env o.dst v,todo:=.inReg rest::k } (rf.finish v'):=
 Xp2 (u:=fr) h hv (by simp [finish,ht])
theorem Xo0:VR ρ XhI undef:=.tuple .nil
theorem Xr7 {fr:Xb3} {rf:Frame} (h:FrR P ρ fr rf) {o:Xdj} {rest:List Xdj} {k:List XfX} (ht:fr.todo=.inReg (o::rest)::k) :
 ∃ ops i is k' oo,rf.todo=.inRegion ops (i::is)::k'∧ops[i]?=some oo∧XiW P ops oo=some o:=by
 have h4:=h.todo
 rw [ht] at h4
 cases hft:rf.todo with
 | nil=>rw [hft] at h4;cases h4
 | cons it k'=>
   rw [hft] at h4
   cases h4 with|cons hi hk=>
   cases hi with|inReg hr=>
   cases hr with|cons ho hc htl=>exact ⟨_,_,_,_,_,rfl,ho,hc⟩
structure AtOp (P:Program) (ρ:Ren) (fr:Xb3) (rf:Frame) (o:Xdj) (fn:FuncId) (t:Array Value) (k':List Item) (d:List Deferred) (r:Option Nat) (ops:Array Oper) (i:Nat) (is:List Nat) (oo:Oper):Prop where
 frame:rf=mkF fn t (.inRegion ops (i::is)::k') d r
 op:ops[i]?=some oo
 comp:XpB P oo.op=some o.op
 wanted:Region.wanted oo (yielded ops t)=true
 args:o.op.ops.all okO=true
theorem atOp {fr:Xb3} {rf:Frame} (h:FrR P ρ fr rf) (hret:fr.ret=false) {o:Xdj} {rest:List Xdj} {k:List XfX} (ht:fr.todo=.inReg (o::rest)::k) (hw:Xet fr.env o.g=some true) :
 ∃ fn t k' d r ops i is oo,AtOp P ρ fr rf o fn t k' d r ops i is oo:=by
 obtain ⟨ops,i,is,k',oo,e1,e2,e3⟩:=Xr7 h ht
 obtain ⟨_,hok,hop⟩:=XoO e3
 refine ⟨rf.fn,rf.tmps,k',rf.defers,rf.roundOf,ops,i,is,oo,?_,e2,hop,XpT h.env e3 hw,hok⟩
 rw [←e1];exact XhM h hret
theorem XwP {fr:Xb3} {rf:Frame} (h:FrR P ρ fr rf) {xs:List Operand} (hx:xs.all okO=true) {vs:List Value} (hv:XmR fr.env xs=some vs):VRL ρ vs (xs.map rf.eval):=
 XvU h.env rfl hx hv
theorem Xtq {o:Oper} {a:Operand→Value} {f:Nat} {ys:Array Operand} {ts:Array TypeId} (hop:o.op=.call ⟨.value (.func f),ys,ts⟩) (ha:a (.func f)=.func (.func f) #[] #[]) {w:World}
 (h : ∃ fn, P.funcs[f]? = some fn ∧ fn.name ≠ "runtime.NumGoroutine" ∧ fn.body.isSome = true) : (execOp a o).run P w = .ok (.enter f ⟨ys.toList.map a⟩) w := by
 have:(⟨ys.toList.map a⟩:Array Value)=ys.map a:=by rw [←Array.toList_map]
 simp only [execOp,hop,resolve,ha,Deferred.ofValue,Sem.run_bind,Sem.run_pure,Result.andThen_ok,invoke,Array.append_empty,Array.empty_append,Xk1 h,this]
theorem Xs6 {o:Oper} {a:Operand→Value} {f:Nat} {t:Nat} {ys:Array Operand} {ts:Array TypeId} {fi ca:List Value} (hop:o.op=.call ⟨.value (.tmp t),ys,ts⟩) (ha:a (.tmp t)=.func (.func f) ⟨fi⟩ ⟨ca⟩) {w:World}
 (h : ∃ fn, P.funcs[f]? = some fn ∧ fn.name ≠ "runtime.NumGoroutine" ∧ fn.body.isSome = true) : (execOp a o).run P w = .ok (.enter f ⟨fi ++ ys.toList.map a ++ ca⟩) w := by
 have:(⟨fi++ys.toList.map a++ca⟩:Array Value)=⟨fi⟩++ys.map a++⟨ca⟩:=by apply Array.toList_inj.1;simp
 simp only [execOp,hop,resolve,ha,Deferred.ofValue,Sem.run_bind,Sem.run_pure,Result.andThen_ok,invoke,Xk1 h,this]
theorem XH2 (hS:Xaq P S) {f:Nat} {s:XbS} (hf:S f=some s) {fr:Xb3} {up:List Xb3} {H H':Hp} {top top':Nat} {rf:Frame} {rfs:List Frame} {w:World}
 (h:VMR P w0 U ρ ⟨fr,up,H,top⟩ rf rfs w) {o:Xdj} {rest:List Xdj} {k:List XfX} (ht:fr.todo=.inReg (o::rest)::k) {vals rvals:List Value} (hv:VRL ρ vals rvals) {v:Value}
 (hs:XiN s vals H top=some (v,H',top')) {cs:List Frame} (hstep:step P (lone rf (rfs++cs) w)=.next (lone (Frame.enter P f ⟨rvals⟩ .normal) (rf::rfs++cs) w)) :
 Goes P w0 U ρ cs ⟨{ fr with env:=XqE fr.nt fr.env o.dst v,todo:=.inReg rest::k },up,H',top'⟩ rf rfs w:=by
 obtain ⟨e,w',f',⟨ρ',rv,rfl,hrv,hh,hx⟩,hcomes,-,hleave⟩:=(hS f s hf).calls w0 (.of U) ρ H top w vals rvals v H' top' (Nat.zero_le _) (fun _ _ _ h=>h) h.heap hv hs (rf::rfs++cs)
 refine ⟨ρ',rf.finish rv,rfs,w',.trans (.head hstep hcomes) (.one (step_leave_returned hleave)),⟨Xkp (h.cur.mono hx) ht hrv,h.up.mono fun _ _ k=>k.mono hx,hh⟩,hx⟩
theorem XvW (hF:Xlt P F) {f:Nat} {fr c:Xb3} {up:List Xb3} {H:Hp} {top:Nat} {rf:Frame} {rfs:List Frame} {w:World}
 (h:VMR P w0 U ρ ⟨fr,up,H,top⟩ rf rfs w) {o:Xdj} {rest:List Xdj} {k:List XfX} (ht:fr.todo=.inReg (o::rest)::k) {vals rvals:List Value} (hv:VRL ρ vals rvals)
 (hc:Xjl F f vals=some c) {cs:List Frame} (hstep:step P (lone rf (rfs++cs) w)=.next (lone (Frame.enter P f ⟨rvals⟩ .normal) (rf::rfs++cs) w)) :
 Goes P w0 U ρ cs ⟨c,{ fr with todo:=.inReg (o::rest)::k }::up,H,top⟩ rf rfs w:=by
 have:({ fr with todo:=.inReg (o::rest)::k }:Xb3)=fr:=by cases fr;simp only at ht;subst ht;rfl
 rw [this]
 exact Goes.one hstep ⟨(XkC hF hc hv).1,.cons h.cur h.up,h.heap⟩
theorem VR.Xr5 {f:Nat} {a b:List Value} {v':Value} (h:VR ρ (.func (.func f) ⟨a⟩ ⟨b⟩) v'):∃ fi ca,v'=.func (.func f) ⟨fi⟩ ⟨ca⟩∧VRL ρ a fi∧VRL ρ b ca:=by
 cases h with
 | func _ h1 h2=>exact ⟨_,_,rfl,h1,h2⟩
theorem VR.XyP {b:Bool} {v':Value} (h:VR ρ (.bool b) v'):v'=.bool b:=by cases h;rfl
theorem VR.XBX {l:Nat} {v':Value} (h:VR ρ (.func (.yield l) ⟨[]⟩ ⟨[]⟩) v'):∃ lo,v'=.func (.yield lo.blk) ⟨[]⟩ ⟨[]⟩∧ρ l=some lo:=by
 cases h with
 | yield h=>exact ⟨_,rfl,h⟩
theorem XoM:∀ {ps:List Nat} {args rargs:List Value} {n:Nat} {e:Env} {tmps:Array Value},XsS ρ e tmps→tmps.size=n→VRL ρ args rargs→args.length=ps.length →
 XsS ρ (Xnp n e ps args) ((ps.zip rargs).foldl (fun tmps (t,a)=>tmps.setIfInBounds t a) tmps)∧((ps.zip rargs).foldl (fun tmps (t,a)=>tmps.setIfInBounds t a) tmps).size=n
 | [],[],_,_,_,_,he,hs,.nil,_=>⟨he,hs⟩
 | p::ps,v::vs,_,n,e,tmps,he,hs,.cons h hl,hlen=>by
   simp only [Xnp,List.zip_cons_cons,List.foldl_cons]
   exact XoM (XA3 (d:=some p) he hs h) (by simpa using hs) hl (by simpa using hlen)
 | [],v::vs,_,_,_,_,_,_,.cons _ _,hlen=>by simp at hlen
theorem XB6 {l:Nat} {lo:Loc} {fr c:Xb3} {up:List Xb3} {H:Hp} {top:Nat} {rf:Frame} {rfs:List Frame} {w:World}
 (h:VMR P w0 U ρ ⟨fr,up,H,top⟩ rf rfs w) {o:Xdj} {rest:List Xdj} {k:List XfX} (ht:fr.todo=.inReg (o::rest)::k) (hl:ρ l=some lo) {args rargs:List Value} (hv:VRL ρ args rargs)
 (hc:Xm7 l args H=some c) {cs:List Frame} (hstep:∀ f tm aqs bd,(Instr.yield lo.blk ⟨rargs⟩).run P w=.ok (.round lo.blk f tm aqs bd) w→step P (lone rf (rfs++cs) w)=.next (lone (mkF f tm [.code aqs,.beginRound,.code bd] [] (some lo.blk)) (rf::rfs++cs) w)) :
 Goes P w0 U ρ cs ⟨c,{ fr with todo:=.inReg (o::rest)::k }::up,H,top⟩ rf rfs w:=by
 have:({ fr with todo:=.inReg (o::rest)::k }:Xb3)=fr:=by cases fr;simp only at ht;subst ht;rfl
 rw [this]
 unfold Xm7 at hc
 split at hc<;>try (cases hc;done)
 rename_i r hr
 split at hc<;>try (cases hc;done)
 rename_i hlen
 cases hc
 obtain ⟨l',hl',⟨⟨r',hw,hlr⟩,hsh,hext⟩,_⟩:=h.heap.obj l _ hr
 rw [hl] at hl';cases hl'
 have hps:rargs.length=r'.params.toList.length:=by rw [←hv.length,hlen,hlr.params]
 obtain ⟨g1,g2⟩:=XoM (ps:=r.params) hlr.env hlr.size hv hlen
 refine Goes.one (hstep _ _ _ _ (run_yield hw (by simpa using hps))) ⟨⟨hlr.fn,?_,?_,.cons (.code hlr.asg) (.cons .beginRound (.cons (.code hlr.body) .nil)),.nil,rfl,rfl,⟨lo,hl,rfl,hsh⟩⟩,.cons h.cur h.up,h.heap⟩
 ·rw [←Array.foldl_toList,Array.toList_zip,hlr.params];exact g2
 ·rw [←Array.foldl_toList,Array.toList_zip,hlr.params];exact g1
theorem Xy2 (hF:Xlt P F) (hS:Xaq P S) {fr:Xb3} {up:List Xb3} {H:Hp} {top:Nat} {rf:Frame} {rfs:List Frame} {w:World} {vm':VM}
 (h:VMR P w0 U ρ ⟨fr,up,H,top⟩ rf rfs w) (hret:fr.ret=false) {o:Xdj} {rest:List Xdj} {k:List XfX} (ht:fr.todo=.inReg (o::rest)::k)
 (hw:Xet fr.env o.g=some true) (hs:XtT F S o rest k fr up H top=some vm') (cs:List Frame):Goes P w0 U ρ cs vm' rf rfs w:=by
 obtain ⟨fn,t,k',d,r,ops,i,is,oo,A⟩:=atOp h.cur hret ht hw
 obtain ⟨hcF,hcV,hcO,hnd⟩:=XoJ A.comp
 unfold XtT at hs
 split at hs<;>try (cases hs;done)
 rename_i vals hvals
 have hvl:=XwP h.cur A.args hvals
 split at hs
 ·rename_i f xs hop
  obtain ⟨ys,ts,hoo,hxs⟩:=hcF f xs hop
  rw [hop] at hvl
  simp only [VOp.ops] at hvl
  have hrun:∀ hfn,(execOp (mkF fn t (.inRegion ops (i::is)::k') d r).eval oo).run P w=.ok (.enter f ⟨xs.map rf.eval⟩) w:=fun hfn=>by
   rw [A.frame,hxs];exact Xtq hoo rfl hfn
  have hstep : (∃ fn, P.funcs[f]? = some fn ∧ fn.name ≠ "runtime.NumGoroutine" ∧ fn.body.isSome = true) → step P (lone rf (rfs ++ cs) w) = .next (lone (Frame.enter P f ⟨xs.map rf.eval⟩ .normal) (rf :: rfs ++ cs) w) := fun hfn => by
   have:=Xo4 (cs:=rfs++cs) A.op A.wanted hnd (hrun hfn)
   rw [←A.frame] at this;exact this
  split at hs
  ·rename_i s hsf
   split at hs<;>try (cases hs;done)
   rename_i v H' top' hsr
   cases hs
   exact XH2 hS hsf h ht hvl hsr (hstep (hS f s hsf).fn)
  ·split at hs<;>try (cases hs;done)
   rename_i c hc
   cases hs
   exact XvW hF h ht hvl hc (hstep (XkC hF hc hvl).2)
 ·rename_i x xs hop
  obtain ⟨tt,ys,ts,rfl,hoo,hxs⟩:=hcV x xs hop
  rw [hop] at hvl
  simp only [VOp.ops,List.map_cons] at hvl
  split at hs
  ·rename_i f first caps args
   obtain ⟨v',l',hl,hf',hargs⟩:=hvl.inv
   obtain ⟨hl1,hl2⟩:=List.cons.inj hl
   obtain ⟨fi,ca,hev,hfi,hca⟩:=hf'.Xr5
   rw [hev] at hl1
   have hvv:VRL ρ (first++args++caps) (fi++xs.map rf.eval++ca):=by rw [hl2];exact (hfi.append hargs).append hca
   have hrun:∀ hfn,(execOp (mkF fn t (.inRegion ops (i::is)::k') d r).eval oo).run P w=.ok (.enter f ⟨fi++xs.map rf.eval++ca⟩) w:=fun hfn=>by
    rw [←A.frame,hxs];exact Xs6 hoo hl1 hfn
   have hstep : (∃ fn, P.funcs[f]? = some fn ∧ fn.name ≠ "runtime.NumGoroutine" ∧ fn.body.isSome = true) → step P (lone rf (rfs ++ cs) w) = .next (lone (Frame.enter P f ⟨fi ++ xs.map rf.eval ++ ca⟩ .normal) (rf :: rfs ++ cs) w) := fun hfn => by
    have:=Xo4 (cs:=rfs++cs) A.op A.wanted hnd (hrun hfn)
    rw [←A.frame] at this;exact this
   split at hs
   ·rename_i s hsf
    split at hs<;>try (cases hs;done)
    rename_i v H' top' hsr
    cases hs
    exact XH2 hS hsf h ht hvv hsr (hstep (hS f s hsf).fn)
   ·split at hs<;>try (cases hs;done)
    rename_i c hc
    cases hs
    exact XvW hF h ht hvv hc (hstep (XkC hF hc hvv).2)
  ·rename_i l args
   obtain ⟨v',l',hl,hf',hargs⟩:=hvl.inv
   obtain ⟨hl1,hl2⟩:=List.cons.inj hl
   obtain ⟨lo,hev,hlo⟩:=hf'.XBX
   rw [hev] at hl1
   split at hs<;>try (cases hs;done)
   rename_i c hc
   cases hs
   exact XB6 h ht hlo (rargs:=xs.map rf.eval) (by rw [hl2];exact hargs) hc (fun f tm aqs bd hx=>by
    have hrun:(execOp (mkF fn t (.inRegion ops (i::is)::k') d r).eval oo).run P w=.ok (.round lo.blk f tm aqs bd) w:=by
     rw [←A.frame]
     have:(⟨xs.map rf.eval⟩:Array Value)=ys.map rf.eval:=by rw [hxs,←Array.toList_map]
     rw [this] at hx
     simp only [execOp,hoo,resolve,hl1,Deferred.ofValue,Sem.run_bind,Sem.run_pure,Result.andThen_ok,invoke,Array.empty_append,hx]
    have:=XC2 (cs:=rfs++cs) A.op A.wanted hnd hrun
    rw [←A.frame] at this;exact this)
  ·cases hs
 ·rename_i op hne1 hne2
  have hnc:Xsc o.op=false:=by
   cases hop:o.op<;>first|rfl|exact absurd hop (hne1 _ _)|exact absurd hop (hne2 _ _)
  split at hs<;>try (cases hs;done)
  rename_i v H' top' hr
  cases hs
  have hvl':VRL ρ vals (o.op.ops.map (mkF fn t (.inRegion ops (i::is)::k') d r).eval):=by rw [←A.frame];exact hvl
  obtain ⟨ρ',w',nx,hx,hext,hh,hnx⟩:=XAU h.heap (hcO hnc) (fun _=>rfl) (fun _=>rfl) hvl' hr
  cases v with
  | some v=>
    obtain ⟨v',rfl,hv'⟩:=hnx
    have hstep:=Xv3 (cs:=rfs++cs) A.op A.wanted hnd hx
    rw [←A.frame] at hstep
    exact ⟨ρ',rf.finish v',rfs,w',.one hstep,⟨Xkp (h.cur.mono hext) ht hv',h.up.mono fun _ _ k=>k.mono hext,hh⟩,hext⟩
  | none=>
    subst hnx
    have hstep:=Xs8 (cs:=rfs++cs) A.op A.wanted hnd hx
    rw [←A.frame] at hstep
    exact ⟨ρ',rf.finish undef,rfs,w',.one hstep,⟨Xkp (h.cur.mono hext) ht Xo0,h.up.mono fun _ _ k=>k.mono hext,hh⟩,hext⟩
end
end Go.Vm
namespace Go.Vm
open Go
abbrev St:=Env×Hp
def EqS (s t:St):Prop:=(∀ i,XaL s.1 i=XaL t.1 i)∧(∀ i,XaL s.2 i=XaL t.2 i)
theorem EqS.refl (s:St):EqS s s:=⟨fun _=>rfl,fun _=>rfl⟩
theorem EqS.symm {s t:St} (h:EqS s t):EqS t s:=⟨fun i=>(h.1 i).symm,fun i=>(h.2 i).symm⟩
theorem EqS.trans {s t u:St} (h:EqS s t) (k:EqS t u):EqS s u:=⟨fun i=>(h.1 i).trans (k.1 i),fun i=>(h.2 i).trans (k.2 i)⟩
structure Rec where
 i:Nat
 o:Xdj
 m:Nat
 m1:Nat
 r:List Nat
 w:List Nat
def Rec.wf (x:Rec):List Nat:=x.w++List.range' x.m (x.m1 - x.m)
def Runs (S:Xmn) (nt:Nat) (x:Rec) (s t:St):Prop:=stepD S nt x.o s.1 s.2 x.m=some (t.1,t.2,x.m1,x.r,x.w)
def tw (o:Xdj):List Nat:=(Xm5 o).2
def tr (o:Xdj):List Nat:=(Xm5 o).1
theorem Xvl {e e2:Env} {x:Operand} (h:∀ t∈tmpsOf [x],XaL e2 t=XaL e t):Xn3 e2 x=Xn3 e x:=by
 cases x<;>simp only [Xn3]
 exact h _ (by simp [tmpsOf])
theorem XpS {t:Nat} {x:Operand} {l:List Operand}:t∈tmpsOf (x::l)↔t∈tmpsOf [x]∨t∈tmpsOf l:=by
 cases x<;>simp [tmpsOf]
theorem Xp6 {e e2:Env}:∀ {l:List Operand},(∀ t∈tmpsOf l,XaL e2 t=XaL e t)→XmR e2 l=XmR e l
 | [],_=>rfl
 | x::l,h=>by
   simp only [XmR]
   rw [Xvl (fun t ht=>h t (XpS.2 (.inl ht))),Xp6 (fun t ht=>h t (XpS.2 (.inr ht)))]
theorem Xsz {e e2:Env} {g:Option (Nat×Bool)} (h:∀ t∈(match g with|some (d,_)=>[d]|none=>[]),XaL e2 t=XaL e t):Xet e2 g=Xet e g:=by
 cases g with
 | none=>rfl
 | some p=>obtain ⟨d,w⟩:=p;simp only [Xet];rw [h d (by simp)]
theorem Xko {h h2:Hp}:∀ {l:List Nat},(∀ b∈l,XaL h2 b=XaL h b)→XiR h2 l=XiR h l
 | [],_=>rfl
 | b::l,hh=>by
   simp only [XiR]
   rw [hh b (by simp),Xko (fun c hc=>hh c (by simp [hc]))]
theorem Xi2:∀ (is:List Nat) (os:List (Option XbF)) (h h2:Hp),(∀ b,b ∉ is→XaL (Xf8 h is os) b=XaL h b)∧((∀ b∈is,XaL h2 b=XaL h b)→∀ b∈is,XaL (Xf8 h2 is os) b=XaL (Xf8 h is os) b)
 | [],os,h,h2=>⟨fun b _=>by simp [Xf8],fun _ b hb=>by cases hb⟩
 | i::is,[],h,h2=>⟨fun b _=>by simp [Xf8],fun e b hb=>by simp only [Xf8];exact e b hb⟩
 | i::is,some o::os,h,h2=>by
   simp only [Xf8]
   have ih:=Xi2 is os (Xf0 h i o) (Xf0 h2 i o)
   refine ⟨fun b hb=>?_,fun e b hb=>?_⟩
   ·rw [ih.1 b (fun h=>hb (by simp [h])),XcB _ _ (fun h=>hb (by simp [h]))]
   ·by_cases hbi:b∈is
    ·exact ih.2 (fun c hc=>by rw [Xbh,Xbh];split;rfl;exact e c (by simp [hc])) b hbi
    ·have hb':b=i:=by simpa [hbi] using hb
     subst hb'
     rw [ih.1 b hbi,(Xi2 is os (Xf0 h2 b o) (Xf0 h2 b o)).1 b hbi,XbK,XbK]
 | i::is,none::os,h,h2=>by
   simp only [Xf8]
   have ih:=Xi2 is os (XoD h i) (XoD h2 i)
   refine ⟨fun b hb=>?_,fun e b hb=>?_⟩
   ·rw [ih.1 b (fun h=>hb (by simp [h])),Xgh _ (fun h=>hb (by simp [h]))]
   ·by_cases hbi:b∈is
    ·exact ih.2 (fun c hc=>by rw [XdM,XdM];split;rfl;exact e c (by simp [hc])) b hbi
    ·have hb':b=i:=by simpa [hbi] using hb
     subst hb'
     rw [ih.1 b hbi,(Xi2 is os (XoD h2 b) (XoD h2 b)).1 b hbi,XfT,XfT]
def XwB (h h2 h' h2':Hp) (W:List Nat):Prop:=(∀ b,b ∉ W→XaL h' b=XaL h b)∧(∀ b,b ∉ W→XaL h2' b=XaL h2 b)∧∀ b∈W,XaL h2' b=XaL h' b
theorem XwB.step {h h2 h1 h21 h' h2':Hp} {W:List Nat} {b:Nat} (e1:∀ c,c≠b→XaL h1 c=XaL h c) (e2:∀ c,c≠b→XaL h21 c=XaL h2 c) (e3:XaL h21 b=XaL h1 b) (k:XwB h1 h21 h' h2' W):XwB h h2 h' h2' (b::W):=by
 obtain ⟨k1,k2,k3⟩:=k
 refine ⟨fun c hc=>?_,fun c hc=>?_,fun c hc=>?_⟩
 ·simp only [List.mem_cons,not_or] at hc;rw [k1 c hc.2,e1 c hc.1]
 ·simp only [List.mem_cons,not_or] at hc;rw [k2 c hc.2,e2 c hc.1]
 ·by_cases hw:c∈W
  ·exact k3 c hw
  ·have:c=b:=by simpa [hw] using hc
   subst this
   rw [k1 c hw,k2 c hw,e3]
theorem Xiy (s:Nat→Option Nat):∀ (ws:List Wd) (cs:List (Option (List Value))) (h h2 h':Hp),(∀ b∈XdJ ws,XaL h2 b=XaL h b)→XdB h s ws cs=some h' →
 ∃ h2',XdB h2 s ws cs=some h2'∧XwB h h2 h' h2' (Xmr ws)
 | [],[],h,h2,h',he,hr=>by
   simp only [XdB,Option.some.injEq] at hr;subst hr
   exact ⟨h2,rfl,⟨fun _ _=>rfl,fun _ _=>rfl,fun b hb=>by simp [Xmr] at hb⟩⟩
 | [],_::_,h,h2,h',he,hr=>by simp [XdB] at hr
 | x::ws,[],h,h2,h',he,hr=>by
   cases x with
   | win b off n wr=>cases wr<;>simp [XdB] at hr
   | blk b wr=>cases wr<;>simp [XdB] at hr
   | _=>simp [XdB] at hr
 | .no::ws,c::cs,h,h2,h',he,hr=>by
   have hr':XdB h s ws cs=some h':=by simpa [XdB] using hr
   obtain ⟨h2',g1,g2⟩:=Xiy s ws cs h h2 h' he hr'
   exact ⟨h2',by simpa [XdB] using g1,g2⟩
 | .emp w::ws,c::cs,h,h2,h',he,hr=>by
   have hr':XdB h s ws cs=some h':=by simpa [XdB] using hr
   obtain ⟨h2',g1,g2⟩:=Xiy s ws cs h h2 h' he hr'
   exact ⟨h2',by simpa [XdB] using g1,g2⟩
 | .win b off n false::ws,c::cs,h,h2,h',he,hr=>by
   have hr':XdB h s ws cs=some h':=by simpa [XdB] using hr
   obtain ⟨h2',g1,g2⟩:=Xiy s ws cs h h2 h' (fun c hc=>he c (by simp [XdJ,Wd.XjI,hc])) hr'
   exact ⟨h2',by simpa [XdB] using g1,by simpa [Xmr,Wd.XjI,Wd.wr] using g2⟩
 | .blk b false::ws,c::cs,h,h2,h',he,hr=>by
   have hr':XdB h s ws cs=some h':=by simpa [XdB] using hr
   obtain ⟨h2',g1,g2⟩:=Xiy s ws cs h h2 h' (fun c hc=>he c (by simp [XdJ,Wd.XjI,hc])) hr'
   exact ⟨h2',by simpa [XdB] using g1,by simpa [Xmr,Wd.XjI,Wd.wr] using g2⟩
 | .win b off n true::ws,none::cs,h,h2,h',he,hr=>by simp [XdB] at hr
 | .win b off n true::ws,some c::cs,h,h2,h',he,hr=>by
   have hb:XaL h2 b=XaL h b:=he b (by simp [XdJ,Wd.XjI])
   simp only [XdB] at hr ⊢
   rw [hb]
   split at hr<;>try (cases hr;done)
   rename_i ob hob
   split at hr<;>try (cases hr;done)
   rename_i x hx
   split at hr<;>try (cases hr;done)
   rename_i c' hc'
   split at hr<;>try (cases hr;done)
   rename_i hc
   split at hr<;>try (cases hr;done)
   rename_i ob' hob'
   obtain ⟨h2',g1,g2⟩:=Xiy s ws cs (Xf0 h b ob') (Xf0 h2 b ob') h' (fun d hd=>by rw [Xbh,Xbh];split;rfl;exact he d (by simp [XdJ,Wd.XjI,hd])) hr
   refine ⟨h2',by simp only [if_pos hc];exact g1,?_⟩
   simp only [Xmr,Wd.XjI,Wd.wr,cond_true]
   exact g2.step (fun c hc=>XcB _ _ (Ne.symm hc)) (fun c hc=>XcB _ _ (Ne.symm hc)) (by rw [XbK,XbK])
 | .blk b true::ws,none::cs,h,h2,h',he,hr=>by
   simp only [XdB] at hr ⊢
   obtain ⟨h2',g1,g2⟩:=Xiy s ws cs (XoD h b) (XoD h2 b) h' (fun d hd=>by rw [XdM,XdM];split;rfl;exact he d (by simp [XdJ,Wd.XjI,hd])) hr
   refine ⟨h2',g1,?_⟩
   simp only [Xmr,Wd.XjI,Wd.wr,cond_true]
   exact g2.step (fun c hc=>Xgh _ (Ne.symm hc)) (fun c hc=>Xgh _ (Ne.symm hc)) (by rw [XfT,XfT])
 | .blk b true::ws,some c::cs,h,h2,h',he,hr=>by
   have hb:XaL h2 b=XaL h b:=he b (by simp [XdJ,Wd.XjI])
   simp only [XdB] at hr ⊢
   rw [hb]
   split at hr<;>try (cases hr;done)
   rename_i ob hob
   split at hr<;>try (cases hr;done)
   rename_i ob' hob'
   obtain ⟨h2',g1,g2⟩:=Xiy s ws cs (Xf0 h b ob') (Xf0 h2 b ob') h' (fun d hd=>by rw [Xbh,Xbh];split;rfl;exact he d (by simp [XdJ,Wd.XjI,hd])) hr
   refine ⟨h2',by first|exact g1|(simp only [hob'];exact g1),?_⟩
   simp only [Xmr,Wd.XjI,Wd.wr,cond_true]
   exact g2.step (fun c hc=>XcB _ _ (Ne.symm hc)) (fun c hc=>XcB _ _ (Ne.symm hc)) (by rw [XbK,XbK])
theorem Xrh (s:Nat→Option Nat):∀ (cs:List (List Value)) (h h2 h':Hp) (m:Nat),Xjg h s m cs=some h' →
 ∃ h2',Xjg h2 s m cs=some h2'∧XwB h h2 h' h2' (List.range' m cs.length)
 | [],h,h2,h',m,hr=>by
   simp only [Xjg,Option.some.injEq] at hr
   subst hr
   exact ⟨h2,rfl,fun _ _=>rfl,fun _ _=>rfl,fun b hb=>by simp at hb⟩
 | c::cs,h,h2,h',m,hr=>by
   simp only [Xjg] at hr ⊢
   split at hr<;>try (cases hr;done)
   rename_i c' hc'
   obtain ⟨h2',g1,g2⟩:=Xrh s cs (Xf0 h m (.row true c')) (Xf0 h2 m (.row true c')) h' (m+1) hr
   refine ⟨h2',g1,?_⟩
   simp only [List.length_cons,List.range'_succ]
   exact g2.step (fun c hc=>XcB _ _ (Ne.symm hc)) (fun c hc=>XcB _ _ (Ne.symm hc)) (by rw [XbK,XbK])
theorem Xro:∀ (n:Nat) (h h2:Hp) (m:Nat),XwB h h2 (XjA h m n) (XjA h2 m n) (List.range' m n)
 | 0,h,h2,m=>⟨fun _ _=>rfl,fun _ _=>rfl,fun b hb=>by simp at hb⟩
 | n+1,h,h2,m=>by
   simp only [XjA,List.range'_succ]
   exact (Xro n _ _ _).step (fun c hc=>XcB _ _ (Ne.symm hc)) (fun c hc=>XcB _ _ (Ne.symm hc)) (by rw [XbK,XbK])
theorem XwB.then {h h2 h1 h21 h' h2':Hp} {W W':List Nat} (a:XwB h h2 h1 h21 W) (b:XwB h1 h21 h' h2' W'):XwB h h2 h' h2' (W++W'):=by
 refine ⟨fun c hc=>?_,fun c hc=>?_,fun c hc=>?_⟩
 ·simp only [List.mem_append,not_or] at hc;rw [b.1 c hc.2,a.1 c hc.1]
 ·simp only [List.mem_append,not_or] at hc;rw [b.2.1 c hc.2,a.2.1 c hc.1]
 ·by_cases hw:c∈W'
  ·exact b.2.2 c hw
  ·rw [b.1 c hw,b.2.1 c hw];exact a.2.2 c (by simpa [hw] using hc)
theorem Xk3 (h:Hp) (v:Value):∀ (ps:List Path) (bs:List PR),(Xhv h v ps bs).length=bs.length+ps.length
 | [],bs=>by simp [Xhv]
 | p::ps,bs=>by rw [Xhv,Xk3 h v ps];simp;omega
theorem XtL {h:Hp} {v:Value} {x:PR}:∀ (ps:List Path) (bs:List PR),x∈bs→x∈Xhv h v ps bs
 | [],bs,hx=>hx
 | p::ps,bs,hx=>XtL ps _ (by simp [hx])
theorem XuC {h h2:Hp} {v:Value} {bs:List PR} {p:Path} (he:∀ b,PR.hit b∈bs→XaL h2 b=XaL h b):XsD h2 v bs p=XsD h v bs p:=by
 unfold XsD
 cases p.src with
 | none=>rfl
 | some i=>
   simp only
   cases hb:bs[i]? with
   | none=>rfl
   | some x=>
     cases x with
     | hit b=>simp only;rw [he b (List.mem_of_getElem? hb)]
     | _=>rfl
theorem XmA {h h2:Hp} {v:Value}:∀ (ps:List Path) (bs:List PR),(∀ b,PR.hit b∈Xhv h v ps bs→XaL h2 b=XaL h b)→Xhv h2 v ps bs=Xhv h v ps bs
 | [],bs,_=>rfl
 | p::ps,bs,he=>by
   rw [Xhv,Xhv,XuC (h:=h) (h2:=h2) (fun b hb=>he b (XtL _ _ hb))]
   exact XmA ps _ (fun b hb=>he b (by rw [Xhv];exact hb))
theorem XjH:∀ (a b:List Wd),XdJ (a++b)=XdJ a++XdJ b
 | [],b=>rfl
 | x::a,b=>by
   rw [List.cons_append,XdJ,XdJ]
   cases x.XjI<;>simp [XjH a b]
theorem Xps {b:Nat}:∀ (ps:List Path) (bs:List PR),bs.length=ps.length→PR.hit b∈bs→b∈XdJ (XsQ ps bs)
 | [],[],_,hb=>by cases hb
 | [],_::_,hl,_=>by simp at hl
 | _::_,[],hl,_=>by simp at hl
 | p::ps,x::bs,hl,hb=>by
   have ih:=fun h=>Xps (b:=b) ps bs (by simpa using hl) h
   cases x with
   | no=>simp only [XsQ,XdJ,Wd.XjI];exact ih (by simpa using hb)
   | nil s=>simp only [XsQ,XdJ,Wd.XjI];exact ih (by simpa using hb)
   | hit c=>
     simp only [XsQ,XdJ,Wd.XjI,List.mem_cons]
     rcases List.mem_cons.1 hb with h|h
     ·cases h;exact .inl rfl
     ·exact .inr (ih h)
theorem XpO {h h2:Hp} {s:Nat→Option Nat} {pat:Option Nat→List (Nat×Value)}:∀ (ps:List Path) (bs:List PR) (i:Nat),(∀ b,PR.hit b∈bs→XaL h2 b=XaL h b)→XfQ h2 s pat i ps bs=XfQ h s pat i ps bs
 | [],[],_,_=>rfl
 | [],_::_,_,_=>rfl
 | _::_,[],_,_=>rfl
 | p::ps,x::bs,i,he=>by
   have ih:=XpO (h:=h) (h2:=h2) (s:=s) (pat:=pat) ps bs (i+1) (fun b hb=>he b (by simp [hb]))
   cases x with
   | no=>simp only [XfQ,ih]
   | nil z=>simp only [XfQ,ih]
   | hit c=>simp only [XfQ,ih];rw [he c (by simp)]
theorem XxG {h h2:Hp} {m:Md} {v:Value} (he:∀ b∈XdJ (XqH h m v),XaL h2 b=XaL h b):XqH h2 m v=XqH h m v:=by
 cases m with
 | tr ps=>
   simp only [XqH] at he ⊢
   rw [XmA ps [] (fun b hb=>he b (Xps _ _ (by simp [Xk3]) hb))]
 | v=>rfl
 | sl sz=>unfold XqH;split<;>first|rfl|(rename_i e;cases e)
 | pt n=>unfold XqH;split<;>first|rfl|(rename_i e;cases e)
theorem Xq2 {h h2:Hp}:∀ {ms:List Md} {vs:List Value},(∀ b∈XdJ (XkJ h ms vs),XaL h2 b=XaL h b)→XkJ h2 ms vs=XkJ h ms vs
 | [],[],_=>rfl
 | [],_::_,_=>rfl
 | _::_,[],_=>rfl
 | m::ms,v::vs,he=>by
   simp only [XkJ,XjH,List.mem_append] at he ⊢
   rw [XxG (fun b hb=>he b (.inl hb)),Xq2 (fun b hb=>he b (.inr hb))]
theorem XsN {h h2:Hp} {k:Nat} {m:Md} {v:Value} (he:∀ b∈XdJ (XqH h m v),XaL h2 b=XaL h b):Xdl h2 k m v=Xdl h k m v:=by
 cases m with
 | v=>rfl
 | sl sz=>
   unfold Xdl
   split<;>(try rfl)<;>(try contradiction)
   rename_i b o n sz' heq
   rw [he _ (by simp [XqH,XdJ,Wd.XjI])]
 | pt n=>
   unfold Xdl
   split<;>(try rfl)<;>(try contradiction)
   rw [he _ (by simp [XqH,XdJ,Wd.XjI])]
 | tr ps=>
   simp only [XqH] at he
   have hw:=XmA (h:=h) (h2:=h2) (v:=v) ps [] (fun b hb=>he b (Xps _ _ (by simp [Xk3]) hb))
   simp only [Xdl,hw]
   rw [XpO (h:=h) (h2:=h2) ps _ 0 (fun b hb=>he b (Xps _ _ (by simp [Xk3]) hb))]
theorem Xml {h h2:Hp}:∀ {ms:List Md} {vs:List Value} {k:Nat},(∀ b∈XdJ (XkJ h ms vs),XaL h2 b=XaL h b)→Xd1 h2 k ms vs=Xd1 h k ms vs
 | [],[],_,_=>rfl
 | [],_::_,_,_=>rfl
 | _::_,[],_,_=>rfl
 | m::ms,v::vs,k,he=>by
   simp only [XkJ,XjH,List.mem_append] at he
   simp only [Xd1]
   rw [XsN (fun b hb=>he b (.inl hb))]
   cases Xdl h k m v with
   | none=>rfl
   | some p=>simp only;rw [Xml (fun b hb=>he b (.inr hb))]
theorem Xq0 {s:XbS} {vals:List Value} {h h2 h':Hp} {m m':Nat} {v:Value} (he:∀ b∈XdJ (XkJ h s.modes vals),XaL h2 b=XaL h b) (hr:XiN s vals h m=some (v,h',m')) :
 XkJ h2 s.modes vals=XkJ h s.modes vals∧∃ h2',XiN s vals h2 m=some (v,h2',m')∧m≤m'∧XwB h h2 h' h2' (Xmr (XkJ h s.modes vals)++List.range' m (m' - m)):=by
 have hwl:=Xq2 he
 refine ⟨hwl,?_⟩
 unfold XiN at hr ⊢
 rw [Xml he,hwl]
 split at hr<;>try (cases hr;done)
 rename_i aqs os has
 split at hr<;>try (cases hr;done)
 rename_i v0 new wr hrun
 split at hr<;>try (cases hr;done)
 rename_i hap
 split at hr<;>try (cases hr;done)
 rename_i h1 hwb
 split at hr<;>try (cases hr;done)
 rename_i hN hadd
 split at hr<;>try (cases hr;done)
 rename_i v' hv'
 cases hr
 generalize XkJ h s.modes vals=ws at *
 obtain ⟨h21,g1,g2⟩:=Xiy _ ws _ h h2 h1 he hwb
 obtain ⟨h22,k1,k2⟩:=Xrh _ _ h1 h21 _ _ hadd
 have l1:=Xro (XlJ ws) hN h22 (m+new.length)
 refine ⟨XjA h22 (m+new.length) (XlJ ws),by simp only [g1,k1],by omega,?_⟩
 have:=(g2.then k2).then l1
 rw [List.append_assoc] at this
 rw [show m+new.length+XlJ ws - m=new.length+XlJ ws by omega,←List.range'_append_1 (s:=m)]
 exact this
theorem Xoy:∀ (is:List Nat) (os:List XbF) (h:Hp),XiR h is=some os→∀ b,XaL (Xf8 h is (os.map some)) b=XaL h b
 | [],os,h,he,b=>by simp [Xf8]
 | i::is,os,h,he,b=>by
   simp only [XiR] at he
   split at he<;>try (cases he;done)
   rename_i o ho
   split at he<;>try (cases he;done)
   rename_i os' hos
   cases he
   simp only [List.map_cons,Xf8]
   have hc:∀ c,XaL (Xf0 h i o) c=XaL h c:=fun c=>by
    rw [Xbh];split
    ·rename_i e;subst e;exact ho.symm
    ·rfl
   rw [Xoy is os' (Xf0 h i o) (by rw [Xko (h:=h) (fun c _=>hc c)];exact hos),hc]
theorem Xzr {op:VOp} {vals:List Value} {objs:List XbF} {m:Nat} {r:Xdm} (hw:XzX op=false) (hr:core op vals objs m=some r):needs op vals=[]∨(r.objs=objs.map some∧r.fresh=none):=by
 cases op<;>first|exact .inl rfl|(simp [XzX] at hw;done)|skip
 case mget=>
  right
  simp only [core] at hr
  unfold XnH at hr
  split at hr
  ·split at hr<;>cases hr;exact ⟨rfl,rfl⟩
  ·split at hr<;>cases hr;exact ⟨rfl,rfl⟩
  ·cases hr
 case lenM=>
  right
  simp only [core] at hr
  unfold XoR at hr
  split at hr<;>cases hr<;>exact ⟨rfl,rfl⟩
 all_goals
  right
  simp only [core] at hr
 ·unfold XjG at hr
  split at hr<;>try (cases hr;done)
  split at hr<;>try (cases hr;done)
  split at hr<;>cases hr
  exact ⟨rfl,rfl⟩
 ·unfold XjE at hr
  split at hr<;>try (cases hr;done)
  split at hr<;>try (cases hr;done)
  split at hr<;>cases hr
  exact ⟨rfl,rfl⟩
 ·unfold Xsd at hr
  split at hr
  ·cases hr;exact ⟨rfl,rfl⟩
  ·split at hr<;>try (cases hr;done)
   split at hr<;>try (cases hr;done)
   split at hr<;>cases hr
   exact ⟨rfl,rfl⟩
  ·cases hr
 ·unfold Xjy at hr
  split at hr<;>try (cases hr;done)
  split at hr<;>try (cases hr;done)
  split at hr<;>try (cases hr;done)
  split at hr<;>cases hr
  exact ⟨rfl,rfl⟩
 ·unfold Xxs at hr
  split at hr<;>try (cases hr;done)
  split at hr<;>cases hr
  exact ⟨rfl,rfl⟩
 ·unfold Xw0 at hr
  split at hr<;>try (cases hr;done)
  split at hr<;>cases hr
  exact ⟨rfl,rfl⟩
theorem XAD {op:VOp} {vals:List Value} {h h2 h':Hp} {m m':Nat} {x:Option Value} (he:∀ b∈needs op vals,XaL h2 b=XaL h b) (hr:XcO op vals h m=some (x,h',m')) :
 ∃ h2',XcO op vals h2 m=some (x,h2',m')∧m≤m'∧XwB h h2 h' h2' (cond (XzX op) (needs op vals) []++List.range' m (m' - m)):=by
 unfold XcO at hr ⊢
 rw [Xko he]
 split at hr<;>try (cases hr;done)
 rename_i objs hobjs
 split at hr<;>try (cases hr;done)
 rename_i v os fr hc
 have key:XwB h h2 (Xf8 h (needs op vals) os) (Xf8 h2 (needs op vals) os) (cond (XzX op) (needs op vals) []):=by
  cases hw:XzX op with
  | true=>
    simp only [cond_true]
    have a:=Xi2 (needs op vals) os h h2
    have b:=Xi2 (needs op vals) os h2 h2
    exact ⟨a.1,b.1,a.2 he⟩
  | false=>
    simp only [cond_false]
    rcases Xzr hw hc with hn|⟨ho,_⟩
    ·rw [hn];simp only [Xf8]
     exact ⟨fun _ _=>rfl,fun _ _=>rfl,fun b hb=>by cases hb⟩
    ·simp only at ho
     subst ho
     exact ⟨fun b _=>Xoy _ _ _ hobjs b,fun b _=>Xoy _ _ _ (by rw [Xko he];exact hobjs) b,fun b hb=>by cases hb⟩
 split at hr
 ·rename_i hfr
  cases hr
  refine ⟨_,rfl,Nat.le_refl _,?_⟩
  simpa using key
 ·rename_i o hfr
  cases hr
  refine ⟨_,rfl,Nat.le_succ _,?_⟩
  simp only [Nat.add_sub_cancel_left,List.range'_one]
  refine ⟨fun b hb=>?_,fun b hb=>?_,fun b hb=>?_⟩
  ·simp only [List.mem_append,List.mem_singleton,not_or] at hb
   rw [XcB _ _ (fun e=>hb.2 e.symm)];exact key.1 b hb.1
  ·simp only [List.mem_append,List.mem_singleton,not_or] at hb
   rw [XcB _ _ (fun e=>hb.2 e.symm)];exact key.2.1 b hb.1
  ·simp only [List.mem_append,List.mem_singleton] at hb
   rw [Xbh,Xbh]
   split
   ·rfl
   ·exact key.2.2 b (hb.resolve_right fun e=>by subst e;contradiction)
theorem Xnf (nt:Nat) (e e2:Env) (o:Xdj) (v:Value):(∀ b,b ∉ tw o→XaL (XqE nt e o.dst v) b=XaL e b)∧(∀ b,b ∉ tw o→XaL (XqE nt e2 o.dst v) b=XaL e2 b) ∧
 ∀ b∈tw o,XaL (XqE nt e2 o.dst v) b=if b<nt then XaL (XqE nt e o.dst v) b else XaL e2 b:=by
 unfold tw Xm5
 cases hd:o.dst with
 | none=>exact ⟨fun _ _=>rfl,fun _ _=>rfl,fun b hb=>by cases hb⟩
 | some d=>
   simp only [XqE,List.mem_singleton]
   cases hb:Nat.blt d nt with
   | false=>
     have:¬ d<nt:=fun h=>by rw [←Nat.blt_eq] at h;simp [hb] at h
     simp only [cond_false]
     refine ⟨?_,?_,?_⟩
     ·intro _ _;trivial
     ·intro _ _;trivial
     ·intro b hb;subst hb;rw [if_neg this]
   | true=>
     have:d<nt:=by rw [←Nat.blt_eq];exact hb
     simp only [cond_true]
     refine ⟨fun b hb=>XcB _ _ (fun e=>hb e.symm),fun b hb=>XcB _ _ (fun e=>hb e.symm),fun b hb=>?_⟩
     subst hb
     rw [if_pos this,XbK,XbK]
theorem Runs.local {S:Xmn} {nt:Nat} {x:Rec} {s t s2:St} (h:Runs S nt x s t) (ht:∀ i∈tr x.o,XaL s2.1 i=XaL s.1 i) (hb:∀ i∈x.r,XaL s2.2 i=XaL s.2 i) :
 ∃ t2,Runs S nt x s2 t2∧x.m≤x.m1∧XwB s.2 s2.2 t.2 t2.2 x.wf∧(∀ b,b ∉ tw x.o→XaL t.1 b=XaL s.1 b)∧(∀ b,b ∉ tw x.o→XaL t2.1 b=XaL s2.1 b)∧∀ b∈tw x.o,XaL t2.1 b=if b<nt then XaL t.1 b else XaL s2.1 b:=by
 obtain ⟨e,hp⟩:=s
 obtain ⟨e2,h2⟩:=s2
 obtain ⟨et,htp⟩:=t
 obtain ⟨i,o,m,m1,r,w⟩:=x
 simp only [Runs,stepD,Rec.wf] at *
 have hg:Xet e2 o.g=Xet e o.g:=Xsz fun t hm=>ht t (by simp only [tr,Xm5,List.mem_append];exact .inl hm)
 have hv:XmR e2 o.op.ops=XmR e o.op.ops:=Xp6 fun t hm=>ht t (by simp only [tr,Xm5,List.mem_append];exact .inr hm)
 rw [hg,hv]
 split at h<;>try (cases h;done)
 ·simp only [Option.some.injEq,Prod.mk.injEq] at h
  obtain ⟨rfl,rfl,rfl,rfl,rfl⟩:=h
  have p:=Xnf nt e e2 o XhI
  exact ⟨(_,h2),rfl,Nat.le_refl _,⟨fun _ _=>rfl,fun _ _=>rfl,fun b hb=>by simp at hb⟩,p.1,p.2.1,p.2.2⟩
 ·split at h<;>try (cases h;done)
  rename_i vals hvals
  split at h
  ·split at h<;>try (cases h;done)
   rename_i s hs
   split at h<;>try (cases h;done)
   rename_i v h' m' hr
   simp only [Option.some.injEq,Prod.mk.injEq] at h
   obtain ⟨rfl,rfl,rfl,rfl,rfl⟩:=h
   obtain ⟨hwl,h2',g1,g2,g3⟩:=Xq0 hb hr
   have p:=Xnf nt e e2 o v
   refine ⟨(_,h2'),by simp only [g1,hwl];rfl,g2,g3,p.1,p.2.1,p.2.2⟩
  ·split at h<;>try (cases h;done)
   split at h<;>try (cases h;done)
   rename_i s hs
   split at h<;>try (cases h;done)
   rename_i v h' m' hr
   simp only [Option.some.injEq,Prod.mk.injEq] at h
   obtain ⟨rfl,rfl,rfl,rfl,rfl⟩:=h
   obtain ⟨hwl,h2',g1,g2,g3⟩:=Xq0 hb hr
   have p:=Xnf nt e e2 o v
   refine ⟨(_,h2'),by simp only [g1,hwl];rfl,g2,g3,p.1,p.2.1,p.2.2⟩
  ·split at h<;>try (cases h;done)
   rename_i v h' m' hr
   simp only [Option.some.injEq,Prod.mk.injEq] at h
   obtain ⟨rfl,rfl,rfl,rfl,rfl⟩:=h
   obtain ⟨h2',g1,g2,g3⟩:=XAD hb hr
   have p:=Xnf nt e e2 o (v.getD XhI)
   refine ⟨(_,h2'),by simp only [g1];rfl,g2,g3,p.1,p.2.1,p.2.2⟩
theorem Runs.congr {S:Xmn} {nt:Nat} {x:Rec} {s t s2:St} (h:Runs S nt x s t) (he:EqS s s2):∃ t2,Runs S nt x s2 t2∧EqS t t2:=by
 obtain ⟨t2,g1,_,g3,g4,g5,g6⟩:=h.local (fun i _=>(he.1 i).symm) (fun i _=>(he.2 i).symm)
 obtain ⟨t3,k1,_,k3,k4,k5,k6⟩:=h.local (s2:=s) (fun i _=>rfl) (fun i _=>rfl)
 have:t3=t:=by simp only [Runs] at h k1;rw [h] at k1;simp only [Option.some.injEq,Prod.mk.injEq] at k1;obtain ⟨a,b,_⟩:=k1;exact Prod.ext a.symm b.symm
 subst this
 refine ⟨t2,g1,fun i=>?_,fun i=>?_⟩
 ·by_cases hi:i∈tw x.o
  ·rw [g6 i hi,k6 i hi];split
   ·rfl
   ·exact he.1 i
  ·rw [g4 i hi,g5 i hi];exact he.1 i
 ·by_cases hi:i∈x.wf
  ·exact (g3.2.2 i hi).symm
  ·rw [g3.1 i hi,g3.2.1 i hi];exact he.2 i
theorem XzD {v:Value} {r:Xdm} (h:val v=some r):r.fresh=none:=by simp only [val,Option.some.injEq] at h;subst h;rfl
theorem Xxo {op:VOp} {vals:List Value} {objs:List XbF} {m:Nat} {r:Xdm} (hk:Xrs op≠2) (hr:core op vals objs m=some r):r.fresh=none:=by
 cases op<;>first|(exact absurd rfl hk)|skip
 all_goals simp only [core] at hr
 all_goals (try unfold c_mv at hr)<;>(try unfold Xtj at hr)<;>(try unfold Xle at hr)<;>(try unfold XjG at hr)<;>(try unfold XjE at hr)<;>(try unfold Xl2 at hr)<;>(try unfold Xu0 at hr)<;>(try unfold XCa at hr)<;>(try unfold Xmp at hr)<;>(try unfold Xsr at hr)<;>(try unfold XE9 at hr)<;>(try unfold XEJ at hr)<;>(try unfold XwK at hr)<;>(try unfold XwL at hr)<;>(try unfold Xsd at hr)<;>(try unfold XEU at hr)<;>(try unfold XD2 at hr)<;>(try unfold Xr3 at hr)<;>(try unfold Xny at hr)<;>(try unfold Xo9 at hr)<;>(try unfold XlQ at hr)<;>(try unfold Xj7 at hr)<;>(try unfold Xjy at hr)<;>(try unfold Xpg at hr)<;>(try unfold Xsh at hr)<;>(try unfold Xr4 at hr)<;>(try unfold Xok at hr)<;>(try unfold Xot at hr)<;>(try unfold Xoj at hr)<;>(try unfold Xoe at hr)<;>(try unfold Xrq at hr)<;>(try unfold Xx0 at hr)<;>(try unfold XnJ at hr)<;>(try unfold XvS at hr)<;>(try unfold XvF at hr)<;>(try unfold XwO at hr)<;>(try unfold Xpw at hr)<;>(try unfold XFf at hr)<;>(try unfold Xxs at hr)<;>(try unfold Xw0 at hr)<;>(try unfold Xsn at hr)<;>(try unfold XnH at hr)<;>(try unfold XoR at hr)
 all_goals repeat' (first|(exact XzD hr)|(cases hr;rfl)|(cases hr;done)|split at hr)
theorem XpG {op:VOp} {vals:List Value} {h h':Hp} {m m':Nat} {x:Option Value} (hk:Xrs op≠2) (hr:XcO op vals h m=some (x,h',m')):m'=m:=by
 unfold XcO at hr
 split at hr<;>try (cases hr;done)
 split at hr<;>try (cases hr;done)
 rename_i v os fr hc
 have:=Xxo hk hc
 simp only at this
 subst this
 cases hr;rfl
theorem Runs.kind {S:Xmn} {nt:Nat} {x:Rec} {s t:St} (h:Runs S nt x s t):(Xrs x.o.op=0→x.r=[]∧x.wf=[])∧(Xrs x.o.op=1→x.wf=[]):=by
 obtain ⟨i,o,m,m1,r,w⟩:=x
 simp only [Runs,stepD,Rec.wf] at *
 split at h<;>try (cases h;done)
 ·simp only [Option.some.injEq,Prod.mk.injEq] at h
  obtain ⟨_,_,rfl,rfl,rfl⟩:=h
  simp
 ·split at h<;>try (cases h;done)
  rename_i vals hvals
  split at h
  ·rename_i hop;rw [hop];simp [Xrs]
  ·rename_i hop;rw [hop];simp [Xrs]
  ·split at h<;>try (cases h;done)
   rename_i v h' m' hr
   simp only [Option.some.injEq,Prod.mk.injEq] at h
   obtain ⟨_,_,rfl,rfl,rfl⟩:=h
   refine ⟨fun hk=>?_,fun hk=>?_⟩
   ·have hm:=XpG (by rw [hk];decide) hr
    subst hm
    have hn:needs o.op vals=[]:=by
     cases ho:o.op<;>rw [ho] at hk<;>first|rfl|(simp [Xrs] at hk;done)
    rw [hn]
    cases XzX o.op<;>simp
   ·have hm:=XpG (by rw [hk];decide) hr
    subst hm
    have hw:XzX o.op=false:=by
     cases ho:o.op<;>rw [ho] at hk<;>first|rfl|(simp [Xrs] at hk;done)
    rw [hw];simp
structure NoC (x y:Rec):Prop where
 t1:∀ t∈tw x.o,t ∉ tr y.o
 t2:∀ t∈tw x.o,t ∉ tw y.o
 t3:∀ t∈tw y.o,t ∉ tr x.o
 b1:∀ b∈x.wf,b ∉ y.r
 b2:∀ b∈x.wf,b ∉ y.wf
 b3:∀ b∈y.wf,b ∉ x.r
theorem Runs.swap {S:Xmn} {nt:Nat} {x y:Rec} {s s1 s2:St} (hx:Runs S nt x s s1) (hy:Runs S nt y s1 s2) (hc:NoC x y):∃ t1 t2,Runs S nt y s t1∧Runs S nt x t1 t2∧EqS s2 t2:=by
 obtain ⟨_,a1,_,a3,a4,_,a6⟩:=hx.local (s2:=s) (fun i _=>rfl) (fun i _=>rfl)
 obtain ⟨t1,b1,_,b3,b4,b5,b6⟩:=hy.local (s2:=s) (fun i hi=>(a4 i (fun h=>hc.t1 i h hi)).symm) (fun i hi=>(a3.1 i (fun h=>hc.b1 i h hi)).symm)
 obtain ⟨t2,c1,_,c3,c4,c5,c6⟩:=hx.local (s2:=t1) (fun i hi=>b5 i (fun h=>hc.t3 i h hi)) (fun i hi=>b3.2.1 i (fun h=>hc.b3 i h hi))
 refine ⟨t1,t2,b1,c1,fun i=>?_,fun i=>?_⟩
 ·by_cases hix:i∈tw x.o
  ·have hiy:=hc.t2 i hix
   rw [b4 i hiy,c6 i hix]
   split
   ·rfl
   ·rw [b5 i hiy]
    have hh:=a6 i hix
    rename_i hn
    have:XaL s1.1 i=XaL s.1 i:=by
     have e:=(Xnf nt s.1 s.1 x.o XhI).2.2 i hix
     obtain ⟨u,q1,_,_,_,_,q6⟩:=hx.local (s2:=s) (fun i _=>rfl) (fun i _=>rfl)
     have:u=s1:=by simp only [Runs] at hx q1;rw [hx] at q1;simp only [Option.some.injEq,Prod.mk.injEq] at q1;obtain ⟨a,b,_⟩:=q1;exact Prod.ext a.symm b.symm
     subst this
     have:=q6 i hix
     rw [if_neg hn] at this;exact this
    exact this
  ·rw [c5 i hix]
   by_cases hiy:i∈tw y.o
   ·rw [b6 i hiy]
    split
    ·rfl
    ·rename_i hn
     obtain ⟨u,q1,_,_,_,_,q6⟩:=hy.local (s2:=s1) (fun i _=>rfl) (fun i _=>rfl)
     have:u=s2:=by simp only [Runs] at hy q1;rw [hy] at q1;simp only [Option.some.injEq,Prod.mk.injEq] at q1;obtain ⟨a,b,_⟩:=q1;exact Prod.ext a.symm b.symm
     subst this
     have:=q6 i hiy
     rw [if_neg hn] at this
     rw [this,a4 i hix]
   ·rw [b4 i hiy,b5 i hiy,a4 i hix]
 ·by_cases hix:i∈x.wf
  ·have hiy:=hc.b2 i hix
   rw [b3.1 i hiy,c3.2.2 i hix]
  ·rw [c3.2.1 i hix]
   by_cases hiy:i∈y.wf
   ·rw [b3.2.2 i hiy]
   ·rw [b3.1 i hiy,b3.2.1 i hiy,a3.1 i hix]
def Chain (S:Xmn) (nt:Nat):List Rec→St→St→Prop
 | [],s,t=>EqS s t
 | x::l,s,t=>∃ s1,Runs S nt x s s1∧Chain S nt l s1 t
theorem Chain.congr {S:Xmn} {nt:Nat}:∀ {l:List Rec} {s s2 t:St},Chain S nt l s t→EqS s s2→Chain S nt l s2 t
 | [],_,_,_,h,e=>e.symm.trans h
 | _::_,_,_,_,⟨s1,h1,h2⟩,e=>by
   obtain ⟨t2,g1,g2⟩:=h1.congr e
   exact ⟨t2,g1,h2.congr g2⟩
theorem Chain.front {S:Xmn} {nt:Nat} {y:Rec} {b:List Rec}:∀ {a:List Rec} {s t:St},Chain S nt (a++y::b) s t→(∀ x∈a,NoC x y)→Chain S nt (y::(a++b)) s t
 | [],_,_,h,_=>h
 | x::a,s,t,⟨s1,h1,h2⟩,hc=>by
   obtain ⟨s2,g1,g2⟩:=Chain.front (a:=a) h2 (fun z hz=>hc z (by simp [hz]))
   obtain ⟨t1,t2,k1,k2,k3⟩:=h1.swap g1 (hc x (by simp))
   exact ⟨t1,k1,t2,k2,g2.congr k3⟩
end Go.Vm
namespace Go.Vm
open Go Go.RowKit
theorem Xvq (m i:Nat):XxM m i=m.testBit i:=by
 unfold XxM Nat.testBit
 rw [show Nat.shiftRight m i=m >>> i from rfl,show Nat.land 1 (m >>> i)=1 &&& (m >>> i) from rfl]
 rw [Nat.one_and_eq_mod_two]
 rcases Nat.mod_two_eq_zero_or_one (m >>> i) with h|h<;>rw [h]<;>rfl
theorem XvV {x:Nat}:∀ {l:List Nat},XG7 x l=true↔x∈l
 | []=>by simp [XG7]
 | y::l=>by
   simp only [XG7,List.mem_cons]
   cases hb:Nat.beq x y with
   | true=>simp [Nat.eq_of_beq_eq_true hb]
   | false=>
     have:x≠y:=fun e=>by subst e;simp at hb
     simp [this,XvV]
theorem XgD:∀ {l k:List Nat},Xxa l k=true→∀ x∈l,x ∉ k
 | [],_,_,x,h=>by cases h
 | y::l,k,h,x,hx=>by
   simp only [Xxa] at h
   cases hb:XG7 y k with
   | true=>rw [hb] at h;cases h
   | false=>
     rw [hb,cond_false] at h
     rcases List.mem_cons.1 hx with rfl|hx
     ·intro hk;rw [XvV.2 hk] at hb;cases hb
     ·exact XgD h x hx
theorem Xrk {i:Nat} {f:Fp}:∀ {ms:List Nat} {fs:List Fp},XyU i f ms fs=true→∀ (q:Nat) g,fs[q]?=some g→∃ m,ms[q]?=some m∧(m.testBit i=true∨Xme f g=true)
 | _,[],_,q,g,h=>by simp at h
 | [],_::_,h,_,_,_=>by simp [XyU] at h
 | m::ms,x::fs,h,q,g,hq=>by
   simp only [XyU,Bool.and_eq_true,Bool.or_eq_true,Xvq] at h
   cases q with
   | zero=>simp at hq;subst hq;exact ⟨m,rfl,h.1⟩
   | succ q=>simpa using Xrk h.2 q g (by simpa using hq)
theorem XrC:∀ {i:Nat} {ms:List Nat} {fs:List Fp},Xu1 i ms fs=true→∀ (p q:Nat) f g,p<q→fs[p]?=some f→fs[q]?=some g→∃ m,ms[q]?=some m∧(m.testBit (i+p)=true∨Xme f g=true)
 | _,_,[],_,p,q,f,g,_,h,_=>by simp at h
 | _,[],_::_,h,_,_,_,_,_,_,_=>by simp [Xu1] at h
 | i,m::ms,x::fs,h,p,q,f,g,hpq,hp,hq=>by
   simp only [Xu1,Bool.and_eq_true] at h
   obtain ⟨q,rfl⟩:∃ r,q=r+1:=⟨q - 1,by omega⟩
   cases p with
   | zero=>
     simp at hp;subst hp
     simpa using Xrk h.1 q g (by simpa using hq)
   | succ p=>
     obtain ⟨m',h1,h2⟩:=XrC h.2 p q f g (by omega) (by simpa using hp) (by simpa using hq)
     exact ⟨m',by simpa using h1,by rwa [show i+(p+1)=i+1+p by omega]⟩
theorem XrJ {i:Nat} {a:VOp}:∀ {ms:List Nat} {os:List Xdj} {j:Nat} (q:Nat) (o:Xdj),os[q]?=some o→∀ m,ms[q]?=some m→m.testBit i=true∨Xku a o.op=true∨(i,j+q)∈Xzm i j a ms os
 | [],_,_,q,o,_,m,h=>by simp at h
 | _::_,[],_,q,o,h,_,_=>by simp at h
 | m0::ms,x::os,j,q,o,ho,m,hm=>by
   simp only [Xzm]
   cases q with
   | zero=>
     simp at ho hm;subst ho;subst hm
     cases hb:XxM m0 i with
     | true=>exact .inl (by rw [←Xvq];exact hb)
     | false=>
       cases hp:Xku a x.op with
       | true=>exact .inr (.inl rfl)
       | false=>exact .inr (.inr (by simp))
   | succ q=>
     rcases XrJ (i:=i) (a:=a) (ms:=ms) (os:=os) (j:=j+1) q o (by simpa using ho) m (by simpa using hm) with h|h|h
     ·exact .inl h
     ·exact .inr (.inl h)
     ·refine .inr (.inr ?_)
      rw [show j+1+q=j+(q+1) by omega] at h
      cases (XxM m0 i||Xku a x.op) with
      | true=>exact h
      | false=>exact List.mem_cons_of_mem _ h
theorem Xmg:∀ {i:Nat} {ms:List Nat} {os:List Xdj} (p q:Nat) (a b:Xdj),p<q→os[p]?=some a→os[q]?=some b→∀ m,ms[q]?=some m→m.testBit (i+p)=true∨Xku a.op b.op=true∨(i+p,i+q)∈XjP i ms os
 | _,[],_,p,q,a,b,_,_,_,m,h=>by simp at h
 | _,_::_,[],p,q,a,b,_,h,_,_,_=>by simp at h
 | i,m0::ms,x::os,p,q,a,b,hpq,ha,hb,m,hm=>by
   simp only [XjP]
   obtain ⟨q,rfl⟩:∃ r,q=r+1:=⟨q - 1,by omega⟩
   cases p with
   | zero=>
     simp at ha;subst ha
     rcases XrJ (i:=i) (a:=x.op) (j:=i+1) q b (by simpa using hb) m (by simpa using hm) with h|h|h
     ·exact .inl h
     ·exact .inr (.inl h)
     ·refine .inr (.inr (List.mem_append_left _ ?_))
      rwa [show i+1+q=i+(q+1) by omega] at h
   | succ p=>
     rcases Xmg (i:=i+1) (ms:=ms) (os:=os) p q a b (by omega) (by simpa using ha) (by simpa using hb) m (by simpa using hm) with h|h|h
     ·exact .inl (by rwa [show i+(p+1)=i+1+p by omega])
     ·exact .inr (.inl h)
     ·refine .inr (.inr (List.mem_append_right _ ?_))
      rwa [show i+1+p=i+(p+1) by omega,show i+1+q=i+(q+1) by omega] at h
theorem XoB {fps:List Fp}:∀ {l:List (Nat×Nat)},Xoc fps l=true→∀ i j,(i,j)∈l→∀ a b,fps[i]?=some a→fps[j]?=some b→Xme a b=true
 | [],_,i,j,h,_,_,_,_=>by cases h
 | (p,q)::l,h,i,j,hm,a,b,ha,hb=>by
   simp only [Xoc,Bool.and_eq_true] at h
   rcases List.mem_cons.1 hm with e|hm
   ·cases e
    have:=h.1
    rw [ha,hb] at this;exact this
   ·exact XoB h.2 i j hm a b ha hb
def Xn9 (ops:Array Oper) (j:Nat):List Nat:=match ops[j]? with
 | some o=>(o.after.toList.filter (Region.binds .any)).map (·.on)
 | none=>[]
def Xwx (md:Region.Mode) (ops:Array Oper):Prop:=∃ rk:Nat→Nat,∀ (j:Nat) o,ops[j]?=some o→∀ e∈o.after.toList,Region.binds md e=true→e.on<ops.size∧rk e.on<rk j
theorem Xob {md:Region.Mode} {rk:Nat→Nat} {n:Nat}:∀ {l:List Oper} {i:Nat},Xu7 md rk n i l=true→∀ (k:Nat) o,l[k]?=some o→∀ e∈o.after.toList,Region.binds md e=true→e.on<n∧rk e.on<rk (i+k)
 | [],_,_,k,o,h=>by simp at h
 | x::l,i,h,k,o,hk=>by
   simp only [Xu7,Bool.and_eq_true,List.all_eq_true,Bool.or_eq_true] at h
   cases k with
   | zero=>
     simp at hk;subst hk
     intro e he hb
     rcases h.1 e he with h1|h1
     ·rw [hb] at h1;cases h1
     ·exact ⟨Nat.blt_eq.mp h1.1,Nat.blt_eq.mp h1.2⟩
   | succ k=>
     intro e he hb
     have:=Xob h.2 k o (by simpa using hk) e he hb
     rwa [show i+1+k=i+(k+1) by omega] at this
theorem XzQ {ops:Array Oper} (h:Xjb ops=true) (md:Region.Mode) (hd:md=.any∨Region.departs ops=true):Xwx md ops:=by
 simp only [Xjb,Bool.and_eq_true,Bool.or_eq_true] at h
 have key:∀ {md rk},Xu7 md rk ops.size 0 ops.toList=true→Xwx md ops:=fun {md rk} h=>
  ⟨rk,fun j o ho e he hb=>by simpa using Xob h j o (by rw [Array.getElem?_toList];exact ho) e he hb⟩
 rcases hd with rfl|hd
 ·exact key h.1
 ·rcases h.2 with h2|h2
  ·rw [hd] at h2;cases h2
  ·cases md
   ·exact key h2.1
   ·exact key h2.2
   ·exact key h.1
theorem XnU {ops:Array Oper} (h:Xjb ops=true) (k:Nat) (o:Oper) (hk:ops.toList[k]?=some o):∀ e∈o.after.toList,Region.binds .any e=true→e.on<k:=by
 simp only [Xjb,Bool.and_eq_true] at h
 intro e he hb
 simpa using (Xob h.1 k o hk e he hb).2
theorem Xt6 (acc:List Nat):∀ (l:List Edge) (s i:Nat),(l.foldl (fun s e=>if Region.binds .any e then s ||| 2^e.on ||| acc.getD e.on 0 else s) s).testBit i=true →
 s.testBit i=true∨∃ e∈l,Region.binds .any e=true∧(i=e.on∨(acc.getD e.on 0).testBit i=true)
 | [],s,i,h=>.inl h
 | e::l,s,i,h=>by
   rw [List.foldl_cons] at h
   rcases Xt6 acc l _ i h with h|⟨e',h1,h2,h3⟩
   ·split at h
    ·rename_i hb
     rw [Nat.testBit_or,Nat.testBit_or,Bool.or_eq_true,Bool.or_eq_true] at h
     rcases h with (h|h)|h
     ·exact .inl h
     ·rw [Nat.testBit_two_pow] at h
      exact .inr ⟨e,by simp,hb,.inl (by simpa using h:e.on=i).symm⟩
     ·exact .inr ⟨e,by simp,hb,.inr h⟩
    ·exact .inl h
   ·exact .inr ⟨e',by simp [h1],h2,h3⟩
theorem XlX:∀ (l:List Oper) (acc:List Nat),(∀ k,k<acc.length→(Xfj.go acc l)[k]?=acc[k]?)∧(Xfj.go acc l).length=acc.length+l.length ∧
 ∀ (k:Nat) o,l[k]?=some o→(∀ e∈o.after.toList,Region.binds .any e=true→e.on<acc.length+k)→∀ i,((Xfj.go acc l).getD (acc.length+k) 0).testBit i=true →
  ∃ e∈o.after.toList,Region.binds .any e=true∧(i=e.on∨((Xfj.go acc l).getD e.on 0).testBit i=true)
 | [],acc=>⟨fun _ _=>rfl,rfl,fun k o h=>by simp at h⟩
 | x::l,acc=>by
   obtain ⟨g1,g2,g3⟩:=XlX l (acc++[x.after.toList.foldl (fun s e=>if Region.binds .any e then s ||| 2^e.on ||| acc.getD e.on 0 else s) 0])
   have hs:∀ k,k<acc.length+1→(Xfj.go acc (x::l))[k]?=(acc++[x.after.toList.foldl (fun s e=>if Region.binds .any e then s ||| 2^e.on ||| acc.getD e.on 0 else s) 0])[k]?:=fun k hk=>g1 k (by simp;omega)
   refine ⟨fun k hk=>?_,by simp only [Xfj.go];rw [g2];simp;omega,fun k o hk hb i hi=>?_⟩
   ·rw [hs k (by omega),List.getElem?_append_left hk]
   ·cases k with
    | zero=>
      simp at hk;subst hk
      rw [Nat.add_zero,List.getD_eq_getElem?_getD,hs _ (by omega),List.getElem?_append_right (by omega),Nat.sub_self] at hi
      simp only [List.getElem?_cons_zero,Option.getD_some] at hi
      rcases Xt6 acc _ 0 i hi with h|⟨e,h1,h2,h3⟩
      ·simp at h
      ·refine ⟨e,h1,h2,h3.imp id fun h=>?_⟩
       have he:=hb e h1 h2
       rw [List.getD_eq_getElem?_getD,hs _ (by omega),List.getElem?_append_left (by omega),←List.getD_eq_getElem?_getD];exact h
    | succ k=>
      have:=g3 k o (by simpa using hk) (fun e he hbe=>by have:=hb e he hbe;simp;omega) i (by simp only [List.length_append,List.length_cons,List.length_nil];simp only [Xfj.go] at hi;rwa [show acc.length+(0+1)+k=acc.length+(k+1) by omega])
      exact this
theorem Xoq {ops:Array Oper} (hb:Xjb ops=true) {D:Nat→Prop} (hc:∀ j,D j→∀ i∈Xn9 ops j,D i):∀ (j:Nat),(∀ i∈Xn9 ops j,D i)→∀ i,((Xfj ops.toList).getD j 0).testBit i=true→D i:=by
 intro j
 induction j using Nat.strongRecOn with
 | ind j ih=>
   intro hj i hi
   cases ho:ops.toList[j]? with
   | none=>
     have hl:(Xfj ops.toList).length=ops.toList.length:=by simpa [Xfj] using (XlX ops.toList []).2.1
     rw [List.getD_eq_getElem?_getD,List.getElem?_eq_none (by rw [hl];exact List.getElem?_eq_none_iff.1 ho)] at hi
     simp at hi
   | some o=>
     obtain ⟨e,h1,h2,h3⟩:=(XlX ops.toList []).2.2 j o ho (fun e he hbe=>by simpa using XnU hb j o ho e he hbe) i (by simpa [Xfj] using hi)
     have hlt:e.on<j:=XnU hb j o ho e h1 h2
     have hp:e.on∈Xn9 ops j:=by
      rw [Array.getElem?_toList] at ho
      simp only [Xn9,ho,List.mem_map,List.mem_filter]
      exact ⟨e,⟨h1,h2⟩,rfl⟩
     rcases h3 with rfl|h3
     ·exact hj _ hp
     ·exact ih e.on hlt (hc _ (hj _ hp)) i h3
inductive Lin (md:Region.Mode) (ops:Array Oper):List Nat→Array Bool→Prop
 | nil {listed} (h:∀ j,j<ops.size→listed.getD j true=true):Lin md ops [] listed
 | cons {j l listed} (h:j∈Region.ready md ops listed) (t:Lin md ops l (listed.setIfInBounds j true)):Lin md ops (j::l) listed
def left (ops:Array Oper) (listed:Array Bool):Nat:=((List.range ops.size).filter fun j=>!listed.getD j true).length
theorem filter_lt {p q:Nat→Bool}:∀ {l:List Nat},(∀ x∈l,q x=true→p x=true)→∀ y∈l,p y=true→q y=false→(l.filter q).length<(l.filter p).length
 | [],_,y,h,_,_=>by cases h
 | x::l,hi,y,hy,hp,hq=>by
   have hle:(l.filter q).length≤(l.filter p).length:=by
    rw [←List.countP_eq_length_filter,←List.countP_eq_length_filter]
    exact List.countP_mono_left fun x hx hh=>hi x (by simp [hx]) hh
   rcases List.mem_cons.1 hy with rfl|hy
   ·rw [List.filter_cons_of_pos hp,List.filter_cons_of_neg (by simp [hq])]
    simp;omega
   ·have ih:=filter_lt (fun x hx=>hi x (by simp [hx])) y hy hp hq
    cases hqx:q x with
    | true=>
      rw [List.filter_cons_of_pos hqx,List.filter_cons_of_pos (hi x (by simp) hqx)];simpa using ih
    | false=>
      rw [List.filter_cons_of_neg (by simp [hqx])]
      cases hpx:p x with
      | true=>rw [List.filter_cons_of_pos hpx];simp;omega
      | false=>rw [List.filter_cons_of_neg (by simp [hpx])];exact ih
theorem XB8 {md:Region.Mode} {ops:Array Oper} {listed:Array Bool} (hb:Xwx md ops) (hsz:listed.size=ops.size):∀ (j:Nat),j<ops.size→listed.getD j true=false→Region.ready md ops listed≠[]:=by
 obtain ⟨rk,hb⟩:=hb
 have key:∀ (n j:Nat),rk j=n→j<ops.size→listed.getD j true=false→Region.ready md ops listed≠[]:=by
  intro n
  induction n using Nat.strongRecOn with
  | ind n ih=>
    intro j hn hj hl
    have ho:ops[j]?=some ops[j]:=Array.getElem?_eq_getElem hj
    by_cases hall:∀ e∈ops[j].after,Region.binds md e=true→listed.getD e.on false=true
    ·intro he
     have:j∈Region.ready md ops listed:=mem_ready.2 ⟨hl,_,ho,hall⟩
     rw [he] at this;cases this
    ·simp only [Classical.not_forall] at hall
     obtain ⟨e,h1,h2,h3⟩:=hall
     obtain ⟨hlt,hrk⟩:=hb j _ ho e (by simpa using h1) h2
     refine ih _ (hn▸hrk) e.on rfl hlt ?_
     have hlt':e.on<listed.size:=by omega
     have hf:listed.getD e.on false=listed[e.on]:=by simp [hlt']
     have ht:listed.getD e.on true=listed[e.on]:=by simp [hlt']
     rw [hf] at h3
     rw [ht];simpa using h3
 exact fun j=>key _ j rfl
theorem XGn {md:Region.Mode} {ops:Array Oper} (hb:Xwx md ops):∀ (fuel t:Nat) (listed:Array Bool),listed.size=ops.size→left ops listed≤fuel→Lin md ops (Region.linearise.go md ops fuel t listed []) listed
 | fuel,t,listed,hsz,hl=>by
   have empty:left ops listed=0→∀ j,j<ops.size→listed.getD j true=true:=fun h j hj=>by
    unfold left at h
    have:=List.eq_nil_of_length_eq_zero h
    rw [List.filter_eq_nil_iff] at this
    simpa using this j (List.mem_range.2 hj)
   cases fuel with
   | zero=>
     simp only [Region.linearise.go,List.reverse_nil]
     exact .nil (empty (by omega))
   | succ fuel=>
     simp only [Region.linearise.go]
     change Lin md ops (match (Region.ready md ops listed)[t%(Region.ready md ops listed).length]? with
      | some i=>Region.linearise.go md ops fuel (t/(Region.ready md ops listed).length) (listed.setIfInBounds i true) [i]
      | none=>[].reverse) listed
     cases hi:(Region.ready md ops listed)[t%(Region.ready md ops listed).length]? with
     | none=>
       have hnil:Region.ready md ops listed=[]:=by
        cases hr:Region.ready md ops listed with
        | nil=>rfl
        | cons x xs=>
          rw [hr] at hi
          have hlt:t%(x::xs).length<(x::xs).length:=Nat.mod_lt _ (by simp)
          rw [List.getElem?_eq_getElem hlt] at hi;cases hi
       simp only [List.reverse_nil]
       refine .nil fun j hj=>?_
       cases hlj:listed.getD j true with
       | true=>rfl
       | false=>exact absurd hnil (XB8 hb hsz j hj hlj)
     | some i=>
       simp only []
       rw [linearise_go_acc,List.reverse_singleton,List.singleton_append]
       have hm:=List.mem_of_getElem? hi
       obtain ⟨h1,o,h2,h3⟩:=mem_ready.1 hm
       have hlt:i<ops.size:=(Array.getElem?_eq_some_iff.1 h2).1
       refine .cons hm (XGn hb fuel _ _ (by simpa using hsz) ?_)
       have:left ops (listed.setIfInBounds i true)<left ops listed:=by
        refine filter_lt (fun x hx hq=>?_) i (List.mem_range.2 hlt) (by simpa using h1) (by simp [hsz,hlt])
        by_cases hix:i=x
        ·subst hix;simp [hsz,hlt] at hq
        ·rwa [getD_set_ne true hix] at hq
       omega
theorem Xth {ops:Array Oper} (hb:Xjb ops=true) (mixed:Bool) (t:Nat):∃ md,Lin md ops (Region.schedule mixed ops t) (Array.replicate ops.size false):=by
 have key:∀ md t,(md=.any∨Region.departs ops=true)→Lin md ops (Region.linearise md ops t) (Array.replicate ops.size false):=fun md t hd=>
  XGn (XzQ hb md hd) ops.size t _ (by simp) (by unfold left;exact Nat.le_trans (List.length_filter_le _ _) (by simp))
 unfold Region.schedule
 split
 ·exact ⟨_,key _ _ (.inl rfl)⟩
 ·rename_i hn
  have hd:Region.departs ops=true:=by
   cases h:Region.departs ops with
   | true=>rfl
   | false=>rw [h] at hn;simp at hn
  split<;>exact ⟨_,key _ _ (.inr hd)⟩
theorem XpL {md:Region.Mode} {e:Edge} (h:Region.binds .any e=true):Region.binds md e=true:=by
 obtain ⟨on,g⟩:=e
 cases g<;>first|rfl|exact absurd h (by simp only [Region.binds];decide)
section
variable {P:Program} {w0:World} {U:Nat→Nat→Prop} {ρ:Ren} {F:Fns} {S:Xmn}
theorem HpR.reg {U1 U2:UG} {H:Hp} {top top':Nat} {w:World} (h:HpR P w0 U1 ρ H top w) (hu:U2.u=U1.u) (hi:∀ i,U1.g i∨(U1.lo≤i∧i<top)→U2.g i∨(U2.lo≤i∧i<top')):HpR P w0 U2 ρ H top' w where
 obj i o ho:=by
  obtain ⟨l,h1,h2,h3⟩:=h.obj i o ho
  exact ⟨l,h1,h2,by rw [hu];exact h3⟩
 dis:=h.dis
 lt i l e:=hi i (h.lt i l e)
 keep:=⟨h.keep.os,h.keep.tape,h.keep.output,h.keep.size,by rw [hu];exact h.keep.block⟩
theorem FrR.envEq {fr:Xb3} {e e':Env} {td:List XfX} {rf:Frame} (h:FrR P ρ { fr with env:=e,todo:=td } rf) (he:∀ i,XaL e i=XaL e' i):FrR P ρ { fr with env:=e',todo:=td } rf:=
 ⟨h.fn,h.size,fun i v hv=>h.env i v (by rw [he];exact hv),h.todo,h.defers,h.mode,h.kind,h.round⟩
theorem XKN (hS:Xaq P S) {Ug:UG} {fr:Xb3} (hret:fr.ret=false) {o:Xdj} {rest:List Xdj} {k:List XfX} {e e1:Env} {h h1:Hp} {m m1:Nat} {r x:List Nat} {rf:Frame} {w:World}
 (hcur:FrR P ρ { fr with env:=e,todo:=.inReg (o::rest)::k } rf) (hh:HpR P w0 Ug ρ h m w) (hlo:Ug.lo≤m) (hg:∀ j,m≤j→j≤m1→¬ Ug.g j) (hm:m≤m1)
 (hs:stepD S fr.nt o e h m=some (e1,h1,m1,r,x)) (cs:List Frame) :
 ∃ ρ' rf' w',Steps P (lone rf cs w) (lone rf' cs w')∧FrR P ρ' { fr with env:=e1,todo:=.inReg rest::k } rf'∧HpR P w0 Ug ρ' h1 m1 w'∧Ext ρ ρ':=by
 haveI:NG Ug m:=⟨hg m (Nat.le_refl _) hm,hlo⟩
 unfold stepD at hs
 split at hs<;>try (cases hs;done)
 ·rename_i hwn
  simp only [Option.some.injEq,Prod.mk.injEq] at hs
  obtain ⟨rfl,rfl,rfl,rfl,rfl⟩:=hs
  have ⟨ops,i,is,k',oo,e1,e2,e3⟩:=Xr7 hcur rfl
  have hw:=XpT hcur.env e3 hwn
  have hstep:=Xs9 (P:=P) (fn:=rf.fn) (t:=rf.tmps) (k:=k') (d:=rf.defers) (r:=rf.roundOf) (cs:=cs) (w:=w) (ops:=ops) (i:=i) (rest:=is) (by simp [e2,hw])
  have hfr:=XhM hcur hret
  rw [←e1,←hfr] at hstep
  exact ⟨ρ,_,w,.one hstep,Xkp hcur rfl Xo0,hh,Ext.refl ρ⟩
 ·rename_i hwn
  obtain ⟨fn,t,k',d,q,ops,i,is,oo,A⟩:=atOp hcur hret rfl hwn
  obtain ⟨hcF,hcV,hcO,hnd⟩:=XoJ A.comp
  split at hs<;>try (cases hs;done)
  rename_i vals hvals
  have hvl:=XwP hcur A.args hvals
  split at hs
  ·rename_i f xs hop
   obtain ⟨ys,ts,hoo,hxs⟩:=hcF f xs hop
   rw [hop] at hvl
   simp only [VOp.ops] at hvl
   split at hs<;>try (cases hs;done)
   rename_i s hsf
   split at hs<;>try (cases hs;done)
   rename_i v H' top' hsr
   simp only [Option.some.injEq,Prod.mk.injEq] at hs
   obtain ⟨rfl,rfl,rfl,rfl,rfl⟩:=hs
   have hrun:(execOp (mkF fn t (.inRegion ops (i::is)::k') d q).eval oo).run P w=.ok (.enter f ⟨xs.map rf.eval⟩) w:=by
    rw [A.frame,hxs];exact Xtq hoo rfl (hS f s hsf).fn
   have hstep:=Xo4 (cs:=cs) A.op A.wanted hnd hrun
   rw [←A.frame] at hstep
   obtain ⟨e,w',f',⟨ρ',rv,rfl,hrv,hh',hx⟩,hcomes,-,hleave⟩:=(hS f s hsf).calls w0 Ug ρ h m w vals _ v H' top' hlo (fun j h1 h2=>hg j h1 (by omega)) hh hvl hsr (rf::cs)
   exact ⟨ρ',rf.finish rv,w',.trans (.head hstep hcomes) (.one (step_leave_returned hleave)),Xkp (hcur.mono hx) rfl hrv,hh',hx⟩
  ·rename_i xx xs hop
   obtain ⟨tt,ys,ts,rfl,hoo,hxs⟩:=hcV xx xs hop
   rw [hop] at hvl
   simp only [VOp.ops,List.map_cons] at hvl
   split at hs<;>try (cases hs;done)
   rename_i f first caps args
   obtain ⟨v',l',hl,hf',hargs⟩:=hvl.inv
   obtain ⟨hl1,hl2⟩:=List.cons.inj hl
   obtain ⟨fi,ca,hev,hfi,hca⟩:=hf'.Xr5
   rw [hev] at hl1
   have hvv:VRL ρ (first++args++caps) (fi++xs.map rf.eval++ca):=by rw [hl2];exact (hfi.append hargs).append hca
   split at hs<;>try (cases hs;done)
   rename_i s hsf
   split at hs<;>try (cases hs;done)
   rename_i v H' top' hsr
   simp only [Option.some.injEq,Prod.mk.injEq] at hs
   obtain ⟨rfl,rfl,rfl,rfl,rfl⟩:=hs
   have hrun:(execOp (mkF fn t (.inRegion ops (i::is)::k') d q).eval oo).run P w=.ok (.enter f ⟨fi++xs.map rf.eval++ca⟩) w:=by
    rw [←A.frame,hxs];exact Xs6 hoo hl1 (hS f s hsf).fn
   have hstep:=Xo4 (cs:=cs) A.op A.wanted hnd hrun
   rw [←A.frame] at hstep
   obtain ⟨e,w',f',⟨ρ',rv,rfl,hrv,hh',hx⟩,hcomes,-,hleave⟩:=(hS f s hsf).calls w0 Ug ρ h m w _ _ v H' top' hlo (fun j h1 h2=>hg j h1 (by omega)) hh hvv hsr (rf::cs)
   exact ⟨ρ',rf.finish rv,w',.trans (.head hstep hcomes) (.one (step_leave_returned hleave)),Xkp (hcur.mono hx) rfl hrv,hh',hx⟩
  ·rename_i op hne1 hne2
   have hnc:Xsc o.op=false:=by
    cases hop:o.op<;>first|rfl|exact absurd hop (hne1 _ _)|exact absurd hop (hne2 _ _)
   split at hs<;>try (cases hs;done)
   rename_i v H' top' hr
   simp only [Option.some.injEq,Prod.mk.injEq] at hs
   obtain ⟨rfl,rfl,rfl,rfl,rfl⟩:=hs
   have hvl':VRL ρ vals (o.op.ops.map (mkF fn t (.inRegion ops (i::is)::k') d q).eval):=by rw [←A.frame];exact hvl
   obtain ⟨ρ',w',nx,hx,hext,hh',hnx⟩:=XAU hh (hcO hnc) (fun _=>rfl) (fun _=>rfl) hvl' hr
   cases v with
   | some v=>
     obtain ⟨v',rfl,hv'⟩:=hnx
     have hstep:=Xv3 (cs:=cs) A.op A.wanted hnd hx
     rw [←A.frame] at hstep
     exact ⟨ρ',rf.finish v',w',.one hstep,Xkp (hcur.mono hext) rfl hv',hh',hext⟩
   | none=>
     subst hnx
     have hstep:=Xs8 (cs:=cs) A.op A.wanted hnd hx
     rw [←A.frame] at hstep
     exact ⟨ρ',rf.finish undef,w',.one hstep,Xkp (hcur.mono hext) rfl Xo0,hh',hext⟩
theorem XuT {ops:Array Oper}:∀ {l:List Oper} {vs:List Xdj} (n:Nat),(∀ i,l[i]?=ops[n+i]?)→XdZ P ops l=some vs→XvO P ops (List.range' n l.length) vs
 | [],vs,n,_,h=>by simp only [XdZ,Option.some.injEq] at h;subst h;exact .nil
 | o::l,vs,n,hl,h=>by
   simp only [XdZ] at h
   split at h<;>try (cases h;done)
   rename_i v hv
   split at h<;>try (cases h;done)
   rename_i ws hws
   cases h
   rw [List.length_cons,List.range'_succ]
   refine .cons (by have:=hl 0;simpa using this.symm) hv (XuT (n+1) (fun i=>?_) hws)
   have:=hl (i+1)
   rw [List.getElem?_cons_succ] at this
   rw [this];congr 1;omega
theorem XET {ops:Array Oper} {vs:List Xdj} (h:XdZ P ops ops.toList=some vs):XvO P ops (List.range ops.size) vs:=by
 have:=XuT (ops:=ops) 0 (fun i=>by simp) h
 rwa [Array.length_toList,←List.range_eq_range'] at this
theorem XvO.uniq {ops:Array Oper}:∀ {is:List Nat} {vs us:List Xdj},XvO P ops is vs→XvO P ops is us→vs=us
 | _,_,_,.nil,.nil=>rfl
 | _,_,_,.cons ho hc t,.cons ho' hc' t'=>by
   rw [ho] at ho';cases ho'
   rw [hc] at hc';cases hc'
   rw [XvO.uniq t t']
theorem Xvc:∀ (ms:List Nat) (j p:Nat),p≤XqN j ms p∨j<XqN j ms p
 | [],j,p=>.inl (Nat.le_refl _)
 | m::ms,j,p=>by
   simp only [XqN]
   cases Nat.beq m (2^j - 1) with
   | true=>rcases Xvc ms (j+1) p with h|h<;>simp only [cond_true]<;>omega
   | false=>rcases Xvc ms (j+1) (j+1) with h|h<;>simp only [cond_false]<;>omega
theorem Xt1:∀ (ms:List Nat) (j p:Nat),∀ (q:Nat) m,ms[q]?=some m→XqN j ms p≤j+q→m=2^(j+q) - 1
 | [],j,p,q,m,h,_=>by simp at h
 | m::ms,j,p,q,x,h,hle=>by
   simp only [XqN] at hle
   cases q with
   | zero=>
     simp at h;subst h
     cases hb:Nat.beq m (2^j - 1) with
     | true=>exact Nat.eq_of_beq_eq_true hb
     | false=>
       rw [hb,cond_false] at hle
       rcases Xvc ms (j+1) (j+1) with h|h<;>omega
   | succ q=>
     have:=Xt1 ms (j+1) _ q x (by simpa using h) (by rw [show j+1+q=j+(q+1) by omega];exact hle)
     rw [show j+(q+1)=j+1+q by omega];exact this
theorem Xq7 {ops:Array Oper} (hb:Xjb ops=true) {md:Region.Mode} {p:Nat} (hsuf:∀ j,p≤j→j<ops.size→∀ i,i<j→((Xfj ops.toList).getD j 0).testBit i=true) :
 ∀ {l:List Nat} {listed:Array Bool},Lin md ops l listed→listed.size=ops.size→∀ q,p≤q→q≤ops.size→(∀ i,i<q→listed.getD i false=true)→(∀ i,q≤i→i<ops.size→listed.getD i true=false)→l=List.range' q (ops.size - q)
 | _,_,.nil hall,hsz,q,h1,h2,h3,h4=>by
   have:ops.size=q:=by
    rcases Nat.lt_or_ge q ops.size with h|h
    ·have:=hall q h;rw [h4 q (Nat.le_refl _) h] at this;cases this
    ·omega
   rw [this];simp
 | _,listed,.cons (j:=j) (l:=l) hj t,hsz,q,h1,h2,h3,h4=>by
   obtain ⟨hl0,oo,ho,hpre⟩:=mem_ready.1 hj
   have hjlt:j<ops.size:=(Array.getElem?_eq_some_iff.1 ho).1
   have hqj:q≤j:=by
    rcases Nat.lt_or_ge j q with h|h
    ·have:=h3 j h
     have e:listed.getD j true=listed.getD j false:=by
      have hj':j<listed.size:=by omega
      simp [hj']
     rw [e,this] at hl0;cases hl0
    ·exact h
   have hjq:j=q:=by
    rcases Nat.eq_or_lt_of_le hqj with h|h
    ·exact h.symm
    ·have hcl:∀ x,listed.getD x false=true→∀ i∈Xn9 ops x,listed.getD i false=true:=fun x hx i hi=>by
      have hxq:x<q:=by
       rcases Nat.lt_or_ge x q with h|h
       ·exact h
       ·have hxs:x<ops.size:=by
         rcases Nat.lt_or_ge x listed.size with h|h
         ·omega
         ·rw [Array.getD_eq_getD_getElem?,Array.getElem?_eq_none h] at hx;cases hx
        have:=h4 x h hxs
        have e:listed.getD x true=listed.getD x false:=by
         have hj':x<listed.size:=by omega
         simp [hj']
        rw [e,hx] at this;cases this
      have hlt:i<x:=by
       simp only [Xn9] at hi
       split at hi
       ·rename_i ox hox
        simp only [List.mem_map,List.mem_filter] at hi
        obtain ⟨e,⟨e1,e2⟩,rfl⟩:=hi
        exact XnU hb x ox (by rw [Array.getElem?_toList];exact hox) e e1 e2
       ·cases hi
      exact h3 i (by omega)
     have hpred:∀ i∈Xn9 ops j,listed.getD i false=true:=fun i hi=>by
      simp only [Xn9,ho,List.mem_map,List.mem_filter] at hi
      obtain ⟨e,⟨e1,e2⟩,rfl⟩:=hi
      exact hpre e (by simpa using e1) (XpL e2)
     have:=Xoq hb (D:=fun x=>listed.getD x false=true) hcl j hpred q (hsuf j (by omega) hjlt q h)
     have e:listed.getD q true=listed.getD q false:=by
      have hj':q<listed.size:=by omega
      simp [hj']
     rw [←e,h4 q (Nat.le_refl _) (by omega)] at this;cases this
   subst hjq
   have ih:=Xq7 hb hsuf t (by simpa using hsz) (j+1) (by omega) (by omega) (fun i hi=>by
    by_cases hij:j=i
    ·subst hij;simp [hsz,hjlt]
    ·rw [getD_set_ne false hij];exact h3 i (by omega)) (fun i h5 h6=>by rw [getD_set_ne true (by omega)];exact h4 i (by omega) h6)
   rw [ih,show ops.size - j=(ops.size - (j+1))+1 by omega,List.range'_succ]
structure Plan (P:Program) (ops:Array Oper) (p top0 topE:Nat) (all:List Rec):Prop where
 backs:Xjb ops=true
 le0:top0≤topE
 op:∀ x∈all,∃ oo,ops[x.i]?=some oo∧XiW P ops oo=some x.o
 cov:∀ j,j<p→j<ops.size→∃ x∈all,x.i=j
 pre:∀ x∈all,x.i<p
 ple:p≤ops.size
 suf:∀ j,p≤j→j<ops.size→∀ i,i<j→((Xfj ops.toList).getD j 0).testBit i=true
 pw:all.Pairwise fun x y=>x.i<y.i∧x.m1<y.m
 le:∀ x∈all,top0≤x.m∧x.m≤x.m1∧x.m1<topE
 noc:∀ x∈all,∀ y∈all,x.i<y.i→((Xfj ops.toList).getD y.i 0).testBit x.i=true∨NoC x y
def XBg (U:Nat→Nat→Prop) (top0:Nat) (all:List Rec) (listed:Array Bool):UG:=
 ⟨U,fun j=>j<top0∨∃ x∈all,listed.getD x.i true=true∧x.m≤j∧j≤x.m1,0⟩
theorem XwU {R:Rec→Rec→Prop}:∀ {l:List Rec},l.Pairwise R→∀ x∈l,∀ y∈l,x=y∨R x y∨R y x
 | [],_,x,h,_,_=>by cases h
 | z::l,h,x,hx,y,hy=>by
   rw [List.pairwise_cons] at h
   rcases List.mem_cons.1 hx with e1|h1<;>rcases List.mem_cons.1 hy with e2|h2
   ·exact .inl (e1.trans e2.symm)
   ·exact .inr (.inl (e1▸h.1 y h2))
   ·exact .inr (.inr (e2▸h.1 x h1))
   ·exact XwU h.2 x h1 y h2
theorem XvH {fr:Xb3} {k:List XfX} {ops:Array Oper} {p top0 topE:Nat} {all:List Rec} (hp:Plan P ops p top0 topE all) {listed:Array Bool} {cs:List Frame} {s t:St} (hch:Chain S fr.nt [] s t) {vs:List Xdj} {ρ:Ren} {rf:Frame} {w:World}
 (hcur:FrR P ρ { fr with env:=s.1,todo:=.inReg vs::k } rf) (hh:HpR P w0 (XBg U top0 all listed) ρ s.2 0 w) :
 ∃ ρ' rf' w',Steps P (lone rf cs w) (lone rf' cs w')∧FrR P ρ' { fr with env:=t.1,todo:=.inReg vs::k } rf'∧HpR P w0 (.of U) ρ' t.2 topE w'∧Ext ρ ρ':=by
 refine ⟨ρ,rf,w,Steps.refl _ _,hcur.envEq hch.1,?_,Ext.refl ρ⟩
 refine (HpR.reg (U2:=.of U) (top':=topE) hh rfl fun i hi=>.inr ⟨Nat.zero_le _,?_⟩).congr (fun i=>(hch.2 i).symm)
 rcases hi with (h|⟨x,h1,_,_,h4⟩)|⟨_,h⟩
 ·have:=hp.le0;omega
 ·have:=hp.le x h1;omega
 ·omega
theorem XwC (hS:Xaq P S) {fr:Xb3} (hret:fr.ret=false) {k:List XfX} {ops:Array Oper} {p top0 topE:Nat} {all:List Rec} (hp:Plan P ops p top0 topE all) {post:List Xdj} (hpost:XvO P ops (List.range' p (ops.size - p)) post) {md:Region.Mode} {cs:List Frame} :
 ∀ {l:List Nat} {listed:Array Bool},Lin md ops l listed→listed.size=ops.size→(∀ j,listed.getD j false=true→∀ i∈Xn9 ops j,listed.getD i false=true)→(∀ j,p≤j→j<ops.size→listed.getD j true=false) →
 ∀ {c:List Rec},c.Sublist all→(∀ x,x∈c↔x∈all∧listed.getD x.i true=false)→∀ {s t:St},Chain S fr.nt c s t →
 ∀ {vs:List Xdj},XvO P ops l vs→∀ {ρ:Ren} {rf:Frame} {w:World},FrR P ρ { fr with env:=s.1,todo:=.inReg vs::k } rf→HpR P w0 (XBg U top0 all listed) ρ s.2 0 w →
 ∃ ρ' rf' w',Steps P (lone rf cs w) (lone rf' cs w')∧FrR P ρ' { fr with env:=t.1,todo:=.inReg post::k } rf'∧HpR P w0 (.of U) ρ' t.2 topE w'∧Ext ρ ρ'
 | _,listed,.nil hall,hsz,hcl,hns,c,hsub,hmem,s,t,hch,vs,hreg,ρ,rf,w,hcur,hh=>by
   have hc:c=[]:=by
    cases c with
    | nil=>rfl
    | cons x c=>
      obtain ⟨h1,h2⟩:=(hmem x).1 (by simp)
      obtain ⟨oo,h3,_⟩:=hp.op x h1
      rw [hall x.i (Array.getElem?_eq_some_iff.1 h3).1] at h2;cases h2
   have hpn:ops.size - p=0:=by
    rcases Nat.lt_or_ge p ops.size with h|h
    ·have:=hall p h;rw [hns p (Nat.le_refl _) h] at this;cases this
    ·omega
   rw [hpn] at hpost
   have hvp:vs=post:=hreg.uniq hpost
   subst hc hvp
   exact XvH hp hch hcur hh
 | _,listed,.cons (j:=j) (l:=l) hj htl,hsz,hcl,hns,c,hsub,hmem,s,t,hch,vs,hreg,ρ,rf,w,hcur,hh=>by
   rcases Nat.lt_or_ge j p with hjp|hjp
   case inr=>
    obtain ⟨hl0,oo',ho',hpre⟩:=mem_ready.1 hj
    have hjlt:j<ops.size:=(Array.getElem?_eq_some_iff.1 ho').1
    have hpred:∀ i∈Xn9 ops j,listed.getD i false=true:=fun i hi=>by
     simp only [Xn9,ho',List.mem_map,List.mem_filter] at hi
     obtain ⟨e,⟨h1,h2⟩,rfl⟩:=hi
     exact hpre e (by simpa using h1) (XpL h2)
    have hall:∀ i,i<p→listed.getD i false=true:=fun i hi=>
     Xoq hp.backs (D:=fun j=>listed.getD j false=true) hcl j hpred i (hp.suf j hjp hjlt i (by omega))
    have hc:c=[]:=by
     cases c with
     | nil=>rfl
     | cons x c=>
       obtain ⟨h1,h2⟩:=(hmem x).1 (by simp)
       have:=hall x.i (hp.pre x h1)
       obtain ⟨oo,h3,_⟩:=hp.op x h1
       have hlt:=(Array.getElem?_eq_some_iff.1 h3).1
       have e:listed.getD x.i true=listed.getD x.i false:=by
        have hj':x.i<listed.size:=by omega
        simp [hj']
       rw [e,this] at h2;cases h2
    have hl:=Xq7 hp.backs hp.suf (Lin.cons hj htl) hsz p (Nat.le_refl _) hp.ple hall hns
    rw [hl] at hreg
    have hvp:vs=post:=hreg.uniq hpost
    subst hc hvp
    exact XvH hp hch hcur hh
   cases hreg with|@cons _ _ oo v vs ho hcomp hrt=>
   obtain ⟨hl0,oo',ho',hpre⟩:=mem_ready.1 hj
   rw [ho] at ho';cases ho'
   have hjlt:j<ops.size:=(Array.getElem?_eq_some_iff.1 ho).1
   obtain ⟨y,hy,rfl⟩:=hp.cov j hjp hjlt
   obtain ⟨oo2,hoo2,hc2⟩:=hp.op y hy
   rw [ho] at hoo2;cases hoo2
   rw [hcomp] at hc2;cases hc2
   have hyc:y∈c:=(hmem y).2 ⟨hy,hl0⟩
   obtain ⟨a,b,rfl⟩:=List.append_of_mem hyc
   have hpw:(a++y::b).Pairwise fun x y=>x.i<y.i∧x.m1<y.m:=hp.pw.sublist hsub
   rw [List.pairwise_append,List.pairwise_cons] at hpw
   have hpred:∀ i∈Xn9 ops y.i,listed.getD i false=true:=fun i hi=>by
    simp only [Xn9,ho,List.mem_map,List.mem_filter] at hi
    obtain ⟨e,⟨h1,h2⟩,rfl⟩:=hi
    exact hpre e (by simpa using h1) (XpL h2)
   have hfront:=hch.front fun x hx=>by
    have hxy:=(hpw.2.2 x hx y (by simp)).1
    obtain ⟨hxa,hxl⟩:=(hmem x).1 (by simp [hx])
    refine (hp.noc x hxa y hy hxy).resolve_left fun hbit=>?_
    have:=Xoq hp.backs (D:=fun j=>listed.getD j false=true) hcl y.i hpred x.i hbit
    obtain ⟨_,hxo,_⟩:=hp.op x hxa
    have hlt:=(Array.getElem?_eq_some_iff.1 hxo).1
    simp [show x.i<listed.size by omega] at this hxl
    rw [this] at hxl;cases hxl
   obtain ⟨s1,hrun,hrest⟩:=hfront
   have hles:=hp.le y hy
   have hfree:∀ z,z∈all→listed.getD z.i true=true→z.m1<y.m∨y.m1<z.m:=fun z hz hzl=>by
    rcases XwU hp.pw z hz y hy with rfl|h|h
    ·rw [hl0] at hzl;cases hzl
    ·exact .inl h.2
    ·exact .inr h.2
   have hh1:HpR P w0 ⟨U,(XBg U top0 all listed).g,y.m⟩ ρ s.2 y.m w:=HpR.reg hh rfl fun i hi=>.inl (by
    rcases hi with hi|⟨_,hi⟩
    ·exact hi
    ·omega)
   obtain ⟨ρ1,rf1,w1,g1,g2,g3,g4⟩:=XKN hS hret hcur hh1 (Nat.le_refl _) (fun i h1 h2 hg=>by
    rcases hg with hg|⟨z,hz1,hz2,hz3,hz4⟩
    ·omega
    ·rcases hfree z hz1 hz2 with h|h<;>omega) hles.2.1 hrun cs
   have hge:∀ i,i≠y.i→(listed.setIfInBounds y.i true).getD i true=listed.getD i true:=fun i hi=>getD_set_ne true (Ne.symm hi)
   have hsame:(listed.setIfInBounds y.i true).getD y.i true=true:=by simp [hsz,hjlt]
   have hh2:HpR P w0 (XBg U top0 all (listed.setIfInBounds y.i true)) ρ1 s1.2 0 w1:=HpR.reg g3 rfl fun i hi=>.inl (by
    rcases hi with (hi|⟨z,hz1,hz2,hz3⟩)|⟨h1,h2⟩
    ·exact .inl hi
    ·refine .inr ⟨z,hz1,?_,hz3⟩
     by_cases hzy:z.i=y.i
     ·rw [hzy];exact hsame
     ·rw [hge _ hzy];exact hz2
    ·exact .inr ⟨y,hy,hsame,h1,by omega⟩)
   obtain ⟨ρ2,rf2,w2,k1,k2,k3,k4⟩:=XwC hS hret hp hpost htl (by simpa using hsz) (fun i hi q hq=>by
    by_cases hiy:i=y.i
    ·subst hiy;exact getD_set_true (hpred q hq)
    ·rw [getD_set_ne false (Ne.symm hiy)] at hi
     exact getD_set_true (hcl i hi q hq)) (fun i h5 h6=>by rw [getD_set_ne true (by omega)];exact hns i h5 h6) (c:=a++b) (by
      refine List.Sublist.trans ?_ hsub
      exact List.Sublist.append_left (List.sublist_cons_self _ _) _) (fun x=>by
    have hm:=hmem x
    simp only [List.mem_append,List.mem_cons] at hm ⊢
    constructor
    ·intro hx
     have hne:x.i≠y.i:=by
      rcases hx with hx|hx
      ·have:=(hpw.2.2 x hx y (by simp)).1;omega
      ·have:=(hpw.2.1.1 x hx).1;omega
     rw [hge _ hne]
     exact hm.1 (hx.imp id .inr)
    ·rintro ⟨h1,h2⟩
     have hne:x.i≠y.i:=fun e=>by rw [e,hsame] at h2;cases h2
     rw [hge _ hne] at h2
     rcases hm.2 ⟨h1,h2⟩ with h|rfl|h
     ·exact .inl h
     ·exact absurd rfl hne
     ·exact .inr h) hrest hrt g2 hh2
   exact ⟨ρ2,rf2,w2,g1.trans k1,k2,k3,g4.trans k4⟩
theorem XA5:∀ {vs:List Xdj} {e e':Env} {h h':Hp} {m m':Nat} {fps:List Fp} {nt:Nat} (i0:Nat),XGg S nt vs e h m=some (fps,e',h',m') →
 ∃ all:List Rec,Chain S nt all (e,h) (e',h')∧all.length=vs.length∧fps.length=vs.length∧m≤m' ∧
  (∀ (k:Nat) x,all[k]?=some x→x.i=i0+k∧vs[k]?=some x.o∧fps[k]?=some (x.r,x.wf)∧(Xrs x.o.op=0→x.r=[]∧x.wf=[])∧(Xrs x.o.op=1→x.wf=[])) ∧
  (∀ x∈all,m≤x.m∧x.m≤x.m1∧x.m1<m'∧i0≤x.i)∧all.Pairwise fun x y=>x.i<y.i∧x.m1<y.m
 | [],e,e',h,h',m,m',fps,nt,i0,hr=>by
   simp only [XGg,Option.some.injEq,Prod.mk.injEq] at hr
   obtain ⟨rfl,rfl,rfl,rfl⟩:=hr
   exact ⟨[],EqS.refl _,rfl,rfl,Nat.le_refl _,fun k x hx=>(by simp at hx),fun x hx=>(by cases hx),.nil⟩
 | o::vs,e,e',h,h',m,m',fps,nt,i0,hr=>by
   simp only [XGg] at hr
   split at hr<;>try (cases hr;done)
   rename_i e1 h1 m1 r w hst
   split at hr<;>try (cases hr;done)
   rename_i fps1 e2 h2 m2 hrun
   cases hr
   have hruns:Runs S nt ⟨i0,o,m,m1,r,w⟩ (e,h) (e1,h1):=hst
   obtain ⟨_,_,hm,_⟩:=hruns.local (s2:=(e,h)) (fun _ _=>rfl) (fun _ _=>rfl)
   simp only at hm
   obtain ⟨all,g1,g2,g3,g4,g5,g6,g7⟩:=XA5 (i0+1) hrun
   refine ⟨⟨i0,o,m,m1,r,w⟩::all,⟨_,hruns,g1⟩,by simp [g2],by simp [g3],by omega,fun k x hx=>?_,fun x hx=>?_,?_⟩
   ·cases k with
    | zero=>simp at hx;subst hx;exact ⟨rfl,rfl,rfl,hruns.kind⟩
    | succ k=>
      obtain ⟨a,b,c,d⟩:=g5 k x (by simpa using hx)
      exact ⟨by omega,by simpa using b,by simpa using c,d⟩
   ·rcases List.mem_cons.1 hx with rfl|hx
    ·simp only;omega
    ·have:=g6 x hx;omega
   ·rw [List.pairwise_cons]
    exact ⟨fun x hx=>by have:=g6 x hx;simp only;omega,g7⟩
theorem XiS {ops:Array Oper}:∀ {os:List Oper} {vs:List Xdj},XdZ P ops os=some vs→vs.length=os.length∧∀ (k:Nat) o,os[k]?=some o→∃ v,vs[k]?=some v∧XiW P ops o=some v
 | [],vs,h=>by simp only [XdZ,Option.some.injEq] at h;subst h;exact ⟨rfl,fun k o hk=>by simp at hk⟩
 | o::os,vs,h=>by
   simp only [XdZ] at h
   split at h<;>try (cases h;done)
   rename_i v hv
   split at h<;>try (cases h;done)
   rename_i vs' hvs
   cases h
   obtain ⟨g1,g2⟩:=XiS hvs
   refine ⟨by simp [g1],fun k x hk=>?_⟩
   cases k with
   | zero=>simp at hk;subst hk;exact ⟨v,rfl,hv⟩
   | succ k=>simpa using g2 k x (by simpa using hk)
theorem Xmd {ops:Array Oper}:∀ {os:List Oper} {vs:List Xdj},XdZ P ops os=some vs→∀ n,XdZ P ops (os.drop n)=some (vs.drop n)
 | os,vs,h,0=>by simpa using h
 | [],vs,h,n+1=>by simp only [XdZ,Option.some.injEq] at h;subst h;rfl
 | o::os,vs,h,n+1=>by
   simp only [XdZ] at h
   split at h<;>try (cases h;done)
   split at h<;>try (cases h;done)
   rename_i vs' hvs
   cases h
   simpa using Xmd hvs n
theorem XP5 {x y:Rec} (h1:Xme (x.r,x.wf) (y.r,y.wf)=true) (h2:Xme (Xm5 x.o) (Xm5 y.o)=true):NoC x y:=by
 simp only [Xme,Bool.and_eq_true] at h1 h2
 exact ⟨XgD h2.1.1,XgD h2.1.2,XgD h2.2,XgD h1.1.1,XgD h1.1.2,XgD h1.2⟩
theorem XEi {x y:Rec} (hx:(Xrs x.o.op=0→x.r=[]∧x.wf=[])∧(Xrs x.o.op=1→x.wf=[])) (hy:(Xrs y.o.op=0→y.r=[]∧y.wf=[])∧(Xrs y.o.op=1→y.wf=[]))
 (h1:Xku x.o.op y.o.op=true) (h2:Xme (Xm5 x.o) (Xm5 y.o)=true):NoC x y:=by
 simp only [Xme,Bool.and_eq_true] at h2
 have key:(∀ b∈x.wf,b ∉ y.r)∧(∀ b∈x.wf,b ∉ y.wf)∧(∀ b∈y.wf,b ∉ x.r):=by
  simp only [Xku,Bool.or_eq_true,Bool.and_eq_true] at h1
  rcases h1 with h|h|⟨h,h'⟩<;>replace h:=Nat.eq_of_beq_eq_true h
  ·obtain ⟨a,b⟩:=hx.1 h;rw [a,b];simp
  ·obtain ⟨a,b⟩:=hy.1 h;rw [a,b];simp
  ·rw [hx.2 h,hy.2 (Nat.eq_of_beq_eq_true h')];simp
 exact ⟨XgD h2.1.1,XgD h2.1.2,XgD h2.2,key.1,key.2.1,key.2.2⟩
theorem Xys {md:Region.Mode} {ops:Array Oper} {vs:List Xdj} (h:XdZ P ops ops.toList=some vs):∀ {l:List Nat} {listed:Array Bool},Lin md ops l listed→∃ us,XvO P ops l us
 | _,_,.nil _=>⟨[],.nil⟩
 | _,_,.cons hj t=>by
   obtain ⟨us,hu⟩:=Xys h t
   obtain ⟨_,o,ho,_⟩:=mem_ready.1 hj
   obtain ⟨v,_,hv⟩:=(XiS h).2 _ o (by rw [Array.getElem?_toList];exact ho)
   exact ⟨v::us,.cons ho hv hu⟩
theorem XKH {fn:FuncId} {t:Array Value} {k:List Item} {d:List Deferred} {r:Option Nat} {cs:List Frame} {w:World} {id:Nat} {ops:Array Oper} :
 ∃ q,step P (lone (mkF fn t (.code (.region id ops true)::k) d r) cs w)=.next (lone (mkF fn t (.inRegion ops (Region.schedule (P.follows .mixedOrders) ops q)::k) d r) cs w.drew):=
 ⟨_,step_lone_go (by simp [stepG,stepG.exec,Question.forced,Question.cut];rfl)⟩
theorem XJW (hS:Xaq P S) {fr:Xb3} {up:List Xb3} {H:Hp} {top:Nat} {rf:Frame} {rfs:List Frame} {w:World} (h:VMR P w0 U ρ ⟨fr,up,H,top⟩ rf rfs w) (hret:fr.ret=false)
 {vs:List Xdj} {chk:List (Nat×Nat)} {k:List XfX} {id:Nat} {ops:Array Oper} (_ht:fr.todo=.code (.regD (vs.take (XqN 0 (Xfj ops.toList) 0)) chk (vs.drop (XqN 0 (Xfj ops.toList) 0)))::k) {rk:List Item} (hrt:rf.todo=.code (.region id ops true)::rk) (hk:Xlb (XhQ P ρ) k rk)
 (hcomp:XdZ P ops ops.toList=some vs) (hback:Xjb ops=true) (htmp:Xu1 0 (Xfj ops.toList) (vs.map Xm5)=true) (hord:chk=XjP 0 ((Xfj ops.toList).take (XqN 0 (Xfj ops.toList) 0)) (vs.take (XqN 0 (Xfj ops.toList) 0)))
 {fps:List Fp} {e':Env} {h':Hp} {top':Nat} (hrun:XGg S fr.nt (vs.take (XqN 0 (Xfj ops.toList) 0)) fr.env H top=some (fps,e',h',top')) (hok:Xoc fps chk=true) (cs:List Frame) :
 Goes P w0 U ρ cs ⟨{ fr with env:=e',todo:=.inReg (vs.drop (XqN 0 (Xfj ops.toList) 0))::k },up,h',top'⟩ rf rfs w:=by
 obtain ⟨q,hstep⟩:=XKH (P:=P) (fn:=rf.fn) (t:=rf.tmps) (k:=rk) (d:=rf.defers) (r:=rf.roundOf) (cs:=rfs++cs) (w:=w) (id:=id) (ops:=ops)
 rw [←hrt,←XhM h.cur hret] at hstep
 obtain ⟨md,hlin⟩:=Xth hback (P.follows .mixedOrders) q
 obtain ⟨us,hus⟩:=Xys hcomp hlin
 have hlen:vs.length=ops.size:=by simpa using (XiS hcomp).1
 have holen:(Xfj ops.toList).length=ops.size:=by simpa [Xfj] using (XlX ops.toList []).2.1
 have hordj:∀ j,XqN 0 (Xfj ops.toList) 0≤j→j<ops.size→(Xfj ops.toList).getD j 0=2^j - 1:=fun j h1 h2=>by
  have hj:(Xfj ops.toList)[j]?=some (Xfj ops.toList)[j]:=List.getElem?_eq_getElem (by omega)
  have:=Xt1 (Xfj ops.toList) 0 0 j _ hj (by omega)
  rw [List.getD_eq_getElem?_getD,hj,Option.getD_some,this,Nat.zero_add]
 generalize XqN 0 (Xfj ops.toList) 0=p0 at *
 obtain ⟨p,hpe,hp1,hp2⟩:∃ p,p=min p0 ops.size∧vs.take p0=vs.take p∧vs.drop p0=vs.drop p:=by
  refine ⟨_,rfl,?_,?_⟩
  ·rcases Nat.le_total p0 ops.size with h|h
   ·rw [Nat.min_eq_left h]
   ·rw [Nat.min_eq_right h,List.take_of_length_le (by omega),List.take_of_length_le (by omega)]
  ·rcases Nat.le_total p0 ops.size with h|h
   ·rw [Nat.min_eq_left h]
   ·rw [Nat.min_eq_right h,List.drop_eq_nil_of_le (by omega),List.drop_eq_nil_of_le (by omega)]
 have hp3:(Xfj ops.toList).take p0=(Xfj ops.toList).take p:=by
  rcases Nat.le_total p0 ops.size with h|h
  ·rw [hpe,Nat.min_eq_left h]
  ·rw [hpe,Nat.min_eq_right h,List.take_of_length_le (by omega),List.take_of_length_le (by omega)]
 rw [hp1] at hrun
 rw [hp1,hp3] at hord
 rw [hp2]
 have hple:p≤ops.size:=by omega
 have hsuf:∀ j,p≤j→j<ops.size→∀ i,i<j→((Xfj ops.toList).getD j 0).testBit i=true:=fun j h1 h2 i h3=>by
  rw [hordj j (by omega) h2,Nat.testBit_two_pow_sub_one];simpa using h3
 have hpost:XvO P ops (List.range' p (ops.size - p)) (vs.drop p):=by
  have h1:XdZ P ops (ops.toList.drop p)=some (vs.drop p):=Xmd hcomp p
  have:=XuT (ops:=ops) (l:=ops.toList.drop p) p (fun i=>by rw [List.getElem?_drop,Array.getElem?_toList]) h1
  simpa using this
 obtain ⟨all,g1,g2,g3,g4,g5,g6,g7⟩:=XA5 0 hrun
 subst hord
 have htl:(vs.take p).length=p:=by simp;omega
 have hget:∀ x∈all,∃ k,all[k]?=some x∧x.i=k∧k<p∧(vs.take p)[k]?=some x.o∧vs[k]?=some x.o∧fps[k]?=some (x.r,x.wf)∧(Xrs x.o.op=0→x.r=[]∧x.wf=[])∧(Xrs x.o.op=1→x.wf=[]):=fun x hx=>by
  obtain ⟨k,hk⟩:=List.getElem?_of_mem hx
  obtain ⟨a,b,c,d⟩:=g5 k x hk
  have hkp:k<p:=by rw [←htl];exact (List.getElem?_eq_some_iff.1 b).1
  exact ⟨k,hk,by omega,hkp,b,by rw [List.getElem?_take_of_lt hkp] at b;exact b,c,d⟩
 have hplan:Plan P ops p top top' all:=by
  refine ⟨hback,g4,fun x hx=>?_,fun j hjp hj=>?_,fun x hx=>?_,hple,hsuf,g7,fun x hx=>?_,fun x hx y hy hxy=>?_⟩
  ·obtain ⟨k,h1,h2,h2',h2'',h3,h4,_⟩:=hget x hx
   have hlt:k<ops.size:=by omega
   obtain ⟨v,h5,h6⟩:=(XiS hcomp).2 k ops[k] (by rw [Array.getElem?_toList];exact Array.getElem?_eq_getElem hlt)
   rw [h3] at h5;cases h5
   exact ⟨ops[k],by rw [h2];exact Array.getElem?_eq_getElem hlt,h6⟩
  ·have hj':j<all.length:=by omega
   refine ⟨all[j],List.getElem_mem hj',?_⟩
   have:=(g5 j all[j] (List.getElem?_eq_getElem hj')).1
   omega
  ·obtain ⟨k,h1,h2,h2',_⟩:=hget x hx;omega
  ·have:=g6 x hx;omega
  ·obtain ⟨i,a1,a2,ap,a3',a3,a4,a5⟩:=hget x hx
   obtain ⟨j,b1,b2,bp,b3',b3,b4,b5⟩:=hget y hy
   obtain ⟨m,c1,c2⟩:=XrC htmp i j (Xm5 x.o) (Xm5 y.o) (by omega) (by rw [List.getElem?_map,a3];rfl) (by rw [List.getElem?_map,b3];rfl)
   rw [b2,a2,List.getD_eq_getElem?_getD,c1,Option.getD_some]
   rw [Nat.zero_add] at c2
   rcases c2 with c2|c2
   ·exact .inl c2
   ·rcases Xmg (i:=0) i j x.o y.o (by omega) a3' b3' m (by rw [List.getElem?_take_of_lt bp];exact c1) with d1|d1|d1
    ·exact .inl (by simpa using d1)
    ·exact .inr (XEi a5 b5 d1 c2)
    ·exact .inr (XP5 (XoB hok i j (by simpa using d1) _ _ a4 b4) c2)
 have hcur:FrR P ρ { fr with env:=fr.env,todo:=.inReg us::k } (mkF rf.fn rf.tmps (.inRegion ops (Region.schedule (P.follows .mixedOrders) ops q)::rk) rf.defers rf.roundOf):=
  ⟨h.cur.fn,h.cur.size,h.cur.env,.cons (.inReg hus) hk,h.cur.defers,by simp [hret],rfl,h.cur.round⟩
 have hheap:HpR P w0 (XBg U top all (Array.replicate ops.size false)) ρ H 0 w.drew:=HpR.reg h.heap.drew rfl fun i hi=>.inl (.inl (by
  rcases hi with hi|hi
  ·exact hi.elim
  ·exact hi.2))
 obtain ⟨ρ',rf',w',k1,k2,k3,k4⟩:=XwC (w0:=w0) (U:=U) hS hret hplan hpost (cs:=rfs++cs) hlin (by simp) (fun j hj=>by
  have:(Array.replicate ops.size false).getD j false=false:=by
   rw [Array.getD_eq_getD_getElem?,Array.getElem?_replicate];split<;>rfl
  rw [this] at hj;cases hj) (fun j h1 h2=>by simp [h2]) (List.Sublist.refl all) (fun x=>by
  constructor
  ·intro hx
   refine ⟨hx,?_⟩
   obtain ⟨oo,ho,_⟩:=hplan.op x hx
   have hlt:=(Array.getElem?_eq_some_iff.1 ho).1
   simp [hlt]
  ·exact fun h=>h.1) g1 hus hcur hheap
 exact ⟨ρ',rf',rfs,w',Steps.head hstep k1,⟨⟨k2.fn,k2.size,k2.env,k2.todo,k2.defers,k2.mode,k2.kind,k2.round⟩,h.up.mono fun _ _ x=>x.mono k4,k3⟩,k4⟩
end
section
variable {P:Program} {w0:World} {U:Nat→Nat→Prop} {ρ:Ren} {F:Fns} {S:Xmn}
theorem HpR.wipe {H:Hp} {top:Nat} {w:World} (h:HpR P w0 (.of U) ρ H top w) {b:Nat} {ob:XbF} {l:Loc} {r r':Obj} (hb:XaL H b=some ob) (hl:ρ b=some l) (hwr:writable ob=true) (hle:l.sh=0∧l.ext=1)
 (hr:w.heap[l.blk]?=some r) (hn:∀ c t f,r≠.cells c t f):HpR P w0 (.of U) ρ (XoD H b) top { w with heap:=w.heap.setIfInBounds l.blk r' } where
 obj j x hx:=by
  rw [XdM] at hx
  by_cases hbj:b=j
  ·simp [hbj] at hx
  rw [if_neg hbj] at hx
  obtain ⟨l',hl',hr',hw'⟩:=h.obj j x hx
  refine ⟨l',hl',hr'.same (Ext.refl ρ) (fun he=>Xh6 _ _ _ _ fun e=>?_),hw'⟩
  have ap:=h.dis b j ob x l l' hbj hb hx hl hl' hwr
  have nocell:XbA ρ w l' (writable x) []→False:=fun hc=>by
   have:=(hc.2.2 0 he).1
   rw [e] at this
   unfold World.cell? at this
   simp only [hr] at this
   cases r<;>simp at this
   exact hn _ _ _ rfl
  have at0:l'.sh=0→False:=fun h0=>ap 0 e.symm (by omega) (by omega) (by omega) (by omega)
  cases x with
  | cells cs=>exact nocell ⟨Nat.zero_le _,fun i v e=>by simp at e,hr'.2.2⟩
  | row own cs=>exact nocell ⟨Nat.zero_le _,fun i v e=>by simp at e,hr'.2.2⟩
  | ty t cs=>exact at0 hr'.2.1
  | siter=>exact at0 hr'.2.1
  | mp=>exact at0 hr'.2.1
  | loop=>exact at0 hr'.2.1
  | marks=>exact at0 hr'.2.1
 dis:=(h.del b).dis
 lt:=h.lt
 keep:=by
  obtain ⟨l',hl',_,hU⟩:=h.obj b ob hb
  rw [hl] at hl';cases hl'
  exact h.keep.setObj l.blk r' (hU hwr 0 (by omega) (by omega)) fun c t f e=>hn c t f (Option.some.inj (hr.symm.trans e))
theorem Xt5 {id:Nat}:∀ {v:List XfX} {k:List Item},Xlb (XhQ P ρ) v k →
 (∀ v',exitTo id v=some v'→∃ k',Go.exitTo id k=some k'∧Xlb (XhQ P ρ) v' k')∧(exitTo id v=none→Go.exitTo id k=none)
 | _,_,.nil=>⟨fun _ h=>by simp [exitTo] at h,fun _=>rfl⟩
 | _,_,.cons h t=>by
   have ih:=Xt5 (id:=id) t
   cases h with
   | inBlock id'=>
     simp only [exitTo,Go.exitTo]
     by_cases e:id'=id
     ·subst e
      simp only [↓reduceIte,beq_self_eq_true]
      exact ⟨fun v' h=>by cases h;exact ⟨_,rfl,t⟩,fun h=>by cases h⟩
     ·have e':(id'==id)=false:=by simpa using e
      simp only [e,↓reduceIte,e',Bool.false_eq_true]
      exact ih
   | _=>simpa only [exitTo,Go.exitTo] using ih
theorem XrK {fn:FuncId} {t:Array Value} {todo:List Item} {d:List Deferred} {l:Nat} {c:Frame} {cs:List Frame} {w w':World} {jump:Option Code} {v:Value}
 (hj:(todo=[]∧jump=none)∨(∃ k,todo=.code .ret::k∧jump=some .ret)∨(∃ id k,todo=.code (.exit id)::k∧Go.exitTo id k=none∧jump=some (.exit id)))
 (hr:(Instr.endRound l jump).run P w=.ok v w'):step P (lone (mkF fn t todo d (some l)) (c::cs) w)=.next (lone (c.finish v) cs w'):=by
 refine step_lone_go ?_
 rcases hj with ⟨rfl,rfl⟩|⟨k,rfl,rfl⟩|⟨id,k,rfl,he,rfl⟩
 ·simp [stepG,stepG.exec,Sem.runT_eq,hr,doReturn,GStep.bare_after]
 ·simp [stepG,stepG.exec,Sem.runT_eq,hr,doReturn,GStep.bare_after]
 ·simp [stepG,stepG.exec,he,Sem.runT_eq,hr,doReturn,GStep.bare_after]
theorem Xkm {fr:Xb3} {up:List Xb3} {H:Hp} {top:Nat} {rf:Frame} {rfs:List Frame} {w:World} {vm':VM}
 (h:VMR P w0 U ρ ⟨fr,up,H,top⟩ rf rfs w) (hret:fr.ret=false) {l:Nat} (hrd:fr.round=some l) {j:Option VC} {jump:Option Code}
 (hjc:match j,jump with|none,none=>True|some c,some c'=>Xfi P c'=some c|_,_=>False)
 (hj:(rf.todo=[]∧jump=none)∨(∃ k,rf.todo=.code .ret::k∧jump=some .ret)∨(∃ id k,rf.todo=.code (.exit id)::k∧Go.exitTo id k=none∧jump=some (.exit id)))
 (hs:Xic l j up H top=some vm') (cs:List Frame):Goes P w0 U ρ cs vm' rf rfs w:=by
 unfold Xic at hs
 split at hs<;>try (cases hs;done)
 rename_i r hr
 split at hs<;>try (cases hs;done)
 rename_i u us
 split at hs<;>try (cases hs;done)
 rename_i u' hu
 cases hs
 have hcur:=h.cur
 obtain ⟨_,hup,hheap⟩:=h
 cases hup with|@cons _ c _ cs' hc hcs=>
 obtain ⟨lo,hl,⟨⟨r',hw,hlr⟩,hsh,hext⟩,_⟩:=hheap.obj l _ hr
 have hround:=hcur.round
 simp only at hcur
 rw [hrd] at hround
 cases hq:rf.roundOf with
 | none=>rw [hq] at hround;exact hround.elim
 | some q=>
   rw [hq] at hround
   obtain ⟨lo',hl',hqe,_⟩:=hround
   rw [hl] at hl';cases hl'
   subst hqe
   have hjn:j.isNone=jump.isNone:=by cases j<;>cases jump<;>first|rfl|exact hjc.elim
   have hstep:=XrK (P:=P) (cs:=cs'++cs) (c:=c) (fn:=rf.fn) (t:=rf.tmps) (d:=rf.defers) hj (run_endRound jump hw)
   rw [←hq,←XhM hcur hret] at hstep
   refine Goes.one (rfs':=cs') hstep ⟨Xp2 hc (hjn▸.bool _) hu,hcs,?_⟩
   refine hheap.setObj hr hl rfl ⟨hsh,hext⟩ hw (by simp) (by simp) ⟨⟨_,Xd4 _ _ _ _ hw,?_⟩,hsh,hext⟩
   exact { hlr with state:=by simp [hjn],pending:=hjc }
theorem XBH {fn:FuncId} {t:Array Value} {k:List Item} {d:List Deferred} {l:Nat} {cs:List Frame} {w w':World} (h:(Instr.beginRound l).run P w=.ok () w') :
 step P (lone (mkF fn t (.beginRound::k) d (some l)) cs w)=.next (lone (mkF fn t k d (some l)) cs w'):=
 step_lone_go (by simp [stepG,stepG.exec,stepG.apply,Sem.runT_eq,h,Frame.finish,GStep.bare_after])
theorem XEG {fn:FuncId} {t:Array Value} {k:List Item} {d:List Deferred} {r:Option Nat} {l:Nat} {cs:List Frame} {w w':World} {j:Option Code} (h:(Instr.endLoop l).run P w=.ok j w') :
 step P (lone (mkF fn t (.endRangeFunc l::k) d r) cs w)=.next (lone (mkF fn t ((j.map Item.code).toList++k) d r) cs w'):=
 step_lone_go (by simp [stepG,stepG.exec,Sem.runT_eq,h,GStep.bare_after])
theorem XtF {fn:FuncId} {t:Array Value} {k:List Item} {d:List Deferred} {r:Option Nat} {cs:List Frame} {w w':World} {f:Operand} {ps:Array Tmp} {aqs bd:Code} {l:Nat} {mark:List Deferred} {g:Nat} {fi ca:List Value}
 (h:(Instr.enterLoop fn t ps aqs bd r).run P w=.ok (l,mark) w') (hf:(mkF fn t (.code (.rangeFunc f ps aqs bd)::k) d r).eval f=.func (.func g) ⟨fi⟩ ⟨ca⟩)
 (hfn : ∃ fn, P.funcs[g]? = some fn ∧ fn.name ≠ "runtime.NumGoroutine" ∧ fn.body.isSome = true) :
 step P (lone (mkF fn t (.code (.rangeFunc f ps aqs bd)::k) d r) cs w)=.next (lone (Frame.enter P g ⟨fi++[.func (.yield l) #[] #[]]++ca⟩ .normal) (mkF fn t (.inRangeFunc l::k) (mark++d) r::cs) w'):=by
 have hf':(mkF fn t (.inRangeFunc l::k) (mark++d) r).eval f=.func (.func g) ⟨fi⟩ ⟨ca⟩:=by rw [←hf];cases f<;>rfl
 have he:(⟨fi⟩++#[Value.func (.yield l) #[] #[]]++⟨ca⟩:Array Value)=⟨fi++[.func (.yield l) #[] #[]]++ca⟩:=by apply Array.toList_inj.1;simp
 refine step_lone_go ?_
 simp only [stepG,stepG.exec,Sem.runT_eq,h,GStep.bare_after,stepG.apply,resolve,Sem.run_bind,Sem.run_pure,Result.andThen_ok,Deferred.ofValue,hf',invoke,↓reduceIte]
 have h2:(Array.map (mkF fn t (.inRangeFunc l::k) (mark++d) r).eval #[Operand.const (Value.func (Fn.yield l) #[] #[])])=#[.func (.yield l) #[] #[]]:=by simp [Frame.eval]
 rw [h2,he,Xk1 hfn]
 rfl
theorem XDo {c':Code} {c:VC} (h:Xfi P c'=some c) :
 match c with
 | .skip=>c'=.skip∨∃ l,c'=.label l
 | .ret=>c'=.ret
 | .exit id=>c'=.exit id
 | .seq a b=>∃ x y,c'=.seq x y∧Xfi P x=some a∧Xfi P y=some b
 | .cond o a b=>∃ x y,c'=.cond o x y∧okO o=true∧Xfi P x=some a∧Xfi P y=some b
 | .block id b=>∃ x,c'=.block id x∧Xfi P x=some b
 | .loop b=>∃ x,c'=.loop x∧Xfi P x=some b
 | .scope b=>∃ x,c'=.scope x∧Xfi P x=some b
 | .reg l=>∃ id ops,c'=.region id ops false∧XdZ P ops ops.toList=some l
 | .stuck=>True
 | .regD l0 ord post=>∃ id ops l,c'=.region id ops true∧XdZ P ops ops.toList=some l∧l0=l.take (XqN 0 (Xfj ops.toList) 0)∧post=l.drop (XqN 0 (Xfj ops.toList) 0)∧ord=XjP 0 ((Xfj ops.toList).take (XqN 0 (Xfj ops.toList) 0)) l0∧Xjb ops=true∧Xu1 0 (Xfj ops.toList) (l.map Xm5)=true
 | .rangeF f ps a b=>∃ qs x y,c'=.rangeFunc f qs x y∧okO f=true∧qs.toList=ps∧Xfi P x=some a∧Xfi P y=some b:=by
 cases c' with
 | skip=>simp only [Xfi,Option.some.injEq] at h;subst h;exact .inl rfl
 | label l=>simp only [Xfi,Option.some.injEq] at h;subst h;exact .inr ⟨l,rfl⟩
 | goto l=>simp only [Xfi,Option.some.injEq] at h;subst h;trivial
 | scope x=>
   simp only [Xfi] at h
   split at h<;>try (cases h;done)
   rename_i a ha
   cases h;exact ⟨_,rfl,ha⟩
 | ret=>simp only [Xfi,Option.some.injEq] at h;subst h;rfl
 | exit id=>simp only [Xfi,Option.some.injEq] at h;subst h;rfl
 | seq x y=>
   simp only [Xfi] at h
   split at h<;>try (cases h;done)
   rename_i a ha
   split at h<;>try (cases h;done)
   rename_i b hb
   cases h;exact ⟨_,_,rfl,ha,hb⟩
 | cond o x y=>
   simp only [Xfi] at h
   split at h<;>try (cases h;done)
   rename_i a ho ha
   split at h<;>try (cases h;done)
   rename_i b hb
   cases h;exact ⟨_,_,rfl,ho,ha,hb⟩
 | block id x=>
   simp only [Xfi] at h
   split at h<;>try (cases h;done)
   rename_i a ha
   cases h;exact ⟨_,rfl,ha⟩
 | loop x=>
   simp only [Xfi] at h
   split at h<;>try (cases h;done)
   rename_i a ha
   cases h;exact ⟨_,rfl,ha⟩
 | region id ops draw=>
   cases draw
   ·simp only [Xfi] at h
    split at h
    ·rename_i l hl
     cases h;exact ⟨_,_,rfl,hl⟩
    ·cases h;trivial
   ·simp only [Xfi] at h
    split at h
    ·rename_i l hl
     split at h
     ·rename_i hb
      cases h;exact ⟨_,_,_,rfl,hl,rfl,rfl,rfl,hb.1,hb.2⟩
     ·cases h;trivial
    ·cases h;trivial
 | rangeFunc f qs x y=>
   simp only [Xfi] at h
   split at h<;>try (cases h;done)
   rename_i a ho ha
   split at h<;>try (cases h;done)
   rename_i b hb
   cases h;exact ⟨_,_,_,rfl,ho,rfl,ha,hb⟩
 | refuse s=>simp only [Xfi,Option.some.injEq] at h;subst h;trivial
theorem FrR.re {fr:Xb3} {rf:Frame} (h:FrR P ρ fr rf) (hret:fr.ret=false) {vt:List XfX} {rt:List Item} (ht:Xlb (XhQ P ρ) vt rt) :
 FrR P ρ { fr with todo:=vt } (mkF rf.fn rf.tmps rt rf.defers rf.roundOf):=
 ⟨h.fn,h.size,h.env,ht,h.defers,by simp [hret],rfl,h.round⟩
theorem Goes.to {fr:Xb3} {up:List Xb3} {H:Hp} {top:Nat} {rf:Frame} {rfs:List Frame} {w:World} (h:VMR P w0 U ρ ⟨fr,up,H,top⟩ rf rfs w) (hret:fr.ret=false)
 {vt:List XfX} {rt:List Item} (cs:List Frame) (hstep:∀ cs,step P (lone (mkF rf.fn rf.tmps rf.todo rf.defers rf.roundOf) cs w)=.next (lone (mkF rf.fn rf.tmps rt rf.defers rf.roundOf) cs w))
 (ht:Xlb (XhQ P ρ) vt rt):Goes P w0 U ρ cs ⟨{ fr with todo:=vt },up,H,top⟩ rf rfs w:=by
 have h1:=hstep (rfs++cs)
 rw [←XhM h.cur hret] at h1
 exact Goes.one h1 ⟨h.cur.re hret ht,h.up,h.heap⟩
theorem XkE {fr:Xb3} {rf:Frame} (h:FrR P ρ fr rf):(fr.round=none→rf.roundOf=none)∧(∀ l,fr.round=some l→∃ lo,ρ l=some lo∧rf.roundOf=some lo.blk∧lo.sh=0):=by
 have:=h.round
 constructor
 ·intro e
  rw [e] at this
  cases hr:rf.roundOf with
  | none=>rfl
  | some q=>rw [hr] at this;exact this.elim
 ·intro l e
  rw [e] at this
  cases hr:rf.roundOf with
  | none=>rw [hr] at this;exact this.elim
  | some q=>rw [hr] at this;obtain ⟨lo,a,rfl,b⟩:=this;exact ⟨lo,a,rfl,b⟩
theorem XSs {fr:Xb3} {up:List Xb3} {H:Hp} {top:Nat} {rf:Frame} {rfs:List Frame} {w:World} (h:VMR P w0 U ρ ⟨fr,up,H,top⟩ rf rfs w) (hret:fr.ret=false)
 (hrd:fr.round=none) (ht:rf.todo=[]∨∃ k,rf.todo=.code .ret::k) (cs:List Frame):Goes P w0 U ρ cs ⟨{ fr with ret:=true },up,H,top⟩ rf rfs w:=by
 have hro:=(XkE h.cur).1 hrd
 have hfr:=XhM h.cur hret
 have hnew:FrR P ρ { fr with ret:=true } (mkR rf.fn rf.tmps rf.todo rf.defers rf.roundOf):=⟨h.cur.fn,h.cur.size,h.cur.env,h.cur.todo,h.cur.defers,rfl,rfl,h.cur.round⟩
 have hstep:step P (lone (mkF rf.fn rf.tmps rf.todo rf.defers rf.roundOf) (rfs++cs) w)=.next (lone (mkR rf.fn rf.tmps rf.todo rf.defers rf.roundOf) (rfs++cs) w):=by
  rcases ht with e|⟨k,e⟩
  ·rw [hro,e];exact XTe
  ·rw [hro,e];exact XRs
 rw [←hfr] at hstep
 exact Goes.one hstep ⟨hnew,h.up,h.heap⟩
theorem XtV (hF:Xlt P F) {fr:Xb3} {up:List Xb3} {H:Hp} {top:Nat} {rf:Frame} {rfs:List Frame} {w:World} (h:VMR P w0 U ρ ⟨fr,up,H,top⟩ rf rfs w) (hret:fr.ret=false)
 {f:Operand} {qs:Array Nat} {x y:Code} {a b:VC} {rk:List Item} {k:List XfX} (hrt:rf.todo=.code (.rangeFunc f qs x y)::rk) (h0:okO f=true) (h1:Xfi P x=some a) (h2:Xfi P y=some b)
 {g:Nat} {first caps:List Value} (hfv:Xn3 fr.env f=some (.func (.func g) ⟨first⟩ ⟨caps⟩)) (hrd:fr.round=none) (hk:Xlb (XhQ P ρ) k rk) {c:Xb3}
 (hc:Xjl F g (first++[.func (.yield (top+1)) #[] #[]]++caps)=some c) (cs:List Frame) :
 Goes P w0 U ρ cs ⟨c,{ fr with todo:=.inRangeFunc (top+1)::k,defers:=top::fr.defers }::up,
  Xf0 (Xf0 H top .marks) (top+1) (.loop ⟨.ready,none,fr.fn,fr.nt,fr.env,qs.toList,a,b,top⟩),top+2⟩ rf rfs w:=by
 have hcur:=h.cur
 simp only at hcur
 have hfr:=XhM hcur hret
 have hro:=(XkE hcur).1 hrd
 have he:=Xsb hcur.env h0 hfv (f:=rf) rfl
 obtain ⟨fi,ca,hev,hfi,hca⟩:=he.Xr5
 have heap:=h.heap
 simp only at heap
 have n1:=heap.new (w':=w.alloc (.deferred (some []))) (l:=⟨w.heap.size,0,1⟩) (o:=.marks) (heap.keep.alloc _) (fun k hk=>Below.heap_alloc w _ k hk)
  ⟨World.alloc_heap_new _ _,rfl,rfl⟩ (.inl (Nat.le_refl _))
 have x1:Ext ρ (upd ρ top ⟨w.heap.size,0,1⟩):=Ext.upd (heap.XoI)
 generalize hρ1:upd ρ top ⟨w.heap.size,0,1⟩=ρ1 at n1 x1
 have ht1:ρ1 top=some ⟨w.heap.size,0,1⟩:=by rw [←hρ1,upd_same]
 generalize hw1:w.alloc (.deferred (some []))=w1 at n1
 have hs1:w1.heap.size=w.heap.size+1:=by rw [←hw1];exact World.size_alloc _ _
 have x2:Ext ρ1 (upd ρ1 (top+1) ⟨w1.heap.size,0,1⟩):=Ext.upd (n1.XoI)
 have n2:=n1.new (w':=w1.alloc (.loop { state:=.ready,pending:=none,fn:=rf.fn,tmps:=rf.tmps,params:=qs,assign:=x,body:=y,defers:=w.heap.size })) (l:=⟨w1.heap.size,0,1⟩)
  (o:=.loop ⟨.ready,none,fr.fn,fr.nt,fr.env,qs.toList,a,b,top⟩) (n1.keep.alloc _) (fun k hk=>Below.heap_alloc w1 _ k hk)
  ⟨⟨_,World.alloc_heap_new _ _,⟨rfl,hcur.fn,hcur.size,(hcur.env.mono x1).mono x2,rfl,h1,h2,⟨_,x2 _ _ ht1,rfl⟩,trivial⟩⟩,rfl,rfl⟩ (.inl (Nat.le_refl _))
 generalize hρ2:upd ρ1 (top+1) ⟨w1.heap.size,0,1⟩=ρ2 at n2 x2
 have ht2:ρ2 (top+1)=some ⟨w1.heap.size,0,1⟩:=by rw [←hρ2,upd_same]
 have x12:=x1.trans x2
 have hvv:VRL ρ2 (first++[.func (.yield (top+1)) #[] #[]]++caps) (fi++[.func (.yield w1.heap.size) #[] #[]]++ca):=
  ((hfi.mono x12).append (.cons (.yield ht2) .nil)).append (hca.mono x12)
 obtain ⟨e1,e2⟩:=XkC hF hc hvv
 have henter:=run_enterLoop_outer (P:=P) (w:=w) rf.fn rf.tmps qs x y
 rw [hw1,←hs1,←hro] at henter
 have hstep:=XtF (k:=rk) (d:=rf.defers) (cs:=rfs++cs) (f:=f) (fi:=fi) (ca:=ca) henter (by rw [←hrt,←hfr];exact hev) e2
 rw [←hrt,←hfr] at hstep
 refine ⟨ρ2,_,mkF rf.fn rf.tmps (.inRangeFunc w1.heap.size::rk) ([{ target:=.collected w.heap.size,args:=#[] }]++rf.defers) rf.roundOf::rfs,_,.one (by simpa [hs1] using hstep),⟨e1,.cons ?_ (h.up.mono fun _ _ k=>k.mono x12),n2⟩,x12⟩
 exact ⟨hcur.fn,hcur.size,hcur.env.mono x12,.cons (.inRangeFunc ht2) (hk.mono (XhQ.mono x12)),.cons ⟨_,x2 _ _ ht1,rfl⟩ (hcur.defers.mono fun _ _ ⟨l,a,b⟩=>⟨l,x12 _ _ a,b⟩),by simp [hret],rfl,hcur.round.mono x12⟩
theorem Xty (hF:Xlt P F) {fr:Xb3} {up:List Xb3} {H:Hp} {top:Nat} {rf:Frame} {rfs:List Frame} {w:World} (h:VMR P w0 U ρ ⟨fr,up,H,top⟩ rf rfs w) (hret:fr.ret=false)
 {f:Operand} {qs:Array Nat} {x y:Code} {a b:VC} {rk:List Item} {k:List XfX} (hrt:rf.todo=.code (.rangeFunc f qs x y)::rk) (h0:okO f=true) (h1:Xfi P x=some a) (h2:Xfi P y=some b)
 {g l0:Nat} {first caps:List Value} (hfv:Xn3 fr.env f=some (.func (.func g) ⟨first⟩ ⟨caps⟩)) (hrd:fr.round=some l0) {r0:XBk} (hr0:XaL H l0=some (.loop r0)) (hk:Xlb (XhQ P ρ) k rk) {c:Xb3}
 (hc:Xjl F g (first++[.func (.yield top) #[] #[]]++caps)=some c) (cs:List Frame) :
 Goes P w0 U ρ cs ⟨c,{ fr with todo:=.inRangeFunc top::k }::up,
  Xf0 H top (.loop ⟨.ready,none,fr.fn,fr.nt,fr.env,qs.toList,a,b,r0.defers⟩),top+1⟩ rf rfs w:=by
 have hcur:=h.cur
 simp only at hcur
 have hfr:=XhM hcur hret
 obtain ⟨lo,hlo,hro,_⟩:=(XkE hcur).2 _ hrd
 have he:=Xsb hcur.env h0 hfv (f:=rf) rfl
 obtain ⟨fi,ca,hev,hfi,hca⟩:=he.Xr5
 have heap:=h.heap
 simp only at heap
 obtain ⟨lo',hl',⟨⟨r',hw,hlr⟩,hsh,hext⟩,_⟩:=heap.obj l0 _ hr0
 rw [hlo] at hl';cases hl'
 obtain ⟨ld,hld,hdd⟩:=hlr.defers
 have x2:Ext ρ (upd ρ top ⟨w.heap.size,0,1⟩):=Ext.upd (heap.XoI)
 have n2:=heap.new (w':=w.alloc (.loop { state:=.ready,pending:=none,fn:=rf.fn,tmps:=rf.tmps,params:=qs,assign:=x,body:=y,defers:=r'.defers })) (l:=⟨w.heap.size,0,1⟩)
  (o:=.loop ⟨.ready,none,fr.fn,fr.nt,fr.env,qs.toList,a,b,r0.defers⟩) (heap.keep.alloc _) (fun k hk=>Below.heap_alloc w _ k hk)
  ⟨⟨_,World.alloc_heap_new _ _,⟨rfl,hcur.fn,hcur.size,hcur.env.mono x2,rfl,h1,h2,⟨_,x2 _ _ hld,hdd⟩,trivial⟩⟩,rfl,rfl⟩ (.inl (Nat.le_refl _))
 generalize hρ2:upd ρ top ⟨w.heap.size,0,1⟩=ρ2 at n2 x2
 have ht2:ρ2 top=some ⟨w.heap.size,0,1⟩:=by rw [←hρ2,upd_same]
 have hvv:VRL ρ2 (first++[.func (.yield top) #[] #[]]++caps) (fi++[.func (.yield w.heap.size) #[] #[]]++ca):=
  ((hfi.mono x2).append (.cons (.yield ht2) .nil)).append (hca.mono x2)
 obtain ⟨e1,e2⟩:=XkC hF hc hvv
 have henter:(Instr.enterLoop rf.fn rf.tmps qs x y (some lo.blk)).run P w=.ok (w.heap.size,[]) (w.alloc (.loop { state:=.ready,pending:=none,fn:=rf.fn,tmps:=rf.tmps,params:=qs,assign:=x,body:=y,defers:=r'.defers })):=by
  unfold Instr.enterLoop
  simp only [Sem.run_bind,run_getLoop hw,run_newObj_alloc,Result.andThen_ok,Sem.run_pure]
 rw [←hro] at henter
 have hstep:=XtF (k:=rk) (d:=rf.defers) (cs:=rfs++cs) (f:=f) (fi:=fi) (ca:=ca) henter (by rw [←hrt,←hfr];exact hev) e2
 rw [←hrt,←hfr] at hstep
 refine ⟨ρ2,_,mkF rf.fn rf.tmps (.inRangeFunc w.heap.size::rk) ([]++rf.defers) rf.roundOf::rfs,_,.one hstep,⟨e1,.cons ?_ (h.up.mono fun _ _ k=>k.mono x2),n2⟩,x2⟩
 exact ⟨hcur.fn,hcur.size,hcur.env.mono x2,.cons (.inRangeFunc ht2) (hk.mono (XhQ.mono x2)),(hcur.defers.mono fun _ _ ⟨l,a,b⟩=>⟨l,x2 _ _ a,b⟩),by simp [hret],rfl,hcur.round.mono x2⟩
theorem XA6 (hF:Xlt P F) (hS:Xaq P S) {vm vm':VM} {rf:Frame} {rfs:List Frame} {w:World} (h:VMR P w0 U ρ vm rf rfs w) (hs:XdC F S vm=some vm') (cs:List Frame) :
 Goes P w0 U ρ cs vm' rf rfs w:=by
 obtain ⟨⟨vfn,nt,env,todo,defers,ret,round⟩,up,H,top⟩:=vm
 have hcur:=h.cur
 simp only at hcur
 cases ret with
 | true=>
   have hfr:=XxI hcur rfl
   cases defers with
   | cons r ds=>
     simp only [XdC] at hs
     split at hs<;>try (cases hs;done)
     rename_i hm
     cases hs
     have hds:Xlb (XNo ρ) (r::ds) rf.defers:=hcur.defers
     cases hrd:rf.defers with
     | nil=>rw [hrd] at hds;cases hds
     | cons d rds=>
       rw [hrd] at hds
       cases hds with|cons hdr htl=>
       obtain ⟨l,hl,rfl⟩:=hdr
       obtain ⟨l',hl',hob,_⟩:=h.heap.obj r _ hm
       rw [hl] at hl';cases hl'
       obtain ⟨hw,hsh,hext⟩:=hob
       refine Goes.one (rfs':=rfs) (step_collected (by rw [hcur.mode];simp) hrd rfl (run_takeDeferred hw)) ⟨?_,h.up,h.heap.wipe hm hl rfl ⟨hsh,hext⟩ hw (by simp)⟩
       exact { hcur with defers:=by simpa using htl }
   | nil=>
     simp only [XdC] at hs
     split at hs<;>try (cases hs;done)
     rename_i f u us hf
     split at hs<;>try (cases hs;done)
     rename_i vs hvs
     split at hs<;>try (cases hs;done)
     rename_i u' hu
     cases hs
     obtain ⟨_,hup,hheap⟩:=h
     simp only at hup
     cases hup with|@cons _ c _ cs' hc hcs=>
     obtain ⟨fn,hfn,hcf⟩:=hF _ _ hf
     unfold XaV at hcf
     split at hcf<;>try (cases hcf;done)
     split at hcf<;>try (cases hcf;done)
     split at hcf<;>try (cases hcf;done)
     split at hcf<;>try (cases hcf;done)
     rename_i rs hrs
     cases hcf
     obtain ⟨v',hv,hrun⟩:=Xqx hcur.env hheap hrs hvs
     have hdn:rf.defers=[]:=by
      have:Xlb (XNo ρ) [] rf.defers:=hcur.defers
      cases hx:rf.defers with
      | nil=>rfl
      | cons=>rw [hx] at this;cases this
     have hfe:rf.fn=vfn:=hcur.fn
     rw [←hfe] at hfn
     have hstep:=XES (cs:=cs'++cs) (c:=c) (k:=rf.todo) (r:=rf.roundOf) hfn hrun
     rw [←hdn,←hfr] at hstep
     exact Goes.one hstep ⟨Xp2 hc hv hu,hcs,hheap⟩
 | false=>
   have hfr:=XhM hcur rfl
   have htodo:=hcur.todo
   simp only at htodo
   cases todo with
   | nil=>
     have hrt:rf.todo=[]:=by
      cases hx:rf.todo with
      | nil=>rfl
      | cons=>rw [hx] at htodo;cases htodo
     cases round with
     | none=>simp only [XdC] at hs;cases hs;exact XSs h rfl rfl (.inl hrt) cs
     | some l=>simp only [XdC] at hs;exact Xkm h rfl rfl (jump:=none) trivial (.inl ⟨hrt,rfl⟩) hs cs
   | cons it k=>
     cases hrt:rf.todo with
     | nil=>rw [hrt] at htodo;cases htodo
     | cons rit rk=>
     rw [hrt] at htodo
     cases htodo with|cons hi hk=>
     cases it with
     | inBlock id=>
       simp only [XdC] at hs;cases hs
       cases hi
       exact Goes.to h rfl cs (fun cs=>by rw [hrt];exact Xxt) hk
     | inScope=>
       simp only [XdC] at hs;cases hs
       cases hi
       exact Goes.to h rfl cs (fun cs=>by rw [hrt];exact Xw5) hk
     | inLoop b=>
       simp only [XdC] at hs;cases hs
       cases hi with|inLoop hb=>
       exact Goes.to h rfl cs (fun cs=>by rw [hrt];exact XyY) (.cons (.code hb) (.cons (.inLoop hb) hk))
     | inReg ops=>
       cases ops with
       | nil=>
         simp only [XdC] at hs;cases hs
         cases hi with|inReg hr=>
         cases hr
         exact Goes.to h rfl cs (fun cs=>by rw [hrt];exact Xz9) hk
       | cons o rest=>
         simp only [XdC] at hs
         split at hs<;>try (cases hs;done)
         ·rename_i hwn
          cases hs
          have ⟨ops,i,is,k',oo,e1,e2,e3⟩:=Xr7 hcur rfl
          have hw:=XpT hcur.env e3 hwn
          have hstep:=Xs9 (P:=P) (fn:=rf.fn) (t:=rf.tmps) (k:=k') (d:=rf.defers) (r:=rf.roundOf) (cs:=rfs++cs) (w:=w) (ops:=ops) (i:=i) (rest:=is) (by simp [e2,hw])
          rw [←e1,←hfr] at hstep
          exact Goes.one hstep ⟨Xkp hcur rfl Xo0,h.up,h.heap⟩
         ·rename_i hwn
          exact Xy2 hF hS h rfl rfl hwn hs cs
     | inRangeFunc l=>simp only [XdC] at hs;cases hs
     | endRangeFunc l=>
       simp only [XdC] at hs
       split at hs<;>try (cases hs;done)
       rename_i r hr
       cases hi with|@endRangeFunc _ lo hl=>
       obtain ⟨lo',hl',⟨⟨r',hw,hlr⟩,hsh,hext⟩,_⟩:=h.heap.obj l _ hr
       rw [hl] at hl';cases hl'
       have hpend:Xlb (XhQ P ρ) ((match r.pending with|some c=>[.code c]|none=>[])++k) ((r'.pending.map Item.code).toList++rk):=by
        have hp:=hlr.pending
        cases h1:r.pending with
        | none=>
          cases h2:r'.pending with
          | none=>simpa using hk
          | some c=>rw [h1,h2] at hp;exact hp.elim
        | some c=>
          cases h2:r'.pending with
          | none=>rw [h1,h2] at hp;exact hp.elim
          | some c'=>rw [h1,h2] at hp;simpa using .cons (.code hp) hk
       have hheap:=h.heap.setObj (r':=.loop { r' with state:=.exhausted }) (ob':=.loop { r with state:=.exhausted }) hr hl rfl ⟨hsh,hext⟩ hw (by simp) (by simp)
        ⟨⟨_,Xd4 _ _ _ _ hw,{ hlr with state:=rfl,pending:=hlr.pending }⟩,hsh,hext⟩
       have hst:r'.state≠.busy→step P (lone rf (rfs++cs) w)=.next (lone (mkF rf.fn rf.tmps ((r'.pending.map Item.code).toList++rk) rf.defers rf.roundOf) (rfs++cs) (w.putObj lo.blk (.loop { r' with state:=.exhausted }))):=fun hb=>by
        have:=XEG (fn:=rf.fn) (t:=rf.tmps) (k:=rk) (d:=rf.defers) (r:=rf.roundOf) (cs:=rfs++cs) (run_endLoop (P:=P) hw hb)
        rw [←hrt,←hfr] at this;exact this
       split at hs
       ·cases hs
       ·rename_i hnb
        cases hs
        exact Goes.one (hst (by rw [hlr.state];exact hnb)) ⟨hcur.re rfl hpend,h.up,hheap⟩
     | beginRound=>
       cases round with
       | none=>simp only [XdC] at hs;cases hs
       | some l=>
         simp only [XdC] at hs
         split at hs<;>try (cases hs;done)
         rename_i r hr
         split at hs<;>try (cases hs;done)
         rename_i hready
         cases hs
         obtain ⟨lo,hl,hro,_⟩:=(XkE hcur).2 l rfl
         obtain ⟨lo',hl',⟨⟨r',hw,hlr⟩,hsh,hext⟩,_⟩:=h.heap.obj l _ hr
         rw [hl] at hl';cases hl'
         cases hi
         have hheap:=h.heap.setObj (r':=.loop { r' with state:=.busy }) (ob':=.loop { r with state:=.busy }) hr hl rfl ⟨hsh,hext⟩ hw (by simp) (by simp)
          ⟨⟨_,Xd4 _ _ _ _ hw,{ hlr with state:=rfl,pending:=hlr.pending }⟩,hsh,hext⟩
         have hst:=XBH (fn:=rf.fn) (t:=rf.tmps) (k:=rk) (d:=rf.defers) (cs:=rfs++cs) (run_beginRound (P:=P) hw (by rw [hlr.state];exact hready))
         rw [←hrt,←hro,←hfr] at hst
         exact Goes.one hst ⟨hcur.re rfl hk,h.up,hheap⟩
     | code c=>
       cases hi with|@code _ c' hc=>
       have hinv:=XDo hc
       cases c with
       | skip=>
         simp only [XdC] at hs;cases hs
         obtain rfl|⟨l,rfl⟩:c'=.skip∨∃ l,c'=.label l:=hinv
         ·exact Goes.to h rfl cs (fun cs=>by rw [hrt];exact XIL) hk
         ·exact Goes.to h rfl cs (fun cs=>by rw [hrt];exact XDG) hk
       | ret=>
         obtain rfl:c'=.ret:=hinv
         cases round with
         | none=>simp only [XdC] at hs;cases hs;exact XSs h rfl rfl (.inr ⟨_,hrt⟩) cs
         | some l=>simp only [XdC] at hs;exact Xkm h rfl rfl (jump:=some .ret) hc (.inr (.inl ⟨_,hrt,rfl⟩)) hs cs
       | seq a b=>
         simp only [XdC] at hs;cases hs
         obtain ⟨x,y,rfl,h1,h2⟩:=hinv
         exact Goes.to h rfl cs (fun cs=>by rw [hrt];exact XSa) (.cons (.code h1) (.cons (.code h2) hk))
       | cond o a b=>
         simp only [XdC] at hs
         obtain ⟨x,y,rfl,h0,h1,h2⟩:=hinv
         split at hs<;>try (cases hs;done)
         rename_i v hv
         cases hs
         have he:=Xsb hcur.env h0 hv (f:=mkF rf.fn rf.tmps rf.todo rf.defers rf.roundOf) rfl
         have he':(mkF rf.fn rf.tmps rf.todo rf.defers rf.roundOf).eval o=.bool v:=he.XyP
         refine Goes.to h rfl cs (fun cs=>by rw [hrt];rw [hrt] at he';exact XJy he') (.cons (.code ?_) hk)
         cases v<;>assumption
       | block id b=>
         simp only [XdC] at hs;cases hs
         obtain ⟨x,rfl,h1⟩:=hinv
         exact Goes.to h rfl cs (fun cs=>by rw [hrt];exact XD9) (.cons (.code h1) (.cons (.inBlock id) hk))
       | scope b=>
         simp only [XdC] at hs;cases hs
         obtain ⟨x,rfl,h1⟩:=hinv
         exact Goes.to h rfl cs (fun cs=>by rw [hrt];exact XDh) (.cons (.code h1) (.cons (.inScope x) hk))
       | loop b=>
         simp only [XdC] at hs;cases hs
         obtain ⟨x,rfl,h1⟩:=hinv
         exact Goes.to h rfl cs (fun cs=>by rw [hrt];exact XKX) (.cons (.code h1) (.cons (.inLoop h1) hk))
       | exit id=>
         simp only [XdC] at hs
         obtain rfl:c'=.exit id:=hinv
         obtain ⟨hex1,hex2⟩:=Xt5 (id:=id) hk
         cases hk':exitTo id k with
         | some k'=>
           simp only [hk'] at hs
           cases hs
           obtain ⟨rk',he,hrk'⟩:=hex1 _ hk'
           exact Goes.to h rfl cs (fun cs=>by rw [hrt];exact XIK he) hrk'
         | none=>
           simp only [hk'] at hs
           cases round with
           | none=>cases hs
           | some l=>simp only at hs;exact Xkm h rfl rfl (jump:=some (.exit id)) hc (.inr (.inr ⟨_,_,hrt,hex2 hk',rfl⟩)) hs cs
       | reg ops=>
         simp only [XdC] at hs;cases hs
         obtain ⟨id,ops,rfl,h1⟩:=hinv
         exact Goes.to h rfl cs (fun cs=>by rw [hrt];exact XRH) (.cons (.inReg (XET h1)) hk)
       | stuck=>simp only [XdC] at hs;cases hs
       | regD ops ord post=>
         simp only [XdC] at hs
         obtain ⟨id,rops,l,rfl,h1,rfl,rfl,h2,h3,h4⟩:=hinv
         split at hs<;>try (cases hs;done)
         rename_i hrun
         split at hs<;>try (cases hs;done)
         rename_i hok
         cases hs
         exact XJW hS h rfl rfl hrt hk h1 h3 h4 h2 hrun hok cs
       | rangeF f ps a b=>
         simp only [XdC] at hs
         obtain ⟨qs,x,y,rfl,h0,rfl,h1,h2⟩:=hinv
         split at hs<;>try (cases hs;done)
         ·rename_i g first caps hfv
          split at hs<;>try (cases hs;done)
          rename_i c hc
          cases hs
          exact XtV hF h rfl hrt h0 h1 h2 hfv rfl hk hc cs
         ·rename_i g first caps l0 hfv
          split at hs<;>try (cases hs;done)
          rename_i r0 hr0
          split at hs<;>try (cases hs;done)
          rename_i c hc
          cases hs
          exact Xty hF h rfl hrt h0 h1 h2 hfv rfl hr0 hk hc cs
end
structure XaM (P:Program) (f base:Nat) (vm:VM) (R:Value→Hp→Nat→Prop):Prop where
 get:∀ (w0:World) (U:Nat→Nat→Prop) (ρ:Ren) (rf:Frame) (rfs:List Frame) (w:World) (cs:List Frame),VMR P w0 U ρ vm rf rfs w →
  ∃ ρ' rv fr' w' v H top,Steps P (lone rf (rfs++cs) w) (lone fr' cs w')∧fr'.fn=f∧fr'.leaving P w' (.returned rv)∧VR ρ' v rv∧HpR P w0 (.of U) ρ' H top w' ∧
   (∀ i l,i<base→ρ i=some l→ρ' i=some l)∧R v H top
def XNt (s:Nat→Option Nat) (e:Env):Env→Prop
 | []=>True
 | (i,v)::l=>(match Xe5 s v with|some v'=>XaL e i=some v'|none=>False)∧XNt s e l
theorem XwY {s:Nat→Option Nat} {e:Env}:∀ {l:Env},XNt s e l→∀ i v,XaL l i=some v→∃ v',Xe5 s v=some v'∧XaL e i=some v'
 | [],_,i,v,h=>by simp [XaL] at h
 | (j,u)::l,h,i,v,hv=>by
   obtain ⟨h1,h2⟩:=h
   simp only [XaL] at hv
   cases hb:Nat.beq j i with
   | true=>
     rw [hb,cond_true,Option.some.injEq] at hv
     subst hv
     have:=Nat.eq_of_beq_eq_true hb;subst this
     split at h1
     ·rename_i v' hv';exact ⟨v',hv',h1⟩
     ·exact h1.elim
   | false=>
     rw [hb,cond_false] at hv
     exact XwY h2 i v hv
section
variable {P:Program} {w0:World} {U:Nat→Nat→Prop} {ρ:Ren} {F:Fns} {S:Xmn}
def comp (s:Nat→Option Nat) (ρ:Ren):Ren:=fun i=>match s i with|some j=>ρ j|none=>none
theorem Xfa {s:Nat→Option Nat} {i j:Nat} (h:s i=some j):comp s ρ i=ρ j:=by simp [comp,h]
mutual
theorem VR.XfK {s:Nat→Option Nat}:∀ (v:Value) {u v':Value},Xe5 s v=some u→VR ρ u v'→VR (comp s ρ) v v':=by
 intro v u v' h hr
 unfold Xe5 at h
 split at h
 ·split at h<;>cases h
  rename_i hs
  cases hr with|ptr hl=>exact .ptr (by rw [Xfa hs];exact hl)
 ·split at h<;>cases h
  rename_i hs
  cases hr with
  | slice hl hn hc=>exact .slice (by rw [Xfa hs];exact hl) hn hc
  | slice0 a=>exact .slice0 a
 ·split at h<;>cases h
  rename_i ha hb
  cases hr with|func _ h1 h2=>exact .func _ (VRL.XfK _ ha h1) (VRL.XfK _ hb h2)
 ·split at h<;>cases h
  rename_i hs
  cases hr with|yield hl=>exact .yield (by rw [Xfa hs];exact hl)
 ·cases h;cases hr;exact .tnil _ _
 ·split at h<;>cases h
  rename_i hs
  cases hr with|tsl _ hl hv=>exact .tsl _ (by rw [Xfa hs];exact hl) hv
 ·split at h<;>cases h
  rename_i hs
  cases hr with|iface _ hl=>exact .iface _ (VR.XfK _ hs hl)
 ·split at h<;>cases h
  rename_i hs
  cases hr with|agg hl=>exact .agg (VRL.XfK _ hs hl)
 ·split at h<;>cases h
  rename_i hs
  cases hr with|tuple hl=>exact .tuple (VRL.XfK _ hs hl)
 ·cases h;cases hr;exact .bool _
 ·cases h;cases hr;exact .int _ _
 ·cases h;cases hr;exact .string _
 ·cases h;cases hr;exact .junk _ _ (by assumption)
 ·cases h;cases hr;exact .nilp
 ·split at h<;>cases h
  rename_i hs
  cases hr with|map hl=>exact .map (by rw [Xfa hs];exact hl)
 ·cases h;cases hr;exact .nilm
 ·cases h;cases hr;exact .nils _
 ·cases h;cases hr;exact .nilf
 ·cases h;cases hr;exact .nili
 ·cases h
theorem VRL.XfK {s:Nat→Option Nat}:∀ (l:List Value) {u l':List Value},Xe5.renL s l=some u→VRL ρ u l'→VRL (comp s ρ) l l':=by
 intro l u l' h hr
 cases l with
 | nil=>simp only [Xe5.renL,Option.some.injEq] at h;subst h;cases hr;exact .nil
 | cons v l=>
   simp only [Xe5.renL] at h
   split at h<;>try (cases h;done)
   rename_i v' hv
   split at h<;>try (cases h;done)
   rename_i k hk
   cases h
   cases hr with|cons h1 h2=>exact .cons (VR.XfK _ hv h1) (VRL.XfK _ hk h2)
end
theorem XsS.XfK {s:Nat→Option Nat} {e e':Env} {t:Array Value} (h:XsS ρ e t) (hs:XNt s e e'):XsS (comp s ρ) e' t:=by
 intro i v hv
 obtain ⟨u,hu,he⟩:=XwY hs i v hv
 obtain ⟨v',g,r⟩:=h i u he
 exact ⟨v',g,VR.XfK v hu r⟩
def renI (s:Nat→Option Nat):XfX→Option XfX
 | .inRangeFunc l=>match s l with
   | some j=>some (.inRangeFunc j)
   | none=>none
 | .endRangeFunc l=>match s l with
   | some j=>some (.endRangeFunc j)
   | none=>none
 | x=>some x
def XBz (s:Nat→Option Nat):List XfX→Option (List XfX)
 | []=>some []
 | x::l=>match renI s x with
   | some y=>match XBz s l with
     | some m=>some (y::m)
     | none=>none
   | none=>none
def XDD (s:Nat→Option Nat):List Nat→Option (List Nat)
 | []=>some []
 | x::l=>match s x with
   | some y=>match XDD s l with
     | some m=>some (y::m)
     | none=>none
   | none=>none
theorem XhQ.XfK {s:Nat→Option Nat} {x y:XfX} (h:renI s x=some y) {it:Item} (hr:XhQ P ρ y it):XhQ P (comp s ρ) x it:=by
 unfold renI at h
 split at h
 ·split at h<;>cases h
  rename_i hs
  cases hr with|inRangeFunc hl=>exact .inRangeFunc (by rw [Xfa hs];exact hl)
 ·split at h<;>cases h
  rename_i hs
  cases hr with|endRangeFunc hl=>exact .endRangeFunc (by rw [Xfa hs];exact hl)
 ·rename_i h1 h2
  cases h
  cases hr with
  | code h=>exact .code h
  | inBlock id=>exact .inBlock id
  | inScope c=>exact .inScope c
  | inLoop h=>exact .inLoop h
  | inReg h=>exact .inReg h
  | inRangeFunc h=>exact absurd rfl (h1 _)
  | endRangeFunc h=>exact absurd rfl (h2 _)
  | beginRound=>exact .beginRound
theorem XqW {s:Nat→Option Nat}:∀ {l m:List XfX} {k:List Item},XBz s l=some m→Xlb (XhQ P ρ) m k→Xlb (XhQ P (comp s ρ)) l k
 | [],m,k,h,hr=>by simp only [XBz,Option.some.injEq] at h;subst h;cases hr;exact .nil
 | x::l,m,k,h,hr=>by
   simp only [XBz] at h
   split at h<;>try (cases h;done)
   rename_i y hy
   split at h<;>try (cases h;done)
   rename_i m' hm
   cases h
   cases hr with|cons h1 h2=>exact .cons (h1.XfK hy) (XqW hm h2)
theorem XoQ {s:Nat→Option Nat}:∀ {l m:List Nat} {k:List Deferred},XDD s l=some m→Xlb (XNo ρ) m k→Xlb (XNo (comp s ρ)) l k
 | [],m,k,h,hr=>by simp only [XDD,Option.some.injEq] at h;subst h;cases hr;exact .nil
 | x::l,m,k,h,hr=>by
   simp only [XDD] at h
   split at h<;>try (cases h;done)
   rename_i y hy
   split at h<;>try (cases h;done)
   rename_i m' hm
   cases h
   cases hr with|cons h1 h2=>
   obtain ⟨lo,a,b⟩:=h1
   exact .cons ⟨lo,by rw [Xfa hy];exact a,b⟩ (XoQ hm h2)
structure FSub (s:Nat→Option Nat) (v v':Xb3):Prop where
 fn:v'.fn=v.fn
 nt:v'.nt=v.nt
 env:XNt s v.env v'.env
 todo:XBz s v'.todo=some v.todo
 defers:XDD s v'.defers=some v.defers
 ret:v'.ret=v.ret
 round:match v'.round,v.round with
  | none,none=>True
  | some a,some b=>s a=some b
  | _,_=>False
theorem FrR.XfK {s:Nat→Option Nat} {v v':Xb3} {f:Frame} (h:FrR P ρ v f) (hs:FSub s v v'):FrR P (comp s ρ) v' f where
 fn:=h.fn.trans hs.fn.symm
 size:=h.size.trans hs.nt.symm
 env:=h.env.XfK hs.env
 todo:=XqW hs.todo h.todo
 defers:=XoQ hs.defers h.defers
 mode:=by rw [h.mode,hs.ret]
 kind:=h.kind
 round:=by
  have h1:=h.round
  have h2:=hs.round
  cases hv':v'.round<;>cases hv:v.round<;>rw [hv',hv] at h2<;>first|exact h2.elim|skip
  ·rw [hv] at h1
   cases hf:f.roundOf with
   | none=>trivial
   | some q=>rw [hf] at h1;exact h1.elim
  ·rw [hv] at h1
   cases hf:f.roundOf with
   | none=>rw [hf] at h1;exact h1.elim
   | some q=>rw [hf] at h1;obtain ⟨lo,a,b⟩:=h1;exact ⟨lo,by rw [Xfa h2];exact a,b⟩
inductive Xrg (s:Nat→Option Nat):XbF→XbF→Prop
 | cells {cs cs'} (h:Xe5.renL s cs'=some cs):Xrg s (.cells cs) (.cells cs')
 | cellsF {cs} (h:Xbg.flatL cs=true):Xrg s (.cells cs) (.cells cs)
 | rowF {own own' cs} (h:Xbg.flatL cs=true) (ho:own'=true→own=true):Xrg s (.row own cs) (.row own' cs)
 | row {own own' cs cs'} (h:Xe5.renL s cs'=some cs) (ho:own'=true→own=true):Xrg s (.row own cs) (.row own' cs')
 | cr {own' cs cs'} (h:Xe5.renL s cs'=some cs):Xrg s (.cells cs) (.row own' cs')
 | crF {own' cs} (h:Xbg.flatL cs=true):Xrg s (.cells cs) (.row own' cs)
 | rc {cs cs'} (h:Xe5.renL s cs'=some cs):Xrg s (.row true cs) (.cells cs')
 | ty {t cs cs'} (h:Xe5.renL s cs'=some cs):Xrg s (.ty t cs) (.ty t cs')
 | tyF {t cs} (h:Xbg.flatL cs=true):Xrg s (.ty t cs) (.ty t cs)
 | tr {t own' cs cs'} (h:Xe5.renL s cs'=some cs):Xrg s (.ty t cs) (.row own' cs')
 | trF {t own' cs} (h:Xbg.flatL cs=true):Xrg s (.ty t cs) (.row own' cs)
 | siter (b p):Xrg s (.siter b p) (.siter b p)
 | mp (cs):Xrg s (.mp cs) (.mp cs)
 | marks:Xrg s .marks .marks
 | loop {r r':XBk} (state:r'.state=r.state) (pending:r'.pending=r.pending) (fn:r'.fn=r.fn) (nt:r'.nt=r.nt) (env:XNt s r.env r'.env) (params:r'.params=r.params) (asg:r'.asg=r.asg)
    (body:r'.body=r.body) (defers:s r'.defers=some r.defers):Xrg s (.loop r) (.loop r')
theorem XsE {s:Nat→Option Nat}:∀ {l m:List Value},Xe5.renL s l=some m→m.length=l.length∧∀ (i:Nat) v,l[i]?=some v→∃ u,Xe5 s v=some u∧m[i]?=some u
 | [],m,h=>by simp only [Xe5.renL,Option.some.injEq] at h;subst h;exact ⟨rfl,fun i v e=>by simp at e⟩
 | x::l,m,h=>by
   simp only [Xe5.renL] at h
   split at h<;>try (cases h;done)
   rename_i y hy
   split at h<;>try (cases h;done)
   rename_i m' hm
   cases h
   obtain ⟨h1,h2⟩:=XsE hm
   refine ⟨by simp [h1],fun i v e=>?_⟩
   cases i with
   | zero=>simp at e;subst e;exact ⟨y,hy,by simp⟩
   | succ i=>simp at e;obtain ⟨u,a,b⟩:=h2 i v e;exact ⟨u,a,by simpa using b⟩
mutual
theorem Xnh (s:Nat→Option Nat):∀ (v:Value),Xbg v=true→Xe5 s v=some v
 | .bool b,_=>by simp [Xe5]
 | .int k n,_=>by simp [Xe5]
 | .string s,_=>by simp [Xe5]
 | .pointer none,_=>by simp [Xe5]
 | .pointer (some _),h=>by simp [Xbg] at h
 | .slice none 0 0,_=>by simp [Xe5]
 | .slice none 0 (_+1),h=>by simp [Xbg] at h
 | .slice none (_+1) _,h=>by simp [Xbg] at h
 | .slice (some _) _ _,h=>by simp [Xbg] at h
 | .nilFunc,_=>by simp [Xe5]
 | .nilIface,_=>by simp [Xe5]
 | .agg ⟨l⟩,h=>by simp [Xe5,XdF s l (by simpa [Xbg] using h)]
 | .tuple ⟨l⟩,h=>by simp [Xe5,XdF s l (by simpa [Xbg] using h)]
 | .iface t v,h=>by simp [Xe5,Xnh s v (by simpa [Xbg] using h)]
 | .float ..,h=>by simp [Xbg] at h
 | .complex ..,h=>by simp [Xbg] at h
 | .map none,_=>by simp [Xe5]
 | .map (some _),h=>by simp [Xbg] at h
 | .chan _,h=>by simp [Xbg] at h
 | .func _ _ _,h=>by obtain ⟨f,rfl,rfl,rfl⟩:=Xqt h;simp [Xe5,Xe5.renL]
theorem XdF (s:Nat→Option Nat):∀ (l:List Value),Xbg.flatL l=true→Xe5.renL s l=some l
 | [],_=>by simp [Xe5.renL]
 | v::l,h=>by
   simp only [Xbg.flatL,Bool.and_eq_true] at h
   simp [Xe5.renL,Xnh s v h.1,XdF s l h.2]
end
theorem XbA.XfK {s:Nat→Option Nat} {w:World} {l:Loc} {own own':Bool} {cs cs':List Value} (h:XbA ρ w l own cs) (hs:Xe5.renL s cs'=some cs) (ho:own'=true→own=true):XbA (comp s ρ) w l own' cs':=by
 obtain ⟨h1,h2,h3⟩:=h
 obtain ⟨hl,hg⟩:=XsE hs
 refine ⟨by omega,fun i v e=>?_,fun i hi=>⟨(h3 i hi).1,fun e=>(h3 i hi).2 (ho e)⟩⟩
 obtain ⟨u,hu,hm⟩:=hg i v e
 obtain ⟨v',a,b⟩:=h2 i u hm
 exact ⟨v',a,VR.XfK v hu b⟩
theorem Xl5.XfK {s:Nat→Option Nat} {w:World} {l:Loc} {o o':XbF} (h:Xl5 P ρ w l o) (hs:Xrg s o o'):Xl5 P (comp s ρ) w l o':=by
 cases hs with
 | cells hc=>exact XbA.XfK h hc id
 | cellsF hf=>exact XbA.XfK h (XdF s _ hf) id
 | rowF hf ho=>exact XbA.XfK h (XdF s _ hf) ho
 | row hc ho=>exact XbA.XfK h hc ho
 | cr hc=>exact XbA.XfK h hc (fun _=>rfl)
 | crF hf=>exact XbA.XfK h (XdF s _ hf) (fun _=>rfl)
 | rc hc=>exact XbA.XfK h hc id
 | ty hc=>exact ⟨XbA.XfK h.1 hc id,h.2⟩
 | tyF hf=>exact ⟨XbA.XfK h.1 (XdF s _ hf) id,h.2⟩
 | tr hc=>exact XbA.XfK h.1 hc (fun _=>rfl)
 | trF hf=>exact XbA.XfK h.1 (XdF s _ hf) (fun _=>rfl)
 | siter=>exact h
 | mp=>exact h
 | marks=>exact h
 | loop state pending fn nt env params asg body defers=>
   obtain ⟨⟨r',hw,hr⟩,hsh⟩:=h
   refine ⟨⟨r',hw,⟨hr.state.trans state.symm,hr.fn.trans fn.symm,hr.size.trans nt.symm,hr.env.XfK env,hr.params.trans params.symm,hr.asg.trans (by rw [asg]),hr.body.trans (by rw [body]),?_,by rw [pending];exact hr.pending⟩⟩,hsh⟩
   obtain ⟨lo,a,b⟩:=hr.defers
   exact ⟨lo,by rw [Xfa defers];exact a,b⟩
theorem Xrg.writable {s:Nat→Option Nat} {o o':XbF} (h:Xrg s o o') (hw:writable o'=true):Vm.writable o=true:=by
 cases h<;>first|rfl|(rename_i ho;exact ho hw)
def HSub (s:Nat→Option Nat) (H H':Hp):Prop:=∀ i o',XaL H' i=some o'→∃ j o,s i=some j∧XaL H j=some o∧Xrg s o o'
theorem HpR.XfK {s:Nat→Option Nat} {H H':Hp} {top top':Nat} {w:World} (h:HpR P w0 (.of U) ρ H top w) (hs:HSub s H H') (hinj:∀ i j k,s i=some k→s j=some k→i=j) (htop:∀ i j,s i=some j→i<top') :
 HpR P w0 (.of U) (comp s ρ) H' top' w where
 obj i o' ho:=by
  obtain ⟨j,o,hj,hoj,hos⟩:=hs i o' ho
  obtain ⟨l,hl,hr,hw⟩:=h.obj j o hoj
  exact ⟨l,by rw [Xfa hj];exact hl,hr.XfK hos,fun hwr=>hw (hos.writable hwr)⟩
 dis i j oi oj li lj hij hi hj hli hlj hw:=by
  obtain ⟨i',o1,hi',ho1,hs1⟩:=hs i oi hi
  obtain ⟨j',o2,hj',ho2,hs2⟩:=hs j oj hj
  rw [Xfa hi'] at hli
  rw [Xfa hj'] at hlj
  exact h.dis i' j' o1 o2 li lj (fun e=>hij (hinj i j i' hi' (e▸hj'))) ho1 ho2 hli hlj (hs1.writable hw)
 lt i l e:=by
  unfold comp at e
  split at e
  ·rename_i j hj;have:=h.lt j l e;exact .inr ⟨Nat.zero_le _,htop i j hj⟩
  ·cases e
 keep:=h.keep
structure Sub (base:Nat) (s:Nat→Option Nat) (v v':VM):Prop where
 cur:FSub s v.cur v'.cur
 up:Xlb (FSub s) v.up v'.up
 heap:HSub s v.heap v'.heap
 inj:∀ i j k,s i=some k→s j=some k→i=j
 top:∀ i j,s i=some j→i<v'.top
 fix:∀ i,i<base→s i=some i
theorem Xtm {s:Nat→Option Nat}:∀ {l m:List Xb3} {k:List Frame},Xlb (FSub s) l m→Xlb (FrR P ρ) l k→Xlb (FrR P (comp s ρ)) m k
 | _,_,_,.nil,.nil=>.nil
 | _,_,_,.cons a t,.cons b u=>.cons (b.XfK a) (Xtm t u)
theorem XaM.sub {f base:Nat} {vm vm':VM} {R:Value→Hp→Nat→Prop} {s:Nat→Option Nat} (hs:Sub base s vm vm') (h:XaM P f base vm' R):XaM P f base vm R:=by
 refine ⟨fun w0 U ρ rf rfs w cs hr=>?_⟩
 obtain ⟨ρ',rv,fr',w',v,H,top,h1,h2,h3,h4,h5,h6,h7⟩:=h.get w0 U (comp s ρ) rf rfs w cs ⟨hr.cur.XfK hs.cur,Xtm hs.up hr.up,hr.heap.XfK hs.heap hs.inj hs.top⟩
 exact ⟨ρ',rv,fr',w',v,H,top,h1,h2,h3,h4,h5,fun i l hi hl=>h6 i l hi (by rw [Xfa (hs.fix i hi)];exact hl),h7⟩
theorem XaM.next {f base:Nat} {vm vm':VM} {R:Value→Hp→Nat→Prop} (hF:Xlt P F) (hS:Xaq P S) (hv:XdC F S vm=some vm') (h:XaM P f base vm' R):XaM P f base vm R:=by
 refine ⟨fun w0 U ρ rf rfs w cs hr=>?_⟩
 obtain ⟨ρ1,rf1,rfs1,w1,s1,r1,e1⟩:=XA6 hF hS hr hv cs
 obtain ⟨ρ',rv,fr',w',v,H,top,h1,h2,h3,h4,h5,h6,h7⟩:=h.get w0 U ρ1 rf1 rfs1 w1 cs r1
 exact ⟨ρ',rv,fr',w',v,H,top,s1.trans h1,h2,h3,h4,h5,fun i l hi hl=>h6 i l hi (e1 _ _ hl),h7⟩
theorem XaM.mono {f base:Nat} {vm:VM} {R R':Value→Hp→Nat→Prop} (h:XaM P f base vm R) (hR:∀ v H t,R v H t→R' v H t):XaM P f base vm R':=by
 refine ⟨fun w0 U ρ rf rfs w cs hr=>?_⟩
 obtain ⟨ρ',rv,fr',w',v,H,top,h1,h2,h3,h4,h5,h6,h7⟩:=h.get w0 U ρ rf rfs w cs hr
 exact ⟨ρ',rv,fr',w',v,H,top,h1,h2,h3,h4,h5,h6,hR _ _ _ h7⟩
theorem XaM.stop {f base:Nat} {nt:Nat} {e:Env} {k:List XfX} {r:Option Nat} {H:Hp} {top:Nat} {R:Value→Hp→Nat→Prop} (hF:Xlt P F) {vf:VFn} (hf:F f=some vf) {vs:List Value} (hv:Xqs e H vf.results=some vs) (h:R (XFo vs) H top) :
 XaM P f base ⟨⟨f,nt,e,k,[],true,r⟩,[],H,top⟩ R:=by
 refine ⟨fun w0 U ρ rf rfs w cs hr=>?_⟩
 obtain ⟨hcur,hup,hheap⟩:=hr
 simp only at hup
 cases hup
 obtain ⟨fn,hfn,hcf⟩:=hF _ _ hf
 unfold XaV at hcf
 split at hcf<;>try (cases hcf;done)
 split at hcf<;>try (cases hcf;done)
 split at hcf<;>try (cases hcf;done)
 split at hcf<;>try (cases hcf;done)
 rename_i rs hrs
 cases hcf
 obtain ⟨v',hv',hrun⟩:=Xqx hcur.env hheap hrs hv
 have hdn:rf.defers=[]:=by
  have:Xlb (XNo ρ) [] rf.defers:=hcur.defers
  cases hx:rf.defers with
  | nil=>rfl
  | cons=>rw [hx] at this;cases this
 have hfe:rf.fn=f:=hcur.fn
 exact ⟨ρ,v',rf,w,_,H,top,Steps.refl _ _,hfe,⟨by rw [hcur.mode];rfl,hdn,hcur.kind,fn,by rw [hfe];exact hfn,hrun⟩,hv',hheap,fun _ _ _ h=>h,h⟩
end
def XqR (k:Nat):List (Option XbF)→Hp
 | []=>[]
 | none::l=>XqR (k+1) l
 | some o::l=>(k,o)::XqR (k+1) l
def Has (H:Hp) (j:Nat) (c:List Value):Prop:=XaL H j=some (.row true c)∨XaL H j=some (.cells c)∨∃ d m,XaL H j=some (.row true d)∧c=d.take m
def Xul (js:List Nat) (n:Nat) (i:Nat):Option Nat:=match js[i]? with
 | some j=>some j
 | none=>cond (Nat.blt (i - js.length) n) (some (i - js.length)) none
def HasW (H:Hp) (s:Nat→Option Nat) (k:Nat) (c:List Value):Prop:=match mk3 c with
 | some x=>XaL H k=some (.mp x)
 | none=>∃ c',Xe5.renL s c=some c'∧Has H k c'
def XxF (H:Hp) (s:Nat→Option Nat):Nat→List (Option (List Value))→Prop
 | k,none::l=>XxF H s (k+1) l
 | k,some c::l=>HasW H s k c∧XxF H s (k+1) l
 | _,[]=>True
def XtG (H:Hp) (s:Nat→Option Nat):List Nat→List (List Value)→Prop
 | j::js,c::cs=>(∃ c',Xe5.renL s c=some c'∧Has H j c')∧XtG H s js cs
 | [],[]=>True
 | _,_=>False
structure Res (n:Nat) (r:Xc2) (v':Value) (H':Hp):Prop where
 ex:∃ js:List Nat,Xe5 (Xul js n) r.v=some v'∧XtG H' (Xul js n) js r.new∧js.Nodup∧(∀ j∈js,n≤j∨r.wr[j]?=some none)∧XxF H' (Xul js n) 0 r.wr
section
variable {P:Program} {F:Fns} {S:Xmn}
mutual
theorem XpY:∀ (v:Value) {u:Value},Xe5 (fun _=>none) v=some u→u=v:=by
 intro v u h
 unfold Xe5 at h
 split at h
 ·simp at h
 ·simp at h
 ·split at h<;>cases h
  rename_i ha hb
  rw [XkU _ ha,XkU _ hb]
 ·simp at h
 ·cases h;rfl
 ·simp at h
 ·split at h<;>cases h
  rename_i hs
  rw [XpY _ hs]
 ·split at h<;>cases h
  rename_i hs
  rw [XkU _ hs]
 ·split at h<;>cases h
  rename_i hs
  rw [XkU _ hs]
 all_goals (cases h;try rfl)
theorem XkU:∀ (l:List Value) {u:List Value},Xe5.renL (fun _=>none) l=some u→u=l:=by
 intro l u h
 cases l with
 | nil=>simp only [Xe5.renL,Option.some.injEq] at h;exact h.symm
 | cons v l=>
   simp only [Xe5.renL] at h
   split at h<;>try (cases h;done)
   rename_i v' hv
   split at h<;>try (cases h;done)
   rename_i k hk
   cases h
   rw [XpY _ hv,XkU _ hk]
end
theorem VR.move {ρ ρ':Ren} {v u v':Value} (h:Xe5 (fun _=>none) v=some u) (hr:VR ρ' v v'):VR ρ u v':=by
 have e:=XpY v h
 subst e
 exact (VR.XfK u h hr).mono (fun i l e=>by simp [comp] at e)
theorem XbA.move {ρ ρ':Ren} {w:World} {l:Loc} {own:Bool} {cs:List Value} (h:XbA ρ w l own cs) (hf:Xbg.flatL cs=true):XbA ρ' w l own cs:=by
 obtain ⟨h1,h2,h3⟩:=XbA.XfK (s:=fun _=>none) h (XdF _ _ hf) id
 refine ⟨h1,fun i v e=>?_,h3⟩
 obtain ⟨v',a,b⟩:=h2 i v e
 exact ⟨v',a,b.mono (fun i l e=>by simp [comp] at e)⟩
mutual
theorem VR.ren {s:Nat→Option Nat} {ρ ρ2:Ren} (hs:∀ i k l,s i=some k→ρ i=some l→ρ2 k=some l):∀ (v:Value) {u v':Value},Xe5 s v=some u→VR ρ v v'→VR ρ2 u v':=by
 intro v u v' h hr
 unfold Xe5 at h
 split at h
 ·split at h<;>cases h
  rename_i hj
  cases hr with|ptr hl=>exact .ptr (hs _ _ _ hj hl)
 ·split at h<;>cases h
  rename_i hj
  cases hr with
  | slice hl hn hc=>exact .slice (hs _ _ _ hj hl) hn hc
  | slice0 a=>exact .slice0 a
 ·split at h<;>cases h
  rename_i ha hb
  cases hr with|func _ h1 h2=>exact .func _ (VRL.ren hs _ ha h1) (VRL.ren hs _ hb h2)
 ·split at h<;>cases h
  rename_i hj
  cases hr with|yield hl=>exact .yield (hs _ _ _ hj hl)
 ·cases h;cases hr;exact .tnil _ _
 ·split at h<;>cases h
  rename_i hj
  cases hr with|tsl _ hl hv=>exact .tsl _ (hs _ _ _ hj hl) hv
 ·split at h<;>cases h
  rename_i hj
  cases hr with|iface _ hl=>exact .iface _ (VR.ren hs _ hj hl)
 ·split at h<;>cases h
  rename_i hj
  cases hr with|agg hl=>exact .agg (VRL.ren hs _ hj hl)
 ·split at h<;>cases h
  rename_i hj
  cases hr with|tuple hl=>exact .tuple (VRL.ren hs _ hj hl)
 ·cases h;cases hr;exact .bool _
 ·cases h;cases hr;exact .int _ _
 ·cases h;cases hr;exact .string _
 ·cases h;cases hr;exact .junk _ _ (by assumption)
 ·cases h;cases hr;exact .nilp
 ·split at h<;>cases h
  rename_i hj
  cases hr with|map hl=>exact .map (hs _ _ _ hj hl)
 ·cases h;cases hr;exact .nilm
 ·cases h;cases hr;exact .nils _
 ·cases h;cases hr;exact .nilf
 ·cases h;cases hr;exact .nili
 ·cases h
theorem VRL.ren {s:Nat→Option Nat} {ρ ρ2:Ren} (hs:∀ i k l,s i=some k→ρ i=some l→ρ2 k=some l):∀ (l:List Value) {u l':List Value},Xe5.renL s l=some u→VRL ρ l l'→VRL ρ2 u l':=by
 intro l u l' h hr
 cases l with
 | nil=>simp only [Xe5.renL,Option.some.injEq] at h;subst h;cases hr;exact .nil
 | cons v l=>
   simp only [Xe5.renL] at h
   split at h<;>try (cases h;done)
   rename_i v' hv
   split at h<;>try (cases h;done)
   rename_i k hk
   cases h
   cases hr with|cons h1 h2=>exact .cons (VR.ren hs _ hv h1) (VRL.ren hs _ hk h2)
end
theorem XbA.any {ρ:Ren} {w:World} {l:Loc} {own:Bool} {cs:List Value} (h:XbA ρ w l own cs) (hf:Xbg.flatL cs=true):∀ ρ',XbA ρ' w l own cs:=fun _=>XbA.move h hf
theorem Xyi {ob:XbF} {x:List Value} (h:ob.wcs=some x):ob.cs=some x∧writable ob=true∧(ob=.cells x∨ob=.row true x):=by
 cases ob with
 | cells cs=>simp only [XbF.wcs,Option.some.injEq] at h;subst h;exact ⟨rfl,rfl,.inl rfl⟩
 | row own cs=>cases own<;>simp only [XbF.wcs] at h<;>cases h;exact ⟨rfl,rfl,.inr rfl⟩
 | _=>cases h
theorem XbA.win {ρ:Ren} {w:World} {l:Loc} {own:Bool} {cs:List Value} (h:XbA ρ w l own cs) {o n e:Nat} (hle:o+n≤cs.length) (hn:n≤e) (he:o+e≤l.ext):XbA ρ w ⟨l.blk,l.sh+o,e⟩ own ((cs.drop o).take n):=by
 obtain ⟨g1,g2,g3⟩:=h
 have hlen:((cs.drop o).take n).length=n:=by simp;omega
 refine ⟨by simp only [hlen];omega,fun i v e=>?_,fun i hi=>?_⟩
 ·have hi:i<n:=by
   rcases Nat.lt_or_ge i n with h'|h'
   ·exact h'
   ·rw [List.getElem?_eq_none (by omega)] at e;cases e
  rw [List.getElem?_take_of_lt hi,List.getElem?_drop] at e
  obtain ⟨v',a,b⟩:=g2 (o+i) v e
  exact ⟨v',by rw [←a];simp [Nat.add_assoc],b⟩
 ·have:=g3 (o+i) (by simp only at hi;omega)
  simpa [Nat.add_assoc] using this
theorem XbA.weak {ρ:Ren} {w:World} {l:Loc} {own:Bool} {cs:List Value} (h:XbA ρ w l own cs):XbA ρ w l false cs:=⟨h.1,h.2.1,fun i hi=>⟨(h.2.2 i hi).1,fun e=>by cases e⟩⟩
theorem XkW:∀ {os:List (Option XbF)} {k i:Nat} {o:XbF},XaL (XqR k os) i=some o→k≤i∧os[i - k]?=some (some o)
 | [],k,i,o,e=>by simp [XqR,XaL] at e
 | none::os,k,i,o,e=>by
   obtain ⟨h1,h2⟩:=XkW (os:=os) e
   exact ⟨by omega,by rw [show i - k=(i - (k+1))+1 by omega];simpa using h2⟩
 | some x::os,k,i,o,e=>by
   simp only [XqR] at e
   have e':XaL ((k,x)::XqR (k+1) os) i=if k=i then some x else XaL (XqR (k+1) os) i:=by
    simp only [XaL]
    cases hb:Nat.beq k i with
    | true=>rw [if_pos (Nat.eq_of_beq_eq_true hb)];rfl
    | false=>rw [if_neg (fun e=>by subst e;simp at hb)];rfl
   rw [e'] at e
   split at e
   ·rename_i hk;cases e;subst hk;exact ⟨Nat.le_refl _,by simp⟩
   ·obtain ⟨h1,h2⟩:=XkW (os:=os) e
    exact ⟨by omega,by rw [show i - k=(i - (k+1))+1 by omega];simpa using h2⟩
def Xt0 (ρ:Ren):Wd→Option Loc
 | .no=>none
 | .emp _=>some ⟨0,0,0⟩
 | .win b off n true=>match ρ b with|some l=>some ⟨l.blk,l.sh+off,n⟩|none=>none
 | .win b off _ false=>match ρ b with|some l=>some ⟨l.blk,l.sh+off,l.ext - off⟩|none=>none
 | .blk b _=>ρ b
def XEL (ρ:Ren) (ws:List Wd):Ren:=fun i=>match ws[i]? with|some x=>Xt0 ρ x|none=>none
theorem Xrv {s:Nat→Option Nat} {pats:List (Nat×Value)} {k:Nat} {ob o:XbF} (h:XtJ s pats k ob=some o) :
 k=3∧(∃ cs,ob=.mp cs∧o=.mp cs)∨k≠3∧∃ cs cs',(cond (isW k) ob.wcs ob.cs)=some cs∧Xe5.renL s cs=some cs'∧o=mkObj k (Xt4 cs' pats):=by
 unfold XtJ at h
 cases hb:Nat.beq k 3 with
 | true=>
   rw [hb,cond_true] at h
   refine .inl ⟨Nat.eq_of_beq_eq_true hb,?_⟩
   unfold mapB at h
   split at h<;>cases h
   exact ⟨_,rfl,rfl⟩
 | false=>
   rw [hb,cond_false] at h
   refine .inr ⟨fun e=>by subst e;simp at hb,?_⟩
   split at h<;>try (cases h;done)
   rename_i cs hcs
   split at h<;>cases h
   exact ⟨cs,_,hcs,by assumption,rfl⟩
def isObj (o:XbF) (cs:List Value):Prop:=o=.row false cs∨o=.cells cs∨o=.row true cs
theorem isObj.cs {o:XbF} {cs:List Value} (h:isObj o cs):o.cs=some cs:=by rcases h with rfl|rfl|rfl<;>rfl
theorem isObj.objR {ρ:Ren} {w:World} {l:Loc} {o:XbF} {cs:List Value} (h:isObj o cs) (hc:XbA ρ w l (writable o) cs):Xl5 P ρ w l o:=by rcases h with rfl|rfl|rfl<;>exact hc
theorem isObj.mk (k:Nat) (cs:List Value) (h3:k≠3):isObj (mkObj k cs) cs∧writable (mkObj k cs)=isW k:=by
 unfold mkObj isW
 split
 ·exact ⟨.inl rfl,rfl⟩
 ·exact ⟨.inr (.inl rfl),rfl⟩
 ·exact absurd rfl h3
 ·rename_i h1 h2 _
  refine ⟨.inr (.inr rfl),?_⟩
  split
  ·rename_i h;exact absurd rfl h1
  ·rfl
def XNr (w:World) (H:Hp) (ρ ρc:Ren) (x:Wd) (o:XbF):Prop:=
 ∃ l cs,Xt0 ρ x=some l∧(isObj o cs∧XbA ρc w l (writable o) cs∨o=.mp cs∧∀ P ρ',Xl5 P ρ' w l o)∧x.wr=writable o ∧
  (l.ext=0∧x.XjI=none∨∃ b lb ob,x.XjI=some b∧XaL H b=some ob∧ρ b=some lb∧l.blk=lb.blk∧lb.sh≤l.sh∧l.sh+l.ext≤lb.sh+lb.ext∧(x.wr=true→writable ob=true))
theorem VR.XSW {ρ ρ':Ren} {s:Nat} {rv:Value} (h:VR ρ (.slice none 0 s) rv) (j sz:Nat):VR ρ' (.slice (some ⟨j,0,none⟩) 0 sz) rv:=by
 cases h;exact .slice0 none
theorem XwE {ρ:Ren}:∀ {pats:List (Nat×Value)} {cs rcs:List Value},VRL ρ cs rcs→(∀ p∈pats,∀ r,rcs[p.1]?=some r→VR ρ p.2 r)→VRL ρ (Xt4 cs pats) rcs
 | [],cs,rcs,h,_=>h
 | (i,x)::l,cs,rcs,h,hp=>by
   refine XwE (pats:=l) ?_ (fun p hm=>hp p (by simp [hm]))
   cases hr:rcs[i]? with
   | none=>
     have:cs.set i x=cs:=List.set_eq_of_length_le (by rw [h.length];exact List.getElem?_eq_none_iff.1 hr)
     rw [this];exact h
   | some r=>
     have h1:=VRL.set i h (hp (i,x) (by simp) r hr)
     have:rcs.set i r=rcs:=by
      apply List.ext_getElem?
      intro j
      rw [List.getElem?_set]
      split
      ·rename_i e;subst e
       split
       ·exact hr.symm
       ·rename_i hl;rw [List.getElem?_eq_none (by omega)]
      ·rfl
     rw [this] at h1;exact h1
theorem XbA.sets {ρ:Ren} {w:World} {l:Loc} {own:Bool}:∀ {pats:List (Nat×Value)} {cs:List Value},XbA ρ w l own cs→(∀ p∈pats,∀ r,w.cell? ⟨l.blk,l.sh+p.1,none⟩=some r→VR ρ p.2 r)→XbA ρ w l own (Xt4 cs pats)
 | [],cs,h,_=>h
 | (i,x)::pats,cs,h,hp=>by
   refine XbA.sets (pats:=pats) ?_ (fun p hm=>hp p (by simp [hm]))
   obtain ⟨g1,g2,g3⟩:=h
   refine ⟨by simpa using g1,fun j v e=>?_,g3⟩
   rw [List.getElem?_set] at e
   split at e
   ·rename_i hij;subst hij
    split at e
    ·rename_i hl
     cases e
     obtain ⟨v',a,_⟩:=g2 i _ (List.getElem?_eq_getElem hl)
     exact ⟨v',a,hp (i,x) (by simp) v' a⟩
    ·cases e
   ·exact g2 j v e
theorem Xri {v:Value} (h:∀ cs,v≠.agg ⟨cs⟩):Xbd v=[v]:=by
 cases v<;>first|rfl|(rename_i a;exact absurd rfl (h a.toList))
theorem Xyt {ρ ρ':Ren} {v v' rv:Value} {pats:List (Nat×Value)} (h:VR ρ v rv) (h':VR ρ' v' rv) (hp:∀ p∈pats,∃ j sz s,p.2=.slice (some ⟨j,0,none⟩) 0 sz∧(Xbd v)[p.1]?=some (.slice none 0 s)):VR ρ' (Xwy v' pats) rv:=by
 have hc:=h.cells
 have hc':=h'.cells
 have hx:∀ p∈pats,∀ r,(Xbd rv)[p.1]?=some r→VR ρ' p.2 r:=fun p hm r hr=>by
  obtain ⟨j,sz,s,e,hn⟩:=hp p hm
  obtain ⟨r',e',hv⟩:=hc.get hn
  rw [show (Xbd rv)[p.1]?=some r' from e'] at hr;cases hr
  rw [e];exact hv.XSW _ _
 unfold Xwy
 split
 ·exact h'
 ·rename_i i x l
  split
  ·rename_i cs
   cases h' with|agg hl=>exact .agg (XwE hl hx)
  ·rename_i hna
   obtain ⟨j,sz,s,e,hn⟩:=hp (i,x) (by simp)
   have hrv:∀ cs,rv≠.agg ⟨cs⟩:=fun cs e=>by
    subst e
    generalize hz:Value.agg ⟨cs⟩=z at h'
    cases h'<;>cases hz
    ·rename_i k n hj;simp [Vm.Xir] at hj
    ·rename_i hv';rcases hv' with ⟨_,e⟩|⟨_,e,_⟩<;>cases e
    ·exact hna _ rfl
   have hlen:=hc.length
   rw [Xri hrv] at hlen
   have hi:i=0:=by
    have:i<(Xbd v).length:=by
     rcases Nat.lt_or_ge i (Xbd v).length with h|h
     ·exact h
     ·rw [List.getElem?_eq_none h] at hn;cases hn
    simp at hlen;omega
   subst hi
   exact hx (0,x) (by simp) rv (by rw [Xri hrv];rfl)
theorem Xs1 (h:Hp) (v:Value):∀ (ps:List Path) (bs:List PR),∃ rest,Xhv h v ps bs=bs++rest∧rest.length=ps.length∧∀ (i:Nat) p,ps[i]?=some p→rest[i]?=some (XsD h v ((Xhv h v ps bs).take (bs.length+i)) p)
 | [],bs=>⟨[],by simp [Xhv],rfl,fun i p e=>by simp at e⟩
 | p::ps,bs=>by
   obtain ⟨rest,h1,h2,h3⟩:=Xs1 h v ps (bs++[XsD h v bs p])
   refine ⟨XsD h v bs p::rest,by rw [Xhv,h1];simp,by simp [h2],fun i q e=>?_⟩
   cases i with
   | zero=>
     simp at e;subst e
     rw [Xhv,h1];simp
   | succ i=>
     have:=h3 i q (by simpa using e)
     rw [List.getElem?_cons_succ,this,Xhv]
     simp only [List.length_append,List.length_singleton]
     rw [show bs.length+1+i=bs.length+(i+1) by omega]
theorem Xyv {h:Hp} {v:Value} {ps:List Path} {i:Nat} {p:Path} (e:ps[i]?=some p):(Xhv h v ps [])[i]?=some (XsD h v ((Xhv h v ps []).take i) p):=by
 obtain ⟨rest,h1,_,h3⟩:=Xs1 h v ps []
 have:=h3 i p e
 rw [h1] at this ⊢
 simpa using this
theorem Xv5 {p:Path} {c:Option Value} {sz:Nat} (h:prOf p c=.nil sz):∃ s,c=some (.slice none 0 s):=by
 unfold prOf at h
 split at h
 ·cases h
 ·split at h
  ·exact ⟨_,rfl⟩
  ·split at h<;>cases h
theorem XvJ {h:Hp} {v:Value} {ps:List Path} {i:Nat} {p:Path} {sz:Nat} (e:ps[i]?=some p) (hb:(Xhv h v ps [])[i]?=some (.nil sz)) :
 (p.src=none→∃ s,(Xbd v)[p.cell]?=some (.slice none 0 s))∧∀ j,p.src=some j→∃ b ob cs s,(Xhv h v ps [])[j]?=some (.hit b)∧XaL h b=some ob∧ob.cs=some cs∧cs[p.cell]?=some (.slice none 0 s):=by
 rw [Xyv e] at hb
 have hb:=Option.some.inj hb
 unfold XsD at hb
 refine ⟨fun hs=>?_,fun j hs=>?_⟩
 ·rw [hs] at hb;exact Xv5 hb
 ·rw [hs] at hb
  simp only at hb
  split at hb<;>try (cases hb;done)
  rename_i b hj
  split at hb<;>try (cases hb;done)
  rename_i ob hob
  split at hb<;>try (cases hb;done)
  rename_i cs hcs
  obtain ⟨s,hn⟩:=Xv5 hb
  refine ⟨b,ob,cs,s,?_,hob,hcs,hn⟩
  have hji:j<i:=by
   rcases Nat.lt_or_ge j i with h|h
   ·exact h
   ·rw [List.getElem?_eq_none (by simp;omega)] at hj;cases hj
  rwa [List.getElem?_take_of_lt hji] at hj
theorem XmP:∀ {bs:List PR} {k b j:Nat},XxT k bs b=some j→k≤j∧bs[j - k]?=some (.hit b)
 | [],k,b,j,h=>by simp [XxT] at h
 | .no::bs,k,b,j,h=>by
   obtain ⟨h1,h2⟩:=XmP (bs:=bs) (by simpa [XxT] using h)
   exact ⟨by omega,by rw [show j - k=(j - (k+1))+1 by omega];simpa using h2⟩
 | .nil z::bs,k,b,j,h=>by
   obtain ⟨h1,h2⟩:=XmP (bs:=bs) (by simpa [XxT] using h)
   exact ⟨by omega,by rw [show j - k=(j - (k+1))+1 by omega];simpa using h2⟩
 | .hit c::bs,k,b,j,h=>by
   simp only [XxT] at h
   cases hb:Nat.beq c b with
   | true=>
     rw [hb,cond_true] at h;cases h
     have:=Nat.eq_of_beq_eq_true hb;subst this
     exact ⟨Nat.le_refl _,by simp⟩
   | false=>
     rw [hb,cond_false] at h
     obtain ⟨h1,h2⟩:=XmP (bs:=bs) h
     exact ⟨by omega,by rw [show j - k=(j - (k+1))+1 by omega];simpa using h2⟩
theorem Xol {src:Option Nat}:∀ {ps:List Path} {bs:List PR} {k:Nat} {x:Nat×Value},x∈Xmx k src ps bs→∃ i p sz,ps[i]?=some p∧bs[i]?=some (.nil sz)∧p.src=src∧x.1=p.cell∧x.2=.slice (some ⟨k+i,0,none⟩) 0 sz
 | [],bs,k,x,h=>by simp [Xmx] at h
 | p::ps,[],k,x,h=>by simp [Xmx] at h
 | p::ps,y::bs,k,x,h=>by
   have up:x∈Xmx (k+1) src ps bs→∃ i q sz,(p::ps)[i]?=some q∧(y::bs)[i]?=some (.nil sz)∧q.src=src∧x.1=q.cell∧x.2=.slice (some ⟨k+i,0,none⟩) 0 sz:=fun h=>by
    obtain ⟨i,q,sz,h1,h2,h3,h4,h5⟩:=Xol h
    exact ⟨i+1,q,sz,by simpa using h1,by simpa using h2,h3,h4,by rw [h5,show k+1+i=k+(i+1) by omega]⟩
   cases y with
   | no=>exact up (by simpa [Xmx] using h)
   | hit b=>exact up (by simpa [Xmx] using h)
   | nil sz=>
     simp only [Xmx] at h
     cases hb:p.src==src with
     | false=>rw [hb,cond_false] at h;exact up h
     | true=>
       rw [hb,cond_true] at h
       rcases List.mem_cons.1 h with h|h
       ·subst h;exact ⟨0,p,sz,rfl,rfl,by simpa using hb,rfl,by simp⟩
       ·exact up h
theorem Xss:∀ {ps:List Path} {bs:List PR} {i:Nat} {x:Wd},(XsQ ps bs)[i]?=some x→∃ p y,ps[i]?=some p∧bs[i]?=some y∧x=(match y with|.no=>Wd.no|.nil _=>.emp (isW p.kind)|.hit b=>.blk b (isW p.kind))
 | [],bs,i,x,h=>by simp [XsQ] at h
 | p::ps,[],i,x,h=>by simp [XsQ] at h
 | p::ps,y::bs,0,x,h=>by
   refine ⟨p,y,rfl,rfl,?_⟩
   cases y<;>(simp only [XsQ,List.getElem?_cons_zero,Option.some.injEq] at h;exact h.symm)
 | p::ps,y::bs,i+1,x,h=>by
   obtain ⟨q,z,h1,h2,h3⟩:=Xss (ps:=ps) (bs:=bs) (i:=i) (x:=x) (by cases y<;>simpa [XsQ] using h)
   exact ⟨q,z,by simpa using h1,by simpa using h2,h3⟩
theorem Xse:∀ {ps:List Path} {bs:List PR},bs.length=ps.length→(XsQ ps bs).length=ps.length
 | [],bs,_=>by simp [XsQ]
 | p::ps,[],h=>by simp at h
 | p::ps,y::bs,h=>by cases y<;>simp [XsQ,Xse (ps:=ps) (bs:=bs) (by simpa using h)]
theorem Xq1 {h:Hp} {s:Nat→Option Nat} {pat:Option Nat→List (Nat×Value)}:∀ {ps:List Path} {bs:List PR} {i0:Nat} {l:List (Option XbF)},XfQ h s pat i0 ps bs=some l →
 l.length=ps.length∧∀ (i:Nat) p y,ps[i]?=some p→bs[i]?=some y→match y with
  | .no=>l[i]?=some none
  | .nil _=>p.kind≠3∧l[i]?=some (some (mkObj p.kind []))
  | .hit b=>∃ ob o,XaL h b=some ob∧XtJ s (pat (some (i0+i))) p.kind ob=some o∧l[i]?=some (some o)
 | [],[],i0,l,e=>by simp only [XfQ,Option.some.injEq] at e;subst e;exact ⟨rfl,fun i p y h=>by simp at h⟩
 | [],_::_,i0,l,e=>by simp [XfQ] at e
 | p::ps,[],i0,l,e=>by simp [XfQ] at e
 | p::ps,y::bs,i0,l,e=>by
   have up:∀ (o:Option XbF) (l':List (Option XbF)),XfQ h s pat (i0+1) ps bs=some l'→l=o::l'→(match y with
    | .no=>o=none
    | .nil _=>p.kind≠3∧o=some (mkObj p.kind [])
    | .hit b=>∃ ob q,XaL h b=some ob∧XtJ s (pat (some i0)) p.kind ob=some q∧o=some q) →
    l.length=(p::ps).length∧∀ (i:Nat) q z,(p::ps)[i]?=some q→(y::bs)[i]?=some z→match z with
     | .no=>l[i]?=some none
     | .nil _=>q.kind≠3∧l[i]?=some (some (mkObj q.kind []))
     | .hit b=>∃ ob o,XaL h b=some ob∧XtJ s (pat (some (i0+i))) q.kind ob=some o∧l[i]?=some (some o):=fun o l' h1 h2 h3=>by
    obtain ⟨g1,g2⟩:=Xq1 h1
    subst h2
    refine ⟨by simp [g1],fun i q z hq hz=>?_⟩
    cases i with
    | zero=>
      simp at hq hz;subst hq;subst hz
      cases y with
      | no=>simp only at h3 ⊢;simp [h3]
      | nil _=>simp only at h3 ⊢;exact ⟨h3.1,by simp [h3.2]⟩
      | hit b=>simp only at h3 ⊢;obtain ⟨ob,q,a,b',d⟩:=h3;exact ⟨ob,q,a,b',by simp [d]⟩
    | succ i=>
      have:=g2 i q z (by simpa using hq) (by simpa using hz)
      rw [show i0+1+i=i0+(i+1) by omega] at this
      cases z<;>simpa using this
   cases y with
   | no=>
     simp only [XfQ] at e
     split at e<;>cases e
     exact up none _ (by assumption) rfl rfl
   | nil z=>
     simp only [XfQ] at e
     cases hb:Nat.beq p.kind 3 with
     | true=>rw [hb,cond_true] at e;cases e
     | false=>
       rw [hb,cond_false] at e
       split at e<;>cases e
       exact up _ _ (by assumption) rfl ⟨fun h3=>by rw [h3] at hb;simp at hb,rfl⟩
   | hit b=>
     simp only [XfQ] at e
     split at e<;>try (cases e;done)
     split at e<;>try (cases e;done)
     split at e<;>cases e
     exact up _ _ (by assumption) rfl ⟨_,_,by assumption,by assumption,rfl⟩
theorem XbA.ren {s:Nat→Option Nat} {ρ ρ2:Ren} {w:World} {l:Loc} {own:Bool} {cs cs':List Value} (h:XbA ρ w l own cs) (hs:∀ i k l,s i=some k→ρ i=some l→ρ2 k=some l) (hr:Xe5.renL s cs=some cs'):XbA ρ2 w l own cs':=by
 obtain ⟨g1,g2,g3⟩:=h
 obtain ⟨e1,e2⟩:=XsE hr
 refine ⟨by omega,fun i v e=>?_,g3⟩
 have hi:i<cs.length:=by
  rcases Nat.lt_or_ge i cs'.length with h|h
  ·omega
  ·rw [List.getElem?_eq_none h] at e;cases e
 obtain ⟨u,hu,hm⟩:=e2 i _ (List.getElem?_eq_getElem hi)
 rw [hm] at e;cases e
 obtain ⟨v',a,b⟩:=g2 i _ (List.getElem?_eq_getElem hi)
 exact ⟨v',a,VR.ren hs _ hu b⟩
theorem XEM {ρ:Ren} {w:World} {l:Loc} {ob:XbF} {cs:List Value} {k:Bool} (h:Xl5 P ρ w l ob) (hc:(cond k ob.wcs ob.cs)=some cs):XbA ρ w l k cs∧ob.cs=some cs∧(k=true→writable ob=true):=by
 cases k with
 | true=>
   obtain ⟨e1,e2,e3⟩:=Xyi hc
   exact ⟨by rcases e3 with rfl|rfl<;>exact h,e1,fun _=>e2⟩
 | false=>
   obtain ⟨own,g⟩:=h.cells hc
   exact ⟨g.weak,hc,fun e=>by cases e⟩
def XHz:Md→List Nat
 | .v=>[]
 | .sl _=>[0]
 | .pt _=>[1]
 | .tr ps=>ps.map (·.kind)
def Xv8:List Md→List Nat
 | []=>[]
 | m::ms=>XHz m++Xv8 ms
def XgW:List Nat→List (Option XbF)→Prop
 | [],[]=>True
 | k::ks,o::os=>(∀ x,o=some x→∃ cs,x=mkObj k cs)∧XgW ks os
 | _,_=>False
theorem XgW.append:∀ {ks ks':List Nat} {os os':List (Option XbF)},XgW ks os→XgW ks' os'→XgW (ks++ks') (os++os')
 | [],_,[],_,_,h=>h
 | [],_,_::_,_,h,_=>h.elim
 | _::_,_,[],_,h,_=>h.elim
 | _::_,_,_::_,_,h,k=>⟨h.1,XgW.append h.2 k⟩
theorem Xj8 {h:Hp} {s:Nat→Option Nat} {pat:Option Nat→List (Nat×Value)}:∀ {ps:List Path} {bs:List PR} {i0:Nat} {l:List (Option XbF)},XfQ h s pat i0 ps bs=some l→XgW (ps.map (·.kind)) l
 | [],[],i0,l,e=>by simp only [XfQ,Option.some.injEq] at e;subst e;trivial
 | [],_::_,i0,l,e=>by simp [XfQ] at e
 | p::ps,[],i0,l,e=>by simp [XfQ] at e
 | p::ps,y::bs,i0,l,e=>by
   cases y with
   | no=>
     simp only [XfQ] at e
     split at e<;>cases e
     exact ⟨fun x h=>(by cases h),Xj8 (by assumption)⟩
   | nil z=>
     simp only [XfQ] at e
     cases hb:Nat.beq p.kind 3 with
     | true=>rw [hb,cond_true] at e;cases e
     | false=>
       rw [hb,cond_false] at e
       split at e<;>cases e
       exact ⟨fun x h=>by cases h;exact ⟨_,rfl⟩,Xj8 (by assumption)⟩
   | hit b=>
     simp only [XfQ] at e
     split at e<;>try (cases e;done)
     split at e<;>try (cases e;done)
     rename_i o ho
     split at e<;>cases e
     refine ⟨fun x h=>?_,Xj8 (by assumption)⟩
     cases h
     rcases Xrv ho with ⟨h3,cs,_,rfl⟩|⟨_,cs,cs',_,_,rfl⟩
     ·exact ⟨cs,by simp only [h3,mkObj]⟩
     ·exact ⟨_,rfl⟩
theorem XsG {H:Hp} {k:Nat} {m:Md} {v a:Value} {os:List (Option XbF)} (hr:Xdl H k m v=some (a,os)):XgW (XHz m) os:=by
 cases m with
 | v=>simp only [Xdl] at hr;split at hr<;>cases hr;trivial
 | sl sz=>
   unfold Xdl at hr
   split at hr<;>try contradiction
   ·rename_i heq;cases heq;cases hr;exact ⟨fun x h=>by cases h;exact ⟨_,rfl⟩,trivial⟩
   ·rename_i heq;cases heq
    split at hr<;>try (cases hr;done)
    split at hr<;>try (cases hr;done)
    split at hr<;>try (cases hr;done)
    split at hr<;>try (cases hr;done)
    split at hr<;>cases hr
    exact ⟨fun x h=>by cases h;exact ⟨_,rfl⟩,trivial⟩
 | pt n=>
   unfold Xdl at hr
   split at hr<;>try contradiction
   ·rename_i heq;cases heq;cases hr;exact ⟨fun x h=>(by cases h),trivial⟩
   ·rename_i heq;cases heq
    split at hr<;>try (cases hr;done)
    split at hr<;>try (cases hr;done)
    split at hr<;>try (cases hr;done)
    split at hr<;>cases hr
    exact ⟨fun x h=>by cases h;exact ⟨_,rfl⟩,trivial⟩
 | tr ps=>
   simp only [Xdl] at hr
   split at hr<;>try (cases hr;done)
   split at hr<;>cases hr
   exact Xj8 (by assumption)
theorem Xmb {H:Hp}:∀ {ms:List Md} {vals aqs:List Value} {os:List (Option XbF)} {k:Nat},Xd1 H k ms vals=some (aqs,os)→XgW (Xv8 ms) os
 | [],[],aqs,os,k,hr=>by simp only [Xd1,Option.some.injEq,Prod.mk.injEq] at hr;obtain ⟨rfl,rfl⟩:=hr;trivial
 | [],_::_,aqs,os,k,hr=>by simp [Xd1] at hr
 | _::_,[],aqs,os,k,hr=>by simp [Xd1] at hr
 | m::ms,v::vs,aqs,os,k,hr=>by
   simp only [Xd1] at hr
   split at hr<;>try (cases hr;done)
   split at hr<;>cases hr
   exact (XsG (by assumption)).append (Xmb (by assumption))
theorem Xuf (k:Nat) (cs:List Value):(mkObj k cs).acs=some cs:=by unfold mkObj;split<;>rfl
theorem Xzg {os:List (Option XbF)} (h:XkM os=[]):os=[]:=by
 cases os with
 | nil=>rfl
 | cons o os=>cases o<;>simp [XkM] at h
theorem XxO {k:Nat} {ks:List Nat} {os:List (Option XbF)} {cs:List Value} {l:List (Option (List Value))} (hk:XgW (k::ks) os) (h:XkM os=some cs::l):∃ os',os=some (mkObj k cs)::os'∧XgW ks os'∧XkM os'=l:=by
 cases os with
 | nil=>exact hk.elim
 | cons o os=>
   cases o with
   | none=>simp [XkM] at h
   | some o=>
     obtain ⟨cs',rfl⟩:=hk.1 o rfl
     simp only [XkM,Xuf,List.cons.injEq,Option.some.injEq] at h
     obtain ⟨rfl,h⟩:=h
     exact ⟨os,rfl,hk.2,h⟩
theorem Xw7 {k:Nat} {ks:List Nat} {os:List (Option XbF)} {l:List (Option (List Value))} (hk:XgW (k::ks) os) (h:XkM os=none::l):∃ os',os=none::os'∧XgW ks os'∧XkM os'=l:=by
 cases os with
 | nil=>exact hk.elim
 | cons o os=>
   cases o with
   | none=>exact ⟨os,rfl,hk.2,by simpa [XkM] using h⟩
   | some o=>
     obtain ⟨cs',rfl⟩:=hk.1 o rfl
     simp [XkM,Xuf] at h
theorem XuP {w0:World} {U:UG} {ρ ρc:Ren} {H:Hp} {top:Nat} {w:World} (h:HpR P w0 U ρ H top w) {k:Nat} {m:Md} {v a rv:Value} {os:List (Option XbF)} (hr:Xdl H k m v=some (a,os)) (hv:VR ρ v rv)
 (hc:∀ (i:Nat) x,(XqH H m v)[i]?=some x→ρc (k+i)=Xt0 ρ x) :
 VR ρc a rv∧os.length=(XqH H m v).length∧∀ (i:Nat) x,(XqH H m v)[i]?=some x→(∀ o,os[i]?=some (some o)→XNr w H ρ ρc x o)∧(os[i]?=some none→x=.no):=by
 have flat:Xbg v=true→VR ρc v rv:=fun hf=>(VR.XfK (s:=fun _=>none) v (Xnh _ v hf) hv).mono (fun i l e=>by simp [comp] at e)
 cases m with
 | v=>
   simp only [Xdl] at hr
   split at hr<;>cases hr
   exact ⟨flat (by assumption),rfl,fun i x e=>by simp [XqH] at e⟩
 | sl sz=>
   unfold Xdl at hr
   split at hr<;>try contradiction
   ·rename_i heq;cases heq
    cases hr
    simp only [XqH] at hc ⊢
    have hk:=hc 0 _ rfl
    have e1:rv=.slice none 0 0:=by cases hv;rfl
    subst e1
    refine ⟨.slice0 _,rfl,fun i x e=>?_⟩
    cases i with
    | zero=>
      simp at e;subst e
      refine ⟨fun o ho=>?_,fun ho=>by simp at ho⟩
      simp at ho;subst ho
      exact ⟨⟨0,0,0⟩,[],rfl,.inl ⟨.inl rfl,Nat.zero_le _,fun i v e=>by simp at e,fun i hi=>absurd hi (Nat.not_lt_zero _)⟩,rfl,.inl ⟨rfl,rfl⟩⟩
    | succ i=>simp at e
   ·rename_i heq;cases heq
    split at hr<;>try (cases hr;done)
    rename_i b o n sz' hsz
    subst hsz
    split at hr<;>try (cases hr;done)
    rename_i ob hob
    split at hr<;>try (cases hr;done)
    rename_i cs hcs
    split at hr<;>try (cases hr;done)
    rename_i hle
    split at hr<;>cases hr
    rename_i hflat
    obtain ⟨l,hl,hor,_⟩:=h.obj b ob hob
    obtain ⟨own,hcr⟩:=hor.cells hcs
    have hext:cs.length≤l.ext:=hcr.1
    have hwin:XbA ρc w ⟨l.blk,l.sh+o,l.ext - o⟩ false ((cs.drop o).take (n*sz)):=XbA.any (hcr.win hle (by omega) (by omega)).weak hflat ρc
    simp only [XqH] at hc ⊢
    have hk:=hc 0 _ rfl
    simp only [Xt0,hl,Nat.add_zero] at hk
    refine ⟨?_,rfl,fun i x e=>?_⟩
    ·cases hv with
     | @slice _ _ _ _ c l0 hl0 hn hcc=>
       rw [hl] at hl0;cases hl0
       exact .slice hk hn (by simp only;omega)
     | slice0 a=>exact .slice0 _
    ·cases i with
     | zero=>
       simp at e;subst e
       refine ⟨fun o ho=>?_,fun ho=>by simp at ho⟩
       simp at ho;subst ho
       exact ⟨_,_,by simp only [Xt0,hl],.inl ⟨.inl rfl,hwin⟩,rfl,.inr ⟨b,l,ob,rfl,hob,hl,rfl,by simp,by simp only;omega,fun e=>by cases e⟩⟩
     | succ i=>simp at e
 | pt n=>
   unfold Xdl at hr
   split at hr<;>try contradiction
   ·rename_i heq;cases heq
    cases hr
    exact ⟨flat rfl,rfl,fun i x e=>by
     simp only [XqH] at e
     cases i with
     | zero=>simp at e;subst e;exact ⟨fun o ho=>by simp at ho,fun _=>rfl⟩
     | succ i=>simp at e⟩
   ·rename_i heq;cases heq
    split at hr<;>try (cases hr;done)
    rename_i b o _ ob hob
    split at hr<;>try (cases hr;done)
    rename_i cs hcs
    split at hr<;>try (cases hr;done)
    rename_i hle
    split at hr<;>cases hr
    rename_i hflat
    obtain ⟨e1,e2,e3⟩:=Xyi hcs
    obtain ⟨l,hl,hor,_⟩:=h.obj b ob hob
    have hcr:XbA ρ w l true cs:=by rcases e3 with rfl|rfl<;>exact hor
    have hext:cs.length≤l.ext:=hcr.1
    simp only [XqH] at hc ⊢
    have hk:=hc 0 _ rfl
    simp only [Xt0,hl,Nat.add_zero] at hk
    refine ⟨?_,rfl,fun i x e=>?_⟩
    ·cases hv with
     | ptr hl0=>
       rw [hl] at hl0;cases hl0
       exact .ptr hk
    ·cases i with
     | zero=>
       simp at e;subst e
       refine ⟨fun o ho=>?_,fun ho=>by simp at ho⟩
       simp at ho;subst ho
       exact ⟨_,_,by simp only [Xt0,hl],.inl ⟨.inr (.inl rfl),XbA.any (hcr.win hle (Nat.le_refl _) (by omega)) hflat ρc⟩,rfl,.inr ⟨b,l,ob,rfl,hob,hl,rfl,by simp,by simp only;omega,fun _=>e2⟩⟩
     | succ i=>simp at e
 | tr ps=>
   simp only [Xdl] at hr
   simp only [XqH] at hc ⊢
   have hlen:(Xhv H v ps []).length=ps.length:=by simp [Xk3]
   generalize hbs:Xhv H v ps []=bs at *
   split at hr<;>try (cases hr;done)
   rename_i v' hv'
   split at hr<;>cases hr
   rename_i l hview
   have hsp:=Xq1 hview
   have hs:∀ i j lo,XxT k bs i=some j→ρ i=some lo→ρc j=some lo:=fun i j lo h1 h2=>by
    obtain ⟨g1,g2⟩:=XmP h1
    have hj:j - k<ps.length:=by
     rcases Nat.lt_or_ge (j - k) bs.length with h|h
     ·omega
     ·rw [List.getElem?_eq_none h] at g2;cases g2
    have hw:(XsQ ps bs)[j - k]?=some (.blk i (isW ps[j - k].kind)):=by
     have hl':j - k<(XsQ ps bs).length:=by rw [Xse hlen];exact hj
     obtain ⟨p,y,q1,q2,q3⟩:=Xss (List.getElem?_eq_getElem hl')
     rw [g2] at q2;cases q2
     rw [List.getElem?_eq_getElem hj] at q1;cases q1
     rw [List.getElem?_eq_getElem hl',q3]
    have:=hc _ _ hw
    rw [show k+(j - k)=j by omega] at this
    rw [this];exact h2
   refine ⟨?_,by rw [hsp.1,Xse hlen],fun i x e=>?_⟩
   ·refine Xyt hv (VR.ren hs v hv' hv) fun p hm=>?_
    obtain ⟨i,q,sz,q1,q2,q3,q4,q5⟩:=Xol hm
    subst hbs
    obtain ⟨s,hn⟩:=(XvJ q1 q2).1 q3
    exact ⟨_,_,_,q5,by rw [q4];exact hn⟩
   ·obtain ⟨p,y,q1,q2,q3⟩:=Xss e
    have hvw:=hsp.2 i p y q1 q2
    cases y with
    | no=>
      simp only at hvw q3
      exact ⟨fun o ho=>by rw [hvw] at ho;simp at ho,fun _=>q3⟩
    | nil z=>
      simp only at hvw q3
      obtain ⟨hk3,hvw⟩:=hvw
      refine ⟨fun o ho=>?_,fun ho=>by rw [hvw] at ho;simp at ho⟩
      rw [hvw] at ho;simp at ho;subst ho;subst q3
      obtain ⟨m1,m2⟩:=isObj.mk p.kind [] hk3
      exact ⟨⟨0,0,0⟩,[],rfl,.inl ⟨m1,Nat.zero_le _,fun i v e=>by simp at e,fun i hi=>absurd hi (Nat.not_lt_zero _)⟩,m2.symm,.inl ⟨rfl,rfl⟩⟩
    | hit b=>
      simp only at hvw q3
      obtain ⟨ob,o',z1,z2,z4⟩:=hvw
      refine ⟨fun o ho=>?_,fun ho=>by rw [z4] at ho;simp at ho⟩
      rw [z4] at ho;simp at ho;subst ho;subst q3
      obtain ⟨lb,hl,hor,_⟩:=h.obj b ob z1
      rw [Nat.zero_add] at z2
      rcases Xrv z2 with ⟨h3,cs,rfl,rfl⟩|⟨hk3,cs,cs',z5,z3,rfl⟩
      ·exact ⟨lb,cs,hl,.inr ⟨rfl,fun _ _=>hor⟩,by rw [h3];rfl,.inr ⟨b,lb,_,rfl,z1,hl,rfl,Nat.le_refl _,Nat.le_refl _,fun _=>rfl⟩⟩
      obtain ⟨c1,c2,c3⟩:=XEM hor z5
      obtain ⟨m1,m2⟩:=isObj.mk p.kind (Xt4 cs' (Xmx k (some i) ps bs)) hk3
      refine ⟨lb,_,hl,.inl ⟨m1,?_⟩,m2.symm,.inr ⟨b,lb,ob,rfl,z1,hl,rfl,Nat.le_refl _,Nat.le_refl _,c3⟩⟩
      rw [m2]
      refine (c1.ren hs z3).sets fun x hm r hr=>?_
      obtain ⟨j,q,sz,r1,r2,r3,r4,r5⟩:=Xol hm
      subst hbs
      obtain ⟨b',ob',cs2,s,n1,n2,n3,n4⟩:=(XvJ r1 r2).2 i (by first|exact r3|(rw [r3,Nat.zero_add]))
      rw [q2] at n1;cases n1
      rw [z1] at n2;cases n2
      rw [c2] at n3;cases n3
      obtain ⟨r',g1,g2⟩:=c1.2.1 _ _ n4
      rw [r4,g1] at hr;cases hr
      rw [r5];exact g2.XSW _ _
theorem XwM {w0:World} {U:UG} {ρ ρc:Ren} {H:Hp} {top:Nat} {w:World} (h:HpR P w0 U ρ H top w):∀ {ms:List Md} {vals rvals aqs:List Value} {os:List (Option XbF)} {k:Nat},Xd1 H k ms vals=some (aqs,os)→VRL ρ vals rvals →
 (∀ (i:Nat) x,(XkJ H ms vals)[i]?=some x→ρc (k+i)=Xt0 ρ x) →
 VRL ρc aqs rvals∧os.length=(XkJ H ms vals).length∧∀ (i:Nat) x,(XkJ H ms vals)[i]?=some x→(∀ o,os[i]?=some (some o)→XNr w H ρ ρc x o)∧(os[i]?=some none→x=.no)
 | [],[],rvals,aqs,os,k,hr,hv,hc=>by
   simp only [Xd1,Option.some.injEq,Prod.mk.injEq] at hr;obtain ⟨rfl,rfl⟩:=hr;cases hv
   exact ⟨.nil,rfl,fun i x e=>by simp [XkJ] at e⟩
 | m::ms,v::vs,rvals,aqs,os,k,hr,hv,hc=>by
   simp only [Xd1] at hr
   split at hr<;>try (cases hr;done)
   rename_i a os1 ha
   split at hr<;>cases hr
   rename_i as2 os2 has
   cases hv with|@cons _ v' _ l' h1 h2=>
   simp only [XkJ] at hc ⊢
   obtain ⟨g1,g2,g3⟩:=XuP h ha h1 (ρc:=ρc) (fun i x e=>hc i x (by rw [List.getElem?_append_left];exact e;exact (List.getElem?_eq_some_iff.1 e).1))
   obtain ⟨k1,k2,k3⟩:=XwM h has h2 (ρc:=ρc) (fun i x e=>by
    have:=hc ((XqH H m v).length+i) x (by rw [List.getElem?_append_right (by omega)];simpa using e)
    rw [←this,g2];congr 1;omega)
   refine ⟨.cons g1 k1,by simp [g2,k2],fun i x e=>?_⟩
   rcases Nat.lt_or_ge i (XqH H m v).length with hi|hi
   ·rw [List.getElem?_append_left hi] at e
    rw [List.getElem?_append_left (by omega)]
    exact g3 i x e
   ·rw [List.getElem?_append_right hi] at e
    rw [List.getElem?_append_right (by omega),g2]
    exact k3 _ x e
 | [],_::_,_,_,_,_,hr,_,_=>by simp [Xd1] at hr
 | _::_,[],_,_,_,_,hr,_,_=>by simp [Xd1] at hr
end
section
variable {P:Program} {F:Fns} {S:Xmn}
theorem XkS {α:Type} (k:Nat) (x:α) (l:List (Nat×α)) (i:Nat):XaL ((k,x)::l) i=if k=i then some x else XaL l i:=by
 simp only [XaL]
 cases hb:Nat.beq k i with
 | true=>rw [if_pos (Nat.eq_of_beq_eq_true hb)];rfl
 | false=>rw [if_neg (fun e=>by subst e;simp at hb)];rfl
theorem Xhd {b:Nat} {wr:Bool}:∀ {ws:List Wd},Xke b wr ws=true→∀ x∈ws,x.XjI=some b→wr=false∧x.wr=false
 | [],_,x,h,_=>by cases h
 | y::l,h,x,hx,e=>by
   simp only [Xke] at h
   rcases List.mem_cons.1 hx with rfl|hx
   ·rw [e] at h
    simp only [Nat.beq_refl,cond_true] at h
    cases h1:wr<;>cases h2:x.wr<;>simp_all
   ·cases hy:y.XjI with
    | none=>rw [hy] at h;exact Xhd h x hx e
    | some c=>
      rw [hy] at h
      simp only at h
      cases hb:Nat.beq b c with
      | false=>rw [hb,cond_false] at h;exact Xhd h x hx e
      | true=>
        rw [hb,cond_true] at h
        cases h1:wr<;>cases h2:y.wr<;>simp only [h1,h2,cond_true,cond_false] at h<;>try (cases h;done)
        exact Xhd h x hx e
theorem Xeb {x:Wd} {ws:List Wd} (h:apartB (x::ws)=true):apartB ws=true∧∀ b,x.XjI=some b→Xke b x.wr ws=true:=by
 simp only [apartB] at h
 cases hx:x.XjI with
 | none=>rw [hx] at h;exact ⟨h,fun b e=>by cases e⟩
 | some b=>
   rw [hx] at h
   simp only at h
   cases hb:Xke b x.wr ws with
   | true=>rw [hb,cond_true] at h;exact ⟨h,fun c e=>by cases e;exact hb⟩
   | false=>rw [hb,cond_false] at h;cases h
theorem Xmt:∀ {ws:List Wd},apartB ws=true→∀ (i j:Nat) x y b,i≠j→ws[i]?=some x→ws[j]?=some y→x.XjI=some b→y.XjI=some b→x.wr=false∧y.wr=false
 | [],_,i,j,x,y,b,_,hx,_,_,_=>by simp at hx
 | z::ws,h,0,0,x,y,b,hij,_,_,_,_=>absurd rfl hij
 | z::ws,h,0,j+1,x,y,b,hij,hx,hy,hb,hc=>by
   simp at hx;subst hx
   exact Xhd ((Xeb h).2 b hb) y (List.mem_of_getElem? (by simpa using hy)) hc
 | z::ws,h,i+1,0,x,y,b,hij,hx,hy,hb,hc=>by
   simp at hy;subst hy
   exact (Xhd ((Xeb h).2 b hc) x (List.mem_of_getElem? (by simpa using hx)) hb).symm
 | z::ws,h,i+1,j+1,x,y,b,hij,hx,hy,hb,hc=>Xmt (Xeb h).1 i j x y b (by omega) (by simpa using hx) (by simpa using hy) hb hc
theorem Apart.sub {a b a' b':Loc} (h:Apart a b) (h1:a'.blk=a.blk) (h2:a.sh≤a'.sh) (h3:a'.sh+a'.ext≤a.sh+a.ext) (h4:b'.blk=b.blk) (h5:b.sh≤b'.sh) (h6:b'.sh+b'.ext≤b.sh+b.ext):Apart a' b':=
 fun k e k1 k2 k3 k4=>h k (by rw [←h1,←h4];exact e) (by omega) (by omega) (by omega) (by omega)
theorem Xvo {w0 w:World} {U:UG} {H:Hp} {top:Nat} {ρ ρc:Ren} (hh:HpR P w0 U ρ H top w) {ws:List Wd} (hap:apartB ws=true) {i j:Nat} {x y:Wd} {o o':XbF} {l l':Loc} (hij:i≠j) (hx:ws[i]?=some x) (hy:ws[j]?=some y)
 (h1:XNr w H ρ ρc x o) (h2:XNr w H ρ ρc y o') (hl:Xt0 ρ x=some l) (hl':Xt0 ρ y=some l') (hw:writable o=true∨writable o'=true):Apart l l':=by
 intro k ek k1 k2 k3 k4
 obtain ⟨l1,cs1,a1,_,a4,a5⟩:=h1
 obtain ⟨l2,cs2,b1,_,b4,b5⟩:=h2
 rw [hl] at a1;cases a1
 rw [hl'] at b1;cases b1
 rcases a5 with ⟨h0,_⟩|⟨b,lb,ob,g1,g2,g3,g4,g5,g6,g7⟩
 ·omega
 ·rcases b5 with ⟨h0,_⟩|⟨b',lb',ob',f1,f2,f3,f4,f5,f6,f7⟩
  ·omega
  ·by_cases hbb:b=b'
   ·subst hbb
    obtain ⟨e1,e2⟩:=Xmt hap i j x y b hij hx hy g1 f1
    rw [a4] at e1;rw [b4] at e2
    rcases hw with hw|hw<;>simp_all
   ·have ap:Apart lb lb':=by
     rcases hw with hw|hw
     ·exact hh.dis _ _ _ _ _ _ hbb g2 f2 g3 f3 (g7 (a4.trans hw))
     ·exact (hh.dis _ _ _ _ _ _ (Ne.symm hbb) f2 g2 f3 g3 (f7 (b4.trans hw))).symm
    exact ap.sub g4 g5 g6 f4 f5 f6 k ek k1 k2 k3 k4
theorem Keep.cell {u:Nat→Nat→Prop} {w w':World} (h:Keep (.of u) w w') {b k:Nat} (hb:b<w.heap.size) (hu:¬ u b k) (h0:(w.cell? ⟨b,k,none⟩).isSome=true) :
 w'.cell? ⟨b,k,none⟩=w.cell? ⟨b,k,none⟩∧w'.frozen? ⟨b,k,none⟩=w.frozen? ⟨b,k,none⟩:=by
 have:=h.block b hb
 cases hx:w.heap[b]? with
 | none=>rw [World.cell?,hx] at h0;simp at h0
 | some x=>
   cases x with
   | cells arr T fr=>
     rw [hx] at this
     obtain ⟨arr',fr',e,s,q,g⟩:=this
     have hk:k<arr.size:=by simpa [World.cell?,hx] using h0
     obtain ⟨g1,g2⟩:=g k hu
     simp only [World.cell?,World.frozen?,hx,e]
     refine ⟨g1,?_⟩
     have:=g2 hk
     obtain ⟨fa,fb⟩:=fr
     obtain ⟨ga,gb⟩:=fr'
     simp only at this ⊢
     rw [Bool.eq_iff_iff]
     simpa using this.symm
   | _=>simp [World.cell?,hx] at h0
theorem Keep.other {u:Nat→Nat→Prop} {w w':World} (h:Keep (.of u) w w') {b:Nat} (hb:b<w.heap.size) (hu:¬ u b 0) (hn:∀ c t f,w.heap[b]?≠some (.cells c t f)):w'.heap[b]?=w.heap[b]?:=by
 have:=h.block b hb
 cases hx:w.heap[b]? with
 | none=>rw [Array.getElem?_eq_none_iff] at hx;omega
 | some x=>
   rw [hx] at this
   cases x with
   | cells arr T fr=>exact absurd hx (hn _ _ _)
   | _=>
     rcases this with hz|he
     ·exact absurd hz hu
     ·exact he
theorem Keep.trans {U:UG} {u:Nat→Nat→Prop} {w0 w w':World} (h:Keep U w0 w) (k:Keep (.of u) w w') (hu:∀ b i,u b i→U.u b i∨w0.heap.size≤b):Keep U w0 w' where
 os:=k.os.trans h.os
 tape:=k.tape.trans h.tape
 output:=k.output.trans h.output
 size:=Nat.le_trans h.size k.size
 block b hb:=by
  have h1:=h.block b hb
  have h2:=k.block b (Nat.lt_of_lt_of_le hb h.size)
  have hz:∀ i,¬ U.u b i→¬ u b i:=fun i hn hx=>by
   rcases hu b i hx with h'|h'
   ·exact hn h'
   ·omega
  cases hx:w0.heap[b]? with
  | none=>rw [Array.getElem?_eq_none_iff] at hx;omega
  | some x=>
    rw [hx] at h1
    cases x with
    | cells arr T fr=>
      obtain ⟨arr',fr',e1,s1,q1,g1⟩:=h1
      rw [e1] at h2
      obtain ⟨arr2,fr2,e2,s2,q2,g2⟩:=h2
      refine ⟨arr2,fr2,e2,s2.trans s1,?_,fun i hi=>⟨((g2 i (hz i hi)).1).trans (g1 i hi).1,fun hk=>((g1 i hi).2 hk).trans ((g2 i (hz i hi)).2 (by omega))⟩⟩
      rcases q2 with q2|⟨i,hi⟩
      ·rcases q1 with q1|q1
       ·exact .inl (q2.trans q1)
       ·exact .inr q1
      ·rcases hu b i hi with h'|h'
       ·exact .inr ⟨i,h'⟩
       ·omega
    | _=>
      rcases h1 with h1|h1
      ·exact .inl h1
      ·rw [h1] at h2
       rcases h2 with h2|h2
       ·by_cases hU:U.u b 0
        ·exact .inl hU
        ·exact absurd h2 (hz 0 hU)
       ·exact .inr (h2.trans rfl)
theorem Keep.shape {u:Nat→Nat→Prop} {w w':World} (h:Keep (.of u) w w') {b:Nat} (hb:b<w.heap.size) {x:TypeId×Nat} (hx:w.shape? b=some x):w'.shape? b=some x:=by
 have:=h.block b hb
 unfold World.shape? at hx ⊢
 split at hx
 ·rename_i c e f hh
  rw [hh] at this
  obtain ⟨arr',fr',e1,s,_⟩:=this
  rw [e1];simp only [s];exact hx
 ·cases hx
theorem Xl5.keep {u:Nat→Nat→Prop} {w w':World} (hk:Keep (.of u) w w') {ρ ρ':Ren} (x:Ext ρ ρ') {l:Loc} {o:XbF} (q2:Xl5 P ρ w l o) (hu:∀ q,q<l.ext→¬ u l.blk (l.sh+q)):Xl5 P ρ' w' l o:=by
 have h0:(∀ cs own,o≠.cells cs∧o≠.row own cs)→(∀ t cs,o≠.ty t cs)→0<l.ext→l.sh=0∧l.ext=1∧w'.heap[l.blk]?=w.heap[l.blk]?:=fun hn hm he=>by
  cases o with
  | cells cs=>exact absurd rfl (hn cs true).1
  | row own cs=>exact absurd rfl (hn cs own).2
  | ty t cs=>exact absurd rfl (hm t cs)
  | siter sb p=>exact ⟨q2.2.1,q2.2.2,Keep.other hk (q2.lt he) (by have:=hu 0 he;rwa [q2.2.1] at this) (by rw [q2.1];simp)⟩
  | mp cs'=>exact ⟨q2.2.1,q2.2.2,Keep.other hk (q2.lt he) (by have:=hu 0 he;rwa [q2.2.1] at this) (by obtain ⟨⟨_,_,a,_⟩,_⟩:=q2;rw [a];simp)⟩
  | loop r=>exact ⟨q2.2.1,q2.2.2,Keep.other hk (q2.lt he) (by have:=hu 0 he;rwa [q2.2.1] at this) (by obtain ⟨⟨r',a,_⟩,_⟩:=q2;rw [a];simp)⟩
  | marks=>exact ⟨q2.2.1,q2.2.2,Keep.other hk (q2.lt he) (by have:=hu 0 he;rwa [q2.2.1] at this) (by rw [q2.1];simp)⟩
 refine q2.stay x (fun q hq=>?_) (fun q hq=>?_) (fun hn he=>?_) (fun he y hy=>Keep.shape hk (q2.lt he) hy)
 ·cases o with
  | cells cs'=>exact (Keep.cell hk (q2.lt (by omega)) (hu q hq) (q2.2.2 q hq).1).1
  | row own cs'=>exact (Keep.cell hk (q2.lt (by omega)) (hu q hq) (q2.2.2 q hq).1).1
  | ty t cs'=>exact (Keep.cell hk (Xl5.lt q2 (by omega)) (hu q hq) (q2.1.2.2 q hq).1).1
  | siter sb p=>exact World.cell?_of_block (w:=w) (h0 (fun _ _=>⟨by simp,by simp⟩) (fun _ _=>by simp) (by omega)).2.2
  | mp cs'=>exact World.cell?_of_block (w:=w) (h0 (fun _ _=>⟨by simp,by simp⟩) (fun _ _=>by simp) (by omega)).2.2
  | loop r=>exact World.cell?_of_block (w:=w) (h0 (fun _ _=>⟨by simp,by simp⟩) (fun _ _=>by simp) (by omega)).2.2
  | marks=>exact World.cell?_of_block (w:=w) (h0 (fun _ _=>⟨by simp,by simp⟩) (fun _ _=>by simp) (by omega)).2.2
 ·cases o with
  | cells cs'=>exact (Keep.cell hk (q2.lt (by omega)) (hu q hq) (q2.2.2 q hq).1).2
  | row own cs'=>exact (Keep.cell hk (q2.lt (by omega)) (hu q hq) (q2.2.2 q hq).1).2
  | ty t cs'=>exact (Keep.cell hk (Xl5.lt q2 (by omega)) (hu q hq) (q2.1.2.2 q hq).1).2
  | siter sb p=>exact World.frozen?_of_block (w:=w) (h0 (fun _ _=>⟨by simp,by simp⟩) (fun _ _=>by simp) (by omega)).2.2
  | mp cs'=>exact World.frozen?_of_block (w:=w) (h0 (fun _ _=>⟨by simp,by simp⟩) (fun _ _=>by simp) (by omega)).2.2
  | loop r=>exact World.frozen?_of_block (w:=w) (h0 (fun _ _=>⟨by simp,by simp⟩) (fun _ _=>by simp) (by omega)).2.2
  | marks=>exact World.frozen?_of_block (w:=w) (h0 (fun _ _=>⟨by simp,by simp⟩) (fun _ _=>by simp) (by omega)).2.2
 ·have nocell:∀ own cs',XbA ρ w l own cs'→False:=fun own cs' hc=>by
   have:=(hc.2.2 0 he).1
   unfold World.cell? at this
   cases hh':w.heap[l.blk]? with
   | none=>simp [hh'] at this
   | some y=>cases y<;>simp [hh'] at this<;>exact hn _ _ _ hh'
  cases o with
  | cells cs'=>exact (nocell _ _ q2).elim
  | row own cs'=>exact (nocell _ _ q2).elim
  | ty t cs'=>exact (nocell _ _ q2.1).elim
  | siter sb p=>exact (h0 (fun _ _=>⟨by simp,by simp⟩) (fun _ _=>by simp) he).2.2
  | mp cs'=>exact (h0 (fun _ _=>⟨by simp,by simp⟩) (fun _ _=>by simp) he).2.2
  | loop r=>exact (h0 (fun _ _=>⟨by simp,by simp⟩) (fun _ _=>by simp) he).2.2
  | marks=>exact (h0 (fun _ _=>⟨by simp,by simp⟩) (fun _ _=>by simp) he).2.2
structure WB (s:Nat→Option Nat) (H H1:Hp) (ws:List Wd) (wr:List (Option (List Value))):Prop where
 same:∀ b,(∀ (i:Nat) x,ws[i]?=some x→x.wr=true→x.XjI≠some b)→XaL H1 b=XaL H b
 win:∀ (i:Nat) b off n,ws[i]?=some (.win b off n true)→∃ c c' ob x ob',wr[i]?=some (some c)∧XaL H b=some ob∧ob.wcs=some x∧Xe5.renL s c=some c'∧(c'.length=n∧off+n≤x.length∧mk3 c=none)∧ob.wr (setAt x off c')=some ob'∧XaL H1 b=some ob'
 blk:∀ (i:Nat) b,ws[i]?=some (.blk b true)→XaL H1 b=none∨∃ c ob ob',wr[i]?=some (some c)∧XaL H b=some ob∧XFL s ob c=some ob'∧XaL H1 b=some ob'
theorem WB.skip {s:Nat→Option Nat} {H H1:Hp} {x:Wd} {c:Option (List Value)} {ws:List Wd} {wr:List (Option (List Value))} (h:WB s H H1 ws wr) (hx:x.wr=false∨x.XjI=none):WB s H H1 (x::ws) (c::wr) where
 same b hb:=h.same b fun i y hy hw=>hb (i+1) y (by simpa using hy) hw
 win i b off n hi:=by
  cases i with
  | zero=>simp at hi;subst hi;rcases hx with hx|hx<;>cases hx
  | succ i=>simpa using h.win i b off n (by simpa using hi)
 blk i b hi:=by
  cases i with
  | zero=>simp at hi;subst hi;rcases hx with hx|hx<;>cases hx
  | succ i=>simpa using h.blk i b (by simpa using hi)
theorem WB.step {s:Nat→Option Nat} {H H0 H1:Hp} {x:Wd} {c:Option (List Value)} {ws:List Wd} {wr:List (Option (List Value))} {b0:Nat} (h:WB s H0 H1 ws wr) (hx:x.wr=true) (hb0:x.XjI=some b0) (hu:Xke b0 x.wr ws=true)
 (hne:∀ b,b≠b0→XaL H0 b=XaL H b)
 (hw:∀ off n,x=.win b0 off n true→∃ d c' ob y ob',c=some d∧XaL H b0=some ob∧ob.wcs=some y∧Xe5.renL s d=some c'∧(c'.length=n∧off+n≤y.length∧mk3 d=none)∧ob.wr (setAt y off c')=some ob'∧XaL H0 b0=some ob')
 (hk:x=.blk b0 true→XaL H0 b0=none∨∃ d ob ob',c=some d∧XaL H b0=some ob∧XFL s ob d=some ob'∧XaL H0 b0=some ob'):WB s H H1 (x::ws) (c::wr):=by
 have hrest:∀ (i:Nat) y,ws[i]?=some y→y.wr=true→y.XjI≠some b0:=fun i y hy hyw e=>by
  have:=(Xhd hu y (List.mem_of_getElem? hy) e).2
  rw [hyw] at this;cases this
 have h0:XaL H1 b0=XaL H0 b0:=h.same b0 hrest
 refine ⟨fun b hb=>?_,fun i b off n hi=>?_,fun i b hi=>?_⟩
 ·have:b≠b0:=fun e=>hb 0 x rfl hx (by rw [e];exact hb0)
  rw [h.same b fun i y hy hw=>hb (i+1) y (by simpa using hy) hw,hne b this]
 ·cases i with
  | zero=>
    simp at hi;subst hi
    simp only [Wd.XjI,Option.some.injEq] at hb0;subst hb0
    obtain ⟨d,c',ob,y,ob',rfl,r⟩:=hw off n rfl
    exact ⟨d,c',ob,y,ob',rfl,by rw [h0];exact r⟩
  | succ i=>
    have hi':ws[i]?=some (.win b off n true):=by simpa using hi
    obtain ⟨d,c',ob,y,ob',r1,r2,r3⟩:=h.win i b off n hi'
    have:b≠b0:=fun e=>hrest i _ hi' rfl (by rw [e];rfl)
    exact ⟨d,c',ob,y,ob',by simpa using r1,by rw [←hne b this];exact r2,r3⟩
 ·cases i with
  | zero=>
    simp at hi;subst hi
    simp only [Wd.XjI,Option.some.injEq] at hb0;subst hb0
    rcases hk rfl with hk|⟨d,ob,ob',rfl,r⟩
    ·exact .inl (h0.trans hk)
    ·exact .inr ⟨d,ob,ob',rfl,by rw [h0];exact r⟩
  | succ i=>
    have hi':ws[i]?=some (.blk b true):=by simpa using hi
    have:b≠b0:=fun e=>hrest i _ hi' rfl (by rw [e];rfl)
    rcases h.blk i b hi' with r|⟨d,ob,ob',r1,r2,r3⟩
    ·exact .inl r
    ·exact .inr ⟨d,ob,ob',by simpa using r1,by rw [←hne b this];exact r2,r3⟩
theorem Xhr (s:Nat→Option Nat):∀ {ws:List Wd} {wr:List (Option (List Value))} {H H1:Hp},apartB ws=true→XdB H s ws wr=some H1→WB s H H1 ws wr
 | [],[],H,H1,_,h=>by
   simp only [XdB,Option.some.injEq] at h;subst h
   exact ⟨fun _ _=>rfl,fun i b off n e=>by simp at e,fun i b e=>by simp at e⟩
 | [],_::_,H,H1,_,h=>by simp [XdB] at h
 | x::ws,[],H,H1,_,hr=>by
   cases x with
   | win b off n wr=>cases wr<;>simp [XdB] at hr
   | blk b wr=>cases wr<;>simp [XdB] at hr
   | _=>simp [XdB] at hr
 | .no::ws,c::cs,H,H1,ha,hr=>(Xhr s (Xeb ha).1 (by simpa [XdB] using hr)).skip (.inr rfl)
 | .emp w::ws,c::cs,H,H1,ha,hr=>(Xhr s (Xeb ha).1 (by simpa [XdB] using hr)).skip (.inr rfl)
 | .win b off n false::ws,c::cs,H,H1,ha,hr=>(Xhr s (Xeb ha).1 (by simpa [XdB] using hr)).skip (.inl rfl)
 | .blk b false::ws,c::cs,H,H1,ha,hr=>(Xhr s (Xeb ha).1 (by simpa [XdB] using hr)).skip (.inl rfl)
 | .win b off n true::ws,none::cs,H,H1,ha,hr=>by simp [XdB] at hr
 | .win b off n true::ws,some c::cs,H,H1,ha,hr=>by
   simp only [XdB] at hr
   split at hr<;>try (cases hr;done)
   rename_i ob hob
   split at hr<;>try (cases hr;done)
   rename_i x hx
   split at hr<;>try (cases hr;done)
   rename_i c' hc'
   split at hr<;>try (cases hr;done)
   rename_i hc
   split at hr<;>try (cases hr;done)
   rename_i ob' hob'
   refine (Xhr s (Xeb ha).1 hr).step rfl rfl ((Xeb ha).2 b rfl) (fun d hd=>XcB _ _ (Ne.symm hd)) (fun off' n' e=>?_) (fun e=>by cases e)
   cases e
   exact ⟨c,c',ob,x,ob',rfl,hob,hx,hc',hc,hob',XbK _ _ _⟩
 | .blk b true::ws,none::cs,H,H1,ha,hr=>by
   simp only [XdB] at hr
   exact (Xhr s (Xeb ha).1 hr).step rfl rfl ((Xeb ha).2 b rfl) (fun d hd=>Xgh _ (Ne.symm hd)) (fun off' n' e=>by cases e) (fun _=>.inl (XfT _ _))
 | .blk b true::ws,some c::cs,H,H1,ha,hr=>by
   simp only [XdB] at hr
   split at hr<;>try (cases hr;done)
   rename_i ob hob
   split at hr<;>try (cases hr;done)
   rename_i ob' hob'
   exact (Xhr s (Xeb ha).1 hr).step rfl rfl ((Xeb ha).2 b rfl) (fun d hd=>XcB _ _ (Ne.symm hd)) (fun off' n' e=>by cases e) (fun _=>.inr ⟨c,ob,ob',rfl,hob,hob',XbK _ _ _⟩)
theorem Xp0 {s:Nat→Option Nat}:∀ {new:List (List Value)} {H H':Hp} {top:Nat},Xjg H s top new=some H'→(∀ b,b<top∨top+new.length≤b→XaL H' b=XaL H b)∧∀ (i:Nat) c,new[i]?=some c→∃ c',Xe5.renL s c=some c'∧XaL H' (top+i)=some (.row true c')
 | [],H,H',top,h=>by simp only [Xjg,Option.some.injEq] at h;subst h;exact ⟨fun _ _=>rfl,fun i c e=>by simp at e⟩
 | c::new,H,H',top,h=>by
   simp only [Xjg] at h
   split at h<;>try (cases h;done)
   rename_i c' hc'
   obtain ⟨g1,g2⟩:=Xp0 h
   refine ⟨fun b hb=>?_,fun i d e=>?_⟩
   ·simp only [List.length_cons] at hb
    rw [g1 b (by omega),XcB _ _ (by omega)]
   ·cases i with
    | zero=>simp at e;subst e;exact ⟨c',hc',by rw [Nat.add_zero,g1 top (by omega),XbK]⟩
    | succ i=>
      obtain ⟨d',e1,e2⟩:=g2 i d (by simpa using e)
      exact ⟨d',e1,by rw [←e2];congr 1;omega⟩
theorem Xqu:∀ (n:Nat) {H:Hp} {m:Nat},(∀ b,b<m∨m+n≤b→XaL (XjA H m n) b=XaL H b)∧∀ b,m≤b→b<m+n→XaL (XjA H m n) b=some (.row true [])
 | 0,H,m=>⟨fun _ _=>rfl,fun b h1 h2=>by omega⟩
 | n+1,H,m=>by
   obtain ⟨g1,g2⟩:=Xqu n (H:=Xf0 H m (.row true [])) (m:=m+1)
   refine ⟨fun b hb=>?_,fun b h1 h2=>?_⟩
   ·simp only [XjA];rw [g1 b (by omega),XcB _ _ (by omega)]
   ·simp only [XjA]
    by_cases hb:b=m
    ·subst hb;rw [g1 b (by omega),XbK]
    ·exact g2 b (by omega) (by omega)
theorem Xs7:∀ {ws:List Wd} {m j k:Nat},Xxr m ws j=some k→(∃ b wr,ws[j]?=some (.blk b wr)∧k=b)∨(∃ w,ws[j]?=some (.emp w)∧m≤k∧k<m+XlJ ws)
 | [],m,j,k,h=>by simp [Xxr] at h
 | x::ws,m,0,k,h=>by
   cases x with
   | blk b wr=>simp only [Xxr,Option.some.injEq] at h;subst h;exact .inl ⟨b,wr,rfl,rfl⟩
   | emp w=>simp only [Xxr,Option.some.injEq] at h;subst h;exact .inr ⟨w,rfl,Nat.le_refl _,by simp only [XlJ];omega⟩
   | _=>simp [Xxr] at h
 | x::ws,m,j+1,k,h=>by
   have up:∀ m',Xxr m' ws j=some k→m≤m'→m'+XlJ ws≤m+XlJ (x::ws)→(∃ b wr,(x::ws)[j+1]?=some (.blk b wr)∧k=b)∨(∃ w,(x::ws)[j+1]?=some (.emp w)∧m≤k∧k<m+XlJ (x::ws)):=fun m' h1 h2 h3=>by
    rcases Xs7 h1 with ⟨b,wr,e1,e2⟩|⟨w,e1,e2,e3⟩
    ·exact .inl ⟨b,wr,by simpa using e1,e2⟩
    ·exact .inr ⟨w,by simpa using e1,by omega,by omega⟩
   cases x with
   | emp w=>exact up (m+1) (by simpa [Xxr] using h) (by omega) (by simp only [XlJ];omega)
   | no=>exact up m (by simpa [Xxr] using h) (Nat.le_refl _) (by simp [XlJ])
   | win=>exact up m (by simpa [Xxr] using h) (Nat.le_refl _) (by simp [XlJ])
   | blk=>exact up m (by simpa [Xxr] using h) (Nat.le_refl _) (by simp [XlJ])
theorem XsV {H:Hp} {s:Nat→Option Nat}:∀ {js:List Nat} {new:List (List Value)},XtG H s js new→js.length=new.length∧∀ (i:Nat) j,js[i]?=some j→∃ c c',new[i]?=some c∧Xe5.renL s c=some c'∧Has H j c'
 | [],[],_=>⟨rfl,fun i j e=>by simp at e⟩
 | j::js,c::new,h=>by
   obtain ⟨h1,h2⟩:=XsV h.2
   refine ⟨by simp [h1],fun i x e=>?_⟩
   cases i with
   | zero=>simp at e;subst e;obtain ⟨c',a,b⟩:=h.1;exact ⟨c,c',rfl,a,b⟩
   | succ i=>simpa using h2 i x (by simpa using e)
 | [],_::_,h=>h.elim
 | _::_,[],h=>h.elim
theorem XsB {H:Hp} {s:Nat→Option Nat}:∀ {wr:List (Option (List Value))} {k:Nat},XxF H s k wr→∀ (i:Nat) c,wr[i]?=some (some c)→HasW H s (k+i) c
 | [],k,h,i,c,e=>by simp at e
 | none::wr,k,h,i,c,e=>by
   cases i with
   | zero=>simp at e
   | succ i=>
     rw [show k+(i+1)=k+1+i by omega]
     exact XsB (k:=k+1) (wr:=wr) h i c (by simpa using e)
 | some d::wr,k,h,i,c,e=>by
   cases i with
   | zero=>simp at e;subst e;exact h.1
   | succ i=>
     rw [show k+(i+1)=k+1+i by omega]
     exact XsB (k:=k+1) (wr:=wr) h.2 i c (by simpa using e)
theorem Has.obj {H:Hp} {j:Nat} {c:List Value} (h:Has H j c):∃ o,XaL H j=some o∧writable o=true∧∀ {P:Program} {ρ:Ren} {w:World} {l:Loc},Xl5 P ρ w l o→XbA ρ w l true c:=by
 rcases h with h|h|⟨d,m,h,rfl⟩
 ·exact ⟨_,h,rfl,fun h=>h⟩
 ·exact ⟨_,h,rfl,fun h=>h⟩
 ·refine ⟨_,h,rfl,fun {P ρ w l} ⟨g1,g2,g3⟩=>⟨by simp;omega,fun i v e=>g2 i v ?_,g3⟩⟩
  rw [List.getElem?_take] at e
  split at e
  ·exact e
  ·cases e
theorem XAw {ρ:Ren}:∀ {js:List Nat},(∀ j∈js,∃ l,ρ j=some l)→∃ ls:List Loc,ls.length=js.length∧∀ (i:Nat) j,js[i]?=some j→∃ l,ls[i]?=some l∧ρ j=some l
 | [],_=>⟨[],rfl,fun i j e=>by simp at e⟩
 | j::js,h=>by
   obtain ⟨l,hl⟩:=h j (by simp)
   obtain ⟨ls,g1,g2⟩:=XAw (js:=js) fun x hx=>h x (by simp [hx])
   refine ⟨l::ls,by simp [g1],fun i x e=>?_⟩
   cases i with
   | zero=>simp at e;subst e;exact ⟨l,rfl,hl⟩
   | succ i=>simpa using g2 i x (by simpa using e)
theorem XAZ {s:Nat→Option Nat} {ob ob':XbF} {c:List Value} (h:XFL s ob c=some ob') :
 (∃ x y,ob=.mp y∧mk3 c=some x∧ob'=.mp x)∨mk3 c=none∧∃ y c',ob.wcs=some y∧Xe5.renL s c=some c'∧ob.wr c'=some ob':=by
 unfold XFL at h
 split at h
 ·cases h;exact .inl ⟨_,_,rfl,by assumption,rfl⟩
 ·rename_i hm
  split at h<;>try (cases h;done)
  rename_i y hy
  split at h<;>try (cases h;done)
  rename_i c' hc'
  exact .inr ⟨hm,y,c',hy,hc',h⟩
 ·cases h
theorem XHb {ob ob':XbF} {x y:List Value} (hw:ob.wcs=some x) (hx:ob.wr y=some ob'):isObj ob' y∧writable ob'=true∧writable ob=true:=by
 unfold XbF.wr at hx
 split at hx<;>cases hx
 ·exact ⟨.inr (.inl rfl),rfl,rfl⟩
 ·exact ⟨.inr (.inr rfl),rfl,rfl⟩
 ·cases hw
theorem Xb8.XBY (hF:Xlt P F) {f:Nat} {s:XbS}
 (h:∀ aqs os r,XgW (Xv8 s.modes) os→s.run aqs (XkM os)=some r→∃ c,Xjl F f aqs=some c∧XaM P f os.length ⟨c,[],XqR 0 os,os.length⟩ (fun v' H' _=>Res os.length r v' H'))
 (hfn : ∃ fn, P.funcs[f]? = some fn ∧ fn.name ≠ "runtime.NumGoroutine" ∧ fn.body.isSome = true) : Xb8 P f s where
 fn:=hfn
 calls:=by
  intro w0 U ρ H top w vals rvals v H' top' hlo hg hh hv hs cs
  unfold XiN at hs
  split at hs<;>try (cases hs;done)
  rename_i aqs os has
  split at hs<;>try (cases hs;done)
  rename_i v0 new wr hrun
  split at hs<;>try (cases hs;done)
  rename_i hap
  split at hs<;>try (cases hs;done)
  rename_i H1 hwb
  split at hs<;>try (cases hs;done)
  rename_i H2 hadd
  split at hs<;>try (cases hs;done)
  rename_i v2 hren
  cases hs
  obtain ⟨a1,a2,a3⟩:=XwM hh (ρc:=XEL ρ (XkJ H s.modes vals)) (k:=0) has hv (fun i x e=>by simp [XEL,e])
  have kinds:=Xmb has
  generalize XkJ H s.modes vals=ws at *
  obtain ⟨c,hc,hl⟩:=h aqs os _ kinds hrun
  have hρc:∀ (i:Nat) x,ws[i]?=some x→XEL ρ ws i=Xt0 ρ x:=fun i x e=>by simp [XEL,e]
  have spot:∀ (i:Nat) o,os[i]?=some (some o)→∃ x,ws[i]?=some x∧XNr w H ρ (XEL ρ ws) x o:=fun i o e=>by
   have hi:i<ws.length:=by rw [←a2];exact (List.getElem?_eq_some_iff.1 e).1
   exact ⟨ws[i],List.getElem?_eq_getElem hi,(a3 i _ (List.getElem?_eq_getElem hi)).1 o e⟩
  have spotW:∀ (i:Nat) x,ws[i]?=some x→x≠.no→∃ o,os[i]?=some (some o)∧XNr w H ρ (XEL ρ ws) x o:=fun i x e hn=>by
   have hi:i<os.length:=by rw [a2];exact (List.getElem?_eq_some_iff.1 e).1
   cases ho:os[i] with
   | none=>exact absurd ((a3 i x e).2 (by rw [List.getElem?_eq_getElem hi,ho])) hn
   | some o=>exact ⟨o,by rw [List.getElem?_eq_getElem hi,ho],(a3 i x e).1 o (by rw [List.getElem?_eq_getElem hi,ho])⟩
  let u:Nat→Nat→Prop:=fun b k=>∃ (i:Nat) (x:Wd) (o:XbF) (l:Loc),ws[i]?=some x∧os[i]?=some (some o)∧writable o=true∧Xt0 ρ x=some l∧l.blk=b∧l.sh≤k∧k<l.sh+l.ext
  have hpc:HpR P w (.of u) (XEL ρ ws) (XqR 0 os) os.length w:=
   { obj:=fun i o e=>by
      obtain ⟨_,e2⟩:=XkW e
      rw [Nat.sub_zero] at e2
      obtain ⟨x,hx,l,cs',q1,q2,q4,_⟩:=spot i o e2
      exact ⟨l,by rw [hρc i x hx];exact q1,by rcases q2 with ⟨q2,q3⟩|⟨_,q3⟩;exact q2.objR q3;exact q3 _ _,fun hw k k1 k2=>.inl ⟨i,x,o,l,hx,e2,hw,q1,rfl,k1,k2⟩⟩
     dis:=fun i j oi oj li lj hij hi hj hli hlj hw=>by
      have e1:=(XkW hi).2
      have e2:=(XkW hj).2
      rw [Nat.sub_zero] at e1 e2
      obtain ⟨x,hx,sx⟩:=spot i oi e1
      obtain ⟨y,hy,sy⟩:=spot j oj e2
      rw [hρc i x hx] at hli
      rw [hρc j y hy] at hlj
      exact Xvo hh hap hij hx hy sx sy hli hlj (.inl hw)
     lt:=fun i l e=>by
      refine .inr ⟨Nat.zero_le _,?_⟩
      rw [a2]
      unfold XEL at e
      split at e
      ·rename_i x hx;exact (List.getElem?_eq_some_iff.1 hx).1
      ·cases e
     keep:=Keep.refl _ _ }
  obtain ⟨ρ',rv,fr',w',v',Hc,tc,g1,g2,g3,g4,g5,g6,⟨js,r1,r2,r3,r4,r5⟩⟩:=hl.get w u (XEL ρ ws) _ [] w cs ⟨(XkC hF hc a1).1,.nil,hpc⟩
  obtain ⟨n1,n2⟩:=XsV r2
  replace n1:js.length=new.length:=n1
  have hwr:=XsB r5
  have huwin:∀ b k,u b k→∃ (i:Nat) (x:Wd) (bb:Nat) (lb:Loc) (ob:XbF) (l:Loc),ws[i]?=some x∧x.wr=true∧x.XjI=some bb∧XaL H bb=some ob∧writable ob=true∧ρ bb=some lb∧b=lb.blk∧Xt0 ρ x=some l∧l.blk=b∧l.sh≤k∧k<l.sh+l.ext∧lb.sh≤k∧k<lb.sh+lb.ext:=by
   rintro b k ⟨i,x,o,l,e1,e2,e3,e4,e5,e6,e7⟩
   obtain ⟨x',hx',l',cs',q1,q2,q4,q5⟩:=spot i o e2
   rw [e1] at hx';cases hx'
   rw [e4] at q1;cases q1
   rcases q5 with ⟨h0,_⟩|⟨bb,lb,ob,f1,f2,f3,f4,f5,f6,f7⟩
   ·omega
   ·have hw:x.wr=true:=q4.trans e3
    exact ⟨i,x,bb,lb,ob,l,e1,hw,f1,f2,f7 hw,f3,by rw [←f4,e5],e4,e5,e6,e7,by omega,by omega⟩
  have huU:∀ b k,u b k→U.u b k∨w0.heap.size≤b:=fun b k hu=>by
   obtain ⟨i,x,bb,lb,ob,l,f1,f2,f3,f4,f5,f6,rfl,f8,f9,f10,f11,f12,f13⟩:=huwin b k hu
   obtain ⟨l',hl',_,hU⟩:=hh.obj _ _ f4
   rw [f6] at hl';cases hl'
   exact hU f5 k f12 f13
  have hkeep:Keep U w0 w':=hh.keep.trans g5.keep huU
  have WBs:=Xhr _ hap hwb
  obtain ⟨N1,N2⟩:=Xp0 hadd
  obtain ⟨E1,E2⟩:=Xqu (XlJ ws) (H:=H2) (m:=top+new.length)
  have hcell:∀ i o l,XaL H i=some o→ρ i=some l→∀ k,l.sh≤k→k<l.sh+l.ext→u l.blk k→∃ (q:Nat) (x:Wd) (lq:Loc),ws[q]?=some x∧x.wr=true∧x.XjI=some i∧Xt0 ρ x=some lq∧lq.blk=l.blk∧lq.sh≤k∧k<lq.sh+lq.ext:=fun i o l hi hl k k1 k2 hu=>by
   obtain ⟨q,x,bb,lb,ob,lq,f1,f2,f3,f4,f5,f6,f7,f8,f9,f10,f11,f12,f13⟩:=huwin _ _ hu
   by_cases hxi:bb=i
   ·subst hxi;exact ⟨q,x,lq,f1,f2,f3,f8,f9,f10,f11⟩
   ·exact (hh.dis bb i ob o lb l hxi f4 hi f6 hl f5 k f7.symm f12 f13 k1 k2).elim
  have hwin:∀ (i:Nat) x l c,ws[i]?=some x→Xt0 ρ x=some l→wr[i]?=some (some c)→((mk3 c=none∧∃ c',Xe5.renL (Xul js os.length) c=some c'∧XbA ρ' w' l true c')∨∃ y,mk3 c=some y∧∀ ρ,Xl5 P ρ w' l (.mp y))∧∃ o,XaL Hc i=some o∧writable o=true∧ρ' i=some l:=fun i x l c hx hlx hi=>by
   have qq:=hwr i c hi
   rw [Nat.zero_add] at qq
   have hlt:i<os.length:=by rw [a2];exact (List.getElem?_eq_some_iff.1 hx).1
   have:=g6 i l hlt (by rw [hρc i x hx];exact hlx)
   unfold HasW at qq
   split at qq
   ·rename_i y hy
    obtain ⟨l',q6,q7,_⟩:=g5.obj i _ qq
    rw [this] at q6;cases q6
    exact ⟨.inr ⟨y,hy,fun _=>q7⟩,_,qq,rfl,this⟩
   ·rename_i hm
    obtain ⟨c',q1,q2⟩:=qq
    obtain ⟨o,q3,q4,q5⟩:=q2.obj
    obtain ⟨l',q6,q7,_⟩:=g5.obj i o q3
    rw [this] at q6;cases q6
    exact ⟨.inl ⟨hm,c',q1,q5 q7⟩,o,q3,q4,this⟩
  have hnew:∀ j∈js,∃ l o,ρ' j=some l∧XaL Hc j=some o∧writable o=true∧∀ k,l.sh≤k→k<l.sh+l.ext→u l.blk k∨w.heap.size≤l.blk:=fun j hj=>by
   obtain ⟨i,hi⟩:=List.getElem?_of_mem hj
   obtain ⟨c,c',_,_,hcj⟩:=n2 i j hi
   obtain ⟨o,ho,hwo,_⟩:=hcj.obj
   obtain ⟨l,q1,_,q3⟩:=g5.obj j o ho
   exact ⟨l,o,q1,ho,hwo,fun k k1 k2=>q3 hwo k k1 k2⟩
  obtain ⟨ls,m1,m2⟩:=XAw (ρ:=ρ') (js:=js) fun j hj=>let ⟨l,_,h,_⟩:=hnew j hj;⟨l,h⟩
  let ρ2:Ren:=fun i=>if i<top then ρ i else if i<top+new.length then ls[i - top]? else if i<top+new.length+XlJ ws then some ⟨0,0,0⟩ else ρ i
  have hout:∀ i l,ρ i=some l→i<top∨top+new.length+XlJ ws≤i:=fun i l e=>by
   rcases h1:hh.lt i l e with h2|h2
   ·rcases Nat.lt_or_ge i top with h3|h3
    ·exact .inl h3
    ·rcases Nat.lt_or_ge i (top+new.length+XlJ ws) with h4|h4
     ·exact absurd h2 (hg i h3 h4)
     ·exact .inr h4
   ·exact .inl h2.2
  have hx2:Ext ρ ρ2:=fun i l e=>by
   rcases hout i l e with h1|h1
   ·show (if i<top then ρ i else _)=_
    rw [if_pos h1];exact e
   ·show (if i<top then ρ i else if i<top+new.length then ls[i - top]? else if i<top+new.length+XlJ ws then some ⟨0,0,0⟩ else ρ i)=_
    rw [if_neg (by omega),if_neg (by omega),if_neg (by omega)];exact e
  have hnewR:∀ (i:Nat),i<new.length→ρ2 (top+i)=ls[i]?:=fun i hi=>by
   show (if top+i<top then ρ (top+i) else if top+i<top+new.length then ls[top+i - top]? else _)=_
   rw [if_neg (by omega),if_pos (by omega),Nat.add_sub_cancel_left]
  have hempR:∀ i,top+new.length≤i→i<top+new.length+XlJ ws→ρ2 i=some ⟨0,0,0⟩:=fun i h1 h2=>by
   show (if i<top then ρ i else if i<top+new.length then ls[i - top]? else if i<top+new.length+XlJ ws then some ⟨0,0,0⟩ else ρ i)=_
   rw [if_neg (by omega),if_neg (by omega),if_pos h2]
  have hsren:∀ i k l,Xur top new.length ws i=some k→comp (Xul js os.length) ρ' i=some l→ρ2 k=some l:=fun i k l e1 e2=>by
   unfold Xur at e1
   unfold comp Xul at e2
   cases hb:Nat.blt i new.length with
   | true=>
     have hi:i<new.length:=Nat.blt_eq.mp hb
     rw [hb,cond_true,Option.some.injEq] at e1
     subst e1
     have hij:i<js.length:=by omega
     rw [List.getElem?_eq_getElem hij] at e2
     simp only at e2
     obtain ⟨l',f1,f2⟩:=m2 i _ (List.getElem?_eq_getElem hij)
     rw [e2] at f2;cases f2
     rw [hnewR i hi,f1]
   | false=>
     have hi:¬ i<new.length:=fun h=>by rw [←Nat.blt_eq] at h;rw [h] at hb;cases hb
     rw [hb,cond_false] at e1
     rw [List.getElem?_eq_none (by omega)] at e2
     simp only at e2
     rw [n1] at e2
     cases hb2:Nat.blt (i - new.length) os.length with
     | false=>rw [hb2] at e2;cases e2
     | true=>
       have hlt:i - new.length<os.length:=Nat.blt_eq.mp hb2
       rw [hb2] at e2
       simp only [cond_true] at e2
       rcases Xs7 e1 with ⟨b,wq,f1,rfl⟩|⟨_,f1,f2,f3⟩
       ·obtain ⟨o,_,l1,cs',q1,_⟩:=spotW _ _ f1 (by simp)
        have:=g6 _ l1 hlt (by rw [hρc _ _ f1];exact q1)
        rw [e2] at this;cases this
        exact hx2 _ _ q1
       ·have:=g6 _ ⟨0,0,0⟩ hlt (by rw [hρc _ _ f1];rfl)
        rw [e2] at this;cases this
        exact hempR k f2 f3
  have hcells:∀ {own:Bool} {l:Loc} {c c' c2:List Value},XbA ρ' w' l own c'→Xe5.renL (Xul js os.length) c=some c'→Xe5.renL (Xur top new.length ws) c=some c2→XbA ρ2 w' l own c2:=fun h1 h2 h3=>
   XbA.ren (XbA.XfK h1 h2 id) hsren h3
  have hold:∀ i o,XaL H1 i=some o→∃ o',XaL H i=some o'∧writable o'=writable o∧∃ l,ρ i=some l∧Xl5 P ρ2 w' l o:=fun i o ho=>by
   by_cases hwd:∃ (q:Nat) (x:Wd),ws[q]?=some x∧x.wr=true∧x.XjI=some i
   ·obtain ⟨q,x,hx,hxw,hxb⟩:=hwd
    obtain ⟨oq,hoq,sp⟩:=spotW q x hx (fun e=>by subst e;cases hxb)
    cases x with
    | no=>cases hxb
    | emp _=>cases hxb
    | blk b wq=>
      simp only [Wd.XjI,Option.some.injEq] at hxb;subst hxb
      simp only [Wd.wr] at hxw;subst hxw
      rcases WBs.blk q b hx with e|⟨d,ob,ob',f1,f2,fp,f5⟩
      ·rw [ho] at e;cases e
      ·rw [ho] at f5;cases f5
       obtain ⟨l,hl,_⟩:=hh.obj b ob f2
       obtain ⟨kk,_⟩:=hwin q _ l d hx hl f1
       rcases XAZ fp with ⟨x1,y1,rfl,hm,rfl⟩|⟨hm,y,d',f2',f3,f4⟩
       ·rcases kk with ⟨hm',_⟩|⟨y2,hm',k2⟩
        ·rw [hm] at hm';cases hm'
        ·rw [hm] at hm';cases hm'
         exact ⟨_,f2,rfl,l,hl,k2 _⟩
       obtain ⟨z1,z2,z3⟩:=XHb f2' f4
       obtain ⟨_,c',k1,k2⟩|⟨_,hm',_⟩:=kk
       rotate_left
       ·rw [hm] at hm';cases hm'
       have:=hcells k2 k1 f3
       exact ⟨ob,f2,by rw [z2,z3],l,hl,z1.objR (by rw [z2];exact this)⟩
    | win b off n wq=>
      simp only [Wd.XjI,Option.some.injEq] at hxb;subst hxb
      simp only [Wd.wr] at hxw;subst hxw
      obtain ⟨d,d',ob,x,ob',f1,f2,f3,f4,⟨f5,f5x,hm⟩,f6,f7⟩:=WBs.win q b off n hx
      rw [ho] at f7;cases f7
      obtain ⟨z1,z2,z3⟩:=XHb f3 f6
      obtain ⟨lb,hlb,hor,_⟩:=hh.obj b ob f2
      have hlw:Xt0 ρ (.win b off n true)=some ⟨lb.blk,lb.sh+off,n⟩:=by simp only [Xt0,hlb]
      obtain ⟨⟨_,c',k1,k2⟩|⟨_,hm',_⟩,_⟩:=hwin q _ _ d hx hlw f1
      rotate_left
      ·rw [hm] at hm';cases hm'
      have hin:=hcells k2 k1 f4
      obtain ⟨_,q2,q3⟩:=Xyi f3
      have hcr:XbA ρ w lb true x:=by rcases q3 with rfl|rfl<;>exact hor
      obtain ⟨l',cs',s1,s2,s4,s5⟩:=sp
      rw [hlw] at s1;cases s1
      have hle:off+n≤lb.ext:=by
       rcases s5 with ⟨h0,hb⟩|⟨b',lb',ob2,t1,t2,t3,t4,t5,t6,t7⟩
       ·cases hb
       ·simp only [Wd.XjI,Option.some.injEq] at t1;subst t1
        rw [hlb] at t3;cases t3
        simp only at t6;omega
      refine ⟨ob,f2,by rw [z2,z3],lb,hlb,z1.objR ?_⟩
      rw [z2]
      have hlen:=Xjp d' x off
      have hkc:∀ i,i<lb.ext→¬ (off≤i∧i<off+n)→w'.cell? ⟨lb.blk,lb.sh+i,none⟩=w.cell? ⟨lb.blk,lb.sh+i,none⟩∧w'.frozen? ⟨lb.blk,lb.sh+i,none⟩=w.frozen? ⟨lb.blk,lb.sh+i,none⟩:=fun i hi hni=>by
       have hnu:¬ u lb.blk (lb.sh+i):=fun hu=>by
        obtain ⟨q',x',lq,p1,p2,p3,p4,p5,p6,p7⟩:=hcell b ob lb f2 hlb (lb.sh+i) (by omega) (by omega) hu
        by_cases hqq:q'=q
        ·subst hqq
         rw [hx] at p1;cases p1
         rw [hlw] at p4;cases p4
         simp only at p6 p7;omega
        ·have:=(Xmt hap q' q _ _ b hqq p1 hx p3 rfl).2
         cases this
       exact Keep.cell g5.keep (hor.lt (by omega)) hnu (hcr.2.2 i hi).1
      refine ⟨by rw [hlen];exact hcr.1,fun i v e=>?_,fun i hi=>?_⟩
      ·have hi:i<x.length:=by
        rcases Nat.lt_or_ge i x.length with h|h
        ·exact h
        ·rw [List.getElem?_eq_none (by omega)] at e;cases e
       by_cases hin':off≤i∧i<off+n
       ·rw [XjX d' x off i (by omega),if_pos (by omega)] at e
        obtain ⟨v',y1,y2⟩:=hin.2.1 (i - off) v e
        exact ⟨v',by rw [←y1];congr 2;simp only;omega,y2⟩
       ·rw [XjX d' x off i (by omega),if_neg (by omega)] at e
        obtain ⟨v',y1,y2⟩:=hcr.2.1 i v e
        exact ⟨v',by rw [(hkc i (by have:=hcr.1;omega) hin').1];exact y1,y2.mono hx2⟩
      ·by_cases hin':off≤i∧i<off+n
       ·have:=hin.2.2 (i - off) (by simp only;omega)
        simp only [show lb.sh+off+(i - off)=lb.sh+i by omega] at this
        exact ⟨this.1,fun _=>this.2 trivial⟩
       ·have:=hkc i hi hin'
        rw [this.1,this.2];exact hcr.2.2 i hi
   ·have hH:XaL H i=some o:=by rw [←WBs.same i fun q x hx hxw hxb=>hwd ⟨q,x,hx,hxw,hxb⟩];exact ho
    obtain ⟨l,hl,hor,_⟩:=hh.obj i o hH
    refine ⟨o,hH,rfl,l,hl,hor.keep g5.keep hx2 fun q hq hu=>?_⟩
    obtain ⟨q',x',lq,p1,p2,p3,_⟩:=hcell i o l hH hl (l.sh+q) (by omega) (by omega) hu
    exact hwd ⟨q',x',p1,p2,p3⟩
  have hobj:∀ i o,XaL (XjA H2 (top+new.length) (XlJ ws)) i=some o →
   (top+new.length≤i∧i<top+new.length+XlJ ws∧o=.row true [])∨(∃ a,a<new.length∧i=top+a∧∃ c c2,new[a]?=some c∧Xe5.renL (Xur top new.length ws) c=some c2∧o=.row true c2)∨((i<top∨top+new.length+XlJ ws≤i)∧XaL H1 i=some o):=fun i o e=>by
   rcases Nat.lt_or_ge i top with h1|h1
   ·rw [E1 i (by omega),N1 i (by omega)] at e;exact .inr (.inr ⟨.inl h1,e⟩)
   ·rcases Nat.lt_or_ge i (top+new.length) with h2|h2
    ·have ha:i - top<new.length:=by omega
     obtain ⟨c2,e1,e2⟩:=N2 (i - top) _ (List.getElem?_eq_getElem ha)
     rw [E1 i (by omega),show i=top+(i - top) by omega,e2] at e
     cases e
     exact .inr (.inl ⟨i - top,ha,by omega,_,c2,List.getElem?_eq_getElem ha,e1,rfl⟩)
    ·rcases Nat.lt_or_ge i (top+new.length+XlJ ws) with h3|h3
     ·rw [E2 i h2 h3] at e;cases e;exact .inl ⟨h2,h3,rfl⟩
     ·rw [E1 i (by omega),N1 i (by omega)] at e;exact .inr (.inr ⟨.inr h3,e⟩)
  have hjs:∀ a,a<new.length→∃ j l c c',js[a]?=some j∧ls[a]?=some l∧ρ' j=some l∧new[a]?=some c∧Xe5.renL (Xul js os.length) c=some c'∧XbA ρ' w' l true c'∧∃ o,XaL Hc j=some o∧writable o=true∧∀ k,l.sh≤k→k<l.sh+l.ext→u l.blk k∨w.heap.size≤l.blk:=fun a ha=>by
   have hj:a<js.length:=by omega
   obtain ⟨l,e1,e2⟩:=m2 a _ (List.getElem?_eq_getElem hj)
   obtain ⟨c,c',e3,e4,e5⟩:=n2 a _ (List.getElem?_eq_getElem hj)
   obtain ⟨o,q1,q2,q3⟩:=e5.obj
   obtain ⟨l',q4,q5,_⟩:=g5.obj _ _ q1
   rw [e2] at q4;cases q4
   obtain ⟨l2,o2,p1,p2,p3,p4⟩:=hnew _ (List.getElem_mem hj)
   rw [e2] at p1;cases p1
   rw [q1] at p2;cases p2
   exact ⟨_,l,c,c',List.getElem?_eq_getElem hj,e1,e2,e3,e4,q3 q5,o,q1,q2,p4⟩
  have hapN:∀ a la i o li,a<new.length→ls[a]?=some la→XaL H1 i=some o→ρ i=some li→Apart la li:=fun a la i o li ha hla hi hli k ek k1 k2 k3 k4=>by
   obtain ⟨j,l,c,c',e1,e2,e3,e4,e5,e6,oj,e7,e8,e9⟩:=hjs a ha
   rw [hla] at e2;cases e2
   obtain ⟨o',f1,f2,_⟩:=hold i o hi
   rcases e9 k k1 k2 with hu|hge
   ·rw [ek] at hu
    obtain ⟨q,x,lq,p1,p2,p3,p4,p5,p6,p7⟩:=hcell i o' li f1 hli k k3 k4 hu
    have hcw:∃ d,wr[q]?=some (some d):=by
     cases x with
     | no=>cases p3
     | emp _=>cases p3
     | win b off n wq=>
       simp only [Wd.wr] at p2;subst p2
       obtain ⟨d,_,_,_,_,f,_⟩:=WBs.win q b off n p1
       exact ⟨d,f⟩
     | blk b wq=>
       simp only [Wd.wr] at p2;subst p2
       simp only [Wd.XjI,Option.some.injEq] at p3;subst p3
       rcases WBs.blk q b p1 with e|⟨d,_,_,f,_⟩
       ·rw [hi] at e;cases e
       ·exact ⟨d,f⟩
    obtain ⟨d,hd⟩:=hcw
    obtain ⟨_,oq,w1,w2,w3⟩:=hwin q x lq d p1 p4 hd
    have hne:j≠q:=fun e=>by
     subst e
     have hqq:=(List.getElem?_eq_some_iff.1 p1).1
     rcases r4 j (List.mem_of_getElem? e1) with h4|h4
     ·omega
     ·have h4':wr[j]?=some none:=h4
      rw [hd] at h4';cases h4'
    exact g5.dis j q oj oq la lq hne e7 w1 e3 w3 e8 k (by rw [ek,p5]) k1 k2 p6 p7
   ·have:=hh.XH5 f1 hli (by omega)
    omega
  have hfin:HpR P w0 U ρ2 (XjA H2 (top+new.length) (XlJ ws)) (top+new.length+XlJ ws) w':=
   { obj:=fun i o e=>by
      rcases hobj i o e with ⟨h1,h2,rfl⟩|⟨a,ha,rfl,c,c2,h3,h4,rfl⟩|⟨_,h3⟩
      ·exact ⟨⟨0,0,0⟩,hempR i h1 h2,⟨Nat.zero_le _,fun i v e=>by simp at e,fun i hi=>absurd hi (Nat.not_lt_zero _)⟩,fun _ k k1 k2=>absurd k2 (by simp)⟩
      ·obtain ⟨j,l,d,d',e1,e2,e3,e4,e5,e6,oj,e7,e8,e9⟩:=hjs a ha
       rw [h3] at e4;cases e4
       refine ⟨l,by rw [hnewR a ha];exact e2,hcells e6 e5 h4,fun _ k k1 k2=>?_⟩
       rcases e9 k k1 k2 with hu|hge
       ·exact huU _ _ hu
       ·exact .inr (Nat.le_trans hh.keep.size hge)
      ·obtain ⟨o',f1,f2,l,f3,f4⟩:=hold i o h3
       obtain ⟨l',q1,_,q3⟩:=hh.obj i o' f1
       rw [f3] at q1;cases q1
       exact ⟨l,hx2 _ _ f3,f4,fun hw=>q3 (f2.trans hw)⟩
     dis:=fun i j oi oj li lj hij hi hj hli hlj hw=>by
      have emp0:∀ i,top+new.length≤i→i<top+new.length+XlJ ws→∀ l,ρ2 i=some l→l.ext=0:=fun i h1 h2 l e=>by rw [hempR i h1 h2] at e;cases e;rfl
      rcases hobj i oi hi with ⟨h1,h2,rfl⟩|⟨a,ha,rfl,c,c2,h3,h4,rfl⟩|⟨hi1,h3⟩
      ·intro k _ k1 k2 _ _
       have:=emp0 i h1 h2 li hli
       omega
      ·rw [hnewR a ha] at hli
       rcases hobj j oj hj with ⟨h1,h2,rfl⟩|⟨a',ha',rfl,c',c2',h3',h4',rfl⟩|⟨hj1,h3'⟩
       ·intro k _ _ _ k1 k2
        have:=emp0 j h1 h2 lj hlj
        omega
       ·rw [hnewR a' ha'] at hlj
        obtain ⟨j1,l1,_,_,e1,e2,e3,_,_,_,o1,e7,e8,_⟩:=hjs a ha
        obtain ⟨j2,l2,_,_,f1,f2,f3,_,_,_,o2,f7,f8,_⟩:=hjs a' ha'
        rw [hli] at e2;cases e2
        rw [hlj] at f2;cases f2
        refine g5.dis j1 j2 o1 o2 li lj (fun e=>?_) e7 f7 e3 f3 e8
        subst e
        have h1:a<js.length:=by omega
        have:=(List.getElem?_inj h1 r3).1 (e1.trans f1.symm)
        omega
       ·obtain ⟨o',f1,f2,l,f3,f4⟩:=hold j oj h3'
        have:=hx2 _ _ f3
        rw [hlj] at this;cases this
        exact hapN a li j oj lj ha hli h3' f3
      ·obtain ⟨o',f1,f2,l,f3,f4⟩:=hold i oi h3
       have:=hx2 _ _ f3
       rw [hli] at this;cases this
       rcases hobj j oj hj with ⟨h1,h2,rfl⟩|⟨a',ha',rfl,c',c2',h3',h4',rfl⟩|⟨hj1,h3'⟩
       ·intro k _ _ _ k1 k2
        have:=emp0 j h1 h2 lj hlj
        omega
       ·rw [hnewR a' ha'] at hlj
        exact (hapN a' lj i oi li ha' hlj h3 f3).symm
       ·obtain ⟨o2',p1,p2,l2,p3,p4⟩:=hold j oj h3'
        have:=hx2 _ _ p3
        rw [hlj] at this;cases this
        exact hh.dis i j o' o2' li lj hij f1 p1 f3 p3 (f2.trans hw)
     lt:=fun i l e=>by
      have e':(if i<top then ρ i else if i<top+new.length then ls[i - top]? else if i<top+new.length+XlJ ws then some ⟨0,0,0⟩ else ρ i)=some l:=e
      split at e'
      ·exact (hh.lt i l e').imp id fun h=>⟨h.1,by omega⟩
      ·split at e'
       ·exact .inr ⟨by omega,by omega⟩
       ·split at e'
        ·exact .inr ⟨by omega,by omega⟩
        ·exact (hh.lt i l e').imp id fun h=>⟨h.1,by omega⟩
     keep:=hkeep }
  exact ⟨.returned rv,w',fr',⟨ρ2,rv,rfl,VR.ren hsren v0 hren (VR.XfK v0 r1 g4),hfin,hx2⟩,g1,g2,g3⟩
end
end Go.Vm
