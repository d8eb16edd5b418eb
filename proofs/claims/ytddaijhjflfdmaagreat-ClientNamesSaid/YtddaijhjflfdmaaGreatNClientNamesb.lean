import Derived.Test.YtddaijhjflfdmaaGreatNClientNamesa
namespace Go.Vm
open Go Go.RowKit
section
variable {P:Program} {w0:World} {U:Nat→Nat→Prop} {ρ:Ren} {F:Fns} {S:Xm2}
def Goes (P:Program) (w0:World) (U:Nat→Nat→Prop) (ρ:Ren) (cs:List Frame) (vm':VM) (rf:Frame) (rfs:List Frame) (w:World):Prop:=
 ∃ ρ' rf' rfs' w',Steps P (lone rf (rfs++cs) w) (lone rf' (rfs'++cs) w')∧VMR P w0 U ρ' vm' rf' rfs' w'∧Ext ρ ρ'
theorem Goes.one {cs:List Frame} {vm':VM} {rf rf':Frame} {rfs rfs':List Frame} {w w':World} (h:step P (lone rf (rfs++cs) w)=.next (lone rf' (rfs'++cs) w'))
 (hr:VMR P w0 U ρ vm' rf' rfs' w'):Goes P w0 U ρ cs vm' rf rfs w:=⟨ρ,rf',rfs',w',.one h,hr,Ext.refl ρ⟩
theorem Goes.trans {cs:List Frame} {vm vm':VM} {rf:Frame} {rfs:List Frame} {w:World} (h:Goes P w0 U ρ cs vm rf rfs w)
 (k:∀ ρ' rf' rfs' w',VMR P w0 U ρ' vm rf' rfs' w'→Goes P w0 U ρ' cs vm' rf' rfs' w'):Goes P w0 U ρ cs vm' rf rfs w:=by
 obtain ⟨ρ1,rf1,rfs1,w1,s1,r1,e1⟩:=h
 obtain ⟨ρ2,rf2,rfs2,w2,s2,r2,e2⟩:=k _ _ _ _ r1
 exact ⟨ρ2,rf2,rfs2,w2,s1.trans s2,r2,e1.trans e2⟩
theorem Xh8 {f:Frame} {v:XbQ} (h:FrR P ρ v f) (hr:v.ret=false):f=mkF f.fn f.tmps f.todo f.defers f.roundOf:=by
 obtain ⟨_,_,_,_,_,hm,hk,_⟩:=h
 cases f
 simp only at hm hk
 subst hm hk
 simp [hr]
theorem Xxi {f:Frame} {v:XbQ} (h:FrR P ρ v f) (hr:v.ret=true):f=mkR f.fn f.tmps f.todo f.defers f.roundOf:=by
 obtain ⟨_,_,_,_,_,hm,hk,_⟩:=h
 cases f
 simp only at hm hk
 subst hm hk
 simp [hr]
theorem XkC {fr:XbQ} {rf:Frame} (h:FrR P ρ fr rf) {o:Xdf} {rest:List Xdf} {k:List Xgo} (ht:fr.todo=.inReg (o::rest)::k) {v v':Value} (hv:VR ρ v v') :
 FrR P ρ { fr with env:=XpR fr.nt fr.env o.dst v,todo:=.inReg rest::k } (rf.finish v'):=
 XpV (u:=fr) h hv (by simp [finish,ht])
theorem Xo3:VR ρ Xh9 undef:=.tuple .nil
theorem Xr0 {fr:XbQ} {rf:Frame} (h:FrR P ρ fr rf) {o:Xdf} {rest:List Xdf} {k:List Xgo} (ht:fr.todo=.inReg (o::rest)::k) :
 ∃ ops i is k' oo,rf.todo=.inRegion ops (i::is)::k'∧ops[i]?=some oo∧Xji P ops oo=some o:=by
 have h4:=h.todo
 rw [ht] at h4
 cases hft:rf.todo with
 | nil=>rw [hft] at h4;cases h4
 | cons it k'=>
   rw [hft] at h4
   cases h4 with|cons hi hk=>
   cases hi with|inReg hr=>
   cases hr with|cons ho hc htl=>exact ⟨_,_,_,_,_,rfl,ho,hc⟩
structure AtOp (P:Program) (ρ:Ren) (fr:XbQ) (rf:Frame) (o:Xdf) (fn:FuncId) (t:Array Value) (k':List Item) (d:List Deferred) (r:Option Nat) (ops:Array Oper) (i:Nat) (is:List Nat) (oo:Oper):Prop where
 frame:rf=mkF fn t (.inRegion ops (i::is)::k') d r
 op:ops[i]?=some oo
 comp:XpA P oo.op=some o.op
 wanted:Region.wanted oo (yielded ops t)=true
 args:o.op.ops.all okO=true
theorem atOp {fr:XbQ} {rf:Frame} (h:FrR P ρ fr rf) (hret:fr.ret=false) {o:Xdf} {rest:List Xdf} {k:List Xgo} (ht:fr.todo=.inReg (o::rest)::k) (hw:XeK fr.env o.g=some true) :
 ∃ fn t k' d r ops i is oo,AtOp P ρ fr rf o fn t k' d r ops i is oo:=by
 obtain ⟨ops,i,is,k',oo,e1,e2,e3⟩:=Xr0 h ht
 obtain ⟨_,hok,hop⟩:=XoO e3
 refine ⟨rf.fn,rf.tmps,k',rf.defers,rf.roundOf,ops,i,is,oo,?_,e2,hop,Xqo h.env e3 hw,hok⟩
 rw [←e1];exact Xh8 h hret
theorem XvK {fr:XbQ} {rf:Frame} (h:FrR P ρ fr rf) {xs:List Operand} (hx:xs.all okO=true) {vs:List Value} (hv:Xnx fr.env xs=some vs):VRL ρ vs (xs.map rf.eval):=
 XvC h.env rfl hx hv
theorem XsW {o:Oper} {a:Operand→Value} {f:Nat} {ys:Array Operand} {ts:Array TypeId} (hop:o.op=.call ⟨.value (.func f),ys,ts⟩) (ha:a (.func f)=.func (.func f) #[] #[]) {w:World}
 (h : ∃ fn, P.funcs[f]? = some fn ∧ fn.name ≠ "runtime.NumGoroutine" ∧ fn.body.isSome = true) : (execOp a o).run P w = .ok (.enter f ⟨ys.toList.map a⟩) w := by
 have:(⟨ys.toList.map a⟩:Array Value)=ys.map a:=by rw [←Array.toList_map]
 simp only [execOp,hop,resolve,ha,Deferred.ofValue,Sem.run_bind,Sem.run_pure,Result.andThen_ok,invoke,Array.append_empty,Array.empty_append,XlN h,this]
theorem XsN {o:Oper} {a:Operand→Value} {f:Nat} {t:Nat} {ys:Array Operand} {ts:Array TypeId} {fi ca:List Value} (hop:o.op=.call ⟨.value (.tmp t),ys,ts⟩) (ha:a (.tmp t)=.func (.func f) ⟨fi⟩ ⟨ca⟩) {w:World}
 (h : ∃ fn, P.funcs[f]? = some fn ∧ fn.name ≠ "runtime.NumGoroutine" ∧ fn.body.isSome = true) : (execOp a o).run P w = .ok (.enter f ⟨fi ++ ys.toList.map a ++ ca⟩) w := by
 have:(⟨fi++ys.toList.map a++ca⟩:Array Value)=⟨fi⟩++ys.map a++⟨ca⟩:=by apply Array.toList_inj.1;simp
 simp only [execOp,hop,resolve,ha,Deferred.ofValue,Sem.run_bind,Sem.run_pure,Result.andThen_ok,invoke,XlN h,this]
theorem XH4 (hS:Xak P S) {f:Nat} {s:XbE} (hf:S f=some s) {fr:XbQ} {up:List XbQ} {H H':Hp} {top top':Nat} {rf:Frame} {rfs:List Frame} {w:World}
 (h:VMR P w0 U ρ ⟨fr,up,H,top⟩ rf rfs w) {o:Xdf} {rest:List Xdf} {k:List Xgo} (ht:fr.todo=.inReg (o::rest)::k) {vals rvals:List Value} (hv:VRL ρ vals rvals) {v:Value}
 (hs:Xi0 s vals H top=some (v,H',top')) {cs:List Frame} (hstep:step P (lone rf (rfs++cs) w)=.next (lone (Frame.enter P f ⟨rvals⟩ .normal) (rf::rfs++cs) w)) :
 Goes P w0 U ρ cs ⟨{ fr with env:=XpR fr.nt fr.env o.dst v,todo:=.inReg rest::k },up,H',top'⟩ rf rfs w:=by
 obtain ⟨e,w',f',⟨ρ',rv,rfl,hrv,hh,hx⟩,hcomes,-,hleave⟩:=(hS f s hf).calls w0 (.of U) ρ H top w vals rvals v H' top' (Nat.zero_le _) (fun _ _ _ h=>h) h.heap hv hs (rf::rfs++cs)
 refine ⟨ρ',rf.finish rv,rfs,w',.trans (.head hstep hcomes) (.one (step_leave_returned hleave)),⟨XkC (h.cur.mono hx) ht hrv,h.up.mono fun _ _ k=>k.mono hx,hh⟩,hx⟩
theorem Xvw (hF:Xlx P F) {f:Nat} {fr c:XbQ} {up:List XbQ} {H:Hp} {top:Nat} {rf:Frame} {rfs:List Frame} {w:World}
 (h:VMR P w0 U ρ ⟨fr,up,H,top⟩ rf rfs w) {o:Xdf} {rest:List Xdf} {k:List Xgo} (ht:fr.todo=.inReg (o::rest)::k) {vals rvals:List Value} (hv:VRL ρ vals rvals)
 (hc:XjX F f vals=some c) {cs:List Frame} (hstep:step P (lone rf (rfs++cs) w)=.next (lone (Frame.enter P f ⟨rvals⟩ .normal) (rf::rfs++cs) w)) :
 Goes P w0 U ρ cs ⟨c,{ fr with todo:=.inReg (o::rest)::k }::up,H,top⟩ rf rfs w:=by
 have:({ fr with todo:=.inReg (o::rest)::k }:XbQ)=fr:=by cases fr;simp only at ht;subst ht;rfl
 rw [this]
 exact Goes.one hstep ⟨(Xkz hF hc hv).1,.cons h.cur h.up,h.heap⟩
theorem VR.Xry {f:Nat} {a b:List Value} {v':Value} (h:VR ρ (.func (.func f) ⟨a⟩ ⟨b⟩) v'):∃ fi ca,v'=.func (.func f) ⟨fi⟩ ⟨ca⟩∧VRL ρ a fi∧VRL ρ b ca:=by
 cases h with
 | func _ h1 h2=>exact ⟨_,_,rfl,h1,h2⟩
theorem VR.XAK {b:Bool} {v':Value} (h:VR ρ (.bool b) v'):v'=.bool b:=by cases h;rfl
theorem VR.XEd {l:Nat} {v':Value} (h:VR ρ (.func (.yield l) ⟨[]⟩ ⟨[]⟩) v'):∃ lo,v'=.func (.yield lo.blk) ⟨[]⟩ ⟨[]⟩∧ρ l=some lo:=by
 cases h with
 | yield h=>exact ⟨_,rfl,h⟩
theorem XoI:∀ {ps:List Nat} {args rargs:List Value} {n:Nat} {e:Env} {tmps:Array Value},Xsz ρ e tmps→tmps.size=n→VRL ρ args rargs→args.length=ps.length →
 Xsz ρ (XnO n e ps args) ((ps.zip rargs).foldl (fun tmps (t,a)=>tmps.setIfInBounds t a) tmps)∧((ps.zip rargs).foldl (fun tmps (t,a)=>tmps.setIfInBounds t a) tmps).size=n
 | [],[],_,_,_,_,he,hs,.nil,_=>⟨he,hs⟩
 | p::ps,v::vs,_,n,e,tmps,he,hs,.cons h hl,hlen=>by
   simp only [XnO,List.zip_cons_cons,List.foldl_cons]
   exact XoI (XxQ (d:=some p) he hs h) (by simpa using hs) hl (by simpa using hlen)
 | [],v::vs,_,_,_,_,_,_,.cons _ _,hlen=>by simp at hlen
theorem XGb {l:Nat} {lo:Loc} {fr c:XbQ} {up:List XbQ} {H:Hp} {top:Nat} {rf:Frame} {rfs:List Frame} {w:World}
 (h:VMR P w0 U ρ ⟨fr,up,H,top⟩ rf rfs w) {o:Xdf} {rest:List Xdf} {k:List Xgo} (ht:fr.todo=.inReg (o::rest)::k) (hl:ρ l=some lo) {args rargs:List Value} (hv:VRL ρ args rargs)
 (hc:Xnf l args H=some c) {cs:List Frame} (hstep:∀ f tm aqs bd,(Instr.yield lo.blk ⟨rargs⟩).run P w=.ok (.round lo.blk f tm aqs bd) w→step P (lone rf (rfs++cs) w)=.next (lone (mkF f tm [.code aqs,.beginRound,.code bd] [] (some lo.blk)) (rf::rfs++cs) w)) :
 Goes P w0 U ρ cs ⟨c,{ fr with todo:=.inReg (o::rest)::k }::up,H,top⟩ rf rfs w:=by
 have:({ fr with todo:=.inReg (o::rest)::k }:XbQ)=fr:=by cases fr;simp only at ht;subst ht;rfl
 rw [this]
 unfold Xnf at hc
 split at hc<;>try (cases hc;done)
 rename_i r hr
 split at hc<;>try (cases hc;done)
 rename_i hlen
 cases hc
 obtain ⟨l',hl',⟨⟨r',hw,hlr⟩,hsh,hext⟩,_⟩:=h.heap.obj l _ hr
 rw [hl] at hl';cases hl'
 have hps:rargs.length=r'.params.toList.length:=by rw [←hv.length,hlen,hlr.params]
 obtain ⟨g1,g2⟩:=XoI (ps:=r.params) hlr.env hlr.size hv hlen
 refine Goes.one (hstep _ _ _ _ (run_yield hw (by simpa using hps))) ⟨⟨hlr.fn,?_,?_,.cons (.code hlr.asg) (.cons .beginRound (.cons (.code hlr.body) .nil)),.nil,rfl,rfl,⟨lo,hl,rfl,hsh⟩⟩,.cons h.cur h.up,h.heap⟩
 ·rw [←Array.foldl_toList,Array.toList_zip,hlr.params];exact g2
 ·rw [←Array.foldl_toList,Array.toList_zip,hlr.params];exact g1
theorem Xyh (hF:Xlx P F) (hS:Xak P S) {fr:XbQ} {up:List XbQ} {H:Hp} {top:Nat} {rf:Frame} {rfs:List Frame} {w:World} {vm':VM}
 (h:VMR P w0 U ρ ⟨fr,up,H,top⟩ rf rfs w) (hret:fr.ret=false) {o:Xdf} {rest:List Xdf} {k:List Xgo} (ht:fr.todo=.inReg (o::rest)::k)
 (hw:XeK fr.env o.g=some true) (hs:XtD F S o rest k fr up H top=some vm') (cs:List Frame):Goes P w0 U ρ cs vm' rf rfs w:=by
 obtain ⟨fn,t,k',d,r,ops,i,is,oo,A⟩:=atOp h.cur hret ht hw
 obtain ⟨hcF,hcV,hcO,hnd⟩:=XoF A.comp
 unfold XtD at hs
 split at hs<;>try (cases hs;done)
 rename_i vals hvals
 have hvl:=XvK h.cur A.args hvals
 split at hs
 ·rename_i f xs hop
  obtain ⟨ys,ts,hoo,hxs⟩:=hcF f xs hop
  rw [hop] at hvl
  simp only [VOp.ops] at hvl
  have hrun:∀ hfn,(execOp (mkF fn t (.inRegion ops (i::is)::k') d r).eval oo).run P w=.ok (.enter f ⟨xs.map rf.eval⟩) w:=fun hfn=>by
   rw [A.frame,hxs];exact XsW hoo rfl hfn
  have hstep : (∃ fn, P.funcs[f]? = some fn ∧ fn.name ≠ "runtime.NumGoroutine" ∧ fn.body.isSome = true) → step P (lone rf (rfs ++ cs) w) = .next (lone (Frame.enter P f ⟨xs.map rf.eval⟩ .normal) (rf :: rfs ++ cs) w) := fun hfn => by
   have:=Xo1 (cs:=rfs++cs) A.op A.wanted hnd (hrun hfn)
   rw [←A.frame] at this;exact this
  split at hs
  ·rename_i s hsf
   split at hs<;>try (cases hs;done)
   rename_i v H' top' hsr
   cases hs
   exact XH4 hS hsf h ht hvl hsr (hstep (hS f s hsf).fn)
  ·split at hs<;>try (cases hs;done)
   rename_i c hc
   cases hs
   exact Xvw hF h ht hvl hc (hstep (Xkz hF hc hvl).2)
 ·rename_i x xs hop
  obtain ⟨tt,ys,ts,rfl,hoo,hxs⟩:=hcV x xs hop
  rw [hop] at hvl
  simp only [VOp.ops,List.map_cons] at hvl
  split at hs
  ·rename_i f first caps args
   obtain ⟨v',l',hl,hf',hargs⟩:=hvl.inv
   obtain ⟨hl1,hl2⟩:=List.cons.inj hl
   obtain ⟨fi,ca,hev,hfi,hca⟩:=hf'.Xry
   rw [hev] at hl1
   have hvv:VRL ρ (first++args++caps) (fi++xs.map rf.eval++ca):=by rw [hl2];exact (hfi.append hargs).append hca
   have hrun:∀ hfn,(execOp (mkF fn t (.inRegion ops (i::is)::k') d r).eval oo).run P w=.ok (.enter f ⟨fi++xs.map rf.eval++ca⟩) w:=fun hfn=>by
    rw [←A.frame,hxs];exact XsN hoo hl1 hfn
   have hstep : (∃ fn, P.funcs[f]? = some fn ∧ fn.name ≠ "runtime.NumGoroutine" ∧ fn.body.isSome = true) → step P (lone rf (rfs ++ cs) w) = .next (lone (Frame.enter P f ⟨fi ++ xs.map rf.eval ++ ca⟩ .normal) (rf :: rfs ++ cs) w) := fun hfn => by
    have:=Xo1 (cs:=rfs++cs) A.op A.wanted hnd (hrun hfn)
    rw [←A.frame] at this;exact this
   split at hs
   ·rename_i s hsf
    split at hs<;>try (cases hs;done)
    rename_i v H' top' hsr
    cases hs
    exact XH4 hS hsf h ht hvv hsr (hstep (hS f s hsf).fn)
   ·split at hs<;>try (cases hs;done)
    rename_i c hc
    cases hs
    exact Xvw hF h ht hvv hc (hstep (Xkz hF hc hvv).2)
  ·rename_i l args
   obtain ⟨v',l',hl,hf',hargs⟩:=hvl.inv
   obtain ⟨hl1,hl2⟩:=List.cons.inj hl
   obtain ⟨lo,hev,hlo⟩:=hf'.XEd
   rw [hev] at hl1
   split at hs<;>try (cases hs;done)
   rename_i c hc
   cases hs
   exact XGb h ht hlo (rargs:=xs.map rf.eval) (by rw [hl2];exact hargs) hc (fun f tm aqs bd hx=>by
    have hrun:(execOp (mkF fn t (.inRegion ops (i::is)::k') d r).eval oo).run P w=.ok (.round lo.blk f tm aqs bd) w:=by
     rw [←A.frame]
     have:(⟨xs.map rf.eval⟩:Array Value)=ys.map rf.eval:=by rw [hxs,←Array.toList_map]
     rw [this] at hx
     simp only [execOp,hoo,resolve,hl1,Deferred.ofValue,Sem.run_bind,Sem.run_pure,Result.andThen_ok,invoke,Array.empty_append,hx]
    have:=XEK (cs:=rfs++cs) A.op A.wanted hnd hrun
    rw [←A.frame] at this;exact this)
  ·cases hs
 ·rename_i op hne1 hne2
  have hnc:Xsi o.op=false:=by
   cases hop:o.op<;>first|rfl|exact absurd hop (hne1 _ _)|exact absurd hop (hne2 _ _)
  split at hs<;>try (cases hs;done)
  rename_i v H' top' hr
  cases hs
  have hvl':VRL ρ vals (o.op.ops.map (mkF fn t (.inRegion ops (i::is)::k') d r).eval):=by rw [←A.frame];exact hvl
  obtain ⟨ρ',w',nx,hx,hext,hh,hnx⟩:=XxY h.heap (hcO hnc) (fun _=>rfl) (fun _=>rfl) hvl' hr
  cases v with
  | some v=>
    obtain ⟨v',rfl,hv'⟩:=hnx
    have hstep:=Xwf (cs:=rfs++cs) A.op A.wanted hnd hx
    rw [←A.frame] at hstep
    exact ⟨ρ',rf.finish v',rfs,w',.one hstep,⟨XkC (h.cur.mono hext) ht hv',h.up.mono fun _ _ k=>k.mono hext,hh⟩,hext⟩
  | none=>
    subst hnx
    have hstep:=XsF (cs:=rfs++cs) A.op A.wanted hnd hx
    rw [←A.frame] at hstep
    exact ⟨ρ',rf.finish undef,rfs,w',.one hstep,⟨XkC (h.cur.mono hext) ht Xo3,h.up.mono fun _ _ k=>k.mono hext,hh⟩,hext⟩
end
end Go.Vm
namespace Go.Vm
open Go
abbrev St:=Env×Hp
def EqS (s t:St):Prop:=(∀ i,XaD s.1 i=XaD t.1 i)∧(∀ i,XaD s.2 i=XaD t.2 i)
theorem EqS.refl (s:St):EqS s s:=⟨fun _=>rfl,fun _=>rfl⟩
theorem EqS.symm {s t:St} (h:EqS s t):EqS t s:=⟨fun i=>(h.1 i).symm,fun i=>(h.2 i).symm⟩
theorem EqS.trans {s t u:St} (h:EqS s t) (k:EqS t u):EqS s u:=⟨fun i=>(h.1 i).trans (k.1 i),fun i=>(h.2 i).trans (k.2 i)⟩
structure Rec where
 i:Nat
 o:Xdf
 m:Nat
 m1:Nat
 r:List Nat
 w:List Nat
def Rec.wf (x:Rec):List Nat:=x.w++List.range' x.m (x.m1 - x.m)
def Runs (S:Xm2) (nt:Nat) (x:Rec) (s t:St):Prop:=stepD S nt x.o s.1 s.2 x.m=some (t.1,t.2,x.m1,x.r,x.w)
def tw (o:Xdf):List Nat:=(XnH o).2
def tr (o:Xdf):List Nat:=(XnH o).1
theorem XuR {e e2:Env} {x:Operand} (h:∀ t∈tmpsOf [x],XaD e2 t=XaD e t):Xov e2 x=Xov e x:=by
 cases x<;>simp only [Xov]
 exact h _ (by simp [tmpsOf])
theorem Xp0 {t:Nat} {x:Operand} {l:List Operand}:t∈tmpsOf (x::l)↔t∈tmpsOf [x]∨t∈tmpsOf l:=by
 cases x<;>simp [tmpsOf]
theorem XpI {e e2:Env}:∀ {l:List Operand},(∀ t∈tmpsOf l,XaD e2 t=XaD e t)→Xnx e2 l=Xnx e l
 | [],_=>rfl
 | x::l,h=>by
   simp only [Xnx]
   rw [XuR (fun t ht=>h t (Xp0.2 (.inl ht))),XpI (fun t ht=>h t (Xp0.2 (.inr ht)))]
theorem Xss {e e2:Env} {g:Option (Nat×Bool)} (h:∀ t∈(match g with|some (d,_)=>[d]|none=>[]),XaD e2 t=XaD e t):XeK e2 g=XeK e g:=by
 cases g with
 | none=>rfl
 | some p=>obtain ⟨d,w⟩:=p;simp only [XeK];rw [h d (by simp)]
theorem XkT {h h2:Hp}:∀ {l:List Nat},(∀ b∈l,XaD h2 b=XaD h b)→Xjh h2 l=Xjh h l
 | [],_=>rfl
 | b::l,hh=>by
   simp only [Xjh]
   rw [hh b (by simp),XkT (fun c hc=>hh c (by simp [hc]))]
theorem Xjo:∀ (is:List Nat) (os:List (Option XbO)) (h h2:Hp),(∀ b,b ∉ is→XaD (Xgv h is os) b=XaD h b)∧((∀ b∈is,XaD h2 b=XaD h b)→∀ b∈is,XaD (Xgv h2 is os) b=XaD (Xgv h is os) b)
 | [],os,h,h2=>⟨fun b _=>by simp [Xgv],fun _ b hb=>by cases hb⟩
 | i::is,[],h,h2=>⟨fun b _=>by simp [Xgv],fun e b hb=>by simp only [Xgv];exact e b hb⟩
 | i::is,some o::os,h,h2=>by
   simp only [Xgv]
   have ih:=Xjo is os (Xgp h i o) (Xgp h2 i o)
   refine ⟨fun b hb=>?_,fun e b hb=>?_⟩
   ·rw [ih.1 b (fun h=>hb (by simp [h])),Xcb _ _ (fun h=>hb (by simp [h]))]
   ·by_cases hbi:b∈is
    ·exact ih.2 (fun c hc=>by rw [Xa1,Xa1];split;rfl;exact e c (by simp [hc])) b hbi
    ·have hb':b=i:=by simpa [hbi] using hb
     subst hb'
     rw [ih.1 b hbi,(Xjo is os (Xgp h2 b o) (Xgp h2 b o)).1 b hbi,XbI,XbI]
 | i::is,none::os,h,h2=>by
   simp only [Xgv]
   have ih:=Xjo is os (XoP h i) (XoP h2 i)
   refine ⟨fun b hb=>?_,fun e b hb=>?_⟩
   ·rw [ih.1 b (fun h=>hb (by simp [h])),XgB _ (fun h=>hb (by simp [h]))]
   ·by_cases hbi:b∈is
    ·exact ih.2 (fun c hc=>by rw [Xd1,Xd1];split;rfl;exact e c (by simp [hc])) b hbi
    ·have hb':b=i:=by simpa [hbi] using hb
     subst hb'
     rw [ih.1 b hbi,(Xjo is os (XoP h2 b) (XoP h2 b)).1 b hbi,Xgh,Xgh]
def Xvr (h h2 h' h2':Hp) (W:List Nat):Prop:=(∀ b,b ∉ W→XaD h' b=XaD h b)∧(∀ b,b ∉ W→XaD h2' b=XaD h2 b)∧∀ b∈W,XaD h2' b=XaD h' b
theorem Xvr.step {h h2 h1 h21 h' h2':Hp} {W:List Nat} {b:Nat} (e1:∀ c,c≠b→XaD h1 c=XaD h c) (e2:∀ c,c≠b→XaD h21 c=XaD h2 c) (e3:XaD h21 b=XaD h1 b) (k:Xvr h1 h21 h' h2' W):Xvr h h2 h' h2' (b::W):=by
 obtain ⟨k1,k2,k3⟩:=k
 refine ⟨fun c hc=>?_,fun c hc=>?_,fun c hc=>?_⟩
 ·simp only [List.mem_cons,not_or] at hc;rw [k1 c hc.2,e1 c hc.1]
 ·simp only [List.mem_cons,not_or] at hc;rw [k2 c hc.2,e2 c hc.1]
 ·by_cases hw:c∈W
  ·exact k3 c hw
  ·have:c=b:=by simpa [hw] using hc
   subst this
   rw [k1 c hw,k2 c hw,e3]
theorem Xi1 (s:Nat→Option Nat):∀ (ws:List Wd) (cs:List (Option (List Value))) (h h2 h':Hp),(∀ b∈XdV ws,XaD h2 b=XaD h b)→XdF h s ws cs=some h' →
 ∃ h2',XdF h2 s ws cs=some h2'∧Xvr h h2 h' h2' (XmM ws)
 | [],[],h,h2,h',he,hr=>by
   simp only [XdF,Option.some.injEq] at hr;subst hr
   exact ⟨h2,rfl,⟨fun _ _=>rfl,fun _ _=>rfl,fun b hb=>by simp [XmM] at hb⟩⟩
 | [],_::_,h,h2,h',he,hr=>by simp [XdF] at hr
 | x::ws,[],h,h2,h',he,hr=>by
   cases x with
   | win b off n wr=>cases wr<;>simp [XdF] at hr
   | blk b wr=>cases wr<;>simp [XdF] at hr
   | _=>simp [XdF] at hr
 | .no::ws,c::cs,h,h2,h',he,hr=>by
   have hr':XdF h s ws cs=some h':=by simpa [XdF] using hr
   obtain ⟨h2',g1,g2⟩:=Xi1 s ws cs h h2 h' he hr'
   exact ⟨h2',by simpa [XdF] using g1,g2⟩
 | .emp w::ws,c::cs,h,h2,h',he,hr=>by
   have hr':XdF h s ws cs=some h':=by simpa [XdF] using hr
   obtain ⟨h2',g1,g2⟩:=Xi1 s ws cs h h2 h' he hr'
   exact ⟨h2',by simpa [XdF] using g1,g2⟩
 | .win b off n false::ws,c::cs,h,h2,h',he,hr=>by
   have hr':XdF h s ws cs=some h':=by simpa [XdF] using hr
   obtain ⟨h2',g1,g2⟩:=Xi1 s ws cs h h2 h' (fun c hc=>he c (by simp [XdV,Wd.Xj4,hc])) hr'
   exact ⟨h2',by simpa [XdF] using g1,by simpa [XmM,Wd.Xj4,Wd.wr] using g2⟩
 | .blk b false::ws,c::cs,h,h2,h',he,hr=>by
   have hr':XdF h s ws cs=some h':=by simpa [XdF] using hr
   obtain ⟨h2',g1,g2⟩:=Xi1 s ws cs h h2 h' (fun c hc=>he c (by simp [XdV,Wd.Xj4,hc])) hr'
   exact ⟨h2',by simpa [XdF] using g1,by simpa [XmM,Wd.Xj4,Wd.wr] using g2⟩
 | .win b off n true::ws,none::cs,h,h2,h',he,hr=>by simp [XdF] at hr
 | .win b off n true::ws,some c::cs,h,h2,h',he,hr=>by
   have hb:XaD h2 b=XaD h b:=he b (by simp [XdV,Wd.Xj4])
   simp only [XdF] at hr ⊢
   rw [hb]
   split at hr<;>try (cases hr;done)
   rename_i ob hob
   split at hr<;>try (cases hr;done)
   rename_i x hx
   split at hr<;>try (cases hr;done)
   rename_i c' hc'
   split at hr<;>try (cases hr;done)
   rename_i hc
   split at hr<;>try (cases hr;done)
   rename_i ob' hob'
   obtain ⟨h2',g1,g2⟩:=Xi1 s ws cs (Xgp h b ob') (Xgp h2 b ob') h' (fun d hd=>by rw [Xa1,Xa1];split;rfl;exact he d (by simp [XdV,Wd.Xj4,hd])) hr
   refine ⟨h2',by simp only [if_pos hc];exact g1,?_⟩
   simp only [XmM,Wd.Xj4,Wd.wr,cond_true]
   exact g2.step (fun c hc=>Xcb _ _ (Ne.symm hc)) (fun c hc=>Xcb _ _ (Ne.symm hc)) (by rw [XbI,XbI])
 | .blk b true::ws,none::cs,h,h2,h',he,hr=>by
   simp only [XdF] at hr ⊢
   obtain ⟨h2',g1,g2⟩:=Xi1 s ws cs (XoP h b) (XoP h2 b) h' (fun d hd=>by rw [Xd1,Xd1];split;rfl;exact he d (by simp [XdV,Wd.Xj4,hd])) hr
   refine ⟨h2',g1,?_⟩
   simp only [XmM,Wd.Xj4,Wd.wr,cond_true]
   exact g2.step (fun c hc=>XgB _ (Ne.symm hc)) (fun c hc=>XgB _ (Ne.symm hc)) (by rw [Xgh,Xgh])
 | .blk b true::ws,some c::cs,h,h2,h',he,hr=>by
   have hb:XaD h2 b=XaD h b:=he b (by simp [XdV,Wd.Xj4])
   simp only [XdF] at hr ⊢
   rw [hb]
   split at hr<;>try (cases hr;done)
   rename_i ob hob
   split at hr<;>try (cases hr;done)
   rename_i y hy
   split at hr<;>try (cases hr;done)
   rename_i c' hc'
   split at hr<;>try (cases hr;done)
   rename_i ob' hob'
   obtain ⟨h2',g1,g2⟩:=Xi1 s ws cs (Xgp h b ob') (Xgp h2 b ob') h' (fun d hd=>by rw [Xa1,Xa1];split;rfl;exact he d (by simp [XdV,Wd.Xj4,hd])) hr
   refine ⟨h2',by first|exact g1|(simp only [hy,hc',hob'];exact g1),?_⟩
   simp only [XmM,Wd.Xj4,Wd.wr,cond_true]
   exact g2.step (fun c hc=>Xcb _ _ (Ne.symm hc)) (fun c hc=>Xcb _ _ (Ne.symm hc)) (by rw [XbI,XbI])
theorem Xq6 (s:Nat→Option Nat):∀ (cs:List (List Value)) (h h2 h':Hp) (m:Nat),Xi8 h s m cs=some h' →
 ∃ h2',Xi8 h2 s m cs=some h2'∧Xvr h h2 h' h2' (List.range' m cs.length)
 | [],h,h2,h',m,hr=>by
   simp only [Xi8,Option.some.injEq] at hr
   subst hr
   exact ⟨h2,rfl,fun _ _=>rfl,fun _ _=>rfl,fun b hb=>by simp at hb⟩
 | c::cs,h,h2,h',m,hr=>by
   simp only [Xi8] at hr ⊢
   split at hr<;>try (cases hr;done)
   rename_i c' hc'
   obtain ⟨h2',g1,g2⟩:=Xq6 s cs (Xgp h m (.row true c')) (Xgp h2 m (.row true c')) h' (m+1) hr
   refine ⟨h2',g1,?_⟩
   simp only [List.length_cons,List.range'_succ]
   exact g2.step (fun c hc=>Xcb _ _ (Ne.symm hc)) (fun c hc=>Xcb _ _ (Ne.symm hc)) (by rw [XbI,XbI])
theorem Xrd:∀ (n:Nat) (h h2:Hp) (m:Nat),Xvr h h2 (Xjy h m n) (Xjy h2 m n) (List.range' m n)
 | 0,h,h2,m=>⟨fun _ _=>rfl,fun _ _=>rfl,fun b hb=>by simp at hb⟩
 | n+1,h,h2,m=>by
   simp only [Xjy,List.range'_succ]
   exact (Xrd n _ _ _).step (fun c hc=>Xcb _ _ (Ne.symm hc)) (fun c hc=>Xcb _ _ (Ne.symm hc)) (by rw [XbI,XbI])
theorem Xvr.then {h h2 h1 h21 h' h2':Hp} {W W':List Nat} (a:Xvr h h2 h1 h21 W) (b:Xvr h1 h21 h' h2' W'):Xvr h h2 h' h2' (W++W'):=by
 refine ⟨fun c hc=>?_,fun c hc=>?_,fun c hc=>?_⟩
 ·simp only [List.mem_append,not_or] at hc;rw [b.1 c hc.2,a.1 c hc.1]
 ·simp only [List.mem_append,not_or] at hc;rw [b.2.1 c hc.2,a.2.1 c hc.1]
 ·by_cases hw:c∈W'
  ·exact b.2.2 c hw
  ·rw [b.1 c hw,b.2.1 c hw];exact a.2.2 c (by simpa [hw] using hc)
theorem XlJ (h:Hp) (v:Value):∀ (ps:List Path) (bs:List PR),(XhV h v ps bs).length=bs.length+ps.length
 | [],bs=>by simp [XhV]
 | p::ps,bs=>by rw [XhV,XlJ h v ps];simp;omega
theorem Xs9 {h:Hp} {v:Value} {x:PR}:∀ (ps:List Path) (bs:List PR),x∈bs→x∈XhV h v ps bs
 | [],bs,hx=>hx
 | p::ps,bs,hx=>Xs9 ps _ (by simp [hx])
theorem Xt4 {h h2:Hp} {v:Value} {bs:List PR} {p:Path} (he:∀ b,PR.hit b∈bs→XaD h2 b=XaD h b):XrW h2 v bs p=XrW h v bs p:=by
 unfold XrW
 cases p.src with
 | none=>rfl
 | some i=>
   simp only
   cases hb:bs[i]? with
   | none=>rfl
   | some x=>
     cases x with
     | hit b=>simp only;rw [he b (List.mem_of_getElem? hb)]
     | _=>rfl
theorem Xm1 {h h2:Hp} {v:Value}:∀ (ps:List Path) (bs:List PR),(∀ b,PR.hit b∈XhV h v ps bs→XaD h2 b=XaD h b)→XhV h2 v ps bs=XhV h v ps bs
 | [],bs,_=>rfl
 | p::ps,bs,he=>by
   rw [XhV,XhV,Xt4 (h:=h) (h2:=h2) (fun b hb=>he b (Xs9 _ _ hb))]
   exact Xm1 ps _ (fun b hb=>he b (by rw [XhV];exact hb))
theorem Xj7:∀ (a b:List Wd),XdV (a++b)=XdV a++XdV b
 | [],b=>rfl
 | x::a,b=>by
   rw [List.cons_append,XdV,XdV]
   cases x.Xj4<;>simp [Xj7 a b]
theorem Xps {b:Nat}:∀ (ps:List Path) (bs:List PR),bs.length=ps.length→PR.hit b∈bs→b∈XdV (Xsv ps bs)
 | [],[],_,hb=>by cases hb
 | [],_::_,hl,_=>by simp at hl
 | _::_,[],hl,_=>by simp at hl
 | p::ps,x::bs,hl,hb=>by
   have ih:=fun h=>Xps (b:=b) ps bs (by simpa using hl) h
   cases x with
   | no=>simp only [Xsv,XdV,Wd.Xj4];exact ih (by simpa using hb)
   | nil s=>simp only [Xsv,XdV,Wd.Xj4];exact ih (by simpa using hb)
   | hit c=>
     simp only [Xsv,XdV,Wd.Xj4,List.mem_cons]
     rcases List.mem_cons.1 hb with h|h
     ·cases h;exact .inl rfl
     ·exact .inr (ih h)
theorem XpZ {h h2:Hp} {s:Nat→Option Nat} {pat:Option Nat→List (Nat×Value)}:∀ (ps:List Path) (bs:List PR) (i:Nat),(∀ b,PR.hit b∈bs→XaD h2 b=XaD h b)→Xgy h2 s pat i ps bs=Xgy h s pat i ps bs
 | [],[],_,_=>rfl
 | [],_::_,_,_=>rfl
 | _::_,[],_,_=>rfl
 | p::ps,x::bs,i,he=>by
   have ih:=XpZ (h:=h) (h2:=h2) (s:=s) (pat:=pat) ps bs (i+1) (fun b hb=>he b (by simp [hb]))
   cases x with
   | no=>simp only [Xgy,ih]
   | nil z=>simp only [Xgy,ih]
   | hit c=>simp only [Xgy,ih];rw [he c (by simp)]
theorem Xxg {h h2:Hp} {m:Md} {v:Value} (he:∀ b∈XdV (XpU h m v),XaD h2 b=XaD h b):XpU h2 m v=XpU h m v:=by
 cases m with
 | tr ps=>
   simp only [XpU] at he ⊢
   rw [Xm1 ps [] (fun b hb=>he b (Xps _ _ (by simp [XlJ]) hb))]
 | v=>rfl
 | sl sz=>unfold XpU;split<;>first|rfl|(rename_i e;cases e)
 | pt n=>unfold XpU;split<;>first|rfl|(rename_i e;cases e)
theorem XqS {h h2:Hp}:∀ {ms:List Md} {vs:List Value},(∀ b∈XdV (XkH h ms vs),XaD h2 b=XaD h b)→XkH h2 ms vs=XkH h ms vs
 | [],[],_=>rfl
 | [],_::_,_=>rfl
 | _::_,[],_=>rfl
 | m::ms,v::vs,he=>by
   simp only [XkH,Xj7,List.mem_append] at he ⊢
   rw [Xxg (fun b hb=>he b (.inl hb)),XqS (fun b hb=>he b (.inr hb))]
theorem XrQ {h h2:Hp} {k:Nat} {m:Md} {v:Value} (he:∀ b∈XdV (XpU h m v),XaD h2 b=XaD h b):XcY h2 k m v=XcY h k m v:=by
 cases m with
 | v=>rfl
 | sl sz=>
   unfold XcY
   split<;>(try rfl)<;>(try contradiction)
   rename_i b o n sz' heq
   rw [he _ (by simp [XpU,XdV,Wd.Xj4])]
 | pt n=>
   unfold XcY
   split<;>(try rfl)<;>(try contradiction)
   rw [he _ (by simp [XpU,XdV,Wd.Xj4])]
 | tr ps=>
   simp only [XpU] at he
   have hw:=Xm1 (h:=h) (h2:=h2) (v:=v) ps [] (fun b hb=>he b (Xps _ _ (by simp [XlJ]) hb))
   simp only [XcY,hw]
   rw [XpZ (h:=h) (h2:=h2) ps _ 0 (fun b hb=>he b (Xps _ _ (by simp [XlJ]) hb))]
theorem Xmz {h h2:Hp}:∀ {ms:List Md} {vs:List Value} {k:Nat},(∀ b∈XdV (XkH h ms vs),XaD h2 b=XaD h b)→Xdj h2 k ms vs=Xdj h k ms vs
 | [],[],_,_=>rfl
 | [],_::_,_,_=>rfl
 | _::_,[],_,_=>rfl
 | m::ms,v::vs,k,he=>by
   simp only [XkH,Xj7,List.mem_append] at he
   simp only [Xdj]
   rw [XrQ (fun b hb=>he b (.inl hb))]
   cases XcY h k m v with
   | none=>rfl
   | some p=>simp only;rw [Xmz (fun b hb=>he b (.inr hb))]
theorem Xrb {s:XbE} {vals:List Value} {h h2 h':Hp} {m m':Nat} {v:Value} (he:∀ b∈XdV (XkH h s.modes vals),XaD h2 b=XaD h b) (hr:Xi0 s vals h m=some (v,h',m')) :
 XkH h2 s.modes vals=XkH h s.modes vals∧∃ h2',Xi0 s vals h2 m=some (v,h2',m')∧m≤m'∧Xvr h h2 h' h2' (XmM (XkH h s.modes vals)++List.range' m (m' - m)):=by
 have hwl:=XqS he
 refine ⟨hwl,?_⟩
 unfold Xi0 at hr ⊢
 rw [Xmz he,hwl]
 split at hr<;>try (cases hr;done)
 rename_i aqs os has
 split at hr<;>try (cases hr;done)
 rename_i v0 new wr hrun
 split at hr<;>try (cases hr;done)
 rename_i hap
 split at hr<;>try (cases hr;done)
 rename_i h1 hwb
 split at hr<;>try (cases hr;done)
 rename_i hN hadd
 split at hr<;>try (cases hr;done)
 rename_i v' hv'
 cases hr
 generalize XkH h s.modes vals=ws at *
 obtain ⟨h21,g1,g2⟩:=Xi1 _ ws _ h h2 h1 he hwb
 obtain ⟨h22,k1,k2⟩:=Xq6 _ _ h1 h21 _ _ hadd
 have l1:=Xrd (Xlu ws) hN h22 (m+new.length)
 refine ⟨Xjy h22 (m+new.length) (Xlu ws),by simp only [g1,k1],by omega,?_⟩
 have:=(g2.then k2).then l1
 rw [List.append_assoc] at this
 rw [show m+new.length+Xlu ws - m=new.length+Xlu ws by omega,←List.range'_append_1 (s:=m)]
 exact this
theorem Xou:∀ (is:List Nat) (os:List XbO) (h:Hp),Xjh h is=some os→∀ b,XaD (Xgv h is (os.map some)) b=XaD h b
 | [],os,h,he,b=>by simp [Xgv]
 | i::is,os,h,he,b=>by
   simp only [Xjh] at he
   split at he<;>try (cases he;done)
   rename_i o ho
   split at he<;>try (cases he;done)
   rename_i os' hos
   cases he
   simp only [List.map_cons,Xgv]
   have hc:∀ c,XaD (Xgp h i o) c=XaD h c:=fun c=>by
    rw [Xa1];split
    ·rename_i e;subst e;exact ho.symm
    ·rfl
   rw [Xou is os' (Xgp h i o) (by rw [XkT (h:=h) (fun c _=>hc c)];exact hos),hc]
theorem Xz2 {op:VOp} {vals:List Value} {objs:List XbO} {m:Nat} {r:XdQ} (hw:XxH op=false) (hr:core op vals objs m=some r):needs op vals=[]∨(r.objs=objs.map some∧r.fresh=none):=by
 cases op<;>first|exact .inl rfl|(simp [XxH] at hw;done)|skip
 all_goals
  right
  simp only [core] at hr
 ·unfold Xka at hr
  split at hr<;>try (cases hr;done)
  split at hr<;>try (cases hr;done)
  split at hr<;>cases hr
  exact ⟨rfl,rfl⟩
 ·unfold Xj0 at hr
  split at hr<;>try (cases hr;done)
  split at hr<;>try (cases hr;done)
  split at hr<;>cases hr
  exact ⟨rfl,rfl⟩
 ·unfold Xsj at hr
  split at hr
  ·cases hr;exact ⟨rfl,rfl⟩
  ·split at hr<;>try (cases hr;done)
   split at hr<;>try (cases hr;done)
   split at hr<;>cases hr
   exact ⟨rfl,rfl⟩
  ·cases hr
 ·unfold XjR at hr
  split at hr<;>try (cases hr;done)
  split at hr<;>try (cases hr;done)
  split at hr<;>try (cases hr;done)
  split at hr<;>cases hr
  exact ⟨rfl,rfl⟩
 ·unfold Xwr at hr
  split at hr<;>try (cases hr;done)
  split at hr<;>cases hr
  exact ⟨rfl,rfl⟩
 ·unfold Xww at hr
  split at hr<;>try (cases hr;done)
  split at hr<;>cases hr
  exact ⟨rfl,rfl⟩
theorem XxM {op:VOp} {vals:List Value} {h h2 h':Hp} {m m':Nat} {x:Option Value} (he:∀ b∈needs op vals,XaD h2 b=XaD h b) (hr:XcM op vals h m=some (x,h',m')) :
 ∃ h2',XcM op vals h2 m=some (x,h2',m')∧m≤m'∧Xvr h h2 h' h2' (cond (XxH op) (needs op vals) []++List.range' m (m' - m)):=by
 unfold XcM at hr ⊢
 rw [XkT he]
 split at hr<;>try (cases hr;done)
 rename_i objs hobjs
 split at hr<;>try (cases hr;done)
 rename_i v os fr hc
 have key:Xvr h h2 (Xgv h (needs op vals) os) (Xgv h2 (needs op vals) os) (cond (XxH op) (needs op vals) []):=by
  cases hw:XxH op with
  | true=>
    simp only [cond_true]
    have a:=Xjo (needs op vals) os h h2
    have b:=Xjo (needs op vals) os h2 h2
    exact ⟨a.1,b.1,a.2 he⟩
  | false=>
    simp only [cond_false]
    rcases Xz2 hw hc with hn|⟨ho,_⟩
    ·rw [hn];simp only [Xgv]
     exact ⟨fun _ _=>rfl,fun _ _=>rfl,fun b hb=>by cases hb⟩
    ·simp only at ho
     subst ho
     exact ⟨fun b _=>Xou _ _ _ hobjs b,fun b _=>Xou _ _ _ (by rw [XkT he];exact hobjs) b,fun b hb=>by cases hb⟩
 split at hr
 ·rename_i hfr
  cases hr
  refine ⟨_,rfl,Nat.le_refl _,?_⟩
  simpa using key
 ·rename_i o hfr
  cases hr
  refine ⟨_,rfl,Nat.le_succ _,?_⟩
  simp only [Nat.add_sub_cancel_left,List.range'_one]
  refine ⟨fun b hb=>?_,fun b hb=>?_,fun b hb=>?_⟩
  ·simp only [List.mem_append,List.mem_singleton,not_or] at hb
   rw [Xcb _ _ (fun e=>hb.2 e.symm)];exact key.1 b hb.1
  ·simp only [List.mem_append,List.mem_singleton,not_or] at hb
   rw [Xcb _ _ (fun e=>hb.2 e.symm)];exact key.2.1 b hb.1
  ·simp only [List.mem_append,List.mem_singleton] at hb
   rw [Xa1,Xa1]
   split
   ·rfl
   ·exact key.2.2 b (hb.resolve_right fun e=>by subst e;contradiction)
theorem Xm8 (nt:Nat) (e e2:Env) (o:Xdf) (v:Value):(∀ b,b ∉ tw o→XaD (XpR nt e o.dst v) b=XaD e b)∧(∀ b,b ∉ tw o→XaD (XpR nt e2 o.dst v) b=XaD e2 b) ∧
 ∀ b∈tw o,XaD (XpR nt e2 o.dst v) b=if b<nt then XaD (XpR nt e o.dst v) b else XaD e2 b:=by
 unfold tw XnH
 cases hd:o.dst with
 | none=>exact ⟨fun _ _=>rfl,fun _ _=>rfl,fun b hb=>by cases hb⟩
 | some d=>
   simp only [XpR,List.mem_singleton]
   cases hb:Nat.blt d nt with
   | false=>
     have:¬ d<nt:=fun h=>by rw [←Nat.blt_eq] at h;simp [hb] at h
     simp only [cond_false]
     refine ⟨?_,?_,?_⟩
     ·intro _ _;trivial
     ·intro _ _;trivial
     ·intro b hb;subst hb;rw [if_neg this]
   | true=>
     have:d<nt:=by rw [←Nat.blt_eq];exact hb
     simp only [cond_true]
     refine ⟨fun b hb=>Xcb _ _ (fun e=>hb e.symm),fun b hb=>Xcb _ _ (fun e=>hb e.symm),fun b hb=>?_⟩
     subst hb
     rw [if_pos this,XbI,XbI]
theorem Runs.local {S:Xm2} {nt:Nat} {x:Rec} {s t s2:St} (h:Runs S nt x s t) (ht:∀ i∈tr x.o,XaD s2.1 i=XaD s.1 i) (hb:∀ i∈x.r,XaD s2.2 i=XaD s.2 i) :
 ∃ t2,Runs S nt x s2 t2∧x.m≤x.m1∧Xvr s.2 s2.2 t.2 t2.2 x.wf∧(∀ b,b ∉ tw x.o→XaD t.1 b=XaD s.1 b)∧(∀ b,b ∉ tw x.o→XaD t2.1 b=XaD s2.1 b)∧∀ b∈tw x.o,XaD t2.1 b=if b<nt then XaD t.1 b else XaD s2.1 b:=by
 obtain ⟨e,hp⟩:=s
 obtain ⟨e2,h2⟩:=s2
 obtain ⟨et,htp⟩:=t
 obtain ⟨i,o,m,m1,r,w⟩:=x
 simp only [Runs,stepD,Rec.wf] at *
 have hg:XeK e2 o.g=XeK e o.g:=Xss fun t hm=>ht t (by simp only [tr,XnH,List.mem_append];exact .inl hm)
 have hv:Xnx e2 o.op.ops=Xnx e o.op.ops:=XpI fun t hm=>ht t (by simp only [tr,XnH,List.mem_append];exact .inr hm)
 rw [hg,hv]
 split at h<;>try (cases h;done)
 ·simp only [Option.some.injEq,Prod.mk.injEq] at h
  obtain ⟨rfl,rfl,rfl,rfl,rfl⟩:=h
  have p:=Xm8 nt e e2 o Xh9
  exact ⟨(_,h2),rfl,Nat.le_refl _,⟨fun _ _=>rfl,fun _ _=>rfl,fun b hb=>by simp at hb⟩,p.1,p.2.1,p.2.2⟩
 ·split at h<;>try (cases h;done)
  rename_i vals hvals
  split at h
  ·split at h<;>try (cases h;done)
   rename_i s hs
   split at h<;>try (cases h;done)
   rename_i v h' m' hr
   simp only [Option.some.injEq,Prod.mk.injEq] at h
   obtain ⟨rfl,rfl,rfl,rfl,rfl⟩:=h
   obtain ⟨hwl,h2',g1,g2,g3⟩:=Xrb hb hr
   have p:=Xm8 nt e e2 o v
   refine ⟨(_,h2'),by simp only [g1,hwl];rfl,g2,g3,p.1,p.2.1,p.2.2⟩
  ·split at h<;>try (cases h;done)
   split at h<;>try (cases h;done)
   rename_i s hs
   split at h<;>try (cases h;done)
   rename_i v h' m' hr
   simp only [Option.some.injEq,Prod.mk.injEq] at h
   obtain ⟨rfl,rfl,rfl,rfl,rfl⟩:=h
   obtain ⟨hwl,h2',g1,g2,g3⟩:=Xrb hb hr
   have p:=Xm8 nt e e2 o v
   refine ⟨(_,h2'),by simp only [g1,hwl];rfl,g2,g3,p.1,p.2.1,p.2.2⟩
  ·split at h<;>try (cases h;done)
   rename_i v h' m' hr
   simp only [Option.some.injEq,Prod.mk.injEq] at h
   obtain ⟨rfl,rfl,rfl,rfl,rfl⟩:=h
   obtain ⟨h2',g1,g2,g3⟩:=XxM hb hr
   have p:=Xm8 nt e e2 o (v.getD Xh9)
   refine ⟨(_,h2'),by simp only [g1];rfl,g2,g3,p.1,p.2.1,p.2.2⟩
theorem Runs.congr {S:Xm2} {nt:Nat} {x:Rec} {s t s2:St} (h:Runs S nt x s t) (he:EqS s s2):∃ t2,Runs S nt x s2 t2∧EqS t t2:=by
 obtain ⟨t2,g1,_,g3,g4,g5,g6⟩:=h.local (fun i _=>(he.1 i).symm) (fun i _=>(he.2 i).symm)
 obtain ⟨t3,k1,_,k3,k4,k5,k6⟩:=h.local (s2:=s) (fun i _=>rfl) (fun i _=>rfl)
 have:t3=t:=by simp only [Runs] at h k1;rw [h] at k1;simp only [Option.some.injEq,Prod.mk.injEq] at k1;obtain ⟨a,b,_⟩:=k1;exact Prod.ext a.symm b.symm
 subst this
 refine ⟨t2,g1,fun i=>?_,fun i=>?_⟩
 ·by_cases hi:i∈tw x.o
  ·rw [g6 i hi,k6 i hi];split
   ·rfl
   ·exact he.1 i
  ·rw [g4 i hi,g5 i hi];exact he.1 i
 ·by_cases hi:i∈x.wf
  ·exact (g3.2.2 i hi).symm
  ·rw [g3.1 i hi,g3.2.1 i hi];exact he.2 i
theorem Xzs {v:Value} {r:XdQ} (h:val v=some r):r.fresh=none:=by simp only [val,Option.some.injEq] at h;subst h;rfl
theorem Xxa {op:VOp} {vals:List Value} {objs:List XbO} {m:Nat} {r:XdQ} (hk:XqW op≠2) (hr:core op vals objs m=some r):r.fresh=none:=by
 cases op<;>first|(exact absurd rfl hk)|skip
 all_goals simp only [core] at hr
 all_goals (try unfold c_mv at hr)<;>(try unfold XsQ at hr)<;>(try unfold Xln at hr)<;>(try unfold Xka at hr)<;>(try unfold Xj0 at hr)<;>(try unfold Xl1 at hr)<;>(try unfold XuG at hr)<;>(try unfold XFr at hr)<;>(try unfold XmU at hr)<;>(try unfold XrT at hr)<;>(try unfold XHk at hr)<;>(try unfold XDQ at hr)<;>(try unfold XvY at hr)<;>(try unfold Xv2 at hr)<;>(try unfold Xsj at hr)<;>(try unfold XFN at hr)<;>(try unfold XDo at hr)<;>(try unfold XrH at hr)<;>(try unfold Xno at hr)<;>(try unfold Xpn at hr)<;>(try unfold Xmi at hr)<;>(try unfold XkS at hr)<;>(try unfold XjR at hr)<;>(try unfold Xpe at hr)<;>(try unfold Xsm at hr)<;>(try unfold XrM at hr)<;>(try unfold Xn8 at hr)<;>(try unfold Xoz at hr)<;>(try unfold Xn3 at hr)<;>(try unfold Xoq at hr)<;>(try unfold XqQ at hr)<;>(try unfold XBx at hr)<;>(try unfold Xnv at hr)<;>(try unfold XvT at hr)<;>(try unfold Xwd at hr)<;>(try unfold Xva at hr)<;>(try unfold Xpm at hr)<;>(try unfold XFJ at hr)<;>(try unfold Xwr at hr)<;>(try unfold Xww at hr)<;>(try unfold Xr8 at hr)
 all_goals repeat' (first|(exact Xzs hr)|(cases hr;rfl)|(cases hr;done)|split at hr)
theorem Xqd {op:VOp} {vals:List Value} {h h':Hp} {m m':Nat} {x:Option Value} (hk:XqW op≠2) (hr:XcM op vals h m=some (x,h',m')):m'=m:=by
 unfold XcM at hr
 split at hr<;>try (cases hr;done)
 split at hr<;>try (cases hr;done)
 rename_i v os fr hc
 have:=Xxa hk hc
 simp only at this
 subst this
 cases hr;rfl
theorem Runs.kind {S:Xm2} {nt:Nat} {x:Rec} {s t:St} (h:Runs S nt x s t):(XqW x.o.op=0→x.r=[]∧x.wf=[])∧(XqW x.o.op=1→x.wf=[]):=by
 obtain ⟨i,o,m,m1,r,w⟩:=x
 simp only [Runs,stepD,Rec.wf] at *
 split at h<;>try (cases h;done)
 ·simp only [Option.some.injEq,Prod.mk.injEq] at h
  obtain ⟨_,_,rfl,rfl,rfl⟩:=h
  simp
 ·split at h<;>try (cases h;done)
  rename_i vals hvals
  split at h
  ·rename_i hop;rw [hop];simp [XqW]
  ·rename_i hop;rw [hop];simp [XqW]
  ·split at h<;>try (cases h;done)
   rename_i v h' m' hr
   simp only [Option.some.injEq,Prod.mk.injEq] at h
   obtain ⟨_,_,rfl,rfl,rfl⟩:=h
   refine ⟨fun hk=>?_,fun hk=>?_⟩
   ·have hm:=Xqd (by rw [hk];decide) hr
    subst hm
    have hn:needs o.op vals=[]:=by
     cases ho:o.op<;>rw [ho] at hk<;>first|rfl|(simp [XqW] at hk;done)
    rw [hn]
    cases XxH o.op<;>simp
   ·have hm:=Xqd (by rw [hk];decide) hr
    subst hm
    have hw:XxH o.op=false:=by
     cases ho:o.op<;>rw [ho] at hk<;>first|rfl|(simp [XqW] at hk;done)
    rw [hw];simp
structure NoC (x y:Rec):Prop where
 t1:∀ t∈tw x.o,t ∉ tr y.o
 t2:∀ t∈tw x.o,t ∉ tw y.o
 t3:∀ t∈tw y.o,t ∉ tr x.o
 b1:∀ b∈x.wf,b ∉ y.r
 b2:∀ b∈x.wf,b ∉ y.wf
 b3:∀ b∈y.wf,b ∉ x.r
theorem Runs.swap {S:Xm2} {nt:Nat} {x y:Rec} {s s1 s2:St} (hx:Runs S nt x s s1) (hy:Runs S nt y s1 s2) (hc:NoC x y):∃ t1 t2,Runs S nt y s t1∧Runs S nt x t1 t2∧EqS s2 t2:=by
 obtain ⟨_,a1,_,a3,a4,_,a6⟩:=hx.local (s2:=s) (fun i _=>rfl) (fun i _=>rfl)
 obtain ⟨t1,b1,_,b3,b4,b5,b6⟩:=hy.local (s2:=s) (fun i hi=>(a4 i (fun h=>hc.t1 i h hi)).symm) (fun i hi=>(a3.1 i (fun h=>hc.b1 i h hi)).symm)
 obtain ⟨t2,c1,_,c3,c4,c5,c6⟩:=hx.local (s2:=t1) (fun i hi=>b5 i (fun h=>hc.t3 i h hi)) (fun i hi=>b3.2.1 i (fun h=>hc.b3 i h hi))
 refine ⟨t1,t2,b1,c1,fun i=>?_,fun i=>?_⟩
 ·by_cases hix:i∈tw x.o
  ·have hiy:=hc.t2 i hix
   rw [b4 i hiy,c6 i hix]
   split
   ·rfl
   ·rw [b5 i hiy]
    have hh:=a6 i hix
    rename_i hn
    have:XaD s1.1 i=XaD s.1 i:=by
     have e:=(Xm8 nt s.1 s.1 x.o Xh9).2.2 i hix
     obtain ⟨u,q1,_,_,_,_,q6⟩:=hx.local (s2:=s) (fun i _=>rfl) (fun i _=>rfl)
     have:u=s1:=by simp only [Runs] at hx q1;rw [hx] at q1;simp only [Option.some.injEq,Prod.mk.injEq] at q1;obtain ⟨a,b,_⟩:=q1;exact Prod.ext a.symm b.symm
     subst this
     have:=q6 i hix
     rw [if_neg hn] at this;exact this
    exact this
  ·rw [c5 i hix]
   by_cases hiy:i∈tw y.o
   ·rw [b6 i hiy]
    split
    ·rfl
    ·rename_i hn
     obtain ⟨u,q1,_,_,_,_,q6⟩:=hy.local (s2:=s1) (fun i _=>rfl) (fun i _=>rfl)
     have:u=s2:=by simp only [Runs] at hy q1;rw [hy] at q1;simp only [Option.some.injEq,Prod.mk.injEq] at q1;obtain ⟨a,b,_⟩:=q1;exact Prod.ext a.symm b.symm
     subst this
     have:=q6 i hiy
     rw [if_neg hn] at this
     rw [this,a4 i hix]
   ·rw [b4 i hiy,b5 i hiy,a4 i hix]
 ·by_cases hix:i∈x.wf
  ·have hiy:=hc.b2 i hix
   rw [b3.1 i hiy,c3.2.2 i hix]
  ·rw [c3.2.1 i hix]
   by_cases hiy:i∈y.wf
   ·rw [b3.2.2 i hiy]
   ·rw [b3.1 i hiy,b3.2.1 i hiy,a3.1 i hix]
def Chain (S:Xm2) (nt:Nat):List Rec→St→St→Prop
 | [],s,t=>EqS s t
 | x::l,s,t=>∃ s1,Runs S nt x s s1∧Chain S nt l s1 t
theorem Chain.congr {S:Xm2} {nt:Nat}:∀ {l:List Rec} {s s2 t:St},Chain S nt l s t→EqS s s2→Chain S nt l s2 t
 | [],_,_,_,h,e=>e.symm.trans h
 | _::_,_,_,_,⟨s1,h1,h2⟩,e=>by
   obtain ⟨t2,g1,g2⟩:=h1.congr e
   exact ⟨t2,g1,h2.congr g2⟩
theorem Chain.front {S:Xm2} {nt:Nat} {y:Rec} {b:List Rec}:∀ {a:List Rec} {s t:St},Chain S nt (a++y::b) s t→(∀ x∈a,NoC x y)→Chain S nt (y::(a++b)) s t
 | [],_,_,h,_=>h
 | x::a,s,t,⟨s1,h1,h2⟩,hc=>by
   obtain ⟨s2,g1,g2⟩:=Chain.front (a:=a) h2 (fun z hz=>hc z (by simp [hz]))
   obtain ⟨t1,t2,k1,k2,k3⟩:=h1.swap g1 (hc x (by simp))
   exact ⟨t1,k1,t2,k2,g2.congr k3⟩
end Go.Vm
namespace Go.Vm
open Go Go.RowKit
theorem Xvg (m i:Nat):XwB m i=m.testBit i:=by
 unfold XwB Nat.testBit
 rw [show Nat.shiftRight m i=m >>> i from rfl,show Nat.land 1 (m >>> i)=1 &&& (m >>> i) from rfl]
 rw [Nat.one_and_eq_mod_two]
 rcases Nat.mod_two_eq_zero_or_one (m >>> i) with h|h<;>rw [h]<;>rfl
theorem XvH {x:Nat}:∀ {l:List Nat},XJx x l=true↔x∈l
 | []=>by simp [XJx]
 | y::l=>by
   simp only [XJx,List.mem_cons]
   cases hb:Nat.beq x y with
   | true=>simp [Nat.eq_of_beq_eq_true hb]
   | false=>
     have:x≠y:=fun e=>by subst e;simp at hb
     simp [this,XvH]
theorem Xhh:∀ {l k:List Nat},XwM l k=true→∀ x∈l,x ∉ k
 | [],_,_,x,h=>by cases h
 | y::l,k,h,x,hx=>by
   simp only [XwM] at h
   cases hb:XJx y k with
   | true=>rw [hb] at h;cases h
   | false=>
     rw [hb,cond_false] at h
     rcases List.mem_cons.1 hx with rfl|hx
     ·intro hk;rw [XvH.2 hk] at hb;cases hb
     ·exact Xhh h x hx
theorem Xrm {i:Nat} {f:Fp}:∀ {ms:List Nat} {fs:List Fp},XzM i f ms fs=true→∀ (q:Nat) g,fs[q]?=some g→∃ m,ms[q]?=some m∧(m.testBit i=true∨Xmu f g=true)
 | _,[],_,q,g,h=>by simp at h
 | [],_::_,h,_,_,_=>by simp [XzM] at h
 | m::ms,x::fs,h,q,g,hq=>by
   simp only [XzM,Bool.and_eq_true,Bool.or_eq_true,Xvg] at h
   cases q with
   | zero=>simp at hq;subst hq;exact ⟨m,rfl,h.1⟩
   | succ q=>simpa using Xrm h.2 q g (by simpa using hq)
theorem XqM:∀ {i:Nat} {ms:List Nat} {fs:List Fp},XuV i ms fs=true→∀ (p q:Nat) f g,p<q→fs[p]?=some f→fs[q]?=some g→∃ m,ms[q]?=some m∧(m.testBit (i+p)=true∨Xmu f g=true)
 | _,_,[],_,p,q,f,g,_,h,_=>by simp at h
 | _,[],_::_,h,_,_,_,_,_,_,_=>by simp [XuV] at h
 | i,m::ms,x::fs,h,p,q,f,g,hpq,hp,hq=>by
   simp only [XuV,Bool.and_eq_true] at h
   obtain ⟨q,rfl⟩:∃ r,q=r+1:=⟨q - 1,by omega⟩
   cases p with
   | zero=>
     simp at hp;subst hp
     simpa using Xrm h.1 q g (by simpa using hq)
   | succ p=>
     obtain ⟨m',h1,h2⟩:=XqM h.2 p q f g (by omega) (by simpa using hp) (by simpa using hq)
     exact ⟨m',by simpa using h1,by rwa [show i+(p+1)=i+1+p by omega]⟩
theorem XqN {i:Nat} {a:VOp}:∀ {ms:List Nat} {os:List Xdf} {j:Nat} (q:Nat) (o:Xdf),os[q]?=some o→∀ m,ms[q]?=some m→m.testBit i=true∨XkD a o.op=true∨(i,j+q)∈XAH i j a ms os
 | [],_,_,q,o,_,m,h=>by simp at h
 | _::_,[],_,q,o,h,_,_=>by simp at h
 | m0::ms,x::os,j,q,o,ho,m,hm=>by
   simp only [XAH]
   cases q with
   | zero=>
     simp at ho hm;subst ho;subst hm
     cases hb:XwB m0 i with
     | true=>exact .inl (by rw [←Xvg];exact hb)
     | false=>
       cases hp:XkD a x.op with
       | true=>exact .inr (.inl rfl)
       | false=>exact .inr (.inr (by simp))
   | succ q=>
     rcases XqN (i:=i) (a:=a) (ms:=ms) (os:=os) (j:=j+1) q o (by simpa using ho) m (by simpa using hm) with h|h|h
     ·exact .inl h
     ·exact .inr (.inl h)
     ·refine .inr (.inr ?_)
      rw [show j+1+q=j+(q+1) by omega] at h
      cases (XwB m0 i||XkD a x.op) with
      | true=>exact h
      | false=>exact List.mem_cons_of_mem _ h
theorem XmH:∀ {i:Nat} {ms:List Nat} {os:List Xdf} (p q:Nat) (a b:Xdf),p<q→os[p]?=some a→os[q]?=some b→∀ m,ms[q]?=some m→m.testBit (i+p)=true∨XkD a.op b.op=true∨(i+p,i+q)∈Xkx i ms os
 | _,[],_,p,q,a,b,_,_,_,m,h=>by simp at h
 | _,_::_,[],p,q,a,b,_,h,_,_,_=>by simp at h
 | i,m0::ms,x::os,p,q,a,b,hpq,ha,hb,m,hm=>by
   simp only [Xkx]
   obtain ⟨q,rfl⟩:∃ r,q=r+1:=⟨q - 1,by omega⟩
   cases p with
   | zero=>
     simp at ha;subst ha
     rcases XqN (i:=i) (a:=x.op) (j:=i+1) q b (by simpa using hb) m (by simpa using hm) with h|h|h
     ·exact .inl h
     ·exact .inr (.inl h)
     ·refine .inr (.inr (List.mem_append_left _ ?_))
      rwa [show i+1+q=i+(q+1) by omega] at h
   | succ p=>
     rcases XmH (i:=i+1) (ms:=ms) (os:=os) p q a b (by omega) (by simpa using ha) (by simpa using hb) m (by simpa using hm) with h|h|h
     ·exact .inl (by rwa [show i+(p+1)=i+1+p by omega])
     ·exact .inr (.inl h)
     ·refine .inr (.inr (List.mem_append_right _ ?_))
      rwa [show i+1+p=i+(p+1) by omega,show i+1+q=i+(q+1) by omega] at h
theorem XoB {fps:List Fp}:∀ {l:List (Nat×Nat)},Xn6 fps l=true→∀ i j,(i,j)∈l→∀ a b,fps[i]?=some a→fps[j]?=some b→Xmu a b=true
 | [],_,i,j,h,_,_,_,_=>by cases h
 | (p,q)::l,h,i,j,hm,a,b,ha,hb=>by
   simp only [Xn6,Bool.and_eq_true] at h
   rcases List.mem_cons.1 hm with e|hm
   ·cases e
    have:=h.1
    rw [ha,hb] at this;exact this
   ·exact XoB h.2 i j hm a b ha hb
def Xn7 (ops:Array Oper) (j:Nat):List Nat:=match ops[j]? with
 | some o=>(o.after.toList.filter (Region.binds .any)).map (·.on)
 | none=>[]
def XvU (md:Region.Mode) (ops:Array Oper):Prop:=∃ rk:Nat→Nat,∀ (j:Nat) o,ops[j]?=some o→∀ e∈o.after.toList,Region.binds md e=true→e.on<ops.size∧rk e.on<rk j
theorem Xof {md:Region.Mode} {rk:Nat→Nat} {n:Nat}:∀ {l:List Oper} {i:Nat},XtX md rk n i l=true→∀ (k:Nat) o,l[k]?=some o→∀ e∈o.after.toList,Region.binds md e=true→e.on<n∧rk e.on<rk (i+k)
 | [],_,_,k,o,h=>by simp at h
 | x::l,i,h,k,o,hk=>by
   simp only [XtX,Bool.and_eq_true,List.all_eq_true,Bool.or_eq_true] at h
   cases k with
   | zero=>
     simp at hk;subst hk
     intro e he hb
     rcases h.1 e he with h1|h1
     ·rw [hb] at h1;cases h1
     ·exact ⟨Nat.blt_eq.mp h1.1,Nat.blt_eq.mp h1.2⟩
   | succ k=>
     intro e he hb
     have:=Xof h.2 k o (by simpa using hk) e he hb
     rwa [show i+1+k=i+(k+1) by omega] at this
theorem XAp {ops:Array Oper} (h:XjG ops=true) (md:Region.Mode) (hd:md=.any∨Region.departs ops=true):XvU md ops:=by
 simp only [XjG,Bool.and_eq_true,Bool.or_eq_true] at h
 have key:∀ {md rk},XtX md rk ops.size 0 ops.toList=true→XvU md ops:=fun {md rk} h=>
  ⟨rk,fun j o ho e he hb=>by simpa using Xof h j o (by rw [Array.getElem?_toList];exact ho) e he hb⟩
 rcases hd with rfl|hd
 ·exact key h.1
 ·rcases h.2 with h2|h2
  ·rw [hd] at h2;cases h2
  ·cases md
   ·exact key h2.1
   ·exact key h2.2
   ·exact key h.1
theorem Xn0 {ops:Array Oper} (h:XjG ops=true) (k:Nat) (o:Oper) (hk:ops.toList[k]?=some o):∀ e∈o.after.toList,Region.binds .any e=true→e.on<k:=by
 simp only [XjG,Bool.and_eq_true] at h
 intro e he hb
 simpa using (Xof h.1 k o hk e he hb).2
theorem Xti (acc:List Nat):∀ (l:List Edge) (s i:Nat),(l.foldl (fun s e=>if Region.binds .any e then s ||| 2^e.on ||| acc.getD e.on 0 else s) s).testBit i=true →
 s.testBit i=true∨∃ e∈l,Region.binds .any e=true∧(i=e.on∨(acc.getD e.on 0).testBit i=true)
 | [],s,i,h=>.inl h
 | e::l,s,i,h=>by
   rw [List.foldl_cons] at h
   rcases Xti acc l _ i h with h|⟨e',h1,h2,h3⟩
   ·split at h
    ·rename_i hb
     rw [Nat.testBit_or,Nat.testBit_or,Bool.or_eq_true,Bool.or_eq_true] at h
     rcases h with (h|h)|h
     ·exact .inl h
     ·rw [Nat.testBit_two_pow] at h
      exact .inr ⟨e,by simp,hb,.inl (by simpa using h:e.on=i).symm⟩
     ·exact .inr ⟨e,by simp,hb,.inr h⟩
    ·exact .inl h
   ·exact .inr ⟨e',by simp [h1],h2,h3⟩
theorem Xl3:∀ (l:List Oper) (acc:List Nat),(∀ k,k<acc.length→(Xfd.go acc l)[k]?=acc[k]?)∧(Xfd.go acc l).length=acc.length+l.length ∧
 ∀ (k:Nat) o,l[k]?=some o→(∀ e∈o.after.toList,Region.binds .any e=true→e.on<acc.length+k)→∀ i,((Xfd.go acc l).getD (acc.length+k) 0).testBit i=true →
  ∃ e∈o.after.toList,Region.binds .any e=true∧(i=e.on∨((Xfd.go acc l).getD e.on 0).testBit i=true)
 | [],acc=>⟨fun _ _=>rfl,rfl,fun k o h=>by simp at h⟩
 | x::l,acc=>by
   obtain ⟨g1,g2,g3⟩:=Xl3 l (acc++[x.after.toList.foldl (fun s e=>if Region.binds .any e then s ||| 2^e.on ||| acc.getD e.on 0 else s) 0])
   have hs:∀ k,k<acc.length+1→(Xfd.go acc (x::l))[k]?=(acc++[x.after.toList.foldl (fun s e=>if Region.binds .any e then s ||| 2^e.on ||| acc.getD e.on 0 else s) 0])[k]?:=fun k hk=>g1 k (by simp;omega)
   refine ⟨fun k hk=>?_,by simp only [Xfd.go];rw [g2];simp;omega,fun k o hk hb i hi=>?_⟩
   ·rw [hs k (by omega),List.getElem?_append_left hk]
   ·cases k with
    | zero=>
      simp at hk;subst hk
      rw [Nat.add_zero,List.getD_eq_getElem?_getD,hs _ (by omega),List.getElem?_append_right (by omega),Nat.sub_self] at hi
      simp only [List.getElem?_cons_zero,Option.getD_some] at hi
      rcases Xti acc _ 0 i hi with h|⟨e,h1,h2,h3⟩
      ·simp at h
      ·refine ⟨e,h1,h2,h3.imp id fun h=>?_⟩
       have he:=hb e h1 h2
       rw [List.getD_eq_getElem?_getD,hs _ (by omega),List.getElem?_append_left (by omega),←List.getD_eq_getElem?_getD];exact h
    | succ k=>
      have:=g3 k o (by simpa using hk) (fun e he hbe=>by have:=hb e he hbe;simp;omega) i (by simp only [List.length_append,List.length_cons,List.length_nil];simp only [Xfd.go] at hi;rwa [show acc.length+(0+1)+k=acc.length+(k+1) by omega])
      exact this
theorem Xop {ops:Array Oper} (hb:XjG ops=true) {D:Nat→Prop} (hc:∀ j,D j→∀ i∈Xn7 ops j,D i):∀ (j:Nat),(∀ i∈Xn7 ops j,D i)→∀ i,((Xfd ops.toList).getD j 0).testBit i=true→D i:=by
 intro j
 induction j using Nat.strongRecOn with
 | ind j ih=>
   intro hj i hi
   cases ho:ops.toList[j]? with
   | none=>
     have hl:(Xfd ops.toList).length=ops.toList.length:=by simpa [Xfd] using (Xl3 ops.toList []).2.1
     rw [List.getD_eq_getElem?_getD,List.getElem?_eq_none (by rw [hl];exact List.getElem?_eq_none_iff.1 ho)] at hi
     simp at hi
   | some o=>
     obtain ⟨e,h1,h2,h3⟩:=(Xl3 ops.toList []).2.2 j o ho (fun e he hbe=>by simpa using Xn0 hb j o ho e he hbe) i (by simpa [Xfd] using hi)
     have hlt:e.on<j:=Xn0 hb j o ho e h1 h2
     have hp:e.on∈Xn7 ops j:=by
      rw [Array.getElem?_toList] at ho
      simp only [Xn7,ho,List.mem_map,List.mem_filter]
      exact ⟨e,⟨h1,h2⟩,rfl⟩
     rcases h3 with rfl|h3
     ·exact hj _ hp
     ·exact ih e.on hlt (hc _ (hj _ hp)) i h3
inductive Lin (md:Region.Mode) (ops:Array Oper):List Nat→Array Bool→Prop
 | nil {listed} (h:∀ j,j<ops.size→listed.getD j true=true):Lin md ops [] listed
 | cons {j l listed} (h:j∈Region.ready md ops listed) (t:Lin md ops l (listed.setIfInBounds j true)):Lin md ops (j::l) listed
def left (ops:Array Oper) (listed:Array Bool):Nat:=((List.range ops.size).filter fun j=>!listed.getD j true).length
theorem filter_lt {p q:Nat→Bool}:∀ {l:List Nat},(∀ x∈l,q x=true→p x=true)→∀ y∈l,p y=true→q y=false→(l.filter q).length<(l.filter p).length
 | [],_,y,h,_,_=>by cases h
 | x::l,hi,y,hy,hp,hq=>by
   have hle:(l.filter q).length≤(l.filter p).length:=by
    rw [←List.countP_eq_length_filter,←List.countP_eq_length_filter]
    exact List.countP_mono_left fun x hx hh=>hi x (by simp [hx]) hh
   rcases List.mem_cons.1 hy with rfl|hy
   ·rw [List.filter_cons_of_pos hp,List.filter_cons_of_neg (by simp [hq])]
    simp;omega
   ·have ih:=filter_lt (fun x hx=>hi x (by simp [hx])) y hy hp hq
    cases hqx:q x with
    | true=>
      rw [List.filter_cons_of_pos hqx,List.filter_cons_of_pos (hi x (by simp) hqx)];simpa using ih
    | false=>
      rw [List.filter_cons_of_neg (by simp [hqx])]
      cases hpx:p x with
      | true=>rw [List.filter_cons_of_pos hpx];simp;omega
      | false=>rw [List.filter_cons_of_neg (by simp [hpx])];exact ih
theorem XHJ {md:Region.Mode} {ops:Array Oper} {listed:Array Bool} (hb:XvU md ops) (hsz:listed.size=ops.size):∀ (j:Nat),j<ops.size→listed.getD j true=false→Region.ready md ops listed≠[]:=by
 obtain ⟨rk,hb⟩:=hb
 have key:∀ (n j:Nat),rk j=n→j<ops.size→listed.getD j true=false→Region.ready md ops listed≠[]:=by
  intro n
  induction n using Nat.strongRecOn with
  | ind n ih=>
    intro j hn hj hl
    have ho:ops[j]?=some ops[j]:=Array.getElem?_eq_getElem hj
    by_cases hall:∀ e∈ops[j].after,Region.binds md e=true→listed.getD e.on false=true
    ·intro he
     have:j∈Region.ready md ops listed:=mem_ready.2 ⟨hl,_,ho,hall⟩
     rw [he] at this;cases this
    ·simp only [Classical.not_forall] at hall
     obtain ⟨e,h1,h2,h3⟩:=hall
     obtain ⟨hlt,hrk⟩:=hb j _ ho e (by simpa using h1) h2
     refine ih _ (hn▸hrk) e.on rfl hlt ?_
     have hlt':e.on<listed.size:=by omega
     have hf:listed.getD e.on false=listed[e.on]:=by simp [hlt']
     have ht:listed.getD e.on true=listed[e.on]:=by simp [hlt']
     rw [hf] at h3
     rw [ht];simpa using h3
 exact fun j=>key _ j rfl
theorem XHO {md:Region.Mode} {ops:Array Oper} (hb:XvU md ops):∀ (fuel t:Nat) (listed:Array Bool),listed.size=ops.size→left ops listed≤fuel→Lin md ops (Region.linearise.go md ops fuel t listed []) listed
 | fuel,t,listed,hsz,hl=>by
   have empty:left ops listed=0→∀ j,j<ops.size→listed.getD j true=true:=fun h j hj=>by
    unfold left at h
    have:=List.eq_nil_of_length_eq_zero h
    rw [List.filter_eq_nil_iff] at this
    simpa using this j (List.mem_range.2 hj)
   cases fuel with
   | zero=>
     simp only [Region.linearise.go,List.reverse_nil]
     exact .nil (empty (by omega))
   | succ fuel=>
     simp only [Region.linearise.go]
     change Lin md ops (match (Region.ready md ops listed)[t%(Region.ready md ops listed).length]? with
      | some i=>Region.linearise.go md ops fuel (t/(Region.ready md ops listed).length) (listed.setIfInBounds i true) [i]
      | none=>[].reverse) listed
     cases hi:(Region.ready md ops listed)[t%(Region.ready md ops listed).length]? with
     | none=>
       have hnil:Region.ready md ops listed=[]:=by
        cases hr:Region.ready md ops listed with
        | nil=>rfl
        | cons x xs=>
          rw [hr] at hi
          have hlt:t%(x::xs).length<(x::xs).length:=Nat.mod_lt _ (by simp)
          rw [List.getElem?_eq_getElem hlt] at hi;cases hi
       simp only [List.reverse_nil]
       refine .nil fun j hj=>?_
       cases hlj:listed.getD j true with
       | true=>rfl
       | false=>exact absurd hnil (XHJ hb hsz j hj hlj)
     | some i=>
       simp only []
       rw [linearise_go_acc,List.reverse_singleton,List.singleton_append]
       have hm:=List.mem_of_getElem? hi
       obtain ⟨h1,o,h2,h3⟩:=mem_ready.1 hm
       have hlt:i<ops.size:=(Array.getElem?_eq_some_iff.1 h2).1
       refine .cons hm (XHO hb fuel _ _ (by simpa using hsz) ?_)
       have:left ops (listed.setIfInBounds i true)<left ops listed:=by
        refine filter_lt (fun x hx hq=>?_) i (List.mem_range.2 hlt) (by simpa using h1) (by simp [hsz,hlt])
        by_cases hix:i=x
        ·subst hix;simp [hsz,hlt] at hq
        ·rwa [getD_set_ne true hix] at hq
       omega
theorem Xtj {ops:Array Oper} (hb:XjG ops=true) (mixed:Bool) (t:Nat):∃ md,Lin md ops (Region.schedule mixed ops t) (Array.replicate ops.size false):=by
 have key:∀ md t,(md=.any∨Region.departs ops=true)→Lin md ops (Region.linearise md ops t) (Array.replicate ops.size false):=fun md t hd=>
  XHO (XAp hb md hd) ops.size t _ (by simp) (by unfold left;exact Nat.le_trans (List.length_filter_le _ _) (by simp))
 unfold Region.schedule
 split
 ·exact ⟨_,key _ _ (.inl rfl)⟩
 ·rename_i hn
  have hd:Region.departs ops=true:=by
   cases h:Region.departs ops with
   | true=>rfl
   | false=>rw [h] at hn;simp at hn
  split<;>exact ⟨_,key _ _ (.inr hd)⟩
theorem Xp6 {md:Region.Mode} {e:Edge} (h:Region.binds .any e=true):Region.binds md e=true:=by
 obtain ⟨on,g⟩:=e
 cases g<;>first|rfl|exact absurd h (by simp only [Region.binds];decide)
section
variable {P:Program} {w0:World} {U:Nat→Nat→Prop} {ρ:Ren} {F:Fns} {S:Xm2}
theorem HpR.reg {U1 U2:UG} {H:Hp} {top top':Nat} {w:World} (h:HpR P w0 U1 ρ H top w) (hu:U2.u=U1.u) (hi:∀ i,U1.g i∨(U1.lo≤i∧i<top)→U2.g i∨(U2.lo≤i∧i<top')):HpR P w0 U2 ρ H top' w where
 obj i o ho:=by
  obtain ⟨l,h1,h2,h3⟩:=h.obj i o ho
  exact ⟨l,h1,h2,by rw [hu];exact h3⟩
 dis:=h.dis
 lt i l e:=hi i (h.lt i l e)
 keep:=⟨h.keep.os,h.keep.tape,h.keep.output,h.keep.size,by rw [hu];exact h.keep.block⟩
theorem FrR.envEq {fr:XbQ} {e e':Env} {td:List Xgo} {rf:Frame} (h:FrR P ρ { fr with env:=e,todo:=td } rf) (he:∀ i,XaD e i=XaD e' i):FrR P ρ { fr with env:=e',todo:=td } rf:=
 ⟨h.fn,h.size,fun i v hv=>h.env i v (by rw [he];exact hv),h.todo,h.defers,h.mode,h.kind,h.round⟩
theorem XMA (hS:Xak P S) {Ug:UG} {fr:XbQ} (hret:fr.ret=false) {o:Xdf} {rest:List Xdf} {k:List Xgo} {e e1:Env} {h h1:Hp} {m m1:Nat} {r x:List Nat} {rf:Frame} {w:World}
 (hcur:FrR P ρ { fr with env:=e,todo:=.inReg (o::rest)::k } rf) (hh:HpR P w0 Ug ρ h m w) (hlo:Ug.lo≤m) (hg:∀ j,m≤j→j≤m1→¬ Ug.g j) (hm:m≤m1)
 (hs:stepD S fr.nt o e h m=some (e1,h1,m1,r,x)) (cs:List Frame) :
 ∃ ρ' rf' w',Steps P (lone rf cs w) (lone rf' cs w')∧FrR P ρ' { fr with env:=e1,todo:=.inReg rest::k } rf'∧HpR P w0 Ug ρ' h1 m1 w'∧Ext ρ ρ':=by
 haveI:NG Ug m:=⟨hg m (Nat.le_refl _) hm,hlo⟩
 unfold stepD at hs
 split at hs<;>try (cases hs;done)
 ·rename_i hwn
  simp only [Option.some.injEq,Prod.mk.injEq] at hs
  obtain ⟨rfl,rfl,rfl,rfl,rfl⟩:=hs
  have ⟨ops,i,is,k',oo,e1,e2,e3⟩:=Xr0 hcur rfl
  have hw:=Xqo hcur.env e3 hwn
  have hstep:=Xtf (P:=P) (fn:=rf.fn) (t:=rf.tmps) (k:=k') (d:=rf.defers) (r:=rf.roundOf) (cs:=cs) (w:=w) (ops:=ops) (i:=i) (rest:=is) (by simp [e2,hw])
  have hfr:=Xh8 hcur hret
  rw [←e1,←hfr] at hstep
  exact ⟨ρ,_,w,.one hstep,XkC hcur rfl Xo3,hh,Ext.refl ρ⟩
 ·rename_i hwn
  obtain ⟨fn,t,k',d,q,ops,i,is,oo,A⟩:=atOp hcur hret rfl hwn
  obtain ⟨hcF,hcV,hcO,hnd⟩:=XoF A.comp
  split at hs<;>try (cases hs;done)
  rename_i vals hvals
  have hvl:=XvK hcur A.args hvals
  split at hs
  ·rename_i f xs hop
   obtain ⟨ys,ts,hoo,hxs⟩:=hcF f xs hop
   rw [hop] at hvl
   simp only [VOp.ops] at hvl
   split at hs<;>try (cases hs;done)
   rename_i s hsf
   split at hs<;>try (cases hs;done)
   rename_i v H' top' hsr
   simp only [Option.some.injEq,Prod.mk.injEq] at hs
   obtain ⟨rfl,rfl,rfl,rfl,rfl⟩:=hs
   have hrun:(execOp (mkF fn t (.inRegion ops (i::is)::k') d q).eval oo).run P w=.ok (.enter f ⟨xs.map rf.eval⟩) w:=by
    rw [A.frame,hxs];exact XsW hoo rfl (hS f s hsf).fn
   have hstep:=Xo1 (cs:=cs) A.op A.wanted hnd hrun
   rw [←A.frame] at hstep
   obtain ⟨e,w',f',⟨ρ',rv,rfl,hrv,hh',hx⟩,hcomes,-,hleave⟩:=(hS f s hsf).calls w0 Ug ρ h m w vals _ v H' top' hlo (fun j h1 h2=>hg j h1 (by omega)) hh hvl hsr (rf::cs)
   exact ⟨ρ',rf.finish rv,w',.trans (.head hstep hcomes) (.one (step_leave_returned hleave)),XkC (hcur.mono hx) rfl hrv,hh',hx⟩
  ·rename_i xx xs hop
   obtain ⟨tt,ys,ts,rfl,hoo,hxs⟩:=hcV xx xs hop
   rw [hop] at hvl
   simp only [VOp.ops,List.map_cons] at hvl
   split at hs<;>try (cases hs;done)
   rename_i f first caps args
   obtain ⟨v',l',hl,hf',hargs⟩:=hvl.inv
   obtain ⟨hl1,hl2⟩:=List.cons.inj hl
   obtain ⟨fi,ca,hev,hfi,hca⟩:=hf'.Xry
   rw [hev] at hl1
   have hvv:VRL ρ (first++args++caps) (fi++xs.map rf.eval++ca):=by rw [hl2];exact (hfi.append hargs).append hca
   split at hs<;>try (cases hs;done)
   rename_i s hsf
   split at hs<;>try (cases hs;done)
   rename_i v H' top' hsr
   simp only [Option.some.injEq,Prod.mk.injEq] at hs
   obtain ⟨rfl,rfl,rfl,rfl,rfl⟩:=hs
   have hrun:(execOp (mkF fn t (.inRegion ops (i::is)::k') d q).eval oo).run P w=.ok (.enter f ⟨fi++xs.map rf.eval++ca⟩) w:=by
    rw [←A.frame,hxs];exact XsN hoo hl1 (hS f s hsf).fn
   have hstep:=Xo1 (cs:=cs) A.op A.wanted hnd hrun
   rw [←A.frame] at hstep
   obtain ⟨e,w',f',⟨ρ',rv,rfl,hrv,hh',hx⟩,hcomes,-,hleave⟩:=(hS f s hsf).calls w0 Ug ρ h m w _ _ v H' top' hlo (fun j h1 h2=>hg j h1 (by omega)) hh hvv hsr (rf::cs)
   exact ⟨ρ',rf.finish rv,w',.trans (.head hstep hcomes) (.one (step_leave_returned hleave)),XkC (hcur.mono hx) rfl hrv,hh',hx⟩
  ·rename_i op hne1 hne2
   have hnc:Xsi o.op=false:=by
    cases hop:o.op<;>first|rfl|exact absurd hop (hne1 _ _)|exact absurd hop (hne2 _ _)
   split at hs<;>try (cases hs;done)
   rename_i v H' top' hr
   simp only [Option.some.injEq,Prod.mk.injEq] at hs
   obtain ⟨rfl,rfl,rfl,rfl,rfl⟩:=hs
   have hvl':VRL ρ vals (o.op.ops.map (mkF fn t (.inRegion ops (i::is)::k') d q).eval):=by rw [←A.frame];exact hvl
   obtain ⟨ρ',w',nx,hx,hext,hh',hnx⟩:=XxY hh (hcO hnc) (fun _=>rfl) (fun _=>rfl) hvl' hr
   cases v with
   | some v=>
     obtain ⟨v',rfl,hv'⟩:=hnx
     have hstep:=Xwf (cs:=cs) A.op A.wanted hnd hx
     rw [←A.frame] at hstep
     exact ⟨ρ',rf.finish v',w',.one hstep,XkC (hcur.mono hext) rfl hv',hh',hext⟩
   | none=>
     subst hnx
     have hstep:=XsF (cs:=cs) A.op A.wanted hnd hx
     rw [←A.frame] at hstep
     exact ⟨ρ',rf.finish undef,w',.one hstep,XkC (hcur.mono hext) rfl Xo3,hh',hext⟩
theorem Xt1 {ops:Array Oper}:∀ {l:List Oper} {vs:List Xdf} (n:Nat),(∀ i,l[i]?=ops[n+i]?)→Xd8 P ops l=some vs→XvS P ops (List.range' n l.length) vs
 | [],vs,n,_,h=>by simp only [Xd8,Option.some.injEq] at h;subst h;exact .nil
 | o::l,vs,n,hl,h=>by
   simp only [Xd8] at h
   split at h<;>try (cases h;done)
   rename_i v hv
   split at h<;>try (cases h;done)
   rename_i ws hws
   cases h
   rw [List.length_cons,List.range'_succ]
   refine .cons (by have:=hl 0;simpa using this.symm) hv (Xt1 (n+1) (fun i=>?_) hws)
   have:=hl (i+1)
   rw [List.getElem?_cons_succ] at this
   rw [this];congr 1;omega
theorem XGl {ops:Array Oper} {vs:List Xdf} (h:Xd8 P ops ops.toList=some vs):XvS P ops (List.range ops.size) vs:=by
 have:=Xt1 (ops:=ops) 0 (fun i=>by simp) h
 rwa [Array.length_toList,←List.range_eq_range'] at this
theorem XvS.uniq {ops:Array Oper}:∀ {is:List Nat} {vs us:List Xdf},XvS P ops is vs→XvS P ops is us→vs=us
 | _,_,_,.nil,.nil=>rfl
 | _,_,_,.cons ho hc t,.cons ho' hc' t'=>by
   rw [ho] at ho';cases ho'
   rw [hc] at hc';cases hc'
   rw [XvS.uniq t t']
theorem Xuq:∀ (ms:List Nat) (j p:Nat),p≤XqB j ms p∨j<XqB j ms p
 | [],j,p=>.inl (Nat.le_refl _)
 | m::ms,j,p=>by
   simp only [XqB]
   cases Nat.beq m (2^j - 1) with
   | true=>rcases Xuq ms (j+1) p with h|h<;>simp only [cond_true]<;>omega
   | false=>rcases Xuq ms (j+1) (j+1) with h|h<;>simp only [cond_false]<;>omega
theorem Xtz:∀ (ms:List Nat) (j p:Nat),∀ (q:Nat) m,ms[q]?=some m→XqB j ms p≤j+q→m=2^(j+q) - 1
 | [],j,p,q,m,h,_=>by simp at h
 | m::ms,j,p,q,x,h,hle=>by
   simp only [XqB] at hle
   cases q with
   | zero=>
     simp at h;subst h
     cases hb:Nat.beq m (2^j - 1) with
     | true=>exact Nat.eq_of_beq_eq_true hb
     | false=>
       rw [hb,cond_false] at hle
       rcases Xuq ms (j+1) (j+1) with h|h<;>omega
   | succ q=>
     have:=Xtz ms (j+1) _ q x (by simpa using h) (by rw [show j+1+q=j+(q+1) by omega];exact hle)
     rw [show j+(q+1)=j+1+q by omega];exact this
theorem Xq9 {ops:Array Oper} (hb:XjG ops=true) {md:Region.Mode} {p:Nat} (hsuf:∀ j,p≤j→j<ops.size→∀ i,i<j→((Xfd ops.toList).getD j 0).testBit i=true) :
 ∀ {l:List Nat} {listed:Array Bool},Lin md ops l listed→listed.size=ops.size→∀ q,p≤q→q≤ops.size→(∀ i,i<q→listed.getD i false=true)→(∀ i,q≤i→i<ops.size→listed.getD i true=false)→l=List.range' q (ops.size - q)
 | _,_,.nil hall,hsz,q,h1,h2,h3,h4=>by
   have:ops.size=q:=by
    rcases Nat.lt_or_ge q ops.size with h|h
    ·have:=hall q h;rw [h4 q (Nat.le_refl _) h] at this;cases this
    ·omega
   rw [this];simp
 | _,listed,.cons (j:=j) (l:=l) hj t,hsz,q,h1,h2,h3,h4=>by
   obtain ⟨hl0,oo,ho,hpre⟩:=mem_ready.1 hj
   have hjlt:j<ops.size:=(Array.getElem?_eq_some_iff.1 ho).1
   have hqj:q≤j:=by
    rcases Nat.lt_or_ge j q with h|h
    ·have:=h3 j h
     have e:listed.getD j true=listed.getD j false:=by
      have hj':j<listed.size:=by omega
      simp [hj']
     rw [e,this] at hl0;cases hl0
    ·exact h
   have hjq:j=q:=by
    rcases Nat.eq_or_lt_of_le hqj with h|h
    ·exact h.symm
    ·have hcl:∀ x,listed.getD x false=true→∀ i∈Xn7 ops x,listed.getD i false=true:=fun x hx i hi=>by
      have hxq:x<q:=by
       rcases Nat.lt_or_ge x q with h|h
       ·exact h
       ·have hxs:x<ops.size:=by
         rcases Nat.lt_or_ge x listed.size with h|h
         ·omega
         ·rw [Array.getD_eq_getD_getElem?,Array.getElem?_eq_none h] at hx;cases hx
        have:=h4 x h hxs
        have e:listed.getD x true=listed.getD x false:=by
         have hj':x<listed.size:=by omega
         simp [hj']
        rw [e,hx] at this;cases this
      have hlt:i<x:=by
       simp only [Xn7] at hi
       split at hi
       ·rename_i ox hox
        simp only [List.mem_map,List.mem_filter] at hi
        obtain ⟨e,⟨e1,e2⟩,rfl⟩:=hi
        exact Xn0 hb x ox (by rw [Array.getElem?_toList];exact hox) e e1 e2
       ·cases hi
      exact h3 i (by omega)
     have hpred:∀ i∈Xn7 ops j,listed.getD i false=true:=fun i hi=>by
      simp only [Xn7,ho,List.mem_map,List.mem_filter] at hi
      obtain ⟨e,⟨e1,e2⟩,rfl⟩:=hi
      exact hpre e (by simpa using e1) (Xp6 e2)
     have:=Xop hb (D:=fun x=>listed.getD x false=true) hcl j hpred q (hsuf j (by omega) hjlt q h)
     have e:listed.getD q true=listed.getD q false:=by
      have hj':q<listed.size:=by omega
      simp [hj']
     rw [←e,h4 q (Nat.le_refl _) (by omega)] at this;cases this
   subst hjq
   have ih:=Xq9 hb hsuf t (by simpa using hsz) (j+1) (by omega) (by omega) (fun i hi=>by
    by_cases hij:j=i
    ·subst hij;simp [hsz,hjlt]
    ·rw [getD_set_ne false hij];exact h3 i (by omega)) (fun i h5 h6=>by rw [getD_set_ne true (by omega)];exact h4 i (by omega) h6)
   rw [ih,show ops.size - j=(ops.size - (j+1))+1 by omega,List.range'_succ]
structure Plan (P:Program) (ops:Array Oper) (p top0 topE:Nat) (all:List Rec):Prop where
 backs:XjG ops=true
 le0:top0≤topE
 op:∀ x∈all,∃ oo,ops[x.i]?=some oo∧Xji P ops oo=some x.o
 cov:∀ j,j<p→j<ops.size→∃ x∈all,x.i=j
 pre:∀ x∈all,x.i<p
 ple:p≤ops.size
 suf:∀ j,p≤j→j<ops.size→∀ i,i<j→((Xfd ops.toList).getD j 0).testBit i=true
 pw:all.Pairwise fun x y=>x.i<y.i∧x.m1<y.m
 le:∀ x∈all,top0≤x.m∧x.m≤x.m1∧x.m1<topE
 noc:∀ x∈all,∀ y∈all,x.i<y.i→((Xfd ops.toList).getD y.i 0).testBit x.i=true∨NoC x y
def XxL (U:Nat→Nat→Prop) (top0:Nat) (all:List Rec) (listed:Array Bool):UG:=
 ⟨U,fun j=>j<top0∨∃ x∈all,listed.getD x.i true=true∧x.m≤j∧j≤x.m1,0⟩
theorem Xvn {R:Rec→Rec→Prop}:∀ {l:List Rec},l.Pairwise R→∀ x∈l,∀ y∈l,x=y∨R x y∨R y x
 | [],_,x,h,_,_=>by cases h
 | z::l,h,x,hx,y,hy=>by
   rw [List.pairwise_cons] at h
   rcases List.mem_cons.1 hx with e1|h1<;>rcases List.mem_cons.1 hy with e2|h2
   ·exact .inl (e1.trans e2.symm)
   ·exact .inr (.inl (e1▸h.1 y h2))
   ·exact .inr (.inr (e2▸h.1 x h1))
   ·exact Xvn h.2 x h1 y h2
theorem Xwa {fr:XbQ} {k:List Xgo} {ops:Array Oper} {p top0 topE:Nat} {all:List Rec} (hp:Plan P ops p top0 topE all) {listed:Array Bool} {cs:List Frame} {s t:St} (hch:Chain S fr.nt [] s t) {vs:List Xdf} {ρ:Ren} {rf:Frame} {w:World}
 (hcur:FrR P ρ { fr with env:=s.1,todo:=.inReg vs::k } rf) (hh:HpR P w0 (XxL U top0 all listed) ρ s.2 0 w) :
 ∃ ρ' rf' w',Steps P (lone rf cs w) (lone rf' cs w')∧FrR P ρ' { fr with env:=t.1,todo:=.inReg vs::k } rf'∧HpR P w0 (.of U) ρ' t.2 topE w'∧Ext ρ ρ':=by
 refine ⟨ρ,rf,w,Steps.refl _ _,hcur.envEq hch.1,?_,Ext.refl ρ⟩
 refine (HpR.reg (U2:=.of U) (top':=topE) hh rfl fun i hi=>.inr ⟨Nat.zero_le _,?_⟩).congr (fun i=>(hch.2 i).symm)
 rcases hi with (h|⟨x,h1,_,_,h4⟩)|⟨_,h⟩
 ·have:=hp.le0;omega
 ·have:=hp.le x h1;omega
 ·omega
theorem XvQ (hS:Xak P S) {fr:XbQ} (hret:fr.ret=false) {k:List Xgo} {ops:Array Oper} {p top0 topE:Nat} {all:List Rec} (hp:Plan P ops p top0 topE all) {post:List Xdf} (hpost:XvS P ops (List.range' p (ops.size - p)) post) {md:Region.Mode} {cs:List Frame} :
 ∀ {l:List Nat} {listed:Array Bool},Lin md ops l listed→listed.size=ops.size→(∀ j,listed.getD j false=true→∀ i∈Xn7 ops j,listed.getD i false=true)→(∀ j,p≤j→j<ops.size→listed.getD j true=false) →
 ∀ {c:List Rec},c.Sublist all→(∀ x,x∈c↔x∈all∧listed.getD x.i true=false)→∀ {s t:St},Chain S fr.nt c s t →
 ∀ {vs:List Xdf},XvS P ops l vs→∀ {ρ:Ren} {rf:Frame} {w:World},FrR P ρ { fr with env:=s.1,todo:=.inReg vs::k } rf→HpR P w0 (XxL U top0 all listed) ρ s.2 0 w →
 ∃ ρ' rf' w',Steps P (lone rf cs w) (lone rf' cs w')∧FrR P ρ' { fr with env:=t.1,todo:=.inReg post::k } rf'∧HpR P w0 (.of U) ρ' t.2 topE w'∧Ext ρ ρ'
 | _,listed,.nil hall,hsz,hcl,hns,c,hsub,hmem,s,t,hch,vs,hreg,ρ,rf,w,hcur,hh=>by
   have hc:c=[]:=by
    cases c with
    | nil=>rfl
    | cons x c=>
      obtain ⟨h1,h2⟩:=(hmem x).1 (by simp)
      obtain ⟨oo,h3,_⟩:=hp.op x h1
      rw [hall x.i (Array.getElem?_eq_some_iff.1 h3).1] at h2;cases h2
   have hpn:ops.size - p=0:=by
    rcases Nat.lt_or_ge p ops.size with h|h
    ·have:=hall p h;rw [hns p (Nat.le_refl _) h] at this;cases this
    ·omega
   rw [hpn] at hpost
   have hvp:vs=post:=hreg.uniq hpost
   subst hc hvp
   exact Xwa hp hch hcur hh
 | _,listed,.cons (j:=j) (l:=l) hj htl,hsz,hcl,hns,c,hsub,hmem,s,t,hch,vs,hreg,ρ,rf,w,hcur,hh=>by
   rcases Nat.lt_or_ge j p with hjp|hjp
   case inr=>
    obtain ⟨hl0,oo',ho',hpre⟩:=mem_ready.1 hj
    have hjlt:j<ops.size:=(Array.getElem?_eq_some_iff.1 ho').1
    have hpred:∀ i∈Xn7 ops j,listed.getD i false=true:=fun i hi=>by
     simp only [Xn7,ho',List.mem_map,List.mem_filter] at hi
     obtain ⟨e,⟨h1,h2⟩,rfl⟩:=hi
     exact hpre e (by simpa using h1) (Xp6 h2)
    have hall:∀ i,i<p→listed.getD i false=true:=fun i hi=>
     Xop hp.backs (D:=fun j=>listed.getD j false=true) hcl j hpred i (hp.suf j hjp hjlt i (by omega))
    have hc:c=[]:=by
     cases c with
     | nil=>rfl
     | cons x c=>
       obtain ⟨h1,h2⟩:=(hmem x).1 (by simp)
       have:=hall x.i (hp.pre x h1)
       obtain ⟨oo,h3,_⟩:=hp.op x h1
       have hlt:=(Array.getElem?_eq_some_iff.1 h3).1
       have e:listed.getD x.i true=listed.getD x.i false:=by
        have hj':x.i<listed.size:=by omega
        simp [hj']
       rw [e,this] at h2;cases h2
    have hl:=Xq9 hp.backs hp.suf (Lin.cons hj htl) hsz p (Nat.le_refl _) hp.ple hall hns
    rw [hl] at hreg
    have hvp:vs=post:=hreg.uniq hpost
    subst hc hvp
    exact Xwa hp hch hcur hh
   cases hreg with|@cons _ _ oo v vs ho hcomp hrt=>
   obtain ⟨hl0,oo',ho',hpre⟩:=mem_ready.1 hj
   rw [ho] at ho';cases ho'
   have hjlt:j<ops.size:=(Array.getElem?_eq_some_iff.1 ho).1
   obtain ⟨y,hy,rfl⟩:=hp.cov j hjp hjlt
   obtain ⟨oo2,hoo2,hc2⟩:=hp.op y hy
   rw [ho] at hoo2;cases hoo2
   rw [hcomp] at hc2;cases hc2
   have hyc:y∈c:=(hmem y).2 ⟨hy,hl0⟩
   obtain ⟨a,b,rfl⟩:=List.append_of_mem hyc
   have hpw:(a++y::b).Pairwise fun x y=>x.i<y.i∧x.m1<y.m:=hp.pw.sublist hsub
   rw [List.pairwise_append,List.pairwise_cons] at hpw
   have hpred:∀ i∈Xn7 ops y.i,listed.getD i false=true:=fun i hi=>by
    simp only [Xn7,ho,List.mem_map,List.mem_filter] at hi
    obtain ⟨e,⟨h1,h2⟩,rfl⟩:=hi
    exact hpre e (by simpa using h1) (Xp6 h2)
   have hfront:=hch.front fun x hx=>by
    have hxy:=(hpw.2.2 x hx y (by simp)).1
    obtain ⟨hxa,hxl⟩:=(hmem x).1 (by simp [hx])
    refine (hp.noc x hxa y hy hxy).resolve_left fun hbit=>?_
    have:=Xop hp.backs (D:=fun j=>listed.getD j false=true) hcl y.i hpred x.i hbit
    obtain ⟨_,hxo,_⟩:=hp.op x hxa
    have hlt:=(Array.getElem?_eq_some_iff.1 hxo).1
    simp [show x.i<listed.size by omega] at this hxl
    rw [this] at hxl;cases hxl
   obtain ⟨s1,hrun,hrest⟩:=hfront
   have hles:=hp.le y hy
   have hfree:∀ z,z∈all→listed.getD z.i true=true→z.m1<y.m∨y.m1<z.m:=fun z hz hzl=>by
    rcases Xvn hp.pw z hz y hy with rfl|h|h
    ·rw [hl0] at hzl;cases hzl
    ·exact .inl h.2
    ·exact .inr h.2
   have hh1:HpR P w0 ⟨U,(XxL U top0 all listed).g,y.m⟩ ρ s.2 y.m w:=HpR.reg hh rfl fun i hi=>.inl (by
    rcases hi with hi|⟨_,hi⟩
    ·exact hi
    ·omega)
   obtain ⟨ρ1,rf1,w1,g1,g2,g3,g4⟩:=XMA hS hret hcur hh1 (Nat.le_refl _) (fun i h1 h2 hg=>by
    rcases hg with hg|⟨z,hz1,hz2,hz3,hz4⟩
    ·omega
    ·rcases hfree z hz1 hz2 with h|h<;>omega) hles.2.1 hrun cs
   have hge:∀ i,i≠y.i→(listed.setIfInBounds y.i true).getD i true=listed.getD i true:=fun i hi=>getD_set_ne true (Ne.symm hi)
   have hsame:(listed.setIfInBounds y.i true).getD y.i true=true:=by simp [hsz,hjlt]
   have hh2:HpR P w0 (XxL U top0 all (listed.setIfInBounds y.i true)) ρ1 s1.2 0 w1:=HpR.reg g3 rfl fun i hi=>.inl (by
    rcases hi with (hi|⟨z,hz1,hz2,hz3⟩)|⟨h1,h2⟩
    ·exact .inl hi
    ·refine .inr ⟨z,hz1,?_,hz3⟩
     by_cases hzy:z.i=y.i
     ·rw [hzy];exact hsame
     ·rw [hge _ hzy];exact hz2
    ·exact .inr ⟨y,hy,hsame,h1,by omega⟩)
   obtain ⟨ρ2,rf2,w2,k1,k2,k3,k4⟩:=XvQ hS hret hp hpost htl (by simpa using hsz) (fun i hi q hq=>by
    by_cases hiy:i=y.i
    ·subst hiy;exact getD_set_true (hpred q hq)
    ·rw [getD_set_ne false (Ne.symm hiy)] at hi
     exact getD_set_true (hcl i hi q hq)) (fun i h5 h6=>by rw [getD_set_ne true (by omega)];exact hns i h5 h6) (c:=a++b) (by
      refine List.Sublist.trans ?_ hsub
      exact List.Sublist.append_left (List.sublist_cons_self _ _) _) (fun x=>by
    have hm:=hmem x
    simp only [List.mem_append,List.mem_cons] at hm ⊢
    constructor
    ·intro hx
     have hne:x.i≠y.i:=by
      rcases hx with hx|hx
      ·have:=(hpw.2.2 x hx y (by simp)).1;omega
      ·have:=(hpw.2.1.1 x hx).1;omega
     rw [hge _ hne]
     exact hm.1 (hx.imp id .inr)
    ·rintro ⟨h1,h2⟩
     have hne:x.i≠y.i:=fun e=>by rw [e,hsame] at h2;cases h2
     rw [hge _ hne] at h2
     rcases hm.2 ⟨h1,h2⟩ with h|rfl|h
     ·exact .inl h
     ·exact absurd rfl hne
     ·exact .inr h) hrest hrt g2 hh2
   exact ⟨ρ2,rf2,w2,g1.trans k1,k2,k3,g4.trans k4⟩
theorem XBg:∀ {vs:List Xdf} {e e':Env} {h h':Hp} {m m':Nat} {fps:List Fp} {nt:Nat} (i0:Nat),XIP S nt vs e h m=some (fps,e',h',m') →
 ∃ all:List Rec,Chain S nt all (e,h) (e',h')∧all.length=vs.length∧fps.length=vs.length∧m≤m' ∧
  (∀ (k:Nat) x,all[k]?=some x→x.i=i0+k∧vs[k]?=some x.o∧fps[k]?=some (x.r,x.wf)∧(XqW x.o.op=0→x.r=[]∧x.wf=[])∧(XqW x.o.op=1→x.wf=[])) ∧
  (∀ x∈all,m≤x.m∧x.m≤x.m1∧x.m1<m'∧i0≤x.i)∧all.Pairwise fun x y=>x.i<y.i∧x.m1<y.m
 | [],e,e',h,h',m,m',fps,nt,i0,hr=>by
   simp only [XIP,Option.some.injEq,Prod.mk.injEq] at hr
   obtain ⟨rfl,rfl,rfl,rfl⟩:=hr
   exact ⟨[],EqS.refl _,rfl,rfl,Nat.le_refl _,fun k x hx=>(by simp at hx),fun x hx=>(by cases hx),.nil⟩
 | o::vs,e,e',h,h',m,m',fps,nt,i0,hr=>by
   simp only [XIP] at hr
   split at hr<;>try (cases hr;done)
   rename_i e1 h1 m1 r w hst
   split at hr<;>try (cases hr;done)
   rename_i fps1 e2 h2 m2 hrun
   cases hr
   have hruns:Runs S nt ⟨i0,o,m,m1,r,w⟩ (e,h) (e1,h1):=hst
   obtain ⟨_,_,hm,_⟩:=hruns.local (s2:=(e,h)) (fun _ _=>rfl) (fun _ _=>rfl)
   simp only at hm
   obtain ⟨all,g1,g2,g3,g4,g5,g6,g7⟩:=XBg (i0+1) hrun
   refine ⟨⟨i0,o,m,m1,r,w⟩::all,⟨_,hruns,g1⟩,by simp [g2],by simp [g3],by omega,fun k x hx=>?_,fun x hx=>?_,?_⟩
   ·cases k with
    | zero=>simp at hx;subst hx;exact ⟨rfl,rfl,rfl,hruns.kind⟩
    | succ k=>
      obtain ⟨a,b,c,d⟩:=g5 k x (by simpa using hx)
      exact ⟨by omega,by simpa using b,by simpa using c,d⟩
   ·rcases List.mem_cons.1 hx with rfl|hx
    ·simp only;omega
    ·have:=g6 x hx;omega
   ·rw [List.pairwise_cons]
    exact ⟨fun x hx=>by have:=g6 x hx;simp only;omega,g7⟩
theorem Xjf {ops:Array Oper}:∀ {os:List Oper} {vs:List Xdf},Xd8 P ops os=some vs→vs.length=os.length∧∀ (k:Nat) o,os[k]?=some o→∃ v,vs[k]?=some v∧Xji P ops o=some v
 | [],vs,h=>by simp only [Xd8,Option.some.injEq] at h;subst h;exact ⟨rfl,fun k o hk=>by simp at hk⟩
 | o::os,vs,h=>by
   simp only [Xd8] at h
   split at h<;>try (cases h;done)
   rename_i v hv
   split at h<;>try (cases h;done)
   rename_i vs' hvs
   cases h
   obtain ⟨g1,g2⟩:=Xjf hvs
   refine ⟨by simp [g1],fun k x hk=>?_⟩
   cases k with
   | zero=>simp at hk;subst hk;exact ⟨v,rfl,hv⟩
   | succ k=>simpa using g2 k x (by simpa using hk)
theorem Xmt {ops:Array Oper}:∀ {os:List Oper} {vs:List Xdf},Xd8 P ops os=some vs→∀ n,Xd8 P ops (os.drop n)=some (vs.drop n)
 | os,vs,h,0=>by simpa using h
 | [],vs,h,n+1=>by simp only [Xd8,Option.some.injEq] at h;subst h;rfl
 | o::os,vs,h,n+1=>by
   simp only [Xd8] at h
   split at h<;>try (cases h;done)
   split at h<;>try (cases h;done)
   rename_i vs' hvs
   cases h
   simpa using Xmt hvs n
theorem XWo {x y:Rec} (h1:Xmu (x.r,x.wf) (y.r,y.wf)=true) (h2:Xmu (XnH x.o) (XnH y.o)=true):NoC x y:=by
 simp only [Xmu,Bool.and_eq_true] at h1 h2
 exact ⟨Xhh h2.1.1,Xhh h2.1.2,Xhh h2.2,Xhh h1.1.1,Xhh h1.1.2,Xhh h1.2⟩
theorem XEa {x y:Rec} (hx:(XqW x.o.op=0→x.r=[]∧x.wf=[])∧(XqW x.o.op=1→x.wf=[])) (hy:(XqW y.o.op=0→y.r=[]∧y.wf=[])∧(XqW y.o.op=1→y.wf=[]))
 (h1:XkD x.o.op y.o.op=true) (h2:Xmu (XnH x.o) (XnH y.o)=true):NoC x y:=by
 simp only [Xmu,Bool.and_eq_true] at h2
 have key:(∀ b∈x.wf,b ∉ y.r)∧(∀ b∈x.wf,b ∉ y.wf)∧(∀ b∈y.wf,b ∉ x.r):=by
  simp only [XkD,Bool.or_eq_true,Bool.and_eq_true] at h1
  rcases h1 with h|h|⟨h,h'⟩<;>replace h:=Nat.eq_of_beq_eq_true h
  ·obtain ⟨a,b⟩:=hx.1 h;rw [a,b];simp
  ·obtain ⟨a,b⟩:=hy.1 h;rw [a,b];simp
  ·rw [hx.2 h,hy.2 (Nat.eq_of_beq_eq_true h')];simp
 exact ⟨Xhh h2.1.1,Xhh h2.1.2,Xhh h2.2,key.1,key.2.1,key.2.2⟩
theorem XyS {md:Region.Mode} {ops:Array Oper} {vs:List Xdf} (h:Xd8 P ops ops.toList=some vs):∀ {l:List Nat} {listed:Array Bool},Lin md ops l listed→∃ us,XvS P ops l us
 | _,_,.nil _=>⟨[],.nil⟩
 | _,_,.cons hj t=>by
   obtain ⟨us,hu⟩:=XyS h t
   obtain ⟨_,o,ho,_⟩:=mem_ready.1 hj
   obtain ⟨v,_,hv⟩:=(Xjf h).2 _ o (by rw [Array.getElem?_toList];exact ho)
   exact ⟨v::us,.cons ho hv hu⟩
theorem XOw {fn:FuncId} {t:Array Value} {k:List Item} {d:List Deferred} {r:Option Nat} {cs:List Frame} {w:World} {id:Nat} {ops:Array Oper} :
 ∃ q,step P (lone (mkF fn t (.code (.region id ops true)::k) d r) cs w)=.next (lone (mkF fn t (.inRegion ops (Region.schedule (P.follows .mixedOrders) ops q)::k) d r) cs w.drew):=
 ⟨_,step_lone_go (by simp [stepG,stepG.exec,Question.forced,Question.cut];rfl)⟩
theorem XQa (hS:Xak P S) {fr:XbQ} {up:List XbQ} {H:Hp} {top:Nat} {rf:Frame} {rfs:List Frame} {w:World} (h:VMR P w0 U ρ ⟨fr,up,H,top⟩ rf rfs w) (hret:fr.ret=false)
 {vs:List Xdf} {chk:List (Nat×Nat)} {k:List Xgo} {id:Nat} {ops:Array Oper} (_ht:fr.todo=.code (.regD (vs.take (XqB 0 (Xfd ops.toList) 0)) chk (vs.drop (XqB 0 (Xfd ops.toList) 0)))::k) {rk:List Item} (hrt:rf.todo=.code (.region id ops true)::rk) (hk:XlL (Xih P ρ) k rk)
 (hcomp:Xd8 P ops ops.toList=some vs) (hback:XjG ops=true) (htmp:XuV 0 (Xfd ops.toList) (vs.map XnH)=true) (hord:chk=Xkx 0 ((Xfd ops.toList).take (XqB 0 (Xfd ops.toList) 0)) (vs.take (XqB 0 (Xfd ops.toList) 0)))
 {fps:List Fp} {e':Env} {h':Hp} {top':Nat} (hrun:XIP S fr.nt (vs.take (XqB 0 (Xfd ops.toList) 0)) fr.env H top=some (fps,e',h',top')) (hok:Xn6 fps chk=true) (cs:List Frame) :
 Goes P w0 U ρ cs ⟨{ fr with env:=e',todo:=.inReg (vs.drop (XqB 0 (Xfd ops.toList) 0))::k },up,h',top'⟩ rf rfs w:=by
 obtain ⟨q,hstep⟩:=XOw (P:=P) (fn:=rf.fn) (t:=rf.tmps) (k:=rk) (d:=rf.defers) (r:=rf.roundOf) (cs:=rfs++cs) (w:=w) (id:=id) (ops:=ops)
 rw [←hrt,←Xh8 h.cur hret] at hstep
 obtain ⟨md,hlin⟩:=Xtj hback (P.follows .mixedOrders) q
 obtain ⟨us,hus⟩:=XyS hcomp hlin
 have hlen:vs.length=ops.size:=by simpa using (Xjf hcomp).1
 have holen:(Xfd ops.toList).length=ops.size:=by simpa [Xfd] using (Xl3 ops.toList []).2.1
 have hordj:∀ j,XqB 0 (Xfd ops.toList) 0≤j→j<ops.size→(Xfd ops.toList).getD j 0=2^j - 1:=fun j h1 h2=>by
  have hj:(Xfd ops.toList)[j]?=some (Xfd ops.toList)[j]:=List.getElem?_eq_getElem (by omega)
  have:=Xtz (Xfd ops.toList) 0 0 j _ hj (by omega)
  rw [List.getD_eq_getElem?_getD,hj,Option.getD_some,this,Nat.zero_add]
 generalize XqB 0 (Xfd ops.toList) 0=p0 at *
 obtain ⟨p,hpe,hp1,hp2⟩:∃ p,p=min p0 ops.size∧vs.take p0=vs.take p∧vs.drop p0=vs.drop p:=by
  refine ⟨_,rfl,?_,?_⟩
  ·rcases Nat.le_total p0 ops.size with h|h
   ·rw [Nat.min_eq_left h]
   ·rw [Nat.min_eq_right h,List.take_of_length_le (by omega),List.take_of_length_le (by omega)]
  ·rcases Nat.le_total p0 ops.size with h|h
   ·rw [Nat.min_eq_left h]
   ·rw [Nat.min_eq_right h,List.drop_eq_nil_of_le (by omega),List.drop_eq_nil_of_le (by omega)]
 have hp3:(Xfd ops.toList).take p0=(Xfd ops.toList).take p:=by
  rcases Nat.le_total p0 ops.size with h|h
  ·rw [hpe,Nat.min_eq_left h]
  ·rw [hpe,Nat.min_eq_right h,List.take_of_length_le (by omega),List.take_of_length_le (by omega)]
 rw [hp1] at hrun
 rw [hp1,hp3] at hord
 rw [hp2]
 have hple:p≤ops.size:=by omega
 have hsuf:∀ j,p≤j→j<ops.size→∀ i,i<j→((Xfd ops.toList).getD j 0).testBit i=true:=fun j h1 h2 i h3=>by
  rw [hordj j (by omega) h2,Nat.testBit_two_pow_sub_one];simpa using h3
 have hpost:XvS P ops (List.range' p (ops.size - p)) (vs.drop p):=by
  have h1:Xd8 P ops (ops.toList.drop p)=some (vs.drop p):=Xmt hcomp p
  have:=Xt1 (ops:=ops) (l:=ops.toList.drop p) p (fun i=>by rw [List.getElem?_drop,Array.getElem?_toList]) h1
  simpa using this
 obtain ⟨all,g1,g2,g3,g4,g5,g6,g7⟩:=XBg 0 hrun
 subst hord
 have htl:(vs.take p).length=p:=by simp;omega
 have hget:∀ x∈all,∃ k,all[k]?=some x∧x.i=k∧k<p∧(vs.take p)[k]?=some x.o∧vs[k]?=some x.o∧fps[k]?=some (x.r,x.wf)∧(XqW x.o.op=0→x.r=[]∧x.wf=[])∧(XqW x.o.op=1→x.wf=[]):=fun x hx=>by
  obtain ⟨k,hk⟩:=List.getElem?_of_mem hx
  obtain ⟨a,b,c,d⟩:=g5 k x hk
  have hkp:k<p:=by rw [←htl];exact (List.getElem?_eq_some_iff.1 b).1
  exact ⟨k,hk,by omega,hkp,b,by rw [List.getElem?_take_of_lt hkp] at b;exact b,c,d⟩
 have hplan:Plan P ops p top top' all:=by
  refine ⟨hback,g4,fun x hx=>?_,fun j hjp hj=>?_,fun x hx=>?_,hple,hsuf,g7,fun x hx=>?_,fun x hx y hy hxy=>?_⟩
  ·obtain ⟨k,h1,h2,h2',h2'',h3,h4,_⟩:=hget x hx
   have hlt:k<ops.size:=by omega
   obtain ⟨v,h5,h6⟩:=(Xjf hcomp).2 k ops[k] (by rw [Array.getElem?_toList];exact Array.getElem?_eq_getElem hlt)
   rw [h3] at h5;cases h5
   exact ⟨ops[k],by rw [h2];exact Array.getElem?_eq_getElem hlt,h6⟩
  ·have hj':j<all.length:=by omega
   refine ⟨all[j],List.getElem_mem hj',?_⟩
   have:=(g5 j all[j] (List.getElem?_eq_getElem hj')).1
   omega
  ·obtain ⟨k,h1,h2,h2',_⟩:=hget x hx;omega
  ·have:=g6 x hx;omega
  ·obtain ⟨i,a1,a2,ap,a3',a3,a4,a5⟩:=hget x hx
   obtain ⟨j,b1,b2,bp,b3',b3,b4,b5⟩:=hget y hy
   obtain ⟨m,c1,c2⟩:=XqM htmp i j (XnH x.o) (XnH y.o) (by omega) (by rw [List.getElem?_map,a3];rfl) (by rw [List.getElem?_map,b3];rfl)
   rw [b2,a2,List.getD_eq_getElem?_getD,c1,Option.getD_some]
   rw [Nat.zero_add] at c2
   rcases c2 with c2|c2
   ·exact .inl c2
   ·rcases XmH (i:=0) i j x.o y.o (by omega) a3' b3' m (by rw [List.getElem?_take_of_lt bp];exact c1) with d1|d1|d1
    ·exact .inl (by simpa using d1)
    ·exact .inr (XEa a5 b5 d1 c2)
    ·exact .inr (XWo (XoB hok i j (by simpa using d1) _ _ a4 b4) c2)
 have hcur:FrR P ρ { fr with env:=fr.env,todo:=.inReg us::k } (mkF rf.fn rf.tmps (.inRegion ops (Region.schedule (P.follows .mixedOrders) ops q)::rk) rf.defers rf.roundOf):=
  ⟨h.cur.fn,h.cur.size,h.cur.env,.cons (.inReg hus) hk,h.cur.defers,by simp [hret],rfl,h.cur.round⟩
 have hheap:HpR P w0 (XxL U top all (Array.replicate ops.size false)) ρ H 0 w.drew:=HpR.reg h.heap.drew rfl fun i hi=>.inl (.inl (by
  rcases hi with hi|hi
  ·exact hi.elim
  ·exact hi.2))
 obtain ⟨ρ',rf',w',k1,k2,k3,k4⟩:=XvQ (w0:=w0) (U:=U) hS hret hplan hpost (cs:=rfs++cs) hlin (by simp) (fun j hj=>by
  have:(Array.replicate ops.size false).getD j false=false:=by
   rw [Array.getD_eq_getD_getElem?,Array.getElem?_replicate];split<;>rfl
  rw [this] at hj;cases hj) (fun j h1 h2=>by simp [h2]) (List.Sublist.refl all) (fun x=>by
  constructor
  ·intro hx
   refine ⟨hx,?_⟩
   obtain ⟨oo,ho,_⟩:=hplan.op x hx
   have hlt:=(Array.getElem?_eq_some_iff.1 ho).1
   simp [hlt]
  ·exact fun h=>h.1) g1 hus hcur hheap
 exact ⟨ρ',rf',rfs,w',Steps.head hstep k1,⟨⟨k2.fn,k2.size,k2.env,k2.todo,k2.defers,k2.mode,k2.kind,k2.round⟩,h.up.mono fun _ _ x=>x.mono k4,k3⟩,k4⟩
end
section
variable {P:Program} {w0:World} {U:Nat→Nat→Prop} {ρ:Ren} {F:Fns} {S:Xm2}
theorem HpR.wipe {H:Hp} {top:Nat} {w:World} (h:HpR P w0 (.of U) ρ H top w) {b:Nat} {ob:XbO} {l:Loc} {r r':Obj} (hb:XaD H b=some ob) (hl:ρ b=some l) (hwr:writable ob=true) (hle:l.sh=0∧l.ext=1)
 (hr:w.heap[l.blk]?=some r) (hn:∀ c t f,r≠.cells c t f):HpR P w0 (.of U) ρ (XoP H b) top { w with heap:=w.heap.setIfInBounds l.blk r' } where
 obj j x hx:=by
  rw [Xd1] at hx
  by_cases hbj:b=j
  ·simp [hbj] at hx
  rw [if_neg hbj] at hx
  obtain ⟨l',hl',hr',hw'⟩:=h.obj j x hx
  refine ⟨l',hl',hr'.same (Ext.refl ρ) (fun he=>Xin _ _ _ _ fun e=>?_),hw'⟩
  have ap:=h.dis b j ob x l l' hbj hb hx hl hl' hwr
  have nocell:Xbt ρ w l' (writable x) []→False:=fun hc=>by
   have:=(hc.2.2 0 he).1
   rw [e] at this
   unfold World.cell? at this
   simp only [hr] at this
   cases r<;>simp at this
   exact hn _ _ _ rfl
  have at0:l'.sh=0→False:=fun h0=>ap 0 e.symm (by omega) (by omega) (by omega) (by omega)
  cases x with
  | cells cs=>exact nocell ⟨Nat.zero_le _,fun i v e=>by simp at e,hr'.2.2⟩
  | row own cs=>exact nocell ⟨Nat.zero_le _,fun i v e=>by simp at e,hr'.2.2⟩
  | ty t cs=>exact at0 hr'.2.1
  | siter=>exact at0 hr'.2.1
  | loop=>exact at0 hr'.2.1
  | marks=>exact at0 hr'.2.1
 dis:=(h.del b).dis
 lt:=h.lt
 keep:=by
  obtain ⟨l',hl',_,hU⟩:=h.obj b ob hb
  rw [hl] at hl';cases hl'
  exact h.keep.setObj l.blk r' (hU hwr 0 (by omega) (by omega)) fun c t f e=>hn c t f (Option.some.inj (hr.symm.trans e))
theorem Xs5 {id:Nat}:∀ {v:List Xgo} {k:List Item},XlL (Xih P ρ) v k →
 (∀ v',exitTo id v=some v'→∃ k',Go.exitTo id k=some k'∧XlL (Xih P ρ) v' k')∧(exitTo id v=none→Go.exitTo id k=none)
 | _,_,.nil=>⟨fun _ h=>by simp [exitTo] at h,fun _=>rfl⟩
 | _,_,.cons h t=>by
   have ih:=Xs5 (id:=id) t
   cases h with
   | inBlock id'=>
     simp only [exitTo,Go.exitTo]
     by_cases e:id'=id
     ·subst e
      simp only [↓reduceIte,beq_self_eq_true]
      exact ⟨fun v' h=>by cases h;exact ⟨_,rfl,t⟩,fun h=>by cases h⟩
     ·have e':(id'==id)=false:=by simpa using e
      simp only [e,↓reduceIte,e',Bool.false_eq_true]
      exact ih
   | _=>simpa only [exitTo,Go.exitTo] using ih
theorem Xrr {fn:FuncId} {t:Array Value} {todo:List Item} {d:List Deferred} {l:Nat} {c:Frame} {cs:List Frame} {w w':World} {jump:Option Code} {v:Value}
 (hj:(todo=[]∧jump=none)∨(∃ k,todo=.code .ret::k∧jump=some .ret)∨(∃ id k,todo=.code (.exit id)::k∧Go.exitTo id k=none∧jump=some (.exit id)))
 (hr:(Instr.endRound l jump).run P w=.ok v w'):step P (lone (mkF fn t todo d (some l)) (c::cs) w)=.next (lone (c.finish v) cs w'):=by
 refine step_lone_go ?_
 rcases hj with ⟨rfl,rfl⟩|⟨k,rfl,rfl⟩|⟨id,k,rfl,he,rfl⟩
 ·simp [stepG,stepG.exec,Sem.runT_eq,hr,doReturn,GStep.bare_after]
 ·simp [stepG,stepG.exec,Sem.runT_eq,hr,doReturn,GStep.bare_after]
 ·simp [stepG,stepG.exec,he,Sem.runT_eq,hr,doReturn,GStep.bare_after]
theorem XkF {fr:XbQ} {up:List XbQ} {H:Hp} {top:Nat} {rf:Frame} {rfs:List Frame} {w:World} {vm':VM}
 (h:VMR P w0 U ρ ⟨fr,up,H,top⟩ rf rfs w) (hret:fr.ret=false) {l:Nat} (hrd:fr.round=some l) {j:Option VC} {jump:Option Code}
 (hjc:match j,jump with|none,none=>True|some c,some c'=>Xfc P c'=some c|_,_=>False)
 (hj:(rf.todo=[]∧jump=none)∨(∃ k,rf.todo=.code .ret::k∧jump=some .ret)∨(∃ id k,rf.todo=.code (.exit id)::k∧Go.exitTo id k=none∧jump=some (.exit id)))
 (hs:Xio l j up H top=some vm') (cs:List Frame):Goes P w0 U ρ cs vm' rf rfs w:=by
 unfold Xio at hs
 split at hs<;>try (cases hs;done)
 rename_i r hr
 split at hs<;>try (cases hs;done)
 rename_i u us
 split at hs<;>try (cases hs;done)
 rename_i u' hu
 cases hs
 have hcur:=h.cur
 obtain ⟨_,hup,hheap⟩:=h
 cases hup with|@cons _ c _ cs' hc hcs=>
 obtain ⟨lo,hl,⟨⟨r',hw,hlr⟩,hsh,hext⟩,_⟩:=hheap.obj l _ hr
 have hround:=hcur.round
 simp only at hcur
 rw [hrd] at hround
 cases hq:rf.roundOf with
 | none=>rw [hq] at hround;exact hround.elim
 | some q=>
   rw [hq] at hround
   obtain ⟨lo',hl',hqe,_⟩:=hround
   rw [hl] at hl';cases hl'
   subst hqe
   have hjn:j.isNone=jump.isNone:=by cases j<;>cases jump<;>first|rfl|exact hjc.elim
   have hstep:=Xrr (P:=P) (cs:=cs'++cs) (c:=c) (fn:=rf.fn) (t:=rf.tmps) (d:=rf.defers) hj (run_endRound jump hw)
   rw [←hq,←Xh8 hcur hret] at hstep
   refine Goes.one (rfs':=cs') hstep ⟨XpV hc (hjn▸.bool _) hu,hcs,?_⟩
   refine hheap.setObj hr hl rfl ⟨hsh,hext⟩ hw (by simp) (by simp) ⟨⟨_,Xho _ _ _ _ hw,?_⟩,hsh,hext⟩
   exact { hlr with state:=by simp [hjn],pending:=hjc }
theorem XE4 {fn:FuncId} {t:Array Value} {k:List Item} {d:List Deferred} {l:Nat} {cs:List Frame} {w w':World} (h:(Instr.beginRound l).run P w=.ok () w') :
 step P (lone (mkF fn t (.beginRound::k) d (some l)) cs w)=.next (lone (mkF fn t k d (some l)) cs w'):=
 step_lone_go (by simp [stepG,stepG.exec,stepG.apply,Sem.runT_eq,h,Frame.finish,GStep.bare_after])
theorem XCu {fn:FuncId} {t:Array Value} {k:List Item} {d:List Deferred} {r:Option Nat} {l:Nat} {cs:List Frame} {w w':World} {j:Option Code} (h:(Instr.endLoop l).run P w=.ok j w') :
 step P (lone (mkF fn t (.endRangeFunc l::k) d r) cs w)=.next (lone (mkF fn t ((j.map Item.code).toList++k) d r) cs w'):=
 step_lone_go (by simp [stepG,stepG.exec,Sem.runT_eq,h,GStep.bare_after])
theorem Xtv {fn:FuncId} {t:Array Value} {k:List Item} {d:List Deferred} {r:Option Nat} {cs:List Frame} {w w':World} {f:Operand} {ps:Array Tmp} {aqs bd:Code} {l:Nat} {mark:List Deferred} {g:Nat} {fi ca:List Value}
 (h:(Instr.enterLoop fn t ps aqs bd r).run P w=.ok (l,mark) w') (hf:(mkF fn t (.code (.rangeFunc f ps aqs bd)::k) d r).eval f=.func (.func g) ⟨fi⟩ ⟨ca⟩)
 (hfn : ∃ fn, P.funcs[g]? = some fn ∧ fn.name ≠ "runtime.NumGoroutine" ∧ fn.body.isSome = true) :
 step P (lone (mkF fn t (.code (.rangeFunc f ps aqs bd)::k) d r) cs w)=.next (lone (Frame.enter P g ⟨fi++[.func (.yield l) #[] #[]]++ca⟩ .normal) (mkF fn t (.inRangeFunc l::k) (mark++d) r::cs) w'):=by
 have hf':(mkF fn t (.inRangeFunc l::k) (mark++d) r).eval f=.func (.func g) ⟨fi⟩ ⟨ca⟩:=by rw [←hf];cases f<;>rfl
 have he:(⟨fi⟩++#[Value.func (.yield l) #[] #[]]++⟨ca⟩:Array Value)=⟨fi++[.func (.yield l) #[] #[]]++ca⟩:=by apply Array.toList_inj.1;simp
 refine step_lone_go ?_
 simp only [stepG,stepG.exec,Sem.runT_eq,h,GStep.bare_after,stepG.apply,resolve,Sem.run_bind,Sem.run_pure,Result.andThen_ok,Deferred.ofValue,hf',invoke,↓reduceIte]
 have h2:(Array.map (mkF fn t (.inRangeFunc l::k) (mark++d) r).eval #[Operand.const (Value.func (Fn.yield l) #[] #[])])=#[.func (.yield l) #[] #[]]:=by simp [Frame.eval]
 rw [h2,he,XlN hfn]
 rfl
theorem XCE {c':Code} {c:VC} (h:Xfc P c'=some c) :
 match c with
 | .skip=>c'=.skip∨∃ l,c'=.label l
 | .ret=>c'=.ret
 | .exit id=>c'=.exit id
 | .seq a b=>∃ x y,c'=.seq x y∧Xfc P x=some a∧Xfc P y=some b
 | .cond o a b=>∃ x y,c'=.cond o x y∧okO o=true∧Xfc P x=some a∧Xfc P y=some b
 | .block id b=>∃ x,c'=.block id x∧Xfc P x=some b
 | .loop b=>∃ x,c'=.loop x∧Xfc P x=some b
 | .scope b=>∃ x,c'=.scope x∧Xfc P x=some b
 | .reg l=>∃ id ops,c'=.region id ops false∧Xd8 P ops ops.toList=some l
 | .stuck=>True
 | .regD l0 ord post=>∃ id ops l,c'=.region id ops true∧Xd8 P ops ops.toList=some l∧l0=l.take (XqB 0 (Xfd ops.toList) 0)∧post=l.drop (XqB 0 (Xfd ops.toList) 0)∧ord=Xkx 0 ((Xfd ops.toList).take (XqB 0 (Xfd ops.toList) 0)) l0∧XjG ops=true∧XuV 0 (Xfd ops.toList) (l.map XnH)=true
 | .rangeF f ps a b=>∃ qs x y,c'=.rangeFunc f qs x y∧okO f=true∧qs.toList=ps∧Xfc P x=some a∧Xfc P y=some b:=by
 cases c' with
 | skip=>simp only [Xfc,Option.some.injEq] at h;subst h;exact .inl rfl
 | label l=>simp only [Xfc,Option.some.injEq] at h;subst h;exact .inr ⟨l,rfl⟩
 | goto l=>simp only [Xfc,Option.some.injEq] at h;subst h;trivial
 | scope x=>
   simp only [Xfc] at h
   split at h<;>try (cases h;done)
   rename_i a ha
   cases h;exact ⟨_,rfl,ha⟩
 | ret=>simp only [Xfc,Option.some.injEq] at h;subst h;rfl
 | exit id=>simp only [Xfc,Option.some.injEq] at h;subst h;rfl
 | seq x y=>
   simp only [Xfc] at h
   split at h<;>try (cases h;done)
   rename_i a ha
   split at h<;>try (cases h;done)
   rename_i b hb
   cases h;exact ⟨_,_,rfl,ha,hb⟩
 | cond o x y=>
   simp only [Xfc] at h
   split at h<;>try (cases h;done)
   rename_i a ho ha
   split at h<;>try (cases h;done)
   rename_i b hb
   cases h;exact ⟨_,_,rfl,ho,ha,hb⟩
 | block id x=>
   simp only [Xfc] at h
   split at h<;>try (cases h;done)
   rename_i a ha
   cases h;exact ⟨_,rfl,ha⟩
 | loop x=>
   simp only [Xfc] at h
   split at h<;>try (cases h;done)
   rename_i a ha
   cases h;exact ⟨_,rfl,ha⟩
 | region id ops draw=>
   cases draw
   ·simp only [Xfc] at h
    split at h
    ·rename_i l hl
     cases h;exact ⟨_,_,rfl,hl⟩
    ·cases h;trivial
   ·simp only [Xfc] at h
    split at h
    ·rename_i l hl
     split at h
     ·rename_i hb
      cases h;exact ⟨_,_,_,rfl,hl,rfl,rfl,rfl,hb.1,hb.2⟩
     ·cases h;trivial
    ·cases h;trivial
 | rangeFunc f qs x y=>
   simp only [Xfc] at h
   split at h<;>try (cases h;done)
   rename_i a ho ha
   split at h<;>try (cases h;done)
   rename_i b hb
   cases h;exact ⟨_,_,_,rfl,ho,rfl,ha,hb⟩
 | refuse s=>simp only [Xfc,Option.some.injEq] at h;subst h;trivial
theorem FrR.re {fr:XbQ} {rf:Frame} (h:FrR P ρ fr rf) (hret:fr.ret=false) {vt:List Xgo} {rt:List Item} (ht:XlL (Xih P ρ) vt rt) :
 FrR P ρ { fr with todo:=vt } (mkF rf.fn rf.tmps rt rf.defers rf.roundOf):=
 ⟨h.fn,h.size,h.env,ht,h.defers,by simp [hret],rfl,h.round⟩
theorem Goes.to {fr:XbQ} {up:List XbQ} {H:Hp} {top:Nat} {rf:Frame} {rfs:List Frame} {w:World} (h:VMR P w0 U ρ ⟨fr,up,H,top⟩ rf rfs w) (hret:fr.ret=false)
 {vt:List Xgo} {rt:List Item} (cs:List Frame) (hstep:∀ cs,step P (lone (mkF rf.fn rf.tmps rf.todo rf.defers rf.roundOf) cs w)=.next (lone (mkF rf.fn rf.tmps rt rf.defers rf.roundOf) cs w))
 (ht:XlL (Xih P ρ) vt rt):Goes P w0 U ρ cs ⟨{ fr with todo:=vt },up,H,top⟩ rf rfs w:=by
 have h1:=hstep (rfs++cs)
 rw [←Xh8 h.cur hret] at h1
 exact Goes.one h1 ⟨h.cur.re hret ht,h.up,h.heap⟩
theorem XkE {fr:XbQ} {rf:Frame} (h:FrR P ρ fr rf):(fr.round=none→rf.roundOf=none)∧(∀ l,fr.round=some l→∃ lo,ρ l=some lo∧rf.roundOf=some lo.blk∧lo.sh=0):=by
 have:=h.round
 constructor
 ·intro e
  rw [e] at this
  cases hr:rf.roundOf with
  | none=>rfl
  | some q=>rw [hr] at this;exact this.elim
 ·intro l e
  rw [e] at this
  cases hr:rf.roundOf with
  | none=>rw [hr] at this;exact this.elim
  | some q=>rw [hr] at this;obtain ⟨lo,a,rfl,b⟩:=this;exact ⟨lo,a,rfl,b⟩
theorem XWz {fr:XbQ} {up:List XbQ} {H:Hp} {top:Nat} {rf:Frame} {rfs:List Frame} {w:World} (h:VMR P w0 U ρ ⟨fr,up,H,top⟩ rf rfs w) (hret:fr.ret=false)
 (hrd:fr.round=none) (ht:rf.todo=[]∨∃ k,rf.todo=.code .ret::k) (cs:List Frame):Goes P w0 U ρ cs ⟨{ fr with ret:=true },up,H,top⟩ rf rfs w:=by
 have hro:=(XkE h.cur).1 hrd
 have hfr:=Xh8 h.cur hret
 have hnew:FrR P ρ { fr with ret:=true } (mkR rf.fn rf.tmps rf.todo rf.defers rf.roundOf):=⟨h.cur.fn,h.cur.size,h.cur.env,h.cur.todo,h.cur.defers,rfl,rfl,h.cur.round⟩
 have hstep:step P (lone (mkF rf.fn rf.tmps rf.todo rf.defers rf.roundOf) (rfs++cs) w)=.next (lone (mkR rf.fn rf.tmps rf.todo rf.defers rf.roundOf) (rfs++cs) w):=by
  rcases ht with e|⟨k,e⟩
  ·rw [hro,e];exact XS9
  ·rw [hro,e];exact XSv
 rw [←hfr] at hstep
 exact Goes.one hstep ⟨hnew,h.up,h.heap⟩
theorem Xto (hF:Xlx P F) {fr:XbQ} {up:List XbQ} {H:Hp} {top:Nat} {rf:Frame} {rfs:List Frame} {w:World} (h:VMR P w0 U ρ ⟨fr,up,H,top⟩ rf rfs w) (hret:fr.ret=false)
 {f:Operand} {qs:Array Nat} {x y:Code} {a b:VC} {rk:List Item} {k:List Xgo} (hrt:rf.todo=.code (.rangeFunc f qs x y)::rk) (h0:okO f=true) (h1:Xfc P x=some a) (h2:Xfc P y=some b)
 {g:Nat} {first caps:List Value} (hfv:Xov fr.env f=some (.func (.func g) ⟨first⟩ ⟨caps⟩)) (hrd:fr.round=none) (hk:XlL (Xih P ρ) k rk) {c:XbQ}
 (hc:XjX F g (first++[.func (.yield (top+1)) #[] #[]]++caps)=some c) (cs:List Frame) :
 Goes P w0 U ρ cs ⟨c,{ fr with todo:=.inRangeFunc (top+1)::k,defers:=top::fr.defers }::up,
  Xgp (Xgp H top .marks) (top+1) (.loop ⟨.ready,none,fr.fn,fr.nt,fr.env,qs.toList,a,b,top⟩),top+2⟩ rf rfs w:=by
 have hcur:=h.cur
 simp only at hcur
 have hfr:=Xh8 hcur hret
 have hro:=(XkE hcur).1 hrd
 have he:=Xso hcur.env h0 hfv (f:=rf) rfl
 obtain ⟨fi,ca,hev,hfi,hca⟩:=he.Xry
 have heap:=h.heap
 simp only at heap
 have n1:=heap.new (w':=w.alloc (.deferred (some []))) (l:=⟨w.heap.size,0,1⟩) (o:=.marks) (heap.keep.alloc _) (fun k hk=>Below.heap_alloc w _ k hk)
  ⟨World.alloc_heap_new _ _,rfl,rfl⟩ (.inl (Nat.le_refl _))
 have x1:Ext ρ (upd ρ top ⟨w.heap.size,0,1⟩):=Ext.upd (heap.XoV)
 generalize hρ1:upd ρ top ⟨w.heap.size,0,1⟩=ρ1 at n1 x1
 have ht1:ρ1 top=some ⟨w.heap.size,0,1⟩:=by rw [←hρ1,upd_same]
 generalize hw1:w.alloc (.deferred (some []))=w1 at n1
 have hs1:w1.heap.size=w.heap.size+1:=by rw [←hw1];exact World.size_alloc _ _
 have x2:Ext ρ1 (upd ρ1 (top+1) ⟨w1.heap.size,0,1⟩):=Ext.upd (n1.XoV)
 have n2:=n1.new (w':=w1.alloc (.loop { state:=.ready,pending:=none,fn:=rf.fn,tmps:=rf.tmps,params:=qs,assign:=x,body:=y,defers:=w.heap.size })) (l:=⟨w1.heap.size,0,1⟩)
  (o:=.loop ⟨.ready,none,fr.fn,fr.nt,fr.env,qs.toList,a,b,top⟩) (n1.keep.alloc _) (fun k hk=>Below.heap_alloc w1 _ k hk)
  ⟨⟨_,World.alloc_heap_new _ _,⟨rfl,hcur.fn,hcur.size,(hcur.env.mono x1).mono x2,rfl,h1,h2,⟨_,x2 _ _ ht1,rfl⟩,trivial⟩⟩,rfl,rfl⟩ (.inl (Nat.le_refl _))
 generalize hρ2:upd ρ1 (top+1) ⟨w1.heap.size,0,1⟩=ρ2 at n2 x2
 have ht2:ρ2 (top+1)=some ⟨w1.heap.size,0,1⟩:=by rw [←hρ2,upd_same]
 have x12:=x1.trans x2
 have hvv:VRL ρ2 (first++[.func (.yield (top+1)) #[] #[]]++caps) (fi++[.func (.yield w1.heap.size) #[] #[]]++ca):=
  ((hfi.mono x12).append (.cons (.yield ht2) .nil)).append (hca.mono x12)
 obtain ⟨e1,e2⟩:=Xkz hF hc hvv
 have henter:=run_enterLoop_outer (P:=P) (w:=w) rf.fn rf.tmps qs x y
 rw [hw1,←hs1,←hro] at henter
 have hstep:=Xtv (k:=rk) (d:=rf.defers) (cs:=rfs++cs) (f:=f) (fi:=fi) (ca:=ca) henter (by rw [←hrt,←hfr];exact hev) e2
 rw [←hrt,←hfr] at hstep
 refine ⟨ρ2,_,mkF rf.fn rf.tmps (.inRangeFunc w1.heap.size::rk) ([{ target:=.collected w.heap.size,args:=#[] }]++rf.defers) rf.roundOf::rfs,_,.one (by simpa [hs1] using hstep),⟨e1,.cons ?_ (h.up.mono fun _ _ k=>k.mono x12),n2⟩,x12⟩
 exact ⟨hcur.fn,hcur.size,hcur.env.mono x12,.cons (.inRangeFunc ht2) (hk.mono (Xih.mono x12)),.cons ⟨_,x2 _ _ ht1,rfl⟩ (hcur.defers.mono fun _ _ ⟨l,a,b⟩=>⟨l,x12 _ _ a,b⟩),by simp [hret],rfl,hcur.round.mono x12⟩
theorem XtK (hF:Xlx P F) {fr:XbQ} {up:List XbQ} {H:Hp} {top:Nat} {rf:Frame} {rfs:List Frame} {w:World} (h:VMR P w0 U ρ ⟨fr,up,H,top⟩ rf rfs w) (hret:fr.ret=false)
 {f:Operand} {qs:Array Nat} {x y:Code} {a b:VC} {rk:List Item} {k:List Xgo} (hrt:rf.todo=.code (.rangeFunc f qs x y)::rk) (h0:okO f=true) (h1:Xfc P x=some a) (h2:Xfc P y=some b)
 {g l0:Nat} {first caps:List Value} (hfv:Xov fr.env f=some (.func (.func g) ⟨first⟩ ⟨caps⟩)) (hrd:fr.round=some l0) {r0:XxR} (hr0:XaD H l0=some (.loop r0)) (hk:XlL (Xih P ρ) k rk) {c:XbQ}
 (hc:XjX F g (first++[.func (.yield top) #[] #[]]++caps)=some c) (cs:List Frame) :
 Goes P w0 U ρ cs ⟨c,{ fr with todo:=.inRangeFunc top::k }::up,
  Xgp H top (.loop ⟨.ready,none,fr.fn,fr.nt,fr.env,qs.toList,a,b,r0.defers⟩),top+1⟩ rf rfs w:=by
 have hcur:=h.cur
 simp only at hcur
 have hfr:=Xh8 hcur hret
 obtain ⟨lo,hlo,hro,_⟩:=(XkE hcur).2 _ hrd
 have he:=Xso hcur.env h0 hfv (f:=rf) rfl
 obtain ⟨fi,ca,hev,hfi,hca⟩:=he.Xry
 have heap:=h.heap
 simp only at heap
 obtain ⟨lo',hl',⟨⟨r',hw,hlr⟩,hsh,hext⟩,_⟩:=heap.obj l0 _ hr0
 rw [hlo] at hl';cases hl'
 obtain ⟨ld,hld,hdd⟩:=hlr.defers
 have x2:Ext ρ (upd ρ top ⟨w.heap.size,0,1⟩):=Ext.upd (heap.XoV)
 have n2:=heap.new (w':=w.alloc (.loop { state:=.ready,pending:=none,fn:=rf.fn,tmps:=rf.tmps,params:=qs,assign:=x,body:=y,defers:=r'.defers })) (l:=⟨w.heap.size,0,1⟩)
  (o:=.loop ⟨.ready,none,fr.fn,fr.nt,fr.env,qs.toList,a,b,r0.defers⟩) (heap.keep.alloc _) (fun k hk=>Below.heap_alloc w _ k hk)
  ⟨⟨_,World.alloc_heap_new _ _,⟨rfl,hcur.fn,hcur.size,hcur.env.mono x2,rfl,h1,h2,⟨_,x2 _ _ hld,hdd⟩,trivial⟩⟩,rfl,rfl⟩ (.inl (Nat.le_refl _))
 generalize hρ2:upd ρ top ⟨w.heap.size,0,1⟩=ρ2 at n2 x2
 have ht2:ρ2 top=some ⟨w.heap.size,0,1⟩:=by rw [←hρ2,upd_same]
 have hvv:VRL ρ2 (first++[.func (.yield top) #[] #[]]++caps) (fi++[.func (.yield w.heap.size) #[] #[]]++ca):=
  ((hfi.mono x2).append (.cons (.yield ht2) .nil)).append (hca.mono x2)
 obtain ⟨e1,e2⟩:=Xkz hF hc hvv
 have henter:(Instr.enterLoop rf.fn rf.tmps qs x y (some lo.blk)).run P w=.ok (w.heap.size,[]) (w.alloc (.loop { state:=.ready,pending:=none,fn:=rf.fn,tmps:=rf.tmps,params:=qs,assign:=x,body:=y,defers:=r'.defers })):=by
  unfold Instr.enterLoop
  simp only [Sem.run_bind,run_getLoop hw,run_newObj_alloc,Result.andThen_ok,Sem.run_pure]
 rw [←hro] at henter
 have hstep:=Xtv (k:=rk) (d:=rf.defers) (cs:=rfs++cs) (f:=f) (fi:=fi) (ca:=ca) henter (by rw [←hrt,←hfr];exact hev) e2
 rw [←hrt,←hfr] at hstep
 refine ⟨ρ2,_,mkF rf.fn rf.tmps (.inRangeFunc w.heap.size::rk) ([]++rf.defers) rf.roundOf::rfs,_,.one hstep,⟨e1,.cons ?_ (h.up.mono fun _ _ k=>k.mono x2),n2⟩,x2⟩
 exact ⟨hcur.fn,hcur.size,hcur.env.mono x2,.cons (.inRangeFunc ht2) (hk.mono (Xih.mono x2)),(hcur.defers.mono fun _ _ ⟨l,a,b⟩=>⟨l,x2 _ _ a,b⟩),by simp [hret],rfl,hcur.round.mono x2⟩
theorem Xyy (hF:Xlx P F) (hS:Xak P S) {vm vm':VM} {rf:Frame} {rfs:List Frame} {w:World} (h:VMR P w0 U ρ vm rf rfs w) (hs:XdE F S vm=some vm') (cs:List Frame) :
 Goes P w0 U ρ cs vm' rf rfs w:=by
 obtain ⟨⟨vfn,nt,env,todo,defers,ret,round⟩,up,H,top⟩:=vm
 have hcur:=h.cur
 simp only at hcur
 cases ret with
 | true=>
   have hfr:=Xxi hcur rfl
   cases defers with
   | cons r ds=>
     simp only [XdE] at hs
     split at hs<;>try (cases hs;done)
     rename_i hm
     cases hs
     have hds:XlL (XQf ρ) (r::ds) rf.defers:=hcur.defers
     cases hrd:rf.defers with
     | nil=>rw [hrd] at hds;cases hds
     | cons d rds=>
       rw [hrd] at hds
       cases hds with|cons hdr htl=>
       obtain ⟨l,hl,rfl⟩:=hdr
       obtain ⟨l',hl',hob,_⟩:=h.heap.obj r _ hm
       rw [hl] at hl';cases hl'
       obtain ⟨hw,hsh,hext⟩:=hob
       refine Goes.one (rfs':=rfs) (step_collected (by rw [hcur.mode];simp) hrd rfl (run_takeDeferred hw)) ⟨?_,h.up,h.heap.wipe hm hl rfl ⟨hsh,hext⟩ hw (by simp)⟩
       exact { hcur with defers:=by simpa using htl }
   | nil=>
     simp only [XdE] at hs
     split at hs<;>try (cases hs;done)
     rename_i f u us hf
     split at hs<;>try (cases hs;done)
     rename_i vs hvs
     split at hs<;>try (cases hs;done)
     rename_i u' hu
     cases hs
     obtain ⟨_,hup,hheap⟩:=h
     simp only at hup
     cases hup with|@cons _ c _ cs' hc hcs=>
     obtain ⟨fn,hfn,hcf⟩:=hF _ _ hf
     unfold XaA at hcf
     split at hcf<;>try (cases hcf;done)
     split at hcf<;>try (cases hcf;done)
     split at hcf<;>try (cases hcf;done)
     split at hcf<;>try (cases hcf;done)
     rename_i rs hrs
     cases hcf
     obtain ⟨v',hv,hrun⟩:=XpP hcur.env hheap hrs hvs
     have hdn:rf.defers=[]:=by
      have:XlL (XQf ρ) [] rf.defers:=hcur.defers
      cases hx:rf.defers with
      | nil=>rfl
      | cons=>rw [hx] at this;cases this
     have hfe:rf.fn=vfn:=hcur.fn
     rw [←hfe] at hfn
     have hstep:=XET (cs:=cs'++cs) (c:=c) (k:=rf.todo) (r:=rf.roundOf) hfn hrun
     rw [←hdn,←hfr] at hstep
     exact Goes.one hstep ⟨XpV hc hv hu,hcs,hheap⟩
 | false=>
   have hfr:=Xh8 hcur rfl
   have htodo:=hcur.todo
   simp only at htodo
   cases todo with
   | nil=>
     have hrt:rf.todo=[]:=by
      cases hx:rf.todo with
      | nil=>rfl
      | cons=>rw [hx] at htodo;cases htodo
     cases round with
     | none=>simp only [XdE] at hs;cases hs;exact XWz h rfl rfl (.inl hrt) cs
     | some l=>simp only [XdE] at hs;exact XkF h rfl rfl (jump:=none) trivial (.inl ⟨hrt,rfl⟩) hs cs
   | cons it k=>
     cases hrt:rf.todo with
     | nil=>rw [hrt] at htodo;cases htodo
     | cons rit rk=>
     rw [hrt] at htodo
     cases htodo with|cons hi hk=>
     cases it with
     | inBlock id=>
       simp only [XdE] at hs;cases hs
       cases hi
       exact Goes.to h rfl cs (fun cs=>by rw [hrt];exact Xxe) hk
     | inScope=>
       simp only [XdE] at hs;cases hs
       cases hi
       exact Goes.to h rfl cs (fun cs=>by rw [hrt];exact Xw2) hk
     | inLoop b=>
       simp only [XdE] at hs;cases hs
       cases hi with|inLoop hb=>
       exact Goes.to h rfl cs (fun cs=>by rw [hrt];exact Xy1) (.cons (.code hb) (.cons (.inLoop hb) hk))
     | inReg ops=>
       cases ops with
       | nil=>
         simp only [XdE] at hs;cases hs
         cases hi with|inReg hr=>
         cases hr
         exact Goes.to h rfl cs (fun cs=>by rw [hrt];exact XAi) hk
       | cons o rest=>
         simp only [XdE] at hs
         split at hs<;>try (cases hs;done)
         ·rename_i hwn
          cases hs
          have ⟨ops,i,is,k',oo,e1,e2,e3⟩:=Xr0 hcur rfl
          have hw:=Xqo hcur.env e3 hwn
          have hstep:=Xtf (P:=P) (fn:=rf.fn) (t:=rf.tmps) (k:=k') (d:=rf.defers) (r:=rf.roundOf) (cs:=rfs++cs) (w:=w) (ops:=ops) (i:=i) (rest:=is) (by simp [e2,hw])
          rw [←e1,←hfr] at hstep
          exact Goes.one hstep ⟨XkC hcur rfl Xo3,h.up,h.heap⟩
         ·rename_i hwn
          exact Xyh hF hS h rfl rfl hwn hs cs
     | inRangeFunc l=>simp only [XdE] at hs;cases hs
     | endRangeFunc l=>
       simp only [XdE] at hs
       split at hs<;>try (cases hs;done)
       rename_i r hr
       cases hi with|@endRangeFunc _ lo hl=>
       obtain ⟨lo',hl',⟨⟨r',hw,hlr⟩,hsh,hext⟩,_⟩:=h.heap.obj l _ hr
       rw [hl] at hl';cases hl'
       have hpend:XlL (Xih P ρ) ((match r.pending with|some c=>[.code c]|none=>[])++k) ((r'.pending.map Item.code).toList++rk):=by
        have hp:=hlr.pending
        cases h1:r.pending with
        | none=>
          cases h2:r'.pending with
          | none=>simpa using hk
          | some c=>rw [h1,h2] at hp;exact hp.elim
        | some c=>
          cases h2:r'.pending with
          | none=>rw [h1,h2] at hp;exact hp.elim
          | some c'=>rw [h1,h2] at hp;simpa using .cons (.code hp) hk
       have hheap:=h.heap.setObj (r':=.loop { r' with state:=.exhausted }) (ob':=.loop { r with state:=.exhausted }) hr hl rfl ⟨hsh,hext⟩ hw (by simp) (by simp)
        ⟨⟨_,Xho _ _ _ _ hw,{ hlr with state:=rfl,pending:=hlr.pending }⟩,hsh,hext⟩
       have hst:r'.state≠.busy→step P (lone rf (rfs++cs) w)=.next (lone (mkF rf.fn rf.tmps ((r'.pending.map Item.code).toList++rk) rf.defers rf.roundOf) (rfs++cs) (w.putObj lo.blk (.loop { r' with state:=.exhausted }))):=fun hb=>by
        have:=XCu (fn:=rf.fn) (t:=rf.tmps) (k:=rk) (d:=rf.defers) (r:=rf.roundOf) (cs:=rfs++cs) (run_endLoop (P:=P) hw hb)
        rw [←hrt,←hfr] at this;exact this
       split at hs
       ·cases hs
       ·rename_i hnb
        cases hs
        exact Goes.one (hst (by rw [hlr.state];exact hnb)) ⟨hcur.re rfl hpend,h.up,hheap⟩
     | beginRound=>
       cases round with
       | none=>simp only [XdE] at hs;cases hs
       | some l=>
         simp only [XdE] at hs
         split at hs<;>try (cases hs;done)
         rename_i r hr
         split at hs<;>try (cases hs;done)
         rename_i hready
         cases hs
         obtain ⟨lo,hl,hro,_⟩:=(XkE hcur).2 l rfl
         obtain ⟨lo',hl',⟨⟨r',hw,hlr⟩,hsh,hext⟩,_⟩:=h.heap.obj l _ hr
         rw [hl] at hl';cases hl'
         cases hi
         have hheap:=h.heap.setObj (r':=.loop { r' with state:=.busy }) (ob':=.loop { r with state:=.busy }) hr hl rfl ⟨hsh,hext⟩ hw (by simp) (by simp)
          ⟨⟨_,Xho _ _ _ _ hw,{ hlr with state:=rfl,pending:=hlr.pending }⟩,hsh,hext⟩
         have hst:=XE4 (fn:=rf.fn) (t:=rf.tmps) (k:=rk) (d:=rf.defers) (cs:=rfs++cs) (run_beginRound (P:=P) hw (by rw [hlr.state];exact hready))
         rw [←hrt,←hro,←hfr] at hst
         exact Goes.one hst ⟨hcur.re rfl hk,h.up,hheap⟩
     | code c=>
       cases hi with|@code _ c' hc=>
       have hinv:=XCE hc
       cases c with
       | skip=>
         simp only [XdE] at hs;cases hs
         obtain rfl|⟨l,rfl⟩:c'=.skip∨∃ l,c'=.label l:=hinv
         ·exact Goes.to h rfl cs (fun cs=>by rw [hrt];exact XM5) hk
         ·exact Goes.to h rfl cs (fun cs=>by rw [hrt];exact XD4) hk
       | ret=>
         obtain rfl:c'=.ret:=hinv
         cases round with
         | none=>simp only [XdE] at hs;cases hs;exact XWz h rfl rfl (.inr ⟨_,hrt⟩) cs
         | some l=>simp only [XdE] at hs;exact XkF h rfl rfl (jump:=some .ret) hc (.inr (.inl ⟨_,hrt,rfl⟩)) hs cs
       | seq a b=>
         simp only [XdE] at hs;cases hs
         obtain ⟨x,y,rfl,h1,h2⟩:=hinv
         exact Goes.to h rfl cs (fun cs=>by rw [hrt];exact XTg) (.cons (.code h1) (.cons (.code h2) hk))
       | cond o a b=>
         simp only [XdE] at hs
         obtain ⟨x,y,rfl,h0,h1,h2⟩:=hinv
         split at hs<;>try (cases hs;done)
         rename_i v hv
         cases hs
         have he:=Xso hcur.env h0 hv (f:=mkF rf.fn rf.tmps rf.todo rf.defers rf.roundOf) rfl
         have he':(mkF rf.fn rf.tmps rf.todo rf.defers rf.roundOf).eval o=.bool v:=he.XAK
         refine Goes.to h rfl cs (fun cs=>by rw [hrt];rw [hrt] at he';exact XNK he') (.cons (.code ?_) hk)
         cases v<;>assumption
       | block id b=>
         simp only [XdE] at hs;cases hs
         obtain ⟨x,rfl,h1⟩:=hinv
         exact Goes.to h rfl cs (fun cs=>by rw [hrt];exact XC5) (.cons (.code h1) (.cons (.inBlock id) hk))
       | scope b=>
         simp only [XdE] at hs;cases hs
         obtain ⟨x,rfl,h1⟩:=hinv
         exact Goes.to h rfl cs (fun cs=>by rw [hrt];exact XGf) (.cons (.code h1) (.cons (.inScope x) hk))
       | loop b=>
         simp only [XdE] at hs;cases hs
         obtain ⟨x,rfl,h1⟩:=hinv
         exact Goes.to h rfl cs (fun cs=>by rw [hrt];exact XJ4) (.cons (.code h1) (.cons (.inLoop h1) hk))
       | exit id=>
         simp only [XdE] at hs
         obtain rfl:c'=.exit id:=hinv
         obtain ⟨hex1,hex2⟩:=Xs5 (id:=id) hk
         cases hk':exitTo id k with
         | some k'=>
           simp only [hk'] at hs
           cases hs
           obtain ⟨rk',he,hrk'⟩:=hex1 _ hk'
           exact Goes.to h rfl cs (fun cs=>by rw [hrt];exact XLC he) hrk'
         | none=>
           simp only [hk'] at hs
           cases round with
           | none=>cases hs
           | some l=>simp only at hs;exact XkF h rfl rfl (jump:=some (.exit id)) hc (.inr (.inr ⟨_,_,hrt,hex2 hk',rfl⟩)) hs cs
       | reg ops=>
         simp only [XdE] at hs;cases hs
         obtain ⟨id,ops,rfl,h1⟩:=hinv
         exact Goes.to h rfl cs (fun cs=>by rw [hrt];exact XVZ) (.cons (.inReg (XGl h1)) hk)
       | stuck=>simp only [XdE] at hs;cases hs
       | regD ops ord post=>
         simp only [XdE] at hs
         obtain ⟨id,rops,l,rfl,h1,rfl,rfl,h2,h3,h4⟩:=hinv
         split at hs<;>try (cases hs;done)
         rename_i hrun
         split at hs<;>try (cases hs;done)
         rename_i hok
         cases hs
         exact XQa hS h rfl rfl hrt hk h1 h3 h4 h2 hrun hok cs
       | rangeF f ps a b=>
         simp only [XdE] at hs
         obtain ⟨qs,x,y,rfl,h0,rfl,h1,h2⟩:=hinv
         split at hs<;>try (cases hs;done)
         ·rename_i g first caps hfv
          split at hs<;>try (cases hs;done)
          rename_i c hc
          cases hs
          exact Xto hF h rfl hrt h0 h1 h2 hfv rfl hk hc cs
         ·rename_i g first caps l0 hfv
          split at hs<;>try (cases hs;done)
          rename_i r0 hr0
          split at hs<;>try (cases hs;done)
          rename_i c hc
          cases hs
          exact XtK hF h rfl hrt h0 h1 h2 hfv rfl hr0 hk hc cs
end
structure XaG (P:Program) (f base:Nat) (vm:VM) (R:Value→Hp→Nat→Prop):Prop where
 get:∀ (w0:World) (U:Nat→Nat→Prop) (ρ:Ren) (rf:Frame) (rfs:List Frame) (w:World) (cs:List Frame),VMR P w0 U ρ vm rf rfs w →
  ∃ ρ' rv fr' w' v H top,Steps P (lone rf (rfs++cs) w) (lone fr' cs w')∧fr'.fn=f∧fr'.leaving P w' (.returned rv)∧VR ρ' v rv∧HpR P w0 (.of U) ρ' H top w' ∧
   (∀ i l,i<base→ρ i=some l→ρ' i=some l)∧R v H top
def XQo (s:Nat→Option Nat) (e:Env):Env→Prop
 | []=>True
 | (i,v)::l=>(match Xe0 s v with|some v'=>XaD e i=some v'|none=>False)∧XQo s e l
theorem Xvj {s:Nat→Option Nat} {e:Env}:∀ {l:Env},XQo s e l→∀ i v,XaD l i=some v→∃ v',Xe0 s v=some v'∧XaD e i=some v'
 | [],_,i,v,h=>by simp [XaD] at h
 | (j,u)::l,h,i,v,hv=>by
   obtain ⟨h1,h2⟩:=h
   simp only [XaD] at hv
   cases hb:Nat.beq j i with
   | true=>
     rw [hb,cond_true,Option.some.injEq] at hv
     subst hv
     have:=Nat.eq_of_beq_eq_true hb;subst this
     split at h1
     ·rename_i v' hv';exact ⟨v',hv',h1⟩
     ·exact h1.elim
   | false=>
     rw [hb,cond_false] at hv
     exact Xvj h2 i v hv
section
variable {P:Program} {w0:World} {U:Nat→Nat→Prop} {ρ:Ren} {F:Fns} {S:Xm2}
def comp (s:Nat→Option Nat) (ρ:Ren):Ren:=fun i=>match s i with|some j=>ρ j|none=>none
theorem XfB {s:Nat→Option Nat} {i j:Nat} (h:s i=some j):comp s ρ i=ρ j:=by simp [comp,h]
mutual
theorem VR.XfZ {s:Nat→Option Nat}:∀ (v:Value) {u v':Value},Xe0 s v=some u→VR ρ u v'→VR (comp s ρ) v v':=by
 intro v u v' h hr
 unfold Xe0 at h
 split at h
 ·split at h<;>cases h
  rename_i hs
  cases hr with|ptr hl=>exact .ptr (by rw [XfB hs];exact hl)
 ·split at h<;>cases h
  rename_i hs
  cases hr with
  | slice hl hn hc=>exact .slice (by rw [XfB hs];exact hl) hn hc
  | slice0 a=>exact .slice0 a
 ·split at h<;>cases h
  rename_i ha hb
  cases hr with|func _ h1 h2=>exact .func _ (VRL.XfZ _ ha h1) (VRL.XfZ _ hb h2)
 ·split at h<;>cases h
  rename_i hs
  cases hr with|yield hl=>exact .yield (by rw [XfB hs];exact hl)
 ·cases h;cases hr;exact .tnil _ _
 ·split at h<;>cases h
  rename_i hs
  cases hr with|tsl _ hl hv=>exact .tsl _ (by rw [XfB hs];exact hl) hv
 ·split at h<;>cases h
  rename_i hs
  cases hr with|iface _ hl=>exact .iface _ (VR.XfZ _ hs hl)
 ·split at h<;>cases h
  rename_i hs
  cases hr with|agg hl=>exact .agg (VRL.XfZ _ hs hl)
 ·split at h<;>cases h
  rename_i hs
  cases hr with|tuple hl=>exact .tuple (VRL.XfZ _ hs hl)
 ·cases h;cases hr;exact .bool _
 ·cases h;cases hr;exact .int _ _
 ·cases h;cases hr;exact .string _
 ·cases h;cases hr;exact .junk _ _ (by assumption)
 ·cases h;cases hr;exact .nilp
 ·cases h;cases hr;exact .nils _
 ·cases h;cases hr;exact .nilf
 ·cases h;cases hr;exact .nili
 ·cases h
theorem VRL.XfZ {s:Nat→Option Nat}:∀ (l:List Value) {u l':List Value},Xe0.renL s l=some u→VRL ρ u l'→VRL (comp s ρ) l l':=by
 intro l u l' h hr
 cases l with
 | nil=>simp only [Xe0.renL,Option.some.injEq] at h;subst h;cases hr;exact .nil
 | cons v l=>
   simp only [Xe0.renL] at h
   split at h<;>try (cases h;done)
   rename_i v' hv
   split at h<;>try (cases h;done)
   rename_i k hk
   cases h
   cases hr with|cons h1 h2=>exact .cons (VR.XfZ _ hv h1) (VRL.XfZ _ hk h2)
end
theorem Xsz.XfZ {s:Nat→Option Nat} {e e':Env} {t:Array Value} (h:Xsz ρ e t) (hs:XQo s e e'):Xsz (comp s ρ) e' t:=by
 intro i v hv
 obtain ⟨u,hu,he⟩:=Xvj hs i v hv
 obtain ⟨v',g,r⟩:=h i u he
 exact ⟨v',g,VR.XfZ v hu r⟩
def renI (s:Nat→Option Nat):Xgo→Option Xgo
 | .inRangeFunc l=>match s l with
   | some j=>some (.inRangeFunc j)
   | none=>none
 | .endRangeFunc l=>match s l with
   | some j=>some (.endRangeFunc j)
   | none=>none
 | x=>some x
def XGI (s:Nat→Option Nat):List Xgo→Option (List Xgo)
 | []=>some []
 | x::l=>match renI s x with
   | some y=>match XGI s l with
     | some m=>some (y::m)
     | none=>none
   | none=>none
def XDC (s:Nat→Option Nat):List Nat→Option (List Nat)
 | []=>some []
 | x::l=>match s x with
   | some y=>match XDC s l with
     | some m=>some (y::m)
     | none=>none
   | none=>none
theorem Xih.XfZ {s:Nat→Option Nat} {x y:Xgo} (h:renI s x=some y) {it:Item} (hr:Xih P ρ y it):Xih P (comp s ρ) x it:=by
 unfold renI at h
 split at h
 ·split at h<;>cases h
  rename_i hs
  cases hr with|inRangeFunc hl=>exact .inRangeFunc (by rw [XfB hs];exact hl)
 ·split at h<;>cases h
  rename_i hs
  cases hr with|endRangeFunc hl=>exact .endRangeFunc (by rw [XfB hs];exact hl)
 ·rename_i h1 h2
  cases h
  cases hr with
  | code h=>exact .code h
  | inBlock id=>exact .inBlock id
  | inScope c=>exact .inScope c
  | inLoop h=>exact .inLoop h
  | inReg h=>exact .inReg h
  | inRangeFunc h=>exact absurd rfl (h1 _)
  | endRangeFunc h=>exact absurd rfl (h2 _)
  | beginRound=>exact .beginRound
theorem XqJ {s:Nat→Option Nat}:∀ {l m:List Xgo} {k:List Item},XGI s l=some m→XlL (Xih P ρ) m k→XlL (Xih P (comp s ρ)) l k
 | [],m,k,h,hr=>by simp only [XGI,Option.some.injEq] at h;subst h;cases hr;exact .nil
 | x::l,m,k,h,hr=>by
   simp only [XGI] at h
   split at h<;>try (cases h;done)
   rename_i y hy
   split at h<;>try (cases h;done)
   rename_i m' hm
   cases h
   cases hr with|cons h1 h2=>exact .cons (h1.XfZ hy) (XqJ hm h2)
theorem XoQ {s:Nat→Option Nat}:∀ {l m:List Nat} {k:List Deferred},XDC s l=some m→XlL (XQf ρ) m k→XlL (XQf (comp s ρ)) l k
 | [],m,k,h,hr=>by simp only [XDC,Option.some.injEq] at h;subst h;cases hr;exact .nil
 | x::l,m,k,h,hr=>by
   simp only [XDC] at h
   split at h<;>try (cases h;done)
   rename_i y hy
   split at h<;>try (cases h;done)
   rename_i m' hm
   cases h
   cases hr with|cons h1 h2=>
   obtain ⟨lo,a,b⟩:=h1
   exact .cons ⟨lo,by rw [XfB hy];exact a,b⟩ (XoQ hm h2)
structure FSub (s:Nat→Option Nat) (v v':XbQ):Prop where
 fn:v'.fn=v.fn
 nt:v'.nt=v.nt
 env:XQo s v.env v'.env
 todo:XGI s v'.todo=some v.todo
 defers:XDC s v'.defers=some v.defers
 ret:v'.ret=v.ret
 round:match v'.round,v.round with
  | none,none=>True
  | some a,some b=>s a=some b
  | _,_=>False
theorem FrR.XfZ {s:Nat→Option Nat} {v v':XbQ} {f:Frame} (h:FrR P ρ v f) (hs:FSub s v v'):FrR P (comp s ρ) v' f where
 fn:=h.fn.trans hs.fn.symm
 size:=h.size.trans hs.nt.symm
 env:=h.env.XfZ hs.env
 todo:=XqJ hs.todo h.todo
 defers:=XoQ hs.defers h.defers
 mode:=by rw [h.mode,hs.ret]
 kind:=h.kind
 round:=by
  have h1:=h.round
  have h2:=hs.round
  cases hv':v'.round<;>cases hv:v.round<;>rw [hv',hv] at h2<;>first|exact h2.elim|skip
  ·rw [hv] at h1
   cases hf:f.roundOf with
   | none=>trivial
   | some q=>rw [hf] at h1;exact h1.elim
  ·rw [hv] at h1
   cases hf:f.roundOf with
   | none=>rw [hf] at h1;exact h1.elim
   | some q=>rw [hf] at h1;obtain ⟨lo,a,b⟩:=h1;exact ⟨lo,by rw [XfB h2];exact a,b⟩
inductive Xrq (s:Nat→Option Nat):XbO→XbO→Prop
 | cells {cs cs'} (h:Xe0.renL s cs'=some cs):Xrq s (.cells cs) (.cells cs')
 | cellsF {cs} (h:Xbm.flatL cs=true):Xrq s (.cells cs) (.cells cs)
 | rowF {own own' cs} (h:Xbm.flatL cs=true) (ho:own'=true→own=true):Xrq s (.row own cs) (.row own' cs)
 | row {own own' cs cs'} (h:Xe0.renL s cs'=some cs) (ho:own'=true→own=true):Xrq s (.row own cs) (.row own' cs')
 | cr {own' cs cs'} (h:Xe0.renL s cs'=some cs):Xrq s (.cells cs) (.row own' cs')
 | crF {own' cs} (h:Xbm.flatL cs=true):Xrq s (.cells cs) (.row own' cs)
 | rc {cs cs'} (h:Xe0.renL s cs'=some cs):Xrq s (.row true cs) (.cells cs')
 | ty {t cs cs'} (h:Xe0.renL s cs'=some cs):Xrq s (.ty t cs) (.ty t cs')
 | tyF {t cs} (h:Xbm.flatL cs=true):Xrq s (.ty t cs) (.ty t cs)
 | tr {t own' cs cs'} (h:Xe0.renL s cs'=some cs):Xrq s (.ty t cs) (.row own' cs')
 | trF {t own' cs} (h:Xbm.flatL cs=true):Xrq s (.ty t cs) (.row own' cs)
 | siter (b p):Xrq s (.siter b p) (.siter b p)
 | marks:Xrq s .marks .marks
 | loop {r r':XxR} (state:r'.state=r.state) (pending:r'.pending=r.pending) (fn:r'.fn=r.fn) (nt:r'.nt=r.nt) (env:XQo s r.env r'.env) (params:r'.params=r.params) (asg:r'.asg=r.asg)
    (body:r'.body=r.body) (defers:s r'.defers=some r.defers):Xrq s (.loop r) (.loop r')
theorem XrD {s:Nat→Option Nat}:∀ {l m:List Value},Xe0.renL s l=some m→m.length=l.length∧∀ (i:Nat) v,l[i]?=some v→∃ u,Xe0 s v=some u∧m[i]?=some u
 | [],m,h=>by simp only [Xe0.renL,Option.some.injEq] at h;subst h;exact ⟨rfl,fun i v e=>by simp at e⟩
 | x::l,m,h=>by
   simp only [Xe0.renL] at h
   split at h<;>try (cases h;done)
   rename_i y hy
   split at h<;>try (cases h;done)
   rename_i m' hm
   cases h
   obtain ⟨h1,h2⟩:=XrD hm
   refine ⟨by simp [h1],fun i v e=>?_⟩
   cases i with
   | zero=>simp at e;subst e;exact ⟨y,hy,by simp⟩
   | succ i=>simp at e;obtain ⟨u,a,b⟩:=h2 i v e;exact ⟨u,a,by simpa using b⟩
mutual
theorem XlX (s:Nat→Option Nat):∀ (v:Value),Xbm v=true→Xe0 s v=some v
 | .bool b,_=>by simp [Xe0]
 | .int k n,_=>by simp [Xe0]
 | .string s,_=>by simp [Xe0]
 | .pointer none,_=>by simp [Xe0]
 | .pointer (some _),h=>by simp [Xbm] at h
 | .slice none 0 0,_=>by simp [Xe0]
 | .slice none 0 (_+1),h=>by simp [Xbm] at h
 | .slice none (_+1) _,h=>by simp [Xbm] at h
 | .slice (some _) _ _,h=>by simp [Xbm] at h
 | .nilFunc,_=>by simp [Xe0]
 | .nilIface,_=>by simp [Xe0]
 | .agg ⟨l⟩,h=>by simp [Xe0,Xco s l (by simpa [Xbm] using h)]
 | .tuple ⟨l⟩,h=>by simp [Xe0,Xco s l (by simpa [Xbm] using h)]
 | .iface t v,h=>by simp [Xe0,XlX s v (by simpa [Xbm] using h)]
 | .float ..,h=>by simp [Xbm] at h
 | .complex ..,h=>by simp [Xbm] at h
 | .map _,h=>by simp [Xbm] at h
 | .chan _,h=>by simp [Xbm] at h
 | .func _ _ _,h=>by obtain ⟨f,rfl,rfl,rfl⟩:=XsR h;simp [Xe0,Xe0.renL]
theorem Xco (s:Nat→Option Nat):∀ (l:List Value),Xbm.flatL l=true→Xe0.renL s l=some l
 | [],_=>by simp [Xe0.renL]
 | v::l,h=>by
   simp only [Xbm.flatL,Bool.and_eq_true] at h
   simp [Xe0.renL,XlX s v h.1,Xco s l h.2]
end
theorem Xbt.XfZ {s:Nat→Option Nat} {w:World} {l:Loc} {own own':Bool} {cs cs':List Value} (h:Xbt ρ w l own cs) (hs:Xe0.renL s cs'=some cs) (ho:own'=true→own=true):Xbt (comp s ρ) w l own' cs':=by
 obtain ⟨h1,h2,h3⟩:=h
 obtain ⟨hl,hg⟩:=XrD hs
 refine ⟨by omega,fun i v e=>?_,fun i hi=>⟨(h3 i hi).1,fun e=>(h3 i hi).2 (ho e)⟩⟩
 obtain ⟨u,hu,hm⟩:=hg i v e
 obtain ⟨v',a,b⟩:=h2 i u hm
 exact ⟨v',a,VR.XfZ v hu b⟩
theorem XmK.XfZ {s:Nat→Option Nat} {w:World} {l:Loc} {o o':XbO} (h:XmK P ρ w l o) (hs:Xrq s o o'):XmK P (comp s ρ) w l o':=by
 cases hs with
 | cells hc=>exact Xbt.XfZ h hc id
 | cellsF hf=>exact Xbt.XfZ h (Xco s _ hf) id
 | rowF hf ho=>exact Xbt.XfZ h (Xco s _ hf) ho
 | row hc ho=>exact Xbt.XfZ h hc ho
 | cr hc=>exact Xbt.XfZ h hc (fun _=>rfl)
 | crF hf=>exact Xbt.XfZ h (Xco s _ hf) (fun _=>rfl)
 | rc hc=>exact Xbt.XfZ h hc id
 | ty hc=>exact ⟨Xbt.XfZ h.1 hc id,h.2⟩
 | tyF hf=>exact ⟨Xbt.XfZ h.1 (Xco s _ hf) id,h.2⟩
 | tr hc=>exact Xbt.XfZ h.1 hc (fun _=>rfl)
 | trF hf=>exact Xbt.XfZ h.1 (Xco s _ hf) (fun _=>rfl)
 | siter=>exact h
 | marks=>exact h
 | loop state pending fn nt env params asg body defers=>
   obtain ⟨⟨r',hw,hr⟩,hsh⟩:=h
   refine ⟨⟨r',hw,⟨hr.state.trans state.symm,hr.fn.trans fn.symm,hr.size.trans nt.symm,hr.env.XfZ env,hr.params.trans params.symm,hr.asg.trans (by rw [asg]),hr.body.trans (by rw [body]),?_,by rw [pending];exact hr.pending⟩⟩,hsh⟩
   obtain ⟨lo,a,b⟩:=hr.defers
   exact ⟨lo,by rw [XfB defers];exact a,b⟩
theorem Xrq.writable {s:Nat→Option Nat} {o o':XbO} (h:Xrq s o o') (hw:writable o'=true):Vm.writable o=true:=by
 cases h<;>first|rfl|(rename_i ho;exact ho hw)
def HSub (s:Nat→Option Nat) (H H':Hp):Prop:=∀ i o',XaD H' i=some o'→∃ j o,s i=some j∧XaD H j=some o∧Xrq s o o'
theorem HpR.XfZ {s:Nat→Option Nat} {H H':Hp} {top top':Nat} {w:World} (h:HpR P w0 (.of U) ρ H top w) (hs:HSub s H H') (hinj:∀ i j k,s i=some k→s j=some k→i=j) (htop:∀ i j,s i=some j→i<top') :
 HpR P w0 (.of U) (comp s ρ) H' top' w where
 obj i o' ho:=by
  obtain ⟨j,o,hj,hoj,hos⟩:=hs i o' ho
  obtain ⟨l,hl,hr,hw⟩:=h.obj j o hoj
  exact ⟨l,by rw [XfB hj];exact hl,hr.XfZ hos,fun hwr=>hw (hos.writable hwr)⟩
 dis i j oi oj li lj hij hi hj hli hlj hw:=by
  obtain ⟨i',o1,hi',ho1,hs1⟩:=hs i oi hi
  obtain ⟨j',o2,hj',ho2,hs2⟩:=hs j oj hj
  rw [XfB hi'] at hli
  rw [XfB hj'] at hlj
  exact h.dis i' j' o1 o2 li lj (fun e=>hij (hinj i j i' hi' (e▸hj'))) ho1 ho2 hli hlj (hs1.writable hw)
 lt i l e:=by
  unfold comp at e
  split at e
  ·rename_i j hj;have:=h.lt j l e;exact .inr ⟨Nat.zero_le _,htop i j hj⟩
  ·cases e
 keep:=h.keep
structure Sub (base:Nat) (s:Nat→Option Nat) (v v':VM):Prop where
 cur:FSub s v.cur v'.cur
 up:XlL (FSub s) v.up v'.up
 heap:HSub s v.heap v'.heap
 inj:∀ i j k,s i=some k→s j=some k→i=j
 top:∀ i j,s i=some j→i<v'.top
 fix:∀ i,i<base→s i=some i
theorem XtJ {s:Nat→Option Nat}:∀ {l m:List XbQ} {k:List Frame},XlL (FSub s) l m→XlL (FrR P ρ) l k→XlL (FrR P (comp s ρ)) m k
 | _,_,_,.nil,.nil=>.nil
 | _,_,_,.cons a t,.cons b u=>.cons (b.XfZ a) (XtJ t u)
theorem XaG.sub {f base:Nat} {vm vm':VM} {R:Value→Hp→Nat→Prop} {s:Nat→Option Nat} (hs:Sub base s vm vm') (h:XaG P f base vm' R):XaG P f base vm R:=by
 refine ⟨fun w0 U ρ rf rfs w cs hr=>?_⟩
 obtain ⟨ρ',rv,fr',w',v,H,top,h1,h2,h3,h4,h5,h6,h7⟩:=h.get w0 U (comp s ρ) rf rfs w cs ⟨hr.cur.XfZ hs.cur,XtJ hs.up hr.up,hr.heap.XfZ hs.heap hs.inj hs.top⟩
 exact ⟨ρ',rv,fr',w',v,H,top,h1,h2,h3,h4,h5,fun i l hi hl=>h6 i l hi (by rw [XfB (hs.fix i hi)];exact hl),h7⟩
theorem XaG.next {f base:Nat} {vm vm':VM} {R:Value→Hp→Nat→Prop} (hF:Xlx P F) (hS:Xak P S) (hv:XdE F S vm=some vm') (h:XaG P f base vm' R):XaG P f base vm R:=by
 refine ⟨fun w0 U ρ rf rfs w cs hr=>?_⟩
 obtain ⟨ρ1,rf1,rfs1,w1,s1,r1,e1⟩:=Xyy hF hS hr hv cs
 obtain ⟨ρ',rv,fr',w',v,H,top,h1,h2,h3,h4,h5,h6,h7⟩:=h.get w0 U ρ1 rf1 rfs1 w1 cs r1
 exact ⟨ρ',rv,fr',w',v,H,top,s1.trans h1,h2,h3,h4,h5,fun i l hi hl=>h6 i l hi (e1 _ _ hl),h7⟩
theorem XaG.mono {f base:Nat} {vm:VM} {R R':Value→Hp→Nat→Prop} (h:XaG P f base vm R) (hR:∀ v H t,R v H t→R' v H t):XaG P f base vm R':=by
 refine ⟨fun w0 U ρ rf rfs w cs hr=>?_⟩
 obtain ⟨ρ',rv,fr',w',v,H,top,h1,h2,h3,h4,h5,h6,h7⟩:=h.get w0 U ρ rf rfs w cs hr
 exact ⟨ρ',rv,fr',w',v,H,top,h1,h2,h3,h4,h5,h6,hR _ _ _ h7⟩
theorem XaG.stop {f base:Nat} {nt:Nat} {e:Env} {k:List Xgo} {r:Option Nat} {H:Hp} {top:Nat} {R:Value→Hp→Nat→Prop} (hF:Xlx P F) {vf:VFn} (hf:F f=some vf) {vs:List Value} (hv:XpO e H vf.results=some vs) (h:R (XJj vs) H top) :
 XaG P f base ⟨⟨f,nt,e,k,[],true,r⟩,[],H,top⟩ R:=by
 refine ⟨fun w0 U ρ rf rfs w cs hr=>?_⟩
 obtain ⟨hcur,hup,hheap⟩:=hr
 simp only at hup
 cases hup
 obtain ⟨fn,hfn,hcf⟩:=hF _ _ hf
 unfold XaA at hcf
 split at hcf<;>try (cases hcf;done)
 split at hcf<;>try (cases hcf;done)
 split at hcf<;>try (cases hcf;done)
 split at hcf<;>try (cases hcf;done)
 rename_i rs hrs
 cases hcf
 obtain ⟨v',hv',hrun⟩:=XpP hcur.env hheap hrs hv
 have hdn:rf.defers=[]:=by
  have:XlL (XQf ρ) [] rf.defers:=hcur.defers
  cases hx:rf.defers with
  | nil=>rfl
  | cons=>rw [hx] at this;cases this
 have hfe:rf.fn=f:=hcur.fn
 exact ⟨ρ,v',rf,w,_,H,top,Steps.refl _ _,hfe,⟨by rw [hcur.mode];rfl,hdn,hcur.kind,fn,by rw [hfe];exact hfn,hrun⟩,hv',hheap,fun _ _ _ h=>h,h⟩
end
def Xqu (k:Nat):List (Option XbO)→Hp
 | []=>[]
 | none::l=>Xqu (k+1) l
 | some o::l=>(k,o)::Xqu (k+1) l
def Has (H:Hp) (j:Nat) (c:List Value):Prop:=XaD H j=some (.row true c)∨XaD H j=some (.cells c)∨∃ d m,XaD H j=some (.row true d)∧c=d.take m
def Xxb (js:List Nat) (n:Nat) (i:Nat):Option Nat:=match js[i]? with
 | some j=>some j
 | none=>cond (Nat.blt (i - js.length) n) (some (i - js.length)) none
def XBT (H:Hp) (s:Nat→Option Nat):Nat→List (Option (List Value))→Prop
 | k,none::l=>XBT H s (k+1) l
 | k,some c::l=>(∃ c',Xe0.renL s c=some c'∧Has H k c')∧XBT H s (k+1) l
 | _,[]=>True
def Xt6 (H:Hp) (s:Nat→Option Nat):List Nat→List (List Value)→Prop
 | j::js,c::cs=>(∃ c',Xe0.renL s c=some c'∧Has H j c')∧Xt6 H s js cs
 | [],[]=>True
 | _,_=>False
structure Res (n:Nat) (r:XcU) (v':Value) (H':Hp):Prop where
 ex:∃ js:List Nat,Xe0 (Xxb js n) r.v=some v'∧Xt6 H' (Xxb js n) js r.new∧js.Nodup∧(∀ j∈js,n≤j∨r.wr[j]?=some none)∧XBT H' (Xxb js n) 0 r.wr
section
variable {P:Program} {F:Fns} {S:Xm2}
mutual
theorem XpH:∀ (v:Value) {u:Value},Xe0 (fun _=>none) v=some u→u=v:=by
 intro v u h
 unfold Xe0 at h
 split at h
 ·simp at h
 ·simp at h
 ·split at h<;>cases h
  rename_i ha hb
  rw [Xlp _ ha,Xlp _ hb]
 ·simp at h
 ·cases h;rfl
 ·simp at h
 ·split at h<;>cases h
  rename_i hs
  rw [XpH _ hs]
 ·split at h<;>cases h
  rename_i hs
  rw [Xlp _ hs]
 ·split at h<;>cases h
  rename_i hs
  rw [Xlp _ hs]
 all_goals (cases h;try rfl)
theorem Xlp:∀ (l:List Value) {u:List Value},Xe0.renL (fun _=>none) l=some u→u=l:=by
 intro l u h
 cases l with
 | nil=>simp only [Xe0.renL,Option.some.injEq] at h;exact h.symm
 | cons v l=>
   simp only [Xe0.renL] at h
   split at h<;>try (cases h;done)
   rename_i v' hv
   split at h<;>try (cases h;done)
   rename_i k hk
   cases h
   rw [XpH _ hv,Xlp _ hk]
end
theorem VR.move {ρ ρ':Ren} {v u v':Value} (h:Xe0 (fun _=>none) v=some u) (hr:VR ρ' v v'):VR ρ u v':=by
 have e:=XpH v h
 subst e
 exact (VR.XfZ u h hr).mono (fun i l e=>by simp [comp] at e)
theorem Xbt.move {ρ ρ':Ren} {w:World} {l:Loc} {own:Bool} {cs:List Value} (h:Xbt ρ w l own cs) (hf:Xbm.flatL cs=true):Xbt ρ' w l own cs:=by
 obtain ⟨h1,h2,h3⟩:=Xbt.XfZ (s:=fun _=>none) h (Xco _ _ hf) id
 refine ⟨h1,fun i v e=>?_,h3⟩
 obtain ⟨v',a,b⟩:=h2 i v e
 exact ⟨v',a,b.mono (fun i l e=>by simp [comp] at e)⟩
mutual
theorem VR.ren {s:Nat→Option Nat} {ρ ρ2:Ren} (hs:∀ i k l,s i=some k→ρ i=some l→ρ2 k=some l):∀ (v:Value) {u v':Value},Xe0 s v=some u→VR ρ v v'→VR ρ2 u v':=by
 intro v u v' h hr
 unfold Xe0 at h
 split at h
 ·split at h<;>cases h
  rename_i hj
  cases hr with|ptr hl=>exact .ptr (hs _ _ _ hj hl)
 ·split at h<;>cases h
  rename_i hj
  cases hr with
  | slice hl hn hc=>exact .slice (hs _ _ _ hj hl) hn hc
  | slice0 a=>exact .slice0 a
 ·split at h<;>cases h
  rename_i ha hb
  cases hr with|func _ h1 h2=>exact .func _ (VRL.ren hs _ ha h1) (VRL.ren hs _ hb h2)
 ·split at h<;>cases h
  rename_i hj
  cases hr with|yield hl=>exact .yield (hs _ _ _ hj hl)
 ·cases h;cases hr;exact .tnil _ _
 ·split at h<;>cases h
  rename_i hj
  cases hr with|tsl _ hl hv=>exact .tsl _ (hs _ _ _ hj hl) hv
 ·split at h<;>cases h
  rename_i hj
  cases hr with|iface _ hl=>exact .iface _ (VR.ren hs _ hj hl)
 ·split at h<;>cases h
  rename_i hj
  cases hr with|agg hl=>exact .agg (VRL.ren hs _ hj hl)
 ·split at h<;>cases h
  rename_i hj
  cases hr with|tuple hl=>exact .tuple (VRL.ren hs _ hj hl)
 ·cases h;cases hr;exact .bool _
 ·cases h;cases hr;exact .int _ _
 ·cases h;cases hr;exact .string _
 ·cases h;cases hr;exact .junk _ _ (by assumption)
 ·cases h;cases hr;exact .nilp
 ·cases h;cases hr;exact .nils _
 ·cases h;cases hr;exact .nilf
 ·cases h;cases hr;exact .nili
 ·cases h
theorem VRL.ren {s:Nat→Option Nat} {ρ ρ2:Ren} (hs:∀ i k l,s i=some k→ρ i=some l→ρ2 k=some l):∀ (l:List Value) {u l':List Value},Xe0.renL s l=some u→VRL ρ l l'→VRL ρ2 u l':=by
 intro l u l' h hr
 cases l with
 | nil=>simp only [Xe0.renL,Option.some.injEq] at h;subst h;cases hr;exact .nil
 | cons v l=>
   simp only [Xe0.renL] at h
   split at h<;>try (cases h;done)
   rename_i v' hv
   split at h<;>try (cases h;done)
   rename_i k hk
   cases h
   cases hr with|cons h1 h2=>exact .cons (VR.ren hs _ hv h1) (VRL.ren hs _ hk h2)
end
theorem Xbt.any {ρ:Ren} {w:World} {l:Loc} {own:Bool} {cs:List Value} (h:Xbt ρ w l own cs) (hf:Xbm.flatL cs=true):∀ ρ',Xbt ρ' w l own cs:=fun _=>Xbt.move h hf
theorem XxF {ob:XbO} {x:List Value} (h:ob.wcs=some x):ob.cs=some x∧writable ob=true∧(ob=.cells x∨ob=.row true x):=by
 cases ob with
 | cells cs=>simp only [XbO.wcs,Option.some.injEq] at h;subst h;exact ⟨rfl,rfl,.inl rfl⟩
 | row own cs=>cases own<;>simp only [XbO.wcs] at h<;>cases h;exact ⟨rfl,rfl,.inr rfl⟩
 | _=>cases h
theorem Xbt.win {ρ:Ren} {w:World} {l:Loc} {own:Bool} {cs:List Value} (h:Xbt ρ w l own cs) {o n e:Nat} (hle:o+n≤cs.length) (hn:n≤e) (he:o+e≤l.ext):Xbt ρ w ⟨l.blk,l.sh+o,e⟩ own ((cs.drop o).take n):=by
 obtain ⟨g1,g2,g3⟩:=h
 have hlen:((cs.drop o).take n).length=n:=by simp;omega
 refine ⟨by simp only [hlen];omega,fun i v e=>?_,fun i hi=>?_⟩
 ·have hi:i<n:=by
   rcases Nat.lt_or_ge i n with h'|h'
   ·exact h'
   ·rw [List.getElem?_eq_none (by omega)] at e;cases e
  rw [List.getElem?_take_of_lt hi,List.getElem?_drop] at e
  obtain ⟨v',a,b⟩:=g2 (o+i) v e
  exact ⟨v',by rw [←a];simp [Nat.add_assoc],b⟩
 ·have:=g3 (o+i) (by simp only at hi;omega)
  simpa [Nat.add_assoc] using this
theorem Xbt.weak {ρ:Ren} {w:World} {l:Loc} {own:Bool} {cs:List Value} (h:Xbt ρ w l own cs):Xbt ρ w l false cs:=⟨h.1,h.2.1,fun i hi=>⟨(h.2.2 i hi).1,fun e=>by cases e⟩⟩
theorem XlE:∀ {os:List (Option XbO)} {k i:Nat} {o:XbO},XaD (Xqu k os) i=some o→k≤i∧os[i - k]?=some (some o)
 | [],k,i,o,e=>by simp [Xqu,XaD] at e
 | none::os,k,i,o,e=>by
   obtain ⟨h1,h2⟩:=XlE (os:=os) e
   exact ⟨by omega,by rw [show i - k=(i - (k+1))+1 by omega];simpa using h2⟩
 | some x::os,k,i,o,e=>by
   simp only [Xqu] at e
   have e':XaD ((k,x)::Xqu (k+1) os) i=if k=i then some x else XaD (Xqu (k+1) os) i:=by
    simp only [XaD]
    cases hb:Nat.beq k i with
    | true=>rw [if_pos (Nat.eq_of_beq_eq_true hb)];rfl
    | false=>rw [if_neg (fun e=>by subst e;simp at hb)];rfl
   rw [e'] at e
   split at e
   ·rename_i hk;cases e;subst hk;exact ⟨Nat.le_refl _,by simp⟩
   ·obtain ⟨h1,h2⟩:=XlE (os:=os) e
    exact ⟨by omega,by rw [show i - k=(i - (k+1))+1 by omega];simpa using h2⟩
def Xs6 (ρ:Ren):Wd→Option Loc
 | .no=>none
 | .emp _=>some ⟨0,0,0⟩
 | .win b off n true=>match ρ b with|some l=>some ⟨l.blk,l.sh+off,n⟩|none=>none
 | .win b off _ false=>match ρ b with|some l=>some ⟨l.blk,l.sh+off,l.ext - off⟩|none=>none
 | .blk b _=>ρ b
def XEo (ρ:Ren) (ws:List Wd):Ren:=fun i=>match ws[i]? with|some x=>Xs6 ρ x|none=>none
def isObj (o:XbO) (cs:List Value):Prop:=o=.row false cs∨o=.cells cs∨o=.row true cs
theorem isObj.cs {o:XbO} {cs:List Value} (h:isObj o cs):o.cs=some cs:=by rcases h with rfl|rfl|rfl<;>rfl
theorem isObj.objR {ρ:Ren} {w:World} {l:Loc} {o:XbO} {cs:List Value} (h:isObj o cs) (hc:Xbt ρ w l (writable o) cs):XmK P ρ w l o:=by rcases h with rfl|rfl|rfl<;>exact hc
theorem isObj.mk (k:Nat) (cs:List Value):isObj (mkObj k cs) cs∧writable (mkObj k cs)=isW k:=by
 unfold mkObj isW
 split
 ·exact ⟨.inl rfl,rfl⟩
 ·exact ⟨.inr (.inl rfl),rfl⟩
 ·rename_i h1 h2
  refine ⟨.inr (.inr rfl),?_⟩
  split
  ·rename_i h;exact absurd rfl h1
  ·rfl
def XQi (w:World) (H:Hp) (ρ ρc:Ren) (x:Wd) (o:XbO):Prop:=
 ∃ l cs,Xs6 ρ x=some l∧isObj o cs∧Xbt ρc w l (writable o) cs∧x.wr=writable o ∧
  (l.ext=0∧x.Xj4=none∨∃ b lb ob,x.Xj4=some b∧XaD H b=some ob∧ρ b=some lb∧l.blk=lb.blk∧lb.sh≤l.sh∧l.sh+l.ext≤lb.sh+lb.ext∧(x.wr=true→writable ob=true))
theorem VR.XV3 {ρ ρ':Ren} {s:Nat} {rv:Value} (h:VR ρ (.slice none 0 s) rv) (j sz:Nat):VR ρ' (.slice (some ⟨j,0,none⟩) 0 sz) rv:=by
 cases h;exact .slice0 none
theorem Xwc {ρ:Ren}:∀ {pats:List (Nat×Value)} {cs rcs:List Value},VRL ρ cs rcs→(∀ p∈pats,∀ r,rcs[p.1]?=some r→VR ρ p.2 r)→VRL ρ (Xqs cs pats) rcs
 | [],cs,rcs,h,_=>h
 | (i,x)::l,cs,rcs,h,hp=>by
   refine Xwc (pats:=l) ?_ (fun p hm=>hp p (by simp [hm]))
   cases hr:rcs[i]? with
   | none=>
     have:cs.set i x=cs:=List.set_eq_of_length_le (by rw [h.length];exact List.getElem?_eq_none_iff.1 hr)
     rw [this];exact h
   | some r=>
     have h1:=VRL.set i h (hp (i,x) (by simp) r hr)
     have:rcs.set i r=rcs:=by
      apply List.ext_getElem?
      intro j
      rw [List.getElem?_set]
      split
      ·rename_i e;subst e
       split
       ·exact hr.symm
       ·rename_i hl;rw [List.getElem?_eq_none (by omega)]
      ·rfl
     rw [this] at h1;exact h1
theorem Xbt.sets {ρ:Ren} {w:World} {l:Loc} {own:Bool}:∀ {pats:List (Nat×Value)} {cs:List Value},Xbt ρ w l own cs→(∀ p∈pats,∀ r,w.cell? ⟨l.blk,l.sh+p.1,none⟩=some r→VR ρ p.2 r)→Xbt ρ w l own (Xqs cs pats)
 | [],cs,h,_=>h
 | (i,x)::pats,cs,h,hp=>by
   refine Xbt.sets (pats:=pats) ?_ (fun p hm=>hp p (by simp [hm]))
   obtain ⟨g1,g2,g3⟩:=h
   refine ⟨by simpa using g1,fun j v e=>?_,g3⟩
   rw [List.getElem?_set] at e
   split at e
   ·rename_i hij;subst hij
    split at e
    ·rename_i hl
     cases e
     obtain ⟨v',a,_⟩:=g2 i _ (List.getElem?_eq_getElem hl)
     exact ⟨v',a,hp (i,x) (by simp) v' a⟩
    ·cases e
   ·exact g2 j v e
theorem Xq3 {v:Value} (h:∀ cs,v≠.agg ⟨cs⟩):XaX v=[v]:=by
 cases v<;>first|rfl|(rename_i a;exact absurd rfl (h a.toList))
theorem Xzq {ρ ρ':Ren} {v v' rv:Value} {pats:List (Nat×Value)} (h:VR ρ v rv) (h':VR ρ' v' rv) (hp:∀ p∈pats,∃ j sz s,p.2=.slice (some ⟨j,0,none⟩) 0 sz∧(XaX v)[p.1]?=some (.slice none 0 s)):VR ρ' (Xvk v' pats) rv:=by
 have hc:=h.cells
 have hc':=h'.cells
 have hx:∀ p∈pats,∀ r,(XaX rv)[p.1]?=some r→VR ρ' p.2 r:=fun p hm r hr=>by
  obtain ⟨j,sz,s,e,hn⟩:=hp p hm
  obtain ⟨r',e',hv⟩:=hc.get hn
  rw [show (XaX rv)[p.1]?=some r' from e'] at hr;cases hr
  rw [e];exact hv.XV3 _ _
 unfold Xvk
 split
 ·exact h'
 ·rename_i i x l
  split
  ·rename_i cs
   cases h' with|agg hl=>exact .agg (Xwc hl hx)
  ·rename_i hna
   obtain ⟨j,sz,s,e,hn⟩:=hp (i,x) (by simp)
   have hrv:∀ cs,rv≠.agg ⟨cs⟩:=fun cs e=>by
    subst e
    generalize hz:Value.agg ⟨cs⟩=z at h'
    cases h'<;>cases hz
    ·rename_i k n hj;simp [Vm.Xij] at hj
    ·rename_i hv';rcases hv' with ⟨_,e⟩|⟨_,e,_⟩<;>cases e
    ·exact hna _ rfl
   have hlen:=hc.length
   rw [Xq3 hrv] at hlen
   have hi:i=0:=by
    have:i<(XaX v).length:=by
     rcases Nat.lt_or_ge i (XaX v).length with h|h
     ·exact h
     ·rw [List.getElem?_eq_none h] at hn;cases hn
    simp at hlen;omega
   subst hi
   exact hx (0,x) (by simp) rv (by rw [Xq3 hrv];rfl)
theorem Xtl (h:Hp) (v:Value):∀ (ps:List Path) (bs:List PR),∃ rest,XhV h v ps bs=bs++rest∧rest.length=ps.length∧∀ (i:Nat) p,ps[i]?=some p→rest[i]?=some (XrW h v ((XhV h v ps bs).take (bs.length+i)) p)
 | [],bs=>⟨[],by simp [XhV],rfl,fun i p e=>by simp at e⟩
 | p::ps,bs=>by
   obtain ⟨rest,h1,h2,h3⟩:=Xtl h v ps (bs++[XrW h v bs p])
   refine ⟨XrW h v bs p::rest,by rw [XhV,h1];simp,by simp [h2],fun i q e=>?_⟩
   cases i with
   | zero=>
     simp at e;subst e
     rw [XhV,h1];simp
   | succ i=>
     have:=h3 i q (by simpa using e)
     rw [List.getElem?_cons_succ,this,XhV]
     simp only [List.length_append,List.length_singleton]
     rw [show bs.length+1+i=bs.length+(i+1) by omega]
theorem Xx5 {h:Hp} {v:Value} {ps:List Path} {i:Nat} {p:Path} (e:ps[i]?=some p):(XhV h v ps [])[i]?=some (XrW h v ((XhV h v ps []).take i) p):=by
 obtain ⟨rest,h1,_,h3⟩:=Xtl h v ps []
 have:=h3 i p e
 rw [h1] at this ⊢
 simpa using this
theorem XvZ {p:Path} {c:Option Value} {sz:Nat} (h:prOf p c=.nil sz):∃ s,c=some (.slice none 0 s):=by
 unfold prOf at h
 split at h
 ·cases h
 ·split at h
  ·exact ⟨_,rfl⟩
  ·split at h<;>cases h
theorem Xv1 {h:Hp} {v:Value} {ps:List Path} {i:Nat} {p:Path} {sz:Nat} (e:ps[i]?=some p) (hb:(XhV h v ps [])[i]?=some (.nil sz)) :
 (p.src=none→∃ s,(XaX v)[p.cell]?=some (.slice none 0 s))∧∀ j,p.src=some j→∃ b ob cs s,(XhV h v ps [])[j]?=some (.hit b)∧XaD h b=some ob∧ob.cs=some cs∧cs[p.cell]?=some (.slice none 0 s):=by
 rw [Xx5 e] at hb
 have hb:=Option.some.inj hb
 unfold XrW at hb
 refine ⟨fun hs=>?_,fun j hs=>?_⟩
 ·rw [hs] at hb;exact XvZ hb
 ·rw [hs] at hb
  simp only at hb
  split at hb<;>try (cases hb;done)
  rename_i b hj
  split at hb<;>try (cases hb;done)
  rename_i ob hob
  split at hb<;>try (cases hb;done)
  rename_i cs hcs
  obtain ⟨s,hn⟩:=XvZ hb
  refine ⟨b,ob,cs,s,?_,hob,hcs,hn⟩
  have hji:j<i:=by
   rcases Nat.lt_or_ge j i with h|h
   ·exact h
   ·rw [List.getElem?_eq_none (by simp;omega)] at hj;cases hj
  rwa [List.getElem?_take_of_lt hji] at hj
theorem Xnd:∀ {bs:List PR} {k b j:Nat},Xxn k bs b=some j→k≤j∧bs[j - k]?=some (.hit b)
 | [],k,b,j,h=>by simp [Xxn] at h
 | .no::bs,k,b,j,h=>by
   obtain ⟨h1,h2⟩:=Xnd (bs:=bs) (by simpa [Xxn] using h)
   exact ⟨by omega,by rw [show j - k=(j - (k+1))+1 by omega];simpa using h2⟩
 | .nil z::bs,k,b,j,h=>by
   obtain ⟨h1,h2⟩:=Xnd (bs:=bs) (by simpa [Xxn] using h)
   exact ⟨by omega,by rw [show j - k=(j - (k+1))+1 by omega];simpa using h2⟩
 | .hit c::bs,k,b,j,h=>by
   simp only [Xxn] at h
   cases hb:Nat.beq c b with
   | true=>
     rw [hb,cond_true] at h;cases h
     have:=Nat.eq_of_beq_eq_true hb;subst this
     exact ⟨Nat.le_refl _,by simp⟩
   | false=>
     rw [hb,cond_false] at h
     obtain ⟨h1,h2⟩:=Xnd (bs:=bs) h
     exact ⟨by omega,by rw [show j - k=(j - (k+1))+1 by omega];simpa using h2⟩
theorem XnX {src:Option Nat}:∀ {ps:List Path} {bs:List PR} {k:Nat} {x:Nat×Value},x∈Xm0 k src ps bs→∃ i p sz,ps[i]?=some p∧bs[i]?=some (.nil sz)∧p.src=src∧x.1=p.cell∧x.2=.slice (some ⟨k+i,0,none⟩) 0 sz
 | [],bs,k,x,h=>by simp [Xm0] at h
 | p::ps,[],k,x,h=>by simp [Xm0] at h
 | p::ps,y::bs,k,x,h=>by
   have up:x∈Xm0 (k+1) src ps bs→∃ i q sz,(p::ps)[i]?=some q∧(y::bs)[i]?=some (.nil sz)∧q.src=src∧x.1=q.cell∧x.2=.slice (some ⟨k+i,0,none⟩) 0 sz:=fun h=>by
    obtain ⟨i,q,sz,h1,h2,h3,h4,h5⟩:=XnX h
    exact ⟨i+1,q,sz,by simpa using h1,by simpa using h2,h3,h4,by rw [h5,show k+1+i=k+(i+1) by omega]⟩
   cases y with
   | no=>exact up (by simpa [Xm0] using h)
   | hit b=>exact up (by simpa [Xm0] using h)
   | nil sz=>
     simp only [Xm0] at h
     cases hb:p.src==src with
     | false=>rw [hb,cond_false] at h;exact up h
     | true=>
       rw [hb,cond_true] at h
       rcases List.mem_cons.1 h with h|h
       ·subst h;exact ⟨0,p,sz,rfl,rfl,by simpa using hb,rfl,by simp⟩
       ·exact up h
theorem Xr3:∀ {ps:List Path} {bs:List PR} {i:Nat} {x:Wd},(Xsv ps bs)[i]?=some x→∃ p y,ps[i]?=some p∧bs[i]?=some y∧x=(match y with|.no=>Wd.no|.nil _=>.emp (isW p.kind)|.hit b=>.blk b (isW p.kind))
 | [],bs,i,x,h=>by simp [Xsv] at h
 | p::ps,[],i,x,h=>by simp [Xsv] at h
 | p::ps,y::bs,0,x,h=>by
   refine ⟨p,y,rfl,rfl,?_⟩
   cases y<;>(simp only [Xsv,List.getElem?_cons_zero,Option.some.injEq] at h;exact h.symm)
 | p::ps,y::bs,i+1,x,h=>by
   obtain ⟨q,z,h1,h2,h3⟩:=Xr3 (ps:=ps) (bs:=bs) (i:=i) (x:=x) (by cases y<;>simpa [Xsv] using h)
   exact ⟨q,z,by simpa using h1,by simpa using h2,h3⟩
theorem Xsr:∀ {ps:List Path} {bs:List PR},bs.length=ps.length→(Xsv ps bs).length=ps.length
 | [],bs,_=>by simp [Xsv]
 | p::ps,[],h=>by simp at h
 | p::ps,y::bs,h=>by cases y<;>simp [Xsv,Xsr (ps:=ps) (bs:=bs) (by simpa using h)]
theorem Xra {h:Hp} {s:Nat→Option Nat} {pat:Option Nat→List (Nat×Value)}:∀ {ps:List Path} {bs:List PR} {i0:Nat} {l:List (Option XbO)},Xgy h s pat i0 ps bs=some l →
 l.length=ps.length∧∀ (i:Nat) p y,ps[i]?=some p→bs[i]?=some y→match y with
  | .no=>l[i]?=some none
  | .nil _=>l[i]?=some (some (mkObj p.kind []))
  | .hit b=>∃ ob cs cs',XaD h b=some ob∧(cond (isW p.kind) ob.wcs ob.cs)=some cs∧Xe0.renL s cs=some cs'∧l[i]?=some (some (mkObj p.kind (Xqs cs' (pat (some (i0+i))))))
 | [],[],i0,l,e=>by simp only [Xgy,Option.some.injEq] at e;subst e;exact ⟨rfl,fun i p y h=>by simp at h⟩
 | [],_::_,i0,l,e=>by simp [Xgy] at e
 | p::ps,[],i0,l,e=>by simp [Xgy] at e
 | p::ps,y::bs,i0,l,e=>by
   have up:∀ (o:Option XbO) (l':List (Option XbO)),Xgy h s pat (i0+1) ps bs=some l'→l=o::l'→(match y with
    | .no=>o=none
    | .nil _=>o=some (mkObj p.kind [])
    | .hit b=>∃ ob cs cs',XaD h b=some ob∧(cond (isW p.kind) ob.wcs ob.cs)=some cs∧Xe0.renL s cs=some cs'∧o=some (mkObj p.kind (Xqs cs' (pat (some i0))))) →
    l.length=(p::ps).length∧∀ (i:Nat) q z,(p::ps)[i]?=some q→(y::bs)[i]?=some z→match z with
     | .no=>l[i]?=some none
     | .nil _=>l[i]?=some (some (mkObj q.kind []))
     | .hit b=>∃ ob cs cs',XaD h b=some ob∧(cond (isW q.kind) ob.wcs ob.cs)=some cs∧Xe0.renL s cs=some cs'∧l[i]?=some (some (mkObj q.kind (Xqs cs' (pat (some (i0+i)))))):=fun o l' h1 h2 h3=>by
    obtain ⟨g1,g2⟩:=Xra h1
    subst h2
    refine ⟨by simp [g1],fun i q z hq hz=>?_⟩
    cases i with
    | zero=>
      simp at hq hz;subst hq;subst hz
      cases y with
      | no=>simp only at h3 ⊢;simp [h3]
      | nil _=>simp only at h3 ⊢;simp [h3]
      | hit b=>simp only at h3 ⊢;obtain ⟨ob,cs,cs',a,b',c,d⟩:=h3;exact ⟨ob,cs,cs',a,b',c,by simp [d]⟩
    | succ i=>
      have:=g2 i q z (by simpa using hq) (by simpa using hz)
      rw [show i0+1+i=i0+(i+1) by omega] at this
      cases z<;>simpa using this
   cases y with
   | no=>
     simp only [Xgy] at e
     split at e<;>cases e
     exact up none _ (by assumption) rfl rfl
   | nil z=>
     simp only [Xgy] at e
     split at e<;>cases e
     exact up _ _ (by assumption) rfl rfl
   | hit b=>
     simp only [Xgy] at e
     split at e<;>try (cases e;done)
     split at e<;>try (cases e;done)
     split at e<;>try (cases e;done)
     split at e<;>cases e
     exact up _ _ (by assumption) rfl ⟨_,_,_,by assumption,by assumption,by assumption,rfl⟩
theorem Xbt.ren {s:Nat→Option Nat} {ρ ρ2:Ren} {w:World} {l:Loc} {own:Bool} {cs cs':List Value} (h:Xbt ρ w l own cs) (hs:∀ i k l,s i=some k→ρ i=some l→ρ2 k=some l) (hr:Xe0.renL s cs=some cs'):Xbt ρ2 w l own cs':=by
 obtain ⟨g1,g2,g3⟩:=h
 obtain ⟨e1,e2⟩:=XrD hr
 refine ⟨by omega,fun i v e=>?_,g3⟩
 have hi:i<cs.length:=by
  rcases Nat.lt_or_ge i cs'.length with h|h
  ·omega
  ·rw [List.getElem?_eq_none h] at e;cases e
 obtain ⟨u,hu,hm⟩:=e2 i _ (List.getElem?_eq_getElem hi)
 rw [hm] at e;cases e
 obtain ⟨v',a,b⟩:=g2 i _ (List.getElem?_eq_getElem hi)
 exact ⟨v',a,VR.ren hs _ hu b⟩
theorem XCc {ρ:Ren} {w:World} {l:Loc} {ob:XbO} {cs:List Value} {k:Bool} (h:XmK P ρ w l ob) (hc:(cond k ob.wcs ob.cs)=some cs):Xbt ρ w l k cs∧ob.cs=some cs∧(k=true→writable ob=true):=by
 cases k with
 | true=>
   obtain ⟨e1,e2,e3⟩:=XxF hc
   exact ⟨by rcases e3 with rfl|rfl<;>exact h,e1,fun _=>e2⟩
 | false=>
   obtain ⟨own,g⟩:=h.cells hc
   exact ⟨g.weak,hc,fun e=>by cases e⟩
def XIp:Md→List Nat
 | .v=>[]
 | .sl _=>[0]
 | .pt _=>[1]
 | .tr ps=>ps.map (·.kind)
def Xvy:List Md→List Nat
 | []=>[]
 | m::ms=>XIp m++Xvy ms
def Xhs:List Nat→List (Option XbO)→Prop
 | [],[]=>True
 | k::ks,o::os=>(∀ x,o=some x→∃ cs,x=mkObj k cs)∧Xhs ks os
 | _,_=>False
theorem Xhs.append:∀ {ks ks':List Nat} {os os':List (Option XbO)},Xhs ks os→Xhs ks' os'→Xhs (ks++ks') (os++os')
 | [],_,[],_,_,h=>h
 | [],_,_::_,_,h,_=>h.elim
 | _::_,_,[],_,h,_=>h.elim
 | _::_,_,_::_,_,h,k=>⟨h.1,Xhs.append h.2 k⟩
theorem XkZ {h:Hp} {s:Nat→Option Nat} {pat:Option Nat→List (Nat×Value)}:∀ {ps:List Path} {bs:List PR} {i0:Nat} {l:List (Option XbO)},Xgy h s pat i0 ps bs=some l→Xhs (ps.map (·.kind)) l
 | [],[],i0,l,e=>by simp only [Xgy,Option.some.injEq] at e;subst e;trivial
 | [],_::_,i0,l,e=>by simp [Xgy] at e
 | p::ps,[],i0,l,e=>by simp [Xgy] at e
 | p::ps,y::bs,i0,l,e=>by
   cases y with
   | no=>
     simp only [Xgy] at e
     split at e<;>cases e
     exact ⟨fun x h=>(by cases h),XkZ (by assumption)⟩
   | nil z=>
     simp only [Xgy] at e
     split at e<;>cases e
     exact ⟨fun x h=>by cases h;exact ⟨_,rfl⟩,XkZ (by assumption)⟩
   | hit b=>
     simp only [Xgy] at e
     split at e<;>try (cases e;done)
     split at e<;>try (cases e;done)
     split at e<;>try (cases e;done)
     split at e<;>cases e
     exact ⟨fun x h=>by cases h;exact ⟨_,rfl⟩,XkZ (by assumption)⟩
theorem XrK {H:Hp} {k:Nat} {m:Md} {v a:Value} {os:List (Option XbO)} (hr:XcY H k m v=some (a,os)):Xhs (XIp m) os:=by
 cases m with
 | v=>simp only [XcY] at hr;split at hr<;>cases hr;trivial
 | sl sz=>
   unfold XcY at hr
   split at hr<;>try contradiction
   ·rename_i heq;cases heq;cases hr;exact ⟨fun x h=>by cases h;exact ⟨_,rfl⟩,trivial⟩
   ·rename_i heq;cases heq
    split at hr<;>try (cases hr;done)
    split at hr<;>try (cases hr;done)
    split at hr<;>try (cases hr;done)
    split at hr<;>try (cases hr;done)
    split at hr<;>cases hr
    exact ⟨fun x h=>by cases h;exact ⟨_,rfl⟩,trivial⟩
 | pt n=>
   unfold XcY at hr
   split at hr<;>try contradiction
   ·rename_i heq;cases heq;cases hr;exact ⟨fun x h=>(by cases h),trivial⟩
   ·rename_i heq;cases heq
    split at hr<;>try (cases hr;done)
    split at hr<;>try (cases hr;done)
    split at hr<;>try (cases hr;done)
    split at hr<;>cases hr
    exact ⟨fun x h=>by cases h;exact ⟨_,rfl⟩,trivial⟩
 | tr ps=>
   simp only [XcY] at hr
   split at hr<;>try (cases hr;done)
   split at hr<;>cases hr
   exact XkZ (by assumption)
theorem XmE {H:Hp}:∀ {ms:List Md} {vals aqs:List Value} {os:List (Option XbO)} {k:Nat},Xdj H k ms vals=some (aqs,os)→Xhs (Xvy ms) os
 | [],[],aqs,os,k,hr=>by simp only [Xdj,Option.some.injEq,Prod.mk.injEq] at hr;obtain ⟨rfl,rfl⟩:=hr;trivial
 | [],_::_,aqs,os,k,hr=>by simp [Xdj] at hr
 | _::_,[],aqs,os,k,hr=>by simp [Xdj] at hr
 | m::ms,v::vs,aqs,os,k,hr=>by
   simp only [Xdj] at hr
   split at hr<;>try (cases hr;done)
   split at hr<;>cases hr
   exact (XrK (by assumption)).append (XmE (by assumption))
theorem XxN {os:List (Option XbO)} (h:Xk6 os=[]):os=[]:=by
 cases os with
 | nil=>rfl
 | cons o os=>cases o<;>simp [Xk6] at h
theorem Xwq {k:Nat} {ks:List Nat} {os:List (Option XbO)} {cs:List Value} {l:List (Option (List Value))} (hk:Xhs (k::ks) os) (h:Xk6 os=some cs::l):∃ os',os=some (mkObj k cs)::os'∧Xhs ks os'∧Xk6 os'=l:=by
 cases os with
 | nil=>exact hk.elim
 | cons o os=>
   cases o with
   | none=>simp [Xk6] at h
   | some o=>
     obtain ⟨cs',rfl⟩:=hk.1 o rfl
     simp only [Xk6,(isObj.mk k cs').1.cs,List.cons.injEq,Option.some.injEq] at h
     obtain ⟨rfl,h⟩:=h
     exact ⟨os,rfl,hk.2,h⟩
theorem XwR {k:Nat} {ks:List Nat} {os:List (Option XbO)} {l:List (Option (List Value))} (hk:Xhs (k::ks) os) (h:Xk6 os=none::l):∃ os',os=none::os'∧Xhs ks os'∧Xk6 os'=l:=by
 cases os with
 | nil=>exact hk.elim
 | cons o os=>
   cases o with
   | none=>exact ⟨os,rfl,hk.2,by simpa [Xk6] using h⟩
   | some o=>
     obtain ⟨cs',rfl⟩:=hk.1 o rfl
     simp [Xk6,(isObj.mk k cs').1.cs] at h
theorem XuT {w0:World} {U:UG} {ρ ρc:Ren} {H:Hp} {top:Nat} {w:World} (h:HpR P w0 U ρ H top w) {k:Nat} {m:Md} {v a rv:Value} {os:List (Option XbO)} (hr:XcY H k m v=some (a,os)) (hv:VR ρ v rv)
 (hc:∀ (i:Nat) x,(XpU H m v)[i]?=some x→ρc (k+i)=Xs6 ρ x) :
 VR ρc a rv∧os.length=(XpU H m v).length∧∀ (i:Nat) x,(XpU H m v)[i]?=some x→(∀ o,os[i]?=some (some o)→XQi w H ρ ρc x o)∧(os[i]?=some none→x=.no):=by
 have flat:Xbm v=true→VR ρc v rv:=fun hf=>(VR.XfZ (s:=fun _=>none) v (XlX _ v hf) hv).mono (fun i l e=>by simp [comp] at e)
 cases m with
 | v=>
   simp only [XcY] at hr
   split at hr<;>cases hr
   exact ⟨flat (by assumption),rfl,fun i x e=>by simp [XpU] at e⟩
 | sl sz=>
   unfold XcY at hr
   split at hr<;>try contradiction
   ·rename_i heq;cases heq
    cases hr
    simp only [XpU] at hc ⊢
    have hk:=hc 0 _ rfl
    have e1:rv=.slice none 0 0:=by cases hv;rfl
    subst e1
    refine ⟨.slice0 _,rfl,fun i x e=>?_⟩
    cases i with
    | zero=>
      simp at e;subst e
      refine ⟨fun o ho=>?_,fun ho=>by simp at ho⟩
      simp at ho;subst ho
      exact ⟨⟨0,0,0⟩,[],rfl,.inl rfl,⟨Nat.zero_le _,fun i v e=>by simp at e,fun i hi=>absurd hi (Nat.not_lt_zero _)⟩,rfl,.inl ⟨rfl,rfl⟩⟩
    | succ i=>simp at e
   ·rename_i heq;cases heq
    split at hr<;>try (cases hr;done)
    rename_i b o n sz' hsz
    subst hsz
    split at hr<;>try (cases hr;done)
    rename_i ob hob
    split at hr<;>try (cases hr;done)
    rename_i cs hcs
    split at hr<;>try (cases hr;done)
    rename_i hle
    split at hr<;>cases hr
    rename_i hflat
    obtain ⟨l,hl,hor,_⟩:=h.obj b ob hob
    obtain ⟨own,hcr⟩:=hor.cells hcs
    have hext:cs.length≤l.ext:=hcr.1
    have hwin:Xbt ρc w ⟨l.blk,l.sh+o,l.ext - o⟩ false ((cs.drop o).take (n*sz)):=Xbt.any (hcr.win hle (by omega) (by omega)).weak hflat ρc
    simp only [XpU] at hc ⊢
    have hk:=hc 0 _ rfl
    simp only [Xs6,hl,Nat.add_zero] at hk
    refine ⟨?_,rfl,fun i x e=>?_⟩
    ·cases hv with
     | @slice _ _ _ _ c l0 hl0 hn hcc=>
       rw [hl] at hl0;cases hl0
       exact .slice hk hn (by simp only;omega)
     | slice0 a=>exact .slice0 _
    ·cases i with
     | zero=>
       simp at e;subst e
       refine ⟨fun o ho=>?_,fun ho=>by simp at ho⟩
       simp at ho;subst ho
       exact ⟨_,_,by simp only [Xs6,hl],.inl rfl,hwin,rfl,.inr ⟨b,l,ob,rfl,hob,hl,rfl,by simp,by simp only;omega,fun e=>by cases e⟩⟩
     | succ i=>simp at e
 | pt n=>
   unfold XcY at hr
   split at hr<;>try contradiction
   ·rename_i heq;cases heq
    cases hr
    exact ⟨flat rfl,rfl,fun i x e=>by
     simp only [XpU] at e
     cases i with
     | zero=>simp at e;subst e;exact ⟨fun o ho=>by simp at ho,fun _=>rfl⟩
     | succ i=>simp at e⟩
   ·rename_i heq;cases heq
    split at hr<;>try (cases hr;done)
    rename_i b o _ ob hob
    split at hr<;>try (cases hr;done)
    rename_i cs hcs
    split at hr<;>try (cases hr;done)
    rename_i hle
    split at hr<;>cases hr
    rename_i hflat
    obtain ⟨e1,e2,e3⟩:=XxF hcs
    obtain ⟨l,hl,hor,_⟩:=h.obj b ob hob
    have hcr:Xbt ρ w l true cs:=by rcases e3 with rfl|rfl<;>exact hor
    have hext:cs.length≤l.ext:=hcr.1
    simp only [XpU] at hc ⊢
    have hk:=hc 0 _ rfl
    simp only [Xs6,hl,Nat.add_zero] at hk
    refine ⟨?_,rfl,fun i x e=>?_⟩
    ·cases hv with
     | ptr hl0=>
       rw [hl] at hl0;cases hl0
       exact .ptr hk
    ·cases i with
     | zero=>
       simp at e;subst e
       refine ⟨fun o ho=>?_,fun ho=>by simp at ho⟩
       simp at ho;subst ho
       exact ⟨_,_,by simp only [Xs6,hl],.inr (.inl rfl),Xbt.any (hcr.win hle (Nat.le_refl _) (by omega)) hflat ρc,rfl,.inr ⟨b,l,ob,rfl,hob,hl,rfl,by simp,by simp only;omega,fun _=>e2⟩⟩
     | succ i=>simp at e
 | tr ps=>
   simp only [XcY] at hr
   simp only [XpU] at hc ⊢
   have hlen:(XhV H v ps []).length=ps.length:=by simp [XlJ]
   generalize hbs:XhV H v ps []=bs at *
   split at hr<;>try (cases hr;done)
   rename_i v' hv'
   split at hr<;>cases hr
   rename_i l hview
   have hsp:=Xra hview
   have hs:∀ i j lo,Xxn k bs i=some j→ρ i=some lo→ρc j=some lo:=fun i j lo h1 h2=>by
    obtain ⟨g1,g2⟩:=Xnd h1
    have hj:j - k<ps.length:=by
     rcases Nat.lt_or_ge (j - k) bs.length with h|h
     ·omega
     ·rw [List.getElem?_eq_none h] at g2;cases g2
    have hw:(Xsv ps bs)[j - k]?=some (.blk i (isW ps[j - k].kind)):=by
     have hl':j - k<(Xsv ps bs).length:=by rw [Xsr hlen];exact hj
     obtain ⟨p,y,q1,q2,q3⟩:=Xr3 (List.getElem?_eq_getElem hl')
     rw [g2] at q2;cases q2
     rw [List.getElem?_eq_getElem hj] at q1;cases q1
     rw [List.getElem?_eq_getElem hl',q3]
    have:=hc _ _ hw
    rw [show k+(j - k)=j by omega] at this
    rw [this];exact h2
   refine ⟨?_,by rw [hsp.1,Xsr hlen],fun i x e=>?_⟩
   ·refine Xzq hv (VR.ren hs v hv' hv) fun p hm=>?_
    obtain ⟨i,q,sz,q1,q2,q3,q4,q5⟩:=XnX hm
    subst hbs
    obtain ⟨s,hn⟩:=(Xv1 q1 q2).1 q3
    exact ⟨_,_,_,q5,by rw [q4];exact hn⟩
   ·obtain ⟨p,y,q1,q2,q3⟩:=Xr3 e
    have hvw:=hsp.2 i p y q1 q2
    cases y with
    | no=>
      simp only at hvw q3
      exact ⟨fun o ho=>by rw [hvw] at ho;simp at ho,fun _=>q3⟩
    | nil z=>
      simp only at hvw q3
      refine ⟨fun o ho=>?_,fun ho=>by rw [hvw] at ho;simp at ho⟩
      rw [hvw] at ho;simp at ho;subst ho;subst q3
      obtain ⟨m1,m2⟩:=isObj.mk p.kind []
      exact ⟨⟨0,0,0⟩,[],rfl,m1,⟨Nat.zero_le _,fun i v e=>by simp at e,fun i hi=>absurd hi (Nat.not_lt_zero _)⟩,m2.symm,.inl ⟨rfl,rfl⟩⟩
    | hit b=>
      simp only at hvw q3
      obtain ⟨ob,cs,cs',z1,z2,z3,z4⟩:=hvw
      refine ⟨fun o ho=>?_,fun ho=>by rw [z4] at ho;simp at ho⟩
      rw [z4] at ho;simp at ho;subst ho;subst q3
      obtain ⟨lb,hl,hor,_⟩:=h.obj b ob z1
      obtain ⟨c1,c2,c3⟩:=XCc hor z2
      obtain ⟨m1,m2⟩:=isObj.mk p.kind (Xqs cs' (Xm0 k (some i) ps bs))
      refine ⟨lb,_,hl,m1,?_,m2.symm,.inr ⟨b,lb,ob,rfl,z1,hl,rfl,Nat.le_refl _,Nat.le_refl _,c3⟩⟩
      rw [m2]
      refine (c1.ren hs z3).sets fun x hm r hr=>?_
      obtain ⟨j,q,sz,r1,r2,r3,r4,r5⟩:=XnX hm
      subst hbs
      obtain ⟨b',ob',cs2,s,n1,n2,n3,n4⟩:=(Xv1 r1 r2).2 i (by first|exact r3|(rw [r3,Nat.zero_add]))
      rw [q2] at n1;cases n1
      rw [z1] at n2;cases n2
      rw [c2] at n3;cases n3
      obtain ⟨r',g1,g2⟩:=c1.2.1 _ _ n4
      rw [r4,g1] at hr;cases hr
      rw [r5];exact g2.XV3 _ _
theorem Xvp {w0:World} {U:UG} {ρ ρc:Ren} {H:Hp} {top:Nat} {w:World} (h:HpR P w0 U ρ H top w):∀ {ms:List Md} {vals rvals aqs:List Value} {os:List (Option XbO)} {k:Nat},Xdj H k ms vals=some (aqs,os)→VRL ρ vals rvals →
 (∀ (i:Nat) x,(XkH H ms vals)[i]?=some x→ρc (k+i)=Xs6 ρ x) →
 VRL ρc aqs rvals∧os.length=(XkH H ms vals).length∧∀ (i:Nat) x,(XkH H ms vals)[i]?=some x→(∀ o,os[i]?=some (some o)→XQi w H ρ ρc x o)∧(os[i]?=some none→x=.no)
 | [],[],rvals,aqs,os,k,hr,hv,hc=>by
   simp only [Xdj,Option.some.injEq,Prod.mk.injEq] at hr;obtain ⟨rfl,rfl⟩:=hr;cases hv
   exact ⟨.nil,rfl,fun i x e=>by simp [XkH] at e⟩
 | m::ms,v::vs,rvals,aqs,os,k,hr,hv,hc=>by
   simp only [Xdj] at hr
   split at hr<;>try (cases hr;done)
   rename_i a os1 ha
   split at hr<;>cases hr
   rename_i as2 os2 has
   cases hv with|@cons _ v' _ l' h1 h2=>
   simp only [XkH] at hc ⊢
   obtain ⟨g1,g2,g3⟩:=XuT h ha h1 (ρc:=ρc) (fun i x e=>hc i x (by rw [List.getElem?_append_left];exact e;exact (List.getElem?_eq_some_iff.1 e).1))
   obtain ⟨k1,k2,k3⟩:=Xvp h has h2 (ρc:=ρc) (fun i x e=>by
    have:=hc ((XpU H m v).length+i) x (by rw [List.getElem?_append_right (by omega)];simpa using e)
    rw [←this,g2];congr 1;omega)
   refine ⟨.cons g1 k1,by simp [g2,k2],fun i x e=>?_⟩
   rcases Nat.lt_or_ge i (XpU H m v).length with hi|hi
   ·rw [List.getElem?_append_left hi] at e
    rw [List.getElem?_append_left (by omega)]
    exact g3 i x e
   ·rw [List.getElem?_append_right hi] at e
    rw [List.getElem?_append_right (by omega),g2]
    exact k3 _ x e
 | [],_::_,_,_,_,_,hr,_,_=>by simp [Xdj] at hr
 | _::_,[],_,_,_,_,hr,_,_=>by simp [Xdj] at hr
end
section
variable {P:Program} {F:Fns} {S:Xm2}
theorem XlR {α:Type} (k:Nat) (x:α) (l:List (Nat×α)) (i:Nat):XaD ((k,x)::l) i=if k=i then some x else XaD l i:=by
 simp only [XaD]
 cases hb:Nat.beq k i with
 | true=>rw [if_pos (Nat.eq_of_beq_eq_true hb)];rfl
 | false=>rw [if_neg (fun e=>by subst e;simp at hb)];rfl
theorem XhQ {b:Nat} {wr:Bool}:∀ {ws:List Wd},XkO b wr ws=true→∀ x∈ws,x.Xj4=some b→wr=false∧x.wr=false
 | [],_,x,h,_=>by cases h
 | y::l,h,x,hx,e=>by
   simp only [XkO] at h
   rcases List.mem_cons.1 hx with rfl|hx
   ·rw [e] at h
    simp only [Nat.beq_refl,cond_true] at h
    cases h1:wr<;>cases h2:x.wr<;>simp_all
   ·cases hy:y.Xj4 with
    | none=>rw [hy] at h;exact XhQ h x hx e
    | some c=>
      rw [hy] at h
      simp only at h
      cases hb:Nat.beq b c with
      | false=>rw [hb,cond_false] at h;exact XhQ h x hx e
      | true=>
        rw [hb,cond_true] at h
        cases h1:wr<;>cases h2:y.wr<;>simp only [h1,h2,cond_true,cond_false] at h<;>try (cases h;done)
        exact XhQ h x hx e
theorem Xep {x:Wd} {ws:List Wd} (h:apartB (x::ws)=true):apartB ws=true∧∀ b,x.Xj4=some b→XkO b x.wr ws=true:=by
 simp only [apartB] at h
 cases hx:x.Xj4 with
 | none=>rw [hx] at h;exact ⟨h,fun b e=>by cases e⟩
 | some b=>
   rw [hx] at h
   simp only at h
   cases hb:XkO b x.wr ws with
   | true=>rw [hb,cond_true] at h;exact ⟨h,fun c e=>by cases e;exact hb⟩
   | false=>rw [hb,cond_false] at h;cases h
theorem XmL:∀ {ws:List Wd},apartB ws=true→∀ (i j:Nat) x y b,i≠j→ws[i]?=some x→ws[j]?=some y→x.Xj4=some b→y.Xj4=some b→x.wr=false∧y.wr=false
 | [],_,i,j,x,y,b,_,hx,_,_,_=>by simp at hx
 | z::ws,h,0,0,x,y,b,hij,_,_,_,_=>absurd rfl hij
 | z::ws,h,0,j+1,x,y,b,hij,hx,hy,hb,hc=>by
   simp at hx;subst hx
   exact XhQ ((Xep h).2 b hb) y (List.mem_of_getElem? (by simpa using hy)) hc
 | z::ws,h,i+1,0,x,y,b,hij,hx,hy,hb,hc=>by
   simp at hy;subst hy
   exact (XhQ ((Xep h).2 b hc) x (List.mem_of_getElem? (by simpa using hx)) hb).symm
 | z::ws,h,i+1,j+1,x,y,b,hij,hx,hy,hb,hc=>XmL (Xep h).1 i j x y b (by omega) (by simpa using hx) (by simpa using hy) hb hc
theorem Apart.sub {a b a' b':Loc} (h:Apart a b) (h1:a'.blk=a.blk) (h2:a.sh≤a'.sh) (h3:a'.sh+a'.ext≤a.sh+a.ext) (h4:b'.blk=b.blk) (h5:b.sh≤b'.sh) (h6:b'.sh+b'.ext≤b.sh+b.ext):Apart a' b':=
 fun k e k1 k2 k3 k4=>h k (by rw [←h1,←h4];exact e) (by omega) (by omega) (by omega) (by omega)
theorem Xur {w0 w:World} {U:UG} {H:Hp} {top:Nat} {ρ ρc:Ren} (hh:HpR P w0 U ρ H top w) {ws:List Wd} (hap:apartB ws=true) {i j:Nat} {x y:Wd} {o o':XbO} {l l':Loc} (hij:i≠j) (hx:ws[i]?=some x) (hy:ws[j]?=some y)
 (h1:XQi w H ρ ρc x o) (h2:XQi w H ρ ρc y o') (hl:Xs6 ρ x=some l) (hl':Xs6 ρ y=some l') (hw:writable o=true∨writable o'=true):Apart l l':=by
 intro k ek k1 k2 k3 k4
 obtain ⟨l1,cs1,a1,_,_,a4,a5⟩:=h1
 obtain ⟨l2,cs2,b1,_,_,b4,b5⟩:=h2
 rw [hl] at a1;cases a1
 rw [hl'] at b1;cases b1
 rcases a5 with ⟨h0,_⟩|⟨b,lb,ob,g1,g2,g3,g4,g5,g6,g7⟩
 ·omega
 ·rcases b5 with ⟨h0,_⟩|⟨b',lb',ob',f1,f2,f3,f4,f5,f6,f7⟩
  ·omega
  ·by_cases hbb:b=b'
   ·subst hbb
    obtain ⟨e1,e2⟩:=XmL hap i j x y b hij hx hy g1 f1
    rw [a4] at e1;rw [b4] at e2
    rcases hw with hw|hw<;>simp_all
   ·have ap:Apart lb lb':=by
     rcases hw with hw|hw
     ·exact hh.dis _ _ _ _ _ _ hbb g2 f2 g3 f3 (g7 (a4.trans hw))
     ·exact (hh.dis _ _ _ _ _ _ (Ne.symm hbb) f2 g2 f3 g3 (f7 (b4.trans hw))).symm
    exact ap.sub g4 g5 g6 f4 f5 f6 k ek k1 k2 k3 k4
theorem Keep.cell {u:Nat→Nat→Prop} {w w':World} (h:Keep (.of u) w w') {b k:Nat} (hb:b<w.heap.size) (hu:¬ u b k) (h0:(w.cell? ⟨b,k,none⟩).isSome=true) :
 w'.cell? ⟨b,k,none⟩=w.cell? ⟨b,k,none⟩∧w'.frozen? ⟨b,k,none⟩=w.frozen? ⟨b,k,none⟩:=by
 have:=h.block b hb
 cases hx:w.heap[b]? with
 | none=>rw [World.cell?,hx] at h0;simp at h0
 | some x=>
   cases x with
   | cells arr T fr=>
     rw [hx] at this
     obtain ⟨arr',fr',e,s,q,g⟩:=this
     have hk:k<arr.size:=by simpa [World.cell?,hx] using h0
     obtain ⟨g1,g2⟩:=g k hu
     simp only [World.cell?,World.frozen?,hx,e]
     refine ⟨g1,?_⟩
     have:=g2 hk
     obtain ⟨fa,fb⟩:=fr
     obtain ⟨ga,gb⟩:=fr'
     simp only at this ⊢
     rw [Bool.eq_iff_iff]
     simpa using this.symm
   | _=>simp [World.cell?,hx] at h0
theorem Keep.other {u:Nat→Nat→Prop} {w w':World} (h:Keep (.of u) w w') {b:Nat} (hb:b<w.heap.size) (hu:¬ u b 0) (hn:∀ c t f,w.heap[b]?≠some (.cells c t f)):w'.heap[b]?=w.heap[b]?:=by
 have:=h.block b hb
 cases hx:w.heap[b]? with
 | none=>rw [Array.getElem?_eq_none_iff] at hx;omega
 | some x=>
   rw [hx] at this
   cases x with
   | cells arr T fr=>exact absurd hx (hn _ _ _)
   | _=>
     rcases this with hz|he
     ·exact absurd hz hu
     ·exact he
theorem Keep.trans {U:UG} {u:Nat→Nat→Prop} {w0 w w':World} (h:Keep U w0 w) (k:Keep (.of u) w w') (hu:∀ b i,u b i→U.u b i∨w0.heap.size≤b):Keep U w0 w' where
 os:=k.os.trans h.os
 tape:=k.tape.trans h.tape
 output:=k.output.trans h.output
 size:=Nat.le_trans h.size k.size
 block b hb:=by
  have h1:=h.block b hb
  have h2:=k.block b (Nat.lt_of_lt_of_le hb h.size)
  have hz:∀ i,¬ U.u b i→¬ u b i:=fun i hn hx=>by
   rcases hu b i hx with h'|h'
   ·exact hn h'
   ·omega
  cases hx:w0.heap[b]? with
  | none=>rw [Array.getElem?_eq_none_iff] at hx;omega
  | some x=>
    rw [hx] at h1
    cases x with
    | cells arr T fr=>
      obtain ⟨arr',fr',e1,s1,q1,g1⟩:=h1
      rw [e1] at h2
      obtain ⟨arr2,fr2,e2,s2,q2,g2⟩:=h2
      refine ⟨arr2,fr2,e2,s2.trans s1,?_,fun i hi=>⟨((g2 i (hz i hi)).1).trans (g1 i hi).1,fun hk=>((g1 i hi).2 hk).trans ((g2 i (hz i hi)).2 (by omega))⟩⟩
      rcases q2 with q2|⟨i,hi⟩
      ·rcases q1 with q1|q1
       ·exact .inl (q2.trans q1)
       ·exact .inr q1
      ·rcases hu b i hi with h'|h'
       ·exact .inr ⟨i,h'⟩
       ·omega
    | _=>
      rcases h1 with h1|h1
      ·exact .inl h1
      ·rw [h1] at h2
       rcases h2 with h2|h2
       ·by_cases hU:U.u b 0
        ·exact .inl hU
        ·exact absurd h2 (hz 0 hU)
       ·exact .inr (h2.trans rfl)
theorem Keep.shape {u:Nat→Nat→Prop} {w w':World} (h:Keep (.of u) w w') {b:Nat} (hb:b<w.heap.size) {x:TypeId×Nat} (hx:w.shape? b=some x):w'.shape? b=some x:=by
 have:=h.block b hb
 unfold World.shape? at hx ⊢
 split at hx
 ·rename_i c e f hh
  rw [hh] at this
  obtain ⟨arr',fr',e1,s,_⟩:=this
  rw [e1];simp only [s];exact hx
 ·cases hx
theorem XmK.keep {u:Nat→Nat→Prop} {w w':World} (hk:Keep (.of u) w w') {ρ ρ':Ren} (x:Ext ρ ρ') {l:Loc} {o:XbO} (q2:XmK P ρ w l o) (hu:∀ q,q<l.ext→¬ u l.blk (l.sh+q)):XmK P ρ' w' l o:=by
 have h0:(∀ cs own,o≠.cells cs∧o≠.row own cs)→(∀ t cs,o≠.ty t cs)→0<l.ext→l.sh=0∧l.ext=1∧w'.heap[l.blk]?=w.heap[l.blk]?:=fun hn hm he=>by
  cases o with
  | cells cs=>exact absurd rfl (hn cs true).1
  | row own cs=>exact absurd rfl (hn cs own).2
  | ty t cs=>exact absurd rfl (hm t cs)
  | siter sb p=>exact ⟨q2.2.1,q2.2.2,Keep.other hk (q2.lt he) (by have:=hu 0 he;rwa [q2.2.1] at this) (by rw [q2.1];simp)⟩
  | loop r=>exact ⟨q2.2.1,q2.2.2,Keep.other hk (q2.lt he) (by have:=hu 0 he;rwa [q2.2.1] at this) (by obtain ⟨⟨r',a,_⟩,_⟩:=q2;rw [a];simp)⟩
  | marks=>exact ⟨q2.2.1,q2.2.2,Keep.other hk (q2.lt he) (by have:=hu 0 he;rwa [q2.2.1] at this) (by rw [q2.1];simp)⟩
 refine q2.stay x (fun q hq=>?_) (fun q hq=>?_) (fun hn he=>?_) (fun he y hy=>Keep.shape hk (q2.lt he) hy)
 ·cases o with
  | cells cs'=>exact (Keep.cell hk (q2.lt (by omega)) (hu q hq) (q2.2.2 q hq).1).1
  | row own cs'=>exact (Keep.cell hk (q2.lt (by omega)) (hu q hq) (q2.2.2 q hq).1).1
  | ty t cs'=>exact (Keep.cell hk (XmK.lt q2 (by omega)) (hu q hq) (q2.1.2.2 q hq).1).1
  | siter sb p=>exact World.cell?_of_block (w:=w) (h0 (fun _ _=>⟨by simp,by simp⟩) (fun _ _=>by simp) (by omega)).2.2
  | loop r=>exact World.cell?_of_block (w:=w) (h0 (fun _ _=>⟨by simp,by simp⟩) (fun _ _=>by simp) (by omega)).2.2
  | marks=>exact World.cell?_of_block (w:=w) (h0 (fun _ _=>⟨by simp,by simp⟩) (fun _ _=>by simp) (by omega)).2.2
 ·cases o with
  | cells cs'=>exact (Keep.cell hk (q2.lt (by omega)) (hu q hq) (q2.2.2 q hq).1).2
  | row own cs'=>exact (Keep.cell hk (q2.lt (by omega)) (hu q hq) (q2.2.2 q hq).1).2
  | ty t cs'=>exact (Keep.cell hk (XmK.lt q2 (by omega)) (hu q hq) (q2.1.2.2 q hq).1).2
  | siter sb p=>exact World.frozen?_of_block (w:=w) (h0 (fun _ _=>⟨by simp,by simp⟩) (fun _ _=>by simp) (by omega)).2.2
  | loop r=>exact World.frozen?_of_block (w:=w) (h0 (fun _ _=>⟨by simp,by simp⟩) (fun _ _=>by simp) (by omega)).2.2
  | marks=>exact World.frozen?_of_block (w:=w) (h0 (fun _ _=>⟨by simp,by simp⟩) (fun _ _=>by simp) (by omega)).2.2
 ·have nocell:∀ own cs',Xbt ρ w l own cs'→False:=fun own cs' hc=>by
   have:=(hc.2.2 0 he).1
   unfold World.cell? at this
   cases hh':w.heap[l.blk]? with
   | none=>simp [hh'] at this
   | some y=>cases y<;>simp [hh'] at this<;>exact hn _ _ _ hh'
  cases o with
  | cells cs'=>exact (nocell _ _ q2).elim
  | row own cs'=>exact (nocell _ _ q2).elim
  | ty t cs'=>exact (nocell _ _ q2.1).elim
  | siter sb p=>exact (h0 (fun _ _=>⟨by simp,by simp⟩) (fun _ _=>by simp) he).2.2
  | loop r=>exact (h0 (fun _ _=>⟨by simp,by simp⟩) (fun _ _=>by simp) he).2.2
  | marks=>exact (h0 (fun _ _=>⟨by simp,by simp⟩) (fun _ _=>by simp) he).2.2
structure WB (s:Nat→Option Nat) (H H1:Hp) (ws:List Wd) (wr:List (Option (List Value))):Prop where
 same:∀ b,(∀ (i:Nat) x,ws[i]?=some x→x.wr=true→x.Xj4≠some b)→XaD H1 b=XaD H b
 win:∀ (i:Nat) b off n,ws[i]?=some (.win b off n true)→∃ c c' ob x ob',wr[i]?=some (some c)∧XaD H b=some ob∧ob.wcs=some x∧Xe0.renL s c=some c'∧(c'.length=n∧off+n≤x.length)∧ob.wr (setAt x off c')=some ob'∧XaD H1 b=some ob'
 blk:∀ (i:Nat) b,ws[i]?=some (.blk b true)→XaD H1 b=none∨∃ c c' ob ob',wr[i]?=some (some c)∧XaD H b=some ob∧(∃ y,ob.wcs=some y)∧Xe0.renL s c=some c'∧ob.wr c'=some ob'∧XaD H1 b=some ob'
theorem WB.skip {s:Nat→Option Nat} {H H1:Hp} {x:Wd} {c:Option (List Value)} {ws:List Wd} {wr:List (Option (List Value))} (h:WB s H H1 ws wr) (hx:x.wr=false∨x.Xj4=none):WB s H H1 (x::ws) (c::wr) where
 same b hb:=h.same b fun i y hy hw=>hb (i+1) y (by simpa using hy) hw
 win i b off n hi:=by
  cases i with
  | zero=>simp at hi;subst hi;rcases hx with hx|hx<;>cases hx
  | succ i=>simpa using h.win i b off n (by simpa using hi)
 blk i b hi:=by
  cases i with
  | zero=>simp at hi;subst hi;rcases hx with hx|hx<;>cases hx
  | succ i=>simpa using h.blk i b (by simpa using hi)
theorem WB.step {s:Nat→Option Nat} {H H0 H1:Hp} {x:Wd} {c:Option (List Value)} {ws:List Wd} {wr:List (Option (List Value))} {b0:Nat} (h:WB s H0 H1 ws wr) (hx:x.wr=true) (hb0:x.Xj4=some b0) (hu:XkO b0 x.wr ws=true)
 (hne:∀ b,b≠b0→XaD H0 b=XaD H b)
 (hw:∀ off n,x=.win b0 off n true→∃ d c' ob y ob',c=some d∧XaD H b0=some ob∧ob.wcs=some y∧Xe0.renL s d=some c'∧(c'.length=n∧off+n≤y.length)∧ob.wr (setAt y off c')=some ob'∧XaD H0 b0=some ob')
 (hk:x=.blk b0 true→XaD H0 b0=none∨∃ d c' ob ob',c=some d∧XaD H b0=some ob∧(∃ y,ob.wcs=some y)∧Xe0.renL s d=some c'∧ob.wr c'=some ob'∧XaD H0 b0=some ob'):WB s H H1 (x::ws) (c::wr):=by
 have hrest:∀ (i:Nat) y,ws[i]?=some y→y.wr=true→y.Xj4≠some b0:=fun i y hy hyw e=>by
  have:=(XhQ hu y (List.mem_of_getElem? hy) e).2
  rw [hyw] at this;cases this
 have h0:XaD H1 b0=XaD H0 b0:=h.same b0 hrest
 refine ⟨fun b hb=>?_,fun i b off n hi=>?_,fun i b hi=>?_⟩
 ·have:b≠b0:=fun e=>hb 0 x rfl hx (by rw [e];exact hb0)
  rw [h.same b fun i y hy hw=>hb (i+1) y (by simpa using hy) hw,hne b this]
 ·cases i with
  | zero=>
    simp at hi;subst hi
    simp only [Wd.Xj4,Option.some.injEq] at hb0;subst hb0
    obtain ⟨d,c',ob,y,ob',rfl,r⟩:=hw off n rfl
    exact ⟨d,c',ob,y,ob',rfl,by rw [h0];exact r⟩
  | succ i=>
    have hi':ws[i]?=some (.win b off n true):=by simpa using hi
    obtain ⟨d,c',ob,y,ob',r1,r2,r3⟩:=h.win i b off n hi'
    have:b≠b0:=fun e=>hrest i _ hi' rfl (by rw [e];rfl)
    exact ⟨d,c',ob,y,ob',by simpa using r1,by rw [←hne b this];exact r2,r3⟩
 ·cases i with
  | zero=>
    simp at hi;subst hi
    simp only [Wd.Xj4,Option.some.injEq] at hb0;subst hb0
    rcases hk rfl with hk|⟨d,c',ob,ob',rfl,r⟩
    ·exact .inl (h0.trans hk)
    ·exact .inr ⟨d,c',ob,ob',rfl,by rw [h0];exact r⟩
  | succ i=>
    have hi':ws[i]?=some (.blk b true):=by simpa using hi
    have:b≠b0:=fun e=>hrest i _ hi' rfl (by rw [e];rfl)
    rcases h.blk i b hi' with r|⟨d,c',ob,ob',r1,r2,r3⟩
    ·exact .inl r
    ·exact .inr ⟨d,c',ob,ob',by simpa using r1,by rw [←hne b this];exact r2,r3⟩
theorem XhM (s:Nat→Option Nat):∀ {ws:List Wd} {wr:List (Option (List Value))} {H H1:Hp},apartB ws=true→XdF H s ws wr=some H1→WB s H H1 ws wr
 | [],[],H,H1,_,h=>by
   simp only [XdF,Option.some.injEq] at h;subst h
   exact ⟨fun _ _=>rfl,fun i b off n e=>by simp at e,fun i b e=>by simp at e⟩
 | [],_::_,H,H1,_,h=>by simp [XdF] at h
 | x::ws,[],H,H1,_,hr=>by
   cases x with
   | win b off n wr=>cases wr<;>simp [XdF] at hr
   | blk b wr=>cases wr<;>simp [XdF] at hr
   | _=>simp [XdF] at hr
 | .no::ws,c::cs,H,H1,ha,hr=>(XhM s (Xep ha).1 (by simpa [XdF] using hr)).skip (.inr rfl)
 | .emp w::ws,c::cs,H,H1,ha,hr=>(XhM s (Xep ha).1 (by simpa [XdF] using hr)).skip (.inr rfl)
 | .win b off n false::ws,c::cs,H,H1,ha,hr=>(XhM s (Xep ha).1 (by simpa [XdF] using hr)).skip (.inl rfl)
 | .blk b false::ws,c::cs,H,H1,ha,hr=>(XhM s (Xep ha).1 (by simpa [XdF] using hr)).skip (.inl rfl)
 | .win b off n true::ws,none::cs,H,H1,ha,hr=>by simp [XdF] at hr
 | .win b off n true::ws,some c::cs,H,H1,ha,hr=>by
   simp only [XdF] at hr
   split at hr<;>try (cases hr;done)
   rename_i ob hob
   split at hr<;>try (cases hr;done)
   rename_i x hx
   split at hr<;>try (cases hr;done)
   rename_i c' hc'
   split at hr<;>try (cases hr;done)
   rename_i hc
   split at hr<;>try (cases hr;done)
   rename_i ob' hob'
   refine (XhM s (Xep ha).1 hr).step rfl rfl ((Xep ha).2 b rfl) (fun d hd=>Xcb _ _ (Ne.symm hd)) (fun off' n' e=>?_) (fun e=>by cases e)
   cases e
   exact ⟨c,c',ob,x,ob',rfl,hob,hx,hc',hc,hob',XbI _ _ _⟩
 | .blk b true::ws,none::cs,H,H1,ha,hr=>by
   simp only [XdF] at hr
   exact (XhM s (Xep ha).1 hr).step rfl rfl ((Xep ha).2 b rfl) (fun d hd=>XgB _ (Ne.symm hd)) (fun off' n' e=>by cases e) (fun _=>.inl (Xgh _ _))
 | .blk b true::ws,some c::cs,H,H1,ha,hr=>by
   simp only [XdF] at hr
   split at hr<;>try (cases hr;done)
   rename_i ob hob
   split at hr<;>try (cases hr;done)
   rename_i y hy
   split at hr<;>try (cases hr;done)
   rename_i c' hc'
   split at hr<;>try (cases hr;done)
   rename_i ob' hob'
   exact (XhM s (Xep ha).1 hr).step rfl rfl ((Xep ha).2 b rfl) (fun d hd=>Xcb _ _ (Ne.symm hd)) (fun off' n' e=>by cases e) (fun _=>.inr ⟨c,c',ob,ob',rfl,hob,⟨y,hy⟩,hc',hob',XbI _ _ _⟩)
theorem Xqf {s:Nat→Option Nat}:∀ {new:List (List Value)} {H H':Hp} {top:Nat},Xi8 H s top new=some H'→(∀ b,b<top∨top+new.length≤b→XaD H' b=XaD H b)∧∀ (i:Nat) c,new[i]?=some c→∃ c',Xe0.renL s c=some c'∧XaD H' (top+i)=some (.row true c')
 | [],H,H',top,h=>by simp only [Xi8,Option.some.injEq] at h;subst h;exact ⟨fun _ _=>rfl,fun i c e=>by simp at e⟩
 | c::new,H,H',top,h=>by
   simp only [Xi8] at h
   split at h<;>try (cases h;done)
   rename_i c' hc'
   obtain ⟨g1,g2⟩:=Xqf h
   refine ⟨fun b hb=>?_,fun i d e=>?_⟩
   ·simp only [List.length_cons] at hb
    rw [g1 b (by omega),Xcb _ _ (by omega)]
   ·cases i with
    | zero=>simp at e;subst e;exact ⟨c',hc',by rw [Nat.add_zero,g1 top (by omega),XbI]⟩
    | succ i=>
      obtain ⟨d',e1,e2⟩:=g2 i d (by simpa using e)
      exact ⟨d',e1,by rw [←e2];congr 1;omega⟩
theorem XpB:∀ (n:Nat) {H:Hp} {m:Nat},(∀ b,b<m∨m+n≤b→XaD (Xjy H m n) b=XaD H b)∧∀ b,m≤b→b<m+n→XaD (Xjy H m n) b=some (.row true [])
 | 0,H,m=>⟨fun _ _=>rfl,fun b h1 h2=>by omega⟩
 | n+1,H,m=>by
   obtain ⟨g1,g2⟩:=XpB n (H:=Xgp H m (.row true [])) (m:=m+1)
   refine ⟨fun b hb=>?_,fun b h1 h2=>?_⟩
   ·simp only [Xjy];rw [g1 b (by omega),Xcb _ _ (by omega)]
   ·simp only [Xjy]
    by_cases hb:b=m
    ·subst hb;rw [g1 b (by omega),XbI]
    ·exact g2 b (by omega) (by omega)
theorem Xtx:∀ {ws:List Wd} {m j k:Nat},XwU m ws j=some k→(∃ b wr,ws[j]?=some (.blk b wr)∧k=b)∨(∃ w,ws[j]?=some (.emp w)∧m≤k∧k<m+Xlu ws)
 | [],m,j,k,h=>by simp [XwU] at h
 | x::ws,m,0,k,h=>by
   cases x with
   | blk b wr=>simp only [XwU,Option.some.injEq] at h;subst h;exact .inl ⟨b,wr,rfl,rfl⟩
   | emp w=>simp only [XwU,Option.some.injEq] at h;subst h;exact .inr ⟨w,rfl,Nat.le_refl _,by simp only [Xlu];omega⟩
   | _=>simp [XwU] at h
 | x::ws,m,j+1,k,h=>by
   have up:∀ m',XwU m' ws j=some k→m≤m'→m'+Xlu ws≤m+Xlu (x::ws)→(∃ b wr,(x::ws)[j+1]?=some (.blk b wr)∧k=b)∨(∃ w,(x::ws)[j+1]?=some (.emp w)∧m≤k∧k<m+Xlu (x::ws)):=fun m' h1 h2 h3=>by
    rcases Xtx h1 with ⟨b,wr,e1,e2⟩|⟨w,e1,e2,e3⟩
    ·exact .inl ⟨b,wr,by simpa using e1,e2⟩
    ·exact .inr ⟨w,by simpa using e1,by omega,by omega⟩
   cases x with
   | emp w=>exact up (m+1) (by simpa [XwU] using h) (by omega) (by simp only [Xlu];omega)
   | no=>exact up m (by simpa [XwU] using h) (Nat.le_refl _) (by simp [Xlu])
   | win=>exact up m (by simpa [XwU] using h) (Nat.le_refl _) (by simp [Xlu])
   | blk=>exact up m (by simpa [XwU] using h) (Nat.le_refl _) (by simp [Xlu])
theorem XsI {H:Hp} {s:Nat→Option Nat}:∀ {js:List Nat} {new:List (List Value)},Xt6 H s js new→js.length=new.length∧∀ (i:Nat) j,js[i]?=some j→∃ c c',new[i]?=some c∧Xe0.renL s c=some c'∧Has H j c'
 | [],[],_=>⟨rfl,fun i j e=>by simp at e⟩
 | j::js,c::new,h=>by
   obtain ⟨h1,h2⟩:=XsI h.2
   refine ⟨by simp [h1],fun i x e=>?_⟩
   cases i with
   | zero=>simp at e;subst e;obtain ⟨c',a,b⟩:=h.1;exact ⟨c,c',rfl,a,b⟩
   | succ i=>simpa using h2 i x (by simpa using e)
 | [],_::_,h=>h.elim
 | _::_,[],h=>h.elim
theorem Xrw {H:Hp} {s:Nat→Option Nat}:∀ {wr:List (Option (List Value))} {k:Nat},XBT H s k wr→∀ (i:Nat) c,wr[i]?=some (some c)→∃ c',Xe0.renL s c=some c'∧Has H (k+i) c'
 | [],k,h,i,c,e=>by simp at e
 | none::wr,k,h,i,c,e=>by
   cases i with
   | zero=>simp at e
   | succ i=>
     obtain ⟨c',a,b⟩:=Xrw (k:=k+1) (wr:=wr) h i c (by simpa using e)
     exact ⟨c',a,by rw [show k+(i+1)=k+1+i by omega];exact b⟩
 | some d::wr,k,h,i,c,e=>by
   cases i with
   | zero=>simp at e;subst e;exact h.1
   | succ i=>
     obtain ⟨c',a,b⟩:=Xrw (k:=k+1) (wr:=wr) h.2 i c (by simpa using e)
     exact ⟨c',a,by rw [show k+(i+1)=k+1+i by omega];exact b⟩
theorem Has.obj {H:Hp} {j:Nat} {c:List Value} (h:Has H j c):∃ o,XaD H j=some o∧writable o=true∧∀ {P:Program} {ρ:Ren} {w:World} {l:Loc},XmK P ρ w l o→Xbt ρ w l true c:=by
 rcases h with h|h|⟨d,m,h,rfl⟩
 ·exact ⟨_,h,rfl,fun h=>h⟩
 ·exact ⟨_,h,rfl,fun h=>h⟩
 ·refine ⟨_,h,rfl,fun {P ρ w l} ⟨g1,g2,g3⟩=>⟨by simp;omega,fun i v e=>g2 i v ?_,g3⟩⟩
  rw [List.getElem?_take] at e
  split at e
  ·exact e
  ·cases e
theorem XBe {ρ:Ren}:∀ {js:List Nat},(∀ j∈js,∃ l,ρ j=some l)→∃ ls:List Loc,ls.length=js.length∧∀ (i:Nat) j,js[i]?=some j→∃ l,ls[i]?=some l∧ρ j=some l
 | [],_=>⟨[],rfl,fun i j e=>by simp at e⟩
 | j::js,h=>by
   obtain ⟨l,hl⟩:=h j (by simp)
   obtain ⟨ls,g1,g2⟩:=XBe (js:=js) fun x hx=>h x (by simp [hx])
   refine ⟨l::ls,by simp [g1],fun i x e=>?_⟩
   cases i with
   | zero=>simp at e;subst e;exact ⟨l,rfl,hl⟩
   | succ i=>simpa using g2 i x (by simpa using e)
theorem XJh {ob ob':XbO} {x y:List Value} (hw:ob.wcs=some x) (hx:ob.wr y=some ob'):isObj ob' y∧writable ob'=true∧writable ob=true:=by
 unfold XbO.wr at hx
 split at hx<;>cases hx
 ·exact ⟨.inr (.inl rfl),rfl,rfl⟩
 ·exact ⟨.inr (.inr rfl),rfl,rfl⟩
 ·cases hw
theorem XbM.XFF (hF:Xlx P F) {f:Nat} {s:XbE}
 (h:∀ aqs os r,Xhs (Xvy s.modes) os→s.run aqs (Xk6 os)=some r→∃ c,XjX F f aqs=some c∧XaG P f os.length ⟨c,[],Xqu 0 os,os.length⟩ (fun v' H' _=>Res os.length r v' H'))
 (hfn : ∃ fn, P.funcs[f]? = some fn ∧ fn.name ≠ "runtime.NumGoroutine" ∧ fn.body.isSome = true) : XbM P f s where
 fn:=hfn
 calls:=by
  intro w0 U ρ H top w vals rvals v H' top' hlo hg hh hv hs cs
  unfold Xi0 at hs
  split at hs<;>try (cases hs;done)
  rename_i aqs os has
  split at hs<;>try (cases hs;done)
  rename_i v0 new wr hrun
  split at hs<;>try (cases hs;done)
  rename_i hap
  split at hs<;>try (cases hs;done)
  rename_i H1 hwb
  split at hs<;>try (cases hs;done)
  rename_i H2 hadd
  split at hs<;>try (cases hs;done)
  rename_i v2 hren
  cases hs
  obtain ⟨a1,a2,a3⟩:=Xvp hh (ρc:=XEo ρ (XkH H s.modes vals)) (k:=0) has hv (fun i x e=>by simp [XEo,e])
  have kinds:=XmE has
  generalize XkH H s.modes vals=ws at *
  obtain ⟨c,hc,hl⟩:=h aqs os _ kinds hrun
  have hρc:∀ (i:Nat) x,ws[i]?=some x→XEo ρ ws i=Xs6 ρ x:=fun i x e=>by simp [XEo,e]
  have spot:∀ (i:Nat) o,os[i]?=some (some o)→∃ x,ws[i]?=some x∧XQi w H ρ (XEo ρ ws) x o:=fun i o e=>by
   have hi:i<ws.length:=by rw [←a2];exact (List.getElem?_eq_some_iff.1 e).1
   exact ⟨ws[i],List.getElem?_eq_getElem hi,(a3 i _ (List.getElem?_eq_getElem hi)).1 o e⟩
  have spotW:∀ (i:Nat) x,ws[i]?=some x→x≠.no→∃ o,os[i]?=some (some o)∧XQi w H ρ (XEo ρ ws) x o:=fun i x e hn=>by
   have hi:i<os.length:=by rw [a2];exact (List.getElem?_eq_some_iff.1 e).1
   cases ho:os[i] with
   | none=>exact absurd ((a3 i x e).2 (by rw [List.getElem?_eq_getElem hi,ho])) hn
   | some o=>exact ⟨o,by rw [List.getElem?_eq_getElem hi,ho],(a3 i x e).1 o (by rw [List.getElem?_eq_getElem hi,ho])⟩
  let u:Nat→Nat→Prop:=fun b k=>∃ (i:Nat) (x:Wd) (o:XbO) (l:Loc),ws[i]?=some x∧os[i]?=some (some o)∧writable o=true∧Xs6 ρ x=some l∧l.blk=b∧l.sh≤k∧k<l.sh+l.ext
  have hpc:HpR P w (.of u) (XEo ρ ws) (Xqu 0 os) os.length w:=
   { obj:=fun i o e=>by
      obtain ⟨_,e2⟩:=XlE e
      rw [Nat.sub_zero] at e2
      obtain ⟨x,hx,l,cs',q1,q2,q3,q4,_⟩:=spot i o e2
      exact ⟨l,by rw [hρc i x hx];exact q1,q2.objR q3,fun hw k k1 k2=>.inl ⟨i,x,o,l,hx,e2,hw,q1,rfl,k1,k2⟩⟩
     dis:=fun i j oi oj li lj hij hi hj hli hlj hw=>by
      have e1:=(XlE hi).2
      have e2:=(XlE hj).2
      rw [Nat.sub_zero] at e1 e2
      obtain ⟨x,hx,sx⟩:=spot i oi e1
      obtain ⟨y,hy,sy⟩:=spot j oj e2
      rw [hρc i x hx] at hli
      rw [hρc j y hy] at hlj
      exact Xur hh hap hij hx hy sx sy hli hlj (.inl hw)
     lt:=fun i l e=>by
      refine .inr ⟨Nat.zero_le _,?_⟩
      rw [a2]
      unfold XEo at e
      split at e
      ·rename_i x hx;exact (List.getElem?_eq_some_iff.1 hx).1
      ·cases e
     keep:=Keep.refl _ _ }
  obtain ⟨ρ',rv,fr',w',v',Hc,tc,g1,g2,g3,g4,g5,g6,⟨js,r1,r2,r3,r4,r5⟩⟩:=hl.get w u (XEo ρ ws) _ [] w cs ⟨(Xkz hF hc a1).1,.nil,hpc⟩
  obtain ⟨n1,n2⟩:=XsI r2
  replace n1:js.length=new.length:=n1
  have hwr:=Xrw r5
  have huwin:∀ b k,u b k→∃ (i:Nat) (x:Wd) (bb:Nat) (lb:Loc) (ob:XbO) (l:Loc),ws[i]?=some x∧x.wr=true∧x.Xj4=some bb∧XaD H bb=some ob∧writable ob=true∧ρ bb=some lb∧b=lb.blk∧Xs6 ρ x=some l∧l.blk=b∧l.sh≤k∧k<l.sh+l.ext∧lb.sh≤k∧k<lb.sh+lb.ext:=by
   rintro b k ⟨i,x,o,l,e1,e2,e3,e4,e5,e6,e7⟩
   obtain ⟨x',hx',l',cs',q1,q2,q3,q4,q5⟩:=spot i o e2
   rw [e1] at hx';cases hx'
   rw [e4] at q1;cases q1
   rcases q5 with ⟨h0,_⟩|⟨bb,lb,ob,f1,f2,f3,f4,f5,f6,f7⟩
   ·omega
   ·have hw:x.wr=true:=q4.trans e3
    exact ⟨i,x,bb,lb,ob,l,e1,hw,f1,f2,f7 hw,f3,by rw [←f4,e5],e4,e5,e6,e7,by omega,by omega⟩
  have huU:∀ b k,u b k→U.u b k∨w0.heap.size≤b:=fun b k hu=>by
   obtain ⟨i,x,bb,lb,ob,l,f1,f2,f3,f4,f5,f6,rfl,f8,f9,f10,f11,f12,f13⟩:=huwin b k hu
   obtain ⟨l',hl',_,hU⟩:=hh.obj _ _ f4
   rw [f6] at hl';cases hl'
   exact hU f5 k f12 f13
  have hkeep:Keep U w0 w':=hh.keep.trans g5.keep huU
  have WBs:=XhM _ hap hwb
  obtain ⟨N1,N2⟩:=Xqf hadd
  obtain ⟨E1,E2⟩:=XpB (Xlu ws) (H:=H2) (m:=top+new.length)
  have hcell:∀ i o l,XaD H i=some o→ρ i=some l→∀ k,l.sh≤k→k<l.sh+l.ext→u l.blk k→∃ (q:Nat) (x:Wd) (lq:Loc),ws[q]?=some x∧x.wr=true∧x.Xj4=some i∧Xs6 ρ x=some lq∧lq.blk=l.blk∧lq.sh≤k∧k<lq.sh+lq.ext:=fun i o l hi hl k k1 k2 hu=>by
   obtain ⟨q,x,bb,lb,ob,lq,f1,f2,f3,f4,f5,f6,f7,f8,f9,f10,f11,f12,f13⟩:=huwin _ _ hu
   by_cases hxi:bb=i
   ·subst hxi;exact ⟨q,x,lq,f1,f2,f3,f8,f9,f10,f11⟩
   ·exact (hh.dis bb i ob o lb l hxi f4 hi f6 hl f5 k f7.symm f12 f13 k1 k2).elim
  have hwin:∀ (i:Nat) x l c,ws[i]?=some x→Xs6 ρ x=some l→wr[i]?=some (some c)→∃ c',Xe0.renL (Xxb js os.length) c=some c'∧Xbt ρ' w' l true c'∧∃ o,XaD Hc i=some o∧writable o=true∧ρ' i=some l:=fun i x l c hx hlx hi=>by
   obtain ⟨c',q1,q2⟩:=hwr i c hi
   rw [Nat.zero_add] at q2
   obtain ⟨o,q3,q4,q5⟩:=q2.obj
   obtain ⟨l',q6,q7,_⟩:=g5.obj i o q3
   have hlt:i<os.length:=by rw [a2];exact (List.getElem?_eq_some_iff.1 hx).1
   have:=g6 i l hlt (by rw [hρc i x hx];exact hlx)
   rw [this] at q6;cases q6
   exact ⟨c',q1,q5 q7,o,q3,q4,this⟩
  have hnew:∀ j∈js,∃ l o,ρ' j=some l∧XaD Hc j=some o∧writable o=true∧∀ k,l.sh≤k→k<l.sh+l.ext→u l.blk k∨w.heap.size≤l.blk:=fun j hj=>by
   obtain ⟨i,hi⟩:=List.getElem?_of_mem hj
   obtain ⟨c,c',_,_,hcj⟩:=n2 i j hi
   obtain ⟨o,ho,hwo,_⟩:=hcj.obj
   obtain ⟨l,q1,_,q3⟩:=g5.obj j o ho
   exact ⟨l,o,q1,ho,hwo,fun k k1 k2=>q3 hwo k k1 k2⟩
  obtain ⟨ls,m1,m2⟩:=XBe (ρ:=ρ') (js:=js) fun j hj=>let ⟨l,_,h,_⟩:=hnew j hj;⟨l,h⟩
  let ρ2:Ren:=fun i=>if i<top then ρ i else if i<top+new.length then ls[i - top]? else if i<top+new.length+Xlu ws then some ⟨0,0,0⟩ else ρ i
  have hout:∀ i l,ρ i=some l→i<top∨top+new.length+Xlu ws≤i:=fun i l e=>by
   rcases h1:hh.lt i l e with h2|h2
   ·rcases Nat.lt_or_ge i top with h3|h3
    ·exact .inl h3
    ·rcases Nat.lt_or_ge i (top+new.length+Xlu ws) with h4|h4
     ·exact absurd h2 (hg i h3 h4)
     ·exact .inr h4
   ·exact .inl h2.2
  have hx2:Ext ρ ρ2:=fun i l e=>by
   rcases hout i l e with h1|h1
   ·show (if i<top then ρ i else _)=_
    rw [if_pos h1];exact e
   ·show (if i<top then ρ i else if i<top+new.length then ls[i - top]? else if i<top+new.length+Xlu ws then some ⟨0,0,0⟩ else ρ i)=_
    rw [if_neg (by omega),if_neg (by omega),if_neg (by omega)];exact e
  have hnewR:∀ (i:Nat),i<new.length→ρ2 (top+i)=ls[i]?:=fun i hi=>by
   show (if top+i<top then ρ (top+i) else if top+i<top+new.length then ls[top+i - top]? else _)=_
   rw [if_neg (by omega),if_pos (by omega),Nat.add_sub_cancel_left]
  have hempR:∀ i,top+new.length≤i→i<top+new.length+Xlu ws→ρ2 i=some ⟨0,0,0⟩:=fun i h1 h2=>by
   show (if i<top then ρ i else if i<top+new.length then ls[i - top]? else if i<top+new.length+Xlu ws then some ⟨0,0,0⟩ else ρ i)=_
   rw [if_neg (by omega),if_neg (by omega),if_pos h2]
  have hsren:∀ i k l,XuH top new.length ws i=some k→comp (Xxb js os.length) ρ' i=some l→ρ2 k=some l:=fun i k l e1 e2=>by
   unfold XuH at e1
   unfold comp Xxb at e2
   cases hb:Nat.blt i new.length with
   | true=>
     have hi:i<new.length:=Nat.blt_eq.mp hb
     rw [hb,cond_true,Option.some.injEq] at e1
     subst e1
     have hij:i<js.length:=by omega
     rw [List.getElem?_eq_getElem hij] at e2
     simp only at e2
     obtain ⟨l',f1,f2⟩:=m2 i _ (List.getElem?_eq_getElem hij)
     rw [e2] at f2;cases f2
     rw [hnewR i hi,f1]
   | false=>
     have hi:¬ i<new.length:=fun h=>by rw [←Nat.blt_eq] at h;rw [h] at hb;cases hb
     rw [hb,cond_false] at e1
     rw [List.getElem?_eq_none (by omega)] at e2
     simp only at e2
     rw [n1] at e2
     cases hb2:Nat.blt (i - new.length) os.length with
     | false=>rw [hb2] at e2;cases e2
     | true=>
       have hlt:i - new.length<os.length:=Nat.blt_eq.mp hb2
       rw [hb2] at e2
       simp only [cond_true] at e2
       rcases Xtx e1 with ⟨b,wq,f1,rfl⟩|⟨_,f1,f2,f3⟩
       ·obtain ⟨o,_,l1,cs',q1,_⟩:=spotW _ _ f1 (by simp)
        have:=g6 _ l1 hlt (by rw [hρc _ _ f1];exact q1)
        rw [e2] at this;cases this
        exact hx2 _ _ q1
       ·have:=g6 _ ⟨0,0,0⟩ hlt (by rw [hρc _ _ f1];rfl)
        rw [e2] at this;cases this
        exact hempR k f2 f3
  have hcells:∀ {own:Bool} {l:Loc} {c c' c2:List Value},Xbt ρ' w' l own c'→Xe0.renL (Xxb js os.length) c=some c'→Xe0.renL (XuH top new.length ws) c=some c2→Xbt ρ2 w' l own c2:=fun h1 h2 h3=>
   Xbt.ren (Xbt.XfZ h1 h2 id) hsren h3
  have hold:∀ i o,XaD H1 i=some o→∃ o',XaD H i=some o'∧writable o'=writable o∧∃ l,ρ i=some l∧XmK P ρ2 w' l o:=fun i o ho=>by
   by_cases hwd:∃ (q:Nat) (x:Wd),ws[q]?=some x∧x.wr=true∧x.Xj4=some i
   ·obtain ⟨q,x,hx,hxw,hxb⟩:=hwd
    obtain ⟨oq,hoq,sp⟩:=spotW q x hx (fun e=>by subst e;cases hxb)
    cases x with
    | no=>cases hxb
    | emp _=>cases hxb
    | blk b wq=>
      simp only [Wd.Xj4,Option.some.injEq] at hxb;subst hxb
      simp only [Wd.wr] at hxw;subst hxw
      rcases WBs.blk q b hx with e|⟨d,d',ob,ob',f1,f2,⟨y,f2'⟩,f3,f4,f5⟩
      ·rw [ho] at e;cases e
      ·rw [ho] at f5;cases f5
       obtain ⟨z1,z2,z3⟩:=XJh f2' f4
       obtain ⟨l,hl,_⟩:=hh.obj b ob f2
       obtain ⟨c',k1,k2,_⟩:=hwin q _ l d hx hl f1
       have:=hcells k2 k1 f3
       exact ⟨ob,f2,by rw [z2,z3],l,hl,z1.objR (by rw [z2];exact this)⟩
    | win b off n wq=>
      simp only [Wd.Xj4,Option.some.injEq] at hxb;subst hxb
      simp only [Wd.wr] at hxw;subst hxw
      obtain ⟨d,d',ob,x,ob',f1,f2,f3,f4,⟨f5,f5x⟩,f6,f7⟩:=WBs.win q b off n hx
      rw [ho] at f7;cases f7
      obtain ⟨z1,z2,z3⟩:=XJh f3 f6
      obtain ⟨lb,hlb,hor,_⟩:=hh.obj b ob f2
      have hlw:Xs6 ρ (.win b off n true)=some ⟨lb.blk,lb.sh+off,n⟩:=by simp only [Xs6,hlb]
      obtain ⟨c',k1,k2,_⟩:=hwin q _ _ d hx hlw f1
      have hin:=hcells k2 k1 f4
      obtain ⟨_,q2,q3⟩:=XxF f3
      have hcr:Xbt ρ w lb true x:=by rcases q3 with rfl|rfl<;>exact hor
      obtain ⟨l',cs',s1,s2,s3,s4,s5⟩:=sp
      rw [hlw] at s1;cases s1
      have hle:off+n≤lb.ext:=by
       rcases s5 with ⟨h0,hb⟩|⟨b',lb',ob2,t1,t2,t3,t4,t5,t6,t7⟩
       ·cases hb
       ·simp only [Wd.Xj4,Option.some.injEq] at t1;subst t1
        rw [hlb] at t3;cases t3
        simp only at t6;omega
      refine ⟨ob,f2,by rw [z2,z3],lb,hlb,z1.objR ?_⟩
      rw [z2]
      have hlen:=XjP d' x off
      have hkc:∀ i,i<lb.ext→¬ (off≤i∧i<off+n)→w'.cell? ⟨lb.blk,lb.sh+i,none⟩=w.cell? ⟨lb.blk,lb.sh+i,none⟩∧w'.frozen? ⟨lb.blk,lb.sh+i,none⟩=w.frozen? ⟨lb.blk,lb.sh+i,none⟩:=fun i hi hni=>by
       have hnu:¬ u lb.blk (lb.sh+i):=fun hu=>by
        obtain ⟨q',x',lq,p1,p2,p3,p4,p5,p6,p7⟩:=hcell b ob lb f2 hlb (lb.sh+i) (by omega) (by omega) hu
        by_cases hqq:q'=q
        ·subst hqq
         rw [hx] at p1;cases p1
         rw [hlw] at p4;cases p4
         simp only at p6 p7;omega
        ·have:=(XmL hap q' q _ _ b hqq p1 hx p3 rfl).2
         cases this
       exact Keep.cell g5.keep (hor.lt (by omega)) hnu (hcr.2.2 i hi).1
      refine ⟨by rw [hlen];exact hcr.1,fun i v e=>?_,fun i hi=>?_⟩
      ·have hi:i<x.length:=by
        rcases Nat.lt_or_ge i x.length with h|h
        ·exact h
        ·rw [List.getElem?_eq_none (by omega)] at e;cases e
       by_cases hin':off≤i∧i<off+n
       ·rw [Xkl d' x off i (by omega),if_pos (by omega)] at e
        obtain ⟨v',y1,y2⟩:=hin.2.1 (i - off) v e
        exact ⟨v',by rw [←y1];congr 2;simp only;omega,y2⟩
       ·rw [Xkl d' x off i (by omega),if_neg (by omega)] at e
        obtain ⟨v',y1,y2⟩:=hcr.2.1 i v e
        exact ⟨v',by rw [(hkc i (by have:=hcr.1;omega) hin').1];exact y1,y2.mono hx2⟩
      ·by_cases hin':off≤i∧i<off+n
       ·have:=hin.2.2 (i - off) (by simp only;omega)
        simp only [show lb.sh+off+(i - off)=lb.sh+i by omega] at this
        exact ⟨this.1,fun _=>this.2 trivial⟩
       ·have:=hkc i hi hin'
        rw [this.1,this.2];exact hcr.2.2 i hi
   ·have hH:XaD H i=some o:=by rw [←WBs.same i fun q x hx hxw hxb=>hwd ⟨q,x,hx,hxw,hxb⟩];exact ho
    obtain ⟨l,hl,hor,_⟩:=hh.obj i o hH
    refine ⟨o,hH,rfl,l,hl,hor.keep g5.keep hx2 fun q hq hu=>?_⟩
    obtain ⟨q',x',lq,p1,p2,p3,_⟩:=hcell i o l hH hl (l.sh+q) (by omega) (by omega) hu
    exact hwd ⟨q',x',p1,p2,p3⟩
  have hobj:∀ i o,XaD (Xjy H2 (top+new.length) (Xlu ws)) i=some o →
   (top+new.length≤i∧i<top+new.length+Xlu ws∧o=.row true [])∨(∃ a,a<new.length∧i=top+a∧∃ c c2,new[a]?=some c∧Xe0.renL (XuH top new.length ws) c=some c2∧o=.row true c2)∨((i<top∨top+new.length+Xlu ws≤i)∧XaD H1 i=some o):=fun i o e=>by
   rcases Nat.lt_or_ge i top with h1|h1
   ·rw [E1 i (by omega),N1 i (by omega)] at e;exact .inr (.inr ⟨.inl h1,e⟩)
   ·rcases Nat.lt_or_ge i (top+new.length) with h2|h2
    ·have ha:i - top<new.length:=by omega
     obtain ⟨c2,e1,e2⟩:=N2 (i - top) _ (List.getElem?_eq_getElem ha)
     rw [E1 i (by omega),show i=top+(i - top) by omega,e2] at e
     cases e
     exact .inr (.inl ⟨i - top,ha,by omega,_,c2,List.getElem?_eq_getElem ha,e1,rfl⟩)
    ·rcases Nat.lt_or_ge i (top+new.length+Xlu ws) with h3|h3
     ·rw [E2 i h2 h3] at e;cases e;exact .inl ⟨h2,h3,rfl⟩
     ·rw [E1 i (by omega),N1 i (by omega)] at e;exact .inr (.inr ⟨.inr h3,e⟩)
  have hjs:∀ a,a<new.length→∃ j l c c',js[a]?=some j∧ls[a]?=some l∧ρ' j=some l∧new[a]?=some c∧Xe0.renL (Xxb js os.length) c=some c'∧Xbt ρ' w' l true c'∧∃ o,XaD Hc j=some o∧writable o=true∧∀ k,l.sh≤k→k<l.sh+l.ext→u l.blk k∨w.heap.size≤l.blk:=fun a ha=>by
   have hj:a<js.length:=by omega
   obtain ⟨l,e1,e2⟩:=m2 a _ (List.getElem?_eq_getElem hj)
   obtain ⟨c,c',e3,e4,e5⟩:=n2 a _ (List.getElem?_eq_getElem hj)
   obtain ⟨o,q1,q2,q3⟩:=e5.obj
   obtain ⟨l',q4,q5,_⟩:=g5.obj _ _ q1
   rw [e2] at q4;cases q4
   obtain ⟨l2,o2,p1,p2,p3,p4⟩:=hnew _ (List.getElem_mem hj)
   rw [e2] at p1;cases p1
   rw [q1] at p2;cases p2
   exact ⟨_,l,c,c',List.getElem?_eq_getElem hj,e1,e2,e3,e4,q3 q5,o,q1,q2,p4⟩
  have hapN:∀ a la i o li,a<new.length→ls[a]?=some la→XaD H1 i=some o→ρ i=some li→Apart la li:=fun a la i o li ha hla hi hli k ek k1 k2 k3 k4=>by
   obtain ⟨j,l,c,c',e1,e2,e3,e4,e5,e6,oj,e7,e8,e9⟩:=hjs a ha
   rw [hla] at e2;cases e2
   obtain ⟨o',f1,f2,_⟩:=hold i o hi
   rcases e9 k k1 k2 with hu|hge
   ·rw [ek] at hu
    obtain ⟨q,x,lq,p1,p2,p3,p4,p5,p6,p7⟩:=hcell i o' li f1 hli k k3 k4 hu
    have hcw:∃ d,wr[q]?=some (some d):=by
     cases x with
     | no=>cases p3
     | emp _=>cases p3
     | win b off n wq=>
       simp only [Wd.wr] at p2;subst p2
       obtain ⟨d,_,_,_,_,f,_⟩:=WBs.win q b off n p1
       exact ⟨d,f⟩
     | blk b wq=>
       simp only [Wd.wr] at p2;subst p2
       simp only [Wd.Xj4,Option.some.injEq] at p3;subst p3
       rcases WBs.blk q b p1 with e|⟨d,_,_,_,f,_⟩
       ·rw [hi] at e;cases e
       ·exact ⟨d,f⟩
    obtain ⟨d,hd⟩:=hcw
    obtain ⟨_,_,_,oq,w1,w2,w3⟩:=hwin q x lq d p1 p4 hd
    have hne:j≠q:=fun e=>by
     subst e
     have hqq:=(List.getElem?_eq_some_iff.1 p1).1
     rcases r4 j (List.mem_of_getElem? e1) with h4|h4
     ·omega
     ·have h4':wr[j]?=some none:=h4
      rw [hd] at h4';cases h4'
    exact g5.dis j q oj oq la lq hne e7 w1 e3 w3 e8 k (by rw [ek,p5]) k1 k2 p6 p7
   ·have:=hh.XIV f1 hli (by omega)
    omega
  have hfin:HpR P w0 U ρ2 (Xjy H2 (top+new.length) (Xlu ws)) (top+new.length+Xlu ws) w':=
   { obj:=fun i o e=>by
      rcases hobj i o e with ⟨h1,h2,rfl⟩|⟨a,ha,rfl,c,c2,h3,h4,rfl⟩|⟨_,h3⟩
      ·exact ⟨⟨0,0,0⟩,hempR i h1 h2,⟨Nat.zero_le _,fun i v e=>by simp at e,fun i hi=>absurd hi (Nat.not_lt_zero _)⟩,fun _ k k1 k2=>absurd k2 (by simp)⟩
      ·obtain ⟨j,l,d,d',e1,e2,e3,e4,e5,e6,oj,e7,e8,e9⟩:=hjs a ha
       rw [h3] at e4;cases e4
       refine ⟨l,by rw [hnewR a ha];exact e2,hcells e6 e5 h4,fun _ k k1 k2=>?_⟩
       rcases e9 k k1 k2 with hu|hge
       ·exact huU _ _ hu
       ·exact .inr (Nat.le_trans hh.keep.size hge)
      ·obtain ⟨o',f1,f2,l,f3,f4⟩:=hold i o h3
       obtain ⟨l',q1,_,q3⟩:=hh.obj i o' f1
       rw [f3] at q1;cases q1
       exact ⟨l,hx2 _ _ f3,f4,fun hw=>q3 (f2.trans hw)⟩
     dis:=fun i j oi oj li lj hij hi hj hli hlj hw=>by
      have emp0:∀ i,top+new.length≤i→i<top+new.length+Xlu ws→∀ l,ρ2 i=some l→l.ext=0:=fun i h1 h2 l e=>by rw [hempR i h1 h2] at e;cases e;rfl
      rcases hobj i oi hi with ⟨h1,h2,rfl⟩|⟨a,ha,rfl,c,c2,h3,h4,rfl⟩|⟨hi1,h3⟩
      ·intro k _ k1 k2 _ _
       have:=emp0 i h1 h2 li hli
       omega
      ·rw [hnewR a ha] at hli
       rcases hobj j oj hj with ⟨h1,h2,rfl⟩|⟨a',ha',rfl,c',c2',h3',h4',rfl⟩|⟨hj1,h3'⟩
       ·intro k _ _ _ k1 k2
        have:=emp0 j h1 h2 lj hlj
        omega
       ·rw [hnewR a' ha'] at hlj
        obtain ⟨j1,l1,_,_,e1,e2,e3,_,_,_,o1,e7,e8,_⟩:=hjs a ha
        obtain ⟨j2,l2,_,_,f1,f2,f3,_,_,_,o2,f7,f8,_⟩:=hjs a' ha'
        rw [hli] at e2;cases e2
        rw [hlj] at f2;cases f2
        refine g5.dis j1 j2 o1 o2 li lj (fun e=>?_) e7 f7 e3 f3 e8
        subst e
        have h1:a<js.length:=by omega
        have:=(List.getElem?_inj h1 r3).1 (e1.trans f1.symm)
        omega
       ·obtain ⟨o',f1,f2,l,f3,f4⟩:=hold j oj h3'
        have:=hx2 _ _ f3
        rw [hlj] at this;cases this
        exact hapN a li j oj lj ha hli h3' f3
      ·obtain ⟨o',f1,f2,l,f3,f4⟩:=hold i oi h3
       have:=hx2 _ _ f3
       rw [hli] at this;cases this
       rcases hobj j oj hj with ⟨h1,h2,rfl⟩|⟨a',ha',rfl,c',c2',h3',h4',rfl⟩|⟨hj1,h3'⟩
       ·intro k _ _ _ k1 k2
        have:=emp0 j h1 h2 lj hlj
        omega
       ·rw [hnewR a' ha'] at hlj
        exact (hapN a' lj i oi li ha' hlj h3 f3).symm
       ·obtain ⟨o2',p1,p2,l2,p3,p4⟩:=hold j oj h3'
        have:=hx2 _ _ p3
        rw [hlj] at this;cases this
        exact hh.dis i j o' o2' li lj hij f1 p1 f3 p3 (f2.trans hw)
     lt:=fun i l e=>by
      have e':(if i<top then ρ i else if i<top+new.length then ls[i - top]? else if i<top+new.length+Xlu ws then some ⟨0,0,0⟩ else ρ i)=some l:=e
      split at e'
      ·exact (hh.lt i l e').imp id fun h=>⟨h.1,by omega⟩
      ·split at e'
       ·exact .inr ⟨by omega,by omega⟩
       ·split at e'
        ·exact .inr ⟨by omega,by omega⟩
        ·exact (hh.lt i l e').imp id fun h=>⟨h.1,by omega⟩
     keep:=hkeep }
  exact ⟨.returned rv,w',fr',⟨ρ2,rv,rfl,VR.ren hsren v0 hren (VR.XfZ v0 r1 g4),hfin,hx2⟩,g1,g2,g3⟩
end
end Go.Vm
namespace Go.Vm
open Go Go.RowKit
def req (b:Bool) (p:Prop):Prop:=match b with|true=>p|false=>False
theorem req.intro {b:Bool} {p:Prop} (h:b=true) (k:p):req b p:=by subst h;exact k
theorem req.elim {b:Bool} {p:Prop} (h:req b p):b=true∧p:=by cases b;exact h.elim;exact ⟨rfl,h⟩
def br (b:Bool) (p q:Prop):Prop:=match b with|true=>p|false=>q
theorem br.intro {b:Bool} {p q:Prop} (h:b=true→p) (k:b=false→q):br b p q:=by cases b;exact k rfl;exact h rfl
theorem br.pos {b:Bool} {p q:Prop} (e:b=true) (h:p):br b p q:=by subst e;exact h
theorem br.neg {b:Bool} {p q:Prop} (e:b=false) (h:q):br b p q:=by subst e;exact h
def Xil (v:Value) (K:Value→Prop):Prop:=
 match v with
 | .bool b=>K (.bool b)
 | .int k n=>K (.int k n)
 | .float k n=>K (.float k n)
 | .string s=>K (.string s)
 | .pointer none=>K (.pointer none)
 | .pointer (some a)=>K (.pointer (some a))
 | .slice none n c=>K (.slice none n c)
 | .slice (some a) n c=>K (.slice (some a) n c)
 | .func f a b=>K (.func f a b)
 | .nilFunc=>K .nilFunc
 | .nilIface=>K .nilIface
 | .iface t v=>K (.iface t v)
 | .agg a=>K (.agg a)
 | .tuple a=>K (.tuple a)
 | v=>K v
theorem Xh0 (v:Value) (K:Value→Prop):Xil v K=K v:=by
 unfold Xil;split<;>rfl
def XoR (l:List Value) (K:List Value→Prop):Prop:=
 match l with
 | []=>K []
 | v::l=>XoR l (fun l'=>K (v::l'))
theorem XlI:∀ (l:List Value) (K:List Value→Prop),XoR l K=K l
 | [],_=>rfl
 | v::l,K=>by rw [XoR,XlI l]
def Xuw {α:Type} (l:List (Nat×α)) (j:Nat) (K:List (Nat×α)→Prop):Prop:=
 match l with
 | []=>K []
 | (i,x)::l=>cond (Nat.beq i j) (Xuw l j K) (Xuw l j (fun l'=>K ((i,x)::l')))
theorem XnG {α:Type}:∀ (l:List (Nat×α)) (j:Nat) (K:List (Nat×α)→Prop),Xuw l j K=K (XoP l j)
 | [],_,_=>rfl
 | (i,x)::l,j,K=>by
   simp only [Xuw,XoP]
   cases Nat.beq i j
   ·simp only [cond_false];rw [XnG l]
   ·simp only [cond_true];rw [XnG l]
def XrR {α:Type} (l:List (Nat×α)) (i:Nat) (x:α) (K:List (Nat×α)→Prop):Prop:=Xuw l i (fun l'=>K ((i,x)::l'))
theorem XjS {α:Type} (l:List (Nat×α)) (i:Nat) (x:α) (K:List (Nat×α)→Prop):XrR l i x K=K (Xgp l i x):=XnG _ _ _
def rd (cs:List Value) (o:Nat) (K:Value→Prop):Prop:=match cs[o]? with|some v=>Xil v K|none=>False
theorem rd.intro {cs:List Value} {o:Nat} {K:Value→Prop} {v:Value} (h:cs[o]?=some v) (k:Xil v K):rd cs o K:=by unfold rd;rw [h];exact k
theorem rd.elim {cs:List Value} {o:Nat} {K:Value→Prop} (h:rd cs o K):∃ v,cs[o]?=some v∧K v:=by
 unfold rd at h
 split at h
 ·rename_i v hv;rw [Xh0] at h;exact ⟨v,hv,h⟩
 ·exact h.elim
def rdN (cs:List Value) (o:Nat) (n:Nat) (K:List Value→Prop):Prop:=
 match n with
 | 0=>K []
 | n+1=>rd cs o fun v=>rdN cs (o+1) n fun l=>K (v::l)
theorem rdN.elim:∀ {n:Nat} {cs:List Value} {o:Nat} {K:List Value→Prop},rdN cs o n K→(o+n≤cs.length∨n=0)∧K ((cs.drop o).take n)
 | 0,cs,o,K,h=>⟨.inr rfl,by simpa [rdN] using h⟩
 | n+1,cs,o,K,h=>by
   obtain ⟨v,hv,h2⟩:=rd.elim h
   obtain ⟨h3,h4⟩:=rdN.elim h2
   have hlt:o<cs.length:=by
    rcases Nat.lt_or_ge o cs.length with h|h
    ·exact h
    ·rw [List.getElem?_eq_none h] at hv;cases hv
   refine ⟨.inl (by omega),?_⟩
   have:(cs.drop o).take (n+1)=v::(cs.drop (o+1)).take n:=by
    rw [List.drop_eq_getElem_cons hlt,List.take_succ_cons]
    rw [List.getElem?_eq_getElem hlt,Option.some.injEq] at hv
    rw [hv]
   rw [this];exact h4
abbrev CK:=Option Value→List (Option XbO)→Option XbO→Prop
def XIj (r:Option XdQ) (K:CK):Prop:=
 match r with
 | some ⟨some v,os,fr⟩=>Xil v fun v=>K (some v) os fr
 | some ⟨none,os,fr⟩=>K none os fr
 | none=>False
def Good (r:Option XdQ) (K:CK):Prop:=∃ v os fr,r=some ⟨v,os,fr⟩∧K v os fr
theorem XIj.good {r:Option XdQ} {K:CK} (h:XIj r K):Good r K:=by
 unfold XIj at h
 split at h
 ·rw [Xh0] at h;exact ⟨_,_,_,rfl,h⟩
 ·exact ⟨_,_,_,rfl,h⟩
 ·exact h.elim
def valK (v:Value) (K:CK):Prop:=Xil v fun v=>K (some v) [] none
def XuZ:List (Nat×Nat×Value)→List Value→(List Value→Prop)→Prop
 | [],cs,K=>K cs
 | (off,size,v)::rest,cs,K=>cond (Nat.beq (XaX v).length size&&Nat.ble (off+size) cs.length) (XoR (setAt cs off (XaX v)) fun cs'=>XuZ rest cs' K) False
theorem XuZ.elim:∀ {l:List (Nat×Nat×Value)} {cs:List Value} {K:List Value→Prop},XuZ l cs K→∃ cs',Xp1 cs l=some cs'∧K cs'
 | [],cs,K,h=>⟨cs,rfl,h⟩
 | (off,size,v)::rest,cs,K,h=>by
   rw [XuZ] at h
   cases hb:(Nat.beq (XaX v).length size&&Nat.ble (off+size) cs.length)
   ·rw [hb] at h;exact h.elim
   ·rw [hb,cond_true,XlI] at h
    obtain ⟨cs',h1,h2⟩:=XuZ.elim h
    rw [Bool.and_eq_true] at hb
    exact ⟨cs',by rw [Xp1,if_pos ⟨Nat.eq_of_beq_eq_true hb.1,Nat.le_of_ble_eq_true hb.2⟩,h1],h2⟩
def XtT (z:List Value) (ps:List (Nat×Nat×Operand)) (vals:List Value) (objs:List XbO) (K:CK):Prop:=
 match objs with
 | []=>cond (Nat.beq vals.length ps.length) (XuZ (XIT ps vals) z fun cs=>K (some (.agg ⟨cs⟩)) [] none) False
 | _=>False
def Xqn (len sz:Nat) (z:List Value) (ps:List (Nat×Nat×Operand)) (vals:List Value) (objs:List XbO) (top:Nat) (K:CK):Prop:=
 match objs with
 | []=>cond (Nat.beq vals.length ps.length) (XuZ (XIT ps vals) z fun cs=>K (some (.slice (some ⟨top,0,none⟩) len sz)) [] (some (.row true cs))) False
 | _=>False
theorem Xtt {z:List Value} {ps:List (Nat×Nat×Operand)} {vals:List Value} {objs:List XbO} {K:CK} (h:XtT z ps vals objs K):Good (Xln z ps vals objs) K:=by
 unfold XtT at h
 split at h
 ·cases hb:Nat.beq vals.length ps.length
  ·rw [hb] at h;exact h.elim
  ·rw [hb,cond_true] at h
   obtain ⟨cs,h1,h2⟩:=h.elim
   exact ⟨_,_,_,by simp only [Xln,if_pos (Nat.eq_of_beq_eq_true hb),h1];rfl,h2⟩
 ·exact h.elim
theorem Xqz {len sz:Nat} {z:List Value} {ps:List (Nat×Nat×Operand)} {vals:List Value} {objs:List XbO} {top:Nat} {K:CK} (h:Xqn len sz z ps vals objs top K):Good (XlM len sz z ps vals objs top) K:=by
 unfold Xqn at h
 split at h
 ·cases hb:Nat.beq vals.length ps.length
  ·rw [hb] at h;exact h.elim
  ·rw [hb,cond_true] at h
   obtain ⟨cs,h1,h2⟩:=h.elim
   exact ⟨_,_,_,by simp only [XlM,if_pos (Nat.eq_of_beq_eq_true hb),h1],h2⟩
 ·exact h.elim
def Xzp (vals:List Value) (objs:List XbO) (K:CK):Prop:=
 match vals,objs with
 | [.bool c,a,b],[]=>br c (valK a K) (valK b K)
 | _,_=>False
def Xt9 (vals:List Value) (objs:List XbO) (K:CK):Prop:=
 match vals,objs with
 | [.pointer (some ⟨_,o,none⟩)],[.cells cs]=>rd cs o fun v=>K (some v) [some (.cells cs)] none
 | [.pointer (some ⟨_,o,none⟩)],[.row w cs]=>rd cs o fun v=>K (some v) [some (.row w cs)] none
 | [.pointer (some ⟨_,o,none⟩)],[.ty t cs]=>rd cs o fun v=>K (some v) [some (.ty t cs)] none
 | _,_=>False
def Xt5 (n:Nat) (vals:List Value) (objs:List XbO) (K:CK):Prop:=
 match vals,objs with
 | [.pointer (some ⟨_,o,none⟩)],[.cells cs]=>req (decide (o+n≤cs.length)) (rdN cs o n fun l=>K (some (.agg ⟨l⟩)) [some (.cells cs)] none)
 | [.pointer (some ⟨_,o,none⟩)],[.row w cs]=>req (decide (o+n≤cs.length)) (rdN cs o n fun l=>K (some (.agg ⟨l⟩)) [some (.row w cs)] none)
 | [.pointer (some ⟨_,o,none⟩)],[.ty t cs]=>req (decide (o+n≤cs.length)) (rdN cs o n fun l=>K (some (.agg ⟨l⟩)) [some (.ty t cs)] none)
 | _,_=>False
def Xu0 (n:Nat) (vals:List Value) (objs:List XbO) (K:CK):Prop:=
 match vals,objs with
 | [.pointer (some ⟨_,o,none⟩),v],[.cells cs]=>req (decide ((XaX v).length=n∧o+n≤cs.length)&&(XaX v).all Xij) (XoR (setAt cs o (XaX v)) fun cs'=>K none [some (.cells cs')] none)
 | [.pointer (some ⟨_,o,none⟩),v],[.ty t cs]=>req (decide ((XaX v).length=n∧o+n≤cs.length)&&(XaX v).all Xij) (XoR (setAt cs o (XaX v)) fun cs'=>K none [some (.ty t cs')] none)
 | [.pointer (some ⟨_,o,none⟩),v],[.row true cs]=>req (decide ((XaX v).length=n∧o+n≤cs.length)&&(XaX v).all Xij) (∃ cs',setAt cs o (XaX v)=cs'∧K none [some (.row true cs')] none)
 | _,_=>False
def binK (op:BinOp) (x y:Value) (K:CK):Prop:=
 match x,y with
 | .int k a,.int k' b=>match op with
   | .shl=>req (decide (0≤b)) (K (some (.int k (k.wrap (a*2^(min b.toNat k.bits))))) [] none)
   | .shr=>req (decide (0≤b)) (K (some (.int k (a.fdiv (2^(min b.toNat k.bits))))) [] none)
   | .quo=>req (decide (k=k')&&!(decide (b=0))) (K (some (.int k (k.wrap (a.tdiv b)))) [] none)
   | .rem=>req (decide (k=k')&&!(decide (b=0))) (K (some (.int k (a.tmod b))) [] none)
   | op=>XIj (match Xwj op (.int k a) (.int k' b) with|some v=>val v|none=>none) K
 | .string a,.string b=>match op with
   | .add=>req (decide (a.data.toList.length+b.data.toList.length<2^63)) (K (some (.string ⟨⟨a.data.toList++b.data.toList⟩⟩)) [] none)
   | op=>XIj (match Xwj op (.string a) (.string b) with|some v=>val v|none=>none) K
 | _,_=>False
def XJG (op:BinOp) (vals:List Value) (objs:List XbO) (K:CK):Prop:=
 match vals,objs with
 | [x,y],[]=>binK op x y K
 | _,_=>False
def Xua (k:Nat) (neg:Bool) (vals:List Value) (objs:List XbO) (K:CK):Prop:=
 match k,vals,objs with
 | 1,[.slice (some _) n _],[]=>req (Nat.blt 0 n) (K (some (.bool neg)) [] none)
 | k,vals,objs=>XIj (XmU k neg vals objs) K
def XJ6 (vals:List Value) (objs:List XbO) (K:CK):Prop:=
 match vals,objs with
 | [.slice none 0 _],[]=>K (some (.string ⟨⟨[]⟩⟩)) [] none
 | [.slice (some ⟨_,o,none⟩) n 1],[ob]=>match ob.cs with
    | some cs=>req (decide (o+n≤cs.length)) (∃ bs,Xg7 ((cs.drop o).take n)=some bs∧K (some (.string ⟨⟨bs⟩⟩)) [some ob] none)
    | none=>False
 | _,_=>False
def XKf (vals:List Value) (objs:List XbO) (top:Nat) (K:CK):Prop:=
 match vals,objs with
 | [.string s],[]=>∃ cs',ofBytes s.data.toList=cs'∧K (some (.slice (some ⟨top,0,none⟩) s.data.toList.length 1)) [] (some (.row true cs'))
 | _,_=>False
def Xz1 (sz bytes:Nat) (z:List Value) (vals:List Value) (objs:List XbO) (top:Nat) (K:CK):Prop:=
 match vals,objs with
 | [.int _ l,.int _ c],[]=>req (decide (0≤l∧l≤c∧c<2^63∧(bytes:Int)*c≤2^48))
    (∃ cs',(List.replicate c.toNat z).flatten=cs'∧K (some (.slice (some ⟨top,0,none⟩) l.toNat sz)) [] (some (.row true cs')))
 | _,_=>False
def Xqi (n:Nat) (hasLo hasHi:Bool) (bs:List Value) (K:Nat→Nat→Prop):Prop:=
 match hasLo,hasHi,bs with
 | false,false,[]=>K 0 n
 | true,false,[.int _ l]=>req (decide (0≤l∧l≤n)) (K l.toNat n)
 | false,true,[.int _ h]=>req (decide (0≤h∧h≤n)) (K 0 h.toNat)
 | true,true,[.int _ l,.int _ h]=>req (decide (0≤h∧h≤n∧0≤l∧l≤h.toNat)) (K l.toNat h.toNat)
 | _,_,_=>False
theorem Xqi.elim {n:Nat} {hl hh:Bool} {bs:List Value} {K:Nat→Nat→Prop} (h:Xqi n hl hh bs K):∃ l u,XBY n hl hh bs=some (l,u)∧K l u:=by
 unfold Xqi at h
 split at h
 ·exact ⟨_,_,rfl,h⟩
 ·obtain ⟨h1,h2⟩:=h.elim;exact ⟨_,_,by simp only [XBY];rw [if_pos (of_decide_eq_true h1)],h2⟩
 ·obtain ⟨h1,h2⟩:=h.elim;exact ⟨_,_,by simp only [XBY];rw [if_pos (of_decide_eq_true h1)],h2⟩
 ·obtain ⟨h1,h2⟩:=h.elim;exact ⟨_,_,by simp only [XBY];rw [if_pos (of_decide_eq_true h1)],h2⟩
 ·exact h.elim
def Xsh (bl bh:Bool) (vals:List Value) (objs:List XbO) (K:CK):Prop:=
 match vals,objs with
 | .string s::bs,[]=>Xqi s.data.toList.length bl bh bs fun l h=>K (some (.string ⟨⟨(s.data.toList.drop l).take (h - l)⟩⟩)) [] none
 | _,_=>False
def XrG (sz:Nat) (bl bh:Bool) (vals:List Value) (objs:List XbO) (K:CK):Prop:=
 match vals,objs with
 | .slice none 0 c::bs,[]=>Xqi 0 bl bh bs fun _ _=>K (some (.slice none 0 c)) [] none
 | .slice (some ⟨b,o,none⟩) n sz'::bs,[]=>req (Nat.beq sz sz') (Xqi n bl bh bs fun l h=>K (some (.slice (some ⟨b,o+l*sz,none⟩) (h - l) sz)) [] none)
 | _,_=>False
def Xsn (n sz:Nat) (bl bh:Bool) (vals:List Value) (objs:List XbO) (K:CK):Prop:=
 match vals,objs with
 | .pointer (some ⟨b,o,none⟩)::bs,[ob]=>match ob.cs with
   | some cs=>req (decide (o+n*sz≤cs.length)) (Xqi n bl bh bs fun l h=>K (some (.slice (some ⟨b,o+l*sz,none⟩) (h - l) sz)) [some ob] none)
   | none=>False
 | _,_=>False
def Xum (n sz:Nat) (vals:List Value) (objs:List XbO) (K:CK):Prop:=
 match vals,objs with
 | [.pointer (some ⟨b,o,none⟩),.int _ i],[]=>req (decide (0≤i∧i<n)) (K (some (.pointer (some ⟨b,o+i.toNat*sz,none⟩))) [] none)
 | _,_=>False
def XuE (sz:Nat) (vals:List Value) (objs:List XbO) (K:CK):Prop:=
 match vals,objs with
 | [.slice (some ⟨b,o,none⟩) n _,.int _ i],[]=>req (decide (0≤i∧i<n)) (K (some (.pointer (some ⟨b,o+i.toNat*sz,none⟩))) [] none)
 | _,_=>False
def XuQ (n:Nat) (vals:List Value) (objs:List XbO) (K:CK):Prop:=
 match vals,objs with
 | [.agg ⟨cs⟩,.int _ i],[]=>req (decide (0≤i∧i<n)) (rd cs i.toNat fun v=>K (some v) [] none)
 | _,_=>False
def XuL (n sz:Nat) (vals:List Value) (objs:List XbO) (K:CK):Prop:=
 match vals,objs with
 | [.agg ⟨cs⟩,.int _ i],[]=>req (decide (0≤i∧i<n∧i.toNat*sz+sz≤cs.length)) (rdN cs (i.toNat*sz) sz fun l=>K (some (.agg ⟨l⟩)) [] none)
 | _,_=>False
def rdS (s:List UInt8) (i:Nat) (K:UInt8→Prop):Prop:=match s[i]? with|some b=>K b|none=>False
theorem rdS.intro {s:List UInt8} {i:Nat} {K:UInt8→Prop} {b:UInt8} (h:s[i]?=some b) (k:K b):rdS s i K:=by unfold rdS;rw [h];exact k
theorem rdS.elim {s:List UInt8} {i:Nat} {K:UInt8→Prop} (h:rdS s i K):∃ b,s[i]?=some b∧K b:=by
 unfold rdS at h;split at h
 ·exact ⟨_,by assumption,h⟩
 ·exact h.elim
def XzF (vals:List Value) (objs:List XbO) (K:CK):Prop:=
 match vals,objs with
 | [.string s,.int _ i],[]=>req (decide (0≤i)) (rdS s.data.toList i.toNat fun b=>K (some (.int .u8 b.toNat)) [] none)
 | _,_=>False
def XNM (vals:List Value) (objs:List XbO) (K:CK):Prop:=
 match vals,objs with
 | [.string s,.int .u8 c],[]=>K (some (.int .i64 (ixB s.data.toList c))) [] none
 | _,_=>False
def XyA (sz:Nat) (y:Value) (objs:List XbO) (K:List Value→Nat→Prop):Prop:=
 match y,objs with
 | .string s,_=>K (ofBytes s.data.toList) s.data.toList.length
 | .slice none 0 _,_=>K [] 0
 | .slice (some a) n _,[o]=>match o.cs with
   | some cs=>req (decide (a.off+n*sz≤cs.length)) (K ((cs.drop a.off).take (n*sz)) n)
   | none=>False
 | _,_=>False
theorem XyA.elim {sz:Nat} {y:Value} {objs:List XbO} {K:List Value→Nat→Prop} (h:XyA sz y objs K):∃ c n,XjQ sz y objs=some c∧XnI y=some n∧K c n:=by
 unfold XyA at h
 split at h
 ·exact ⟨_,_,rfl,rfl,h⟩
 ·exact ⟨_,_,rfl,rfl,h⟩
 ·split at h
  ·rename_i cs hcs
   obtain ⟨h1,h2⟩:=h.elim
   exact ⟨_,_,by simp only [XjQ,hcs];rw [if_pos (of_decide_eq_true h1)],rfl,h2⟩
  ·exact h.elim
 ·exact h.elim
def XNc (t sz bytes:Nat) (vals:List Value) (objs:List XbO) (top:Nat) (K:CK):Prop:=
 match vals,objs with
 | [.slice none 0 _,y],objs=>XyA sz y objs fun new m=>req (decide (m*bytes≤2^47∧new.length=m*sz)) (∃ cs' n',new=cs'∧m=n'∧K (some (.slice (some ⟨top,0,none⟩) n' sz)) (objs.map some) (some (.row true cs')))
 | [.slice (some ⟨b,o,none⟩) n sz',y],.row true cs::objs=>XyA sz y objs fun new m=>
    req (decide ((n+m)*bytes≤2^47∧o+n*sz≤cs.length∧sz=sz'∧new.length=m*sz)&&new.all Xij&&(Xe2 y).all (fun c=>!Nat.beq b c))
     (∃ cs' n',(cs.drop o).take (n*sz)++new=cs'∧n+m=n'∧K (some (.slice (some ⟨top,0,none⟩) n' sz)) (none::objs.map some) (some (.row true cs')))
 | [.func (.method _) ⟨[.slice none 0 e]⟩ ⟨[]⟩, y], objs => XyA sz y objs fun new m => req (decide (m * bytes ≤ 2 ^ 47 ∧ new.length = m * sz ∧ sz = 1 ∧ e = t)) (∃ cs' n', new = cs' ∧ m = n' ∧ K (some (.func (.method "") ⟨[.slice (some ⟨top, 0, none⟩) n' 1]⟩ ⟨[]⟩)) (objs.map some) (some (.ty t cs')))
 | [.func (.method _) ⟨[.slice (some ⟨b,0,none⟩) n 1]⟩ ⟨[]⟩,y],.ty e cs::objs=>XyA sz y objs fun new m=>
    req (decide ((n+m)*bytes≤2^47∧n≤cs.length∧sz=1∧e=t∧new.length=m)&&new.all Xij&&(Xe2 y).all (fun c=>!Nat.beq b c))
     (∃ cs' n', cs.take n ++ new = cs' ∧ n + m = n' ∧ K (some (.func (.method "") ⟨[.slice (some ⟨top, 0, none⟩) n' 1]⟩ ⟨[]⟩)) (none :: objs.map some) (some (.ty t cs')))
 | _,_=>False
def XxD (t:Nat) (vals:List Value) (objs:List XbO) (K:CK):Prop:=
 match vals,objs with
 | [.pointer none,.int .i64 0],[]=>K (some (.string ⟨⟨[]⟩⟩)) [] none
 | [.func (.method _) ⟨[.slice (some ⟨_,0,none⟩) n 1]⟩ ⟨[.bool true]⟩,.int .i64 m],[.ty e cs]=>req (decide (e=t∧m=n∧n≤cs.length∧n<2^63))
    (∃ bs,Xg7 (cs.take n)=some bs∧K (some (.string ⟨⟨bs⟩⟩)) [some (.row false cs)] none)
 | _,_=>False
def XL4 (sz:Nat) (vals:List Value) (objs:List XbO) (K:CK):Prop:=
 match vals,objs with
 | [.slice none 0 _],[]=>K (some (.tuple ⟨[]⟩)) [] none
 | [.slice (some ⟨_,o,none⟩) n sz'],[.row true cs]=>req (decide (sz=sz'∧o+n*sz=cs.length)) (∃ cs',cs.take o=cs'∧K (some (.tuple ⟨[]⟩)) [some (.row true cs')] none)
 | _,_=>False
def Xuz (vals:List Value) (objs:List XbO) (K:CK):Prop:=
 match vals,objs with
 | [.pointer (some ⟨_,0,none⟩)],[.siter s pos]=>
    br (decide (pos<s.size)) (K (some (.tuple #[.bool true,.int .i64 pos,.int .i32 (Utf8.decode s pos).1])) [some (.siter s (pos+(Utf8.decode s pos).2))] none)
     (K (some (.tuple #[.bool false])) [some (.siter s pos)] none)
 | _,_=>False
def XL8 (op:VOp) (vals:List Value) (objs:List XbO) (top:Nat) (K:CK):Prop:=
 match op with
 | .pick _ _ _=>Xzp vals objs K
 | .load1 _ _=>Xt9 vals objs K
 | .loadN ks _=>Xt5 ks.length vals objs K
 | .store n _ _=>Xu0 n vals objs K
 | .bin op _ _=>XJG op vals objs K
 | .isNil k neg _=>Xua k neg vals objs K
 | .b2s _=>XJ6 vals objs K
 | .s2b _=>XKf vals objs top K
 | .mkSl sz bytes z _ _=>Xz1 sz bytes z vals objs top K
 | .sliceS _ lo hi=>Xsh lo.isSome hi.isSome vals objs K
 | .sliceL sz _ lo hi=>XrG sz lo.isSome hi.isSome vals objs K
 | .sliceA n sz _ lo hi=>Xsn n sz lo.isSome hi.isSome vals objs K
 | .idxAA n sz _ _=>Xum n sz vals objs K
 | .idxAL sz _ _=>XuE sz vals objs K
 | .idxV1 n _ _=>XuQ n vals objs K
 | .idxVN n sz _ _=>XuL n sz vals objs K
 | .idxS _ _=>XzF vals objs K
 | .ixb _ _=>XNM vals objs K
 | .app t sz bytes _ _=>XNc t sz bytes vals objs top K
 | .ustr t _ _=>XxD t vals objs K
 | .clr sz _=>XL4 sz vals objs K
 | .build z ps=>XtT z ps vals objs K
 | .buildSl len sz z ps=>Xqn len sz z ps vals objs top K
 | .nextS _=>Xuz vals objs K
 | op=>XIj (core op vals objs top) K
theorem Xue {vals:List Value} {objs:List XbO} {K:CK} (h:Xzp vals objs K):Good (XsQ vals objs) K:=by
 unfold Xzp at h
 split at h
 ·rename_i c _ _
  cases c
  ·simp only [br,valK,Xh0] at h;exact ⟨_,_,_,rfl,h⟩
  ·simp only [br,valK,Xh0] at h;exact ⟨_,_,_,rfl,h⟩
 ·exact h.elim
theorem Xte {vals:List Value} {objs:List XbO} {K:CK} (h:Xt9 vals objs K):Good (Xka vals objs) K:=by
 unfold Xt9 at h
 split at h
 ·obtain ⟨v,h1,h2⟩:=rd.elim h;exact ⟨_,_,_,by simp only [Xka,XbO.cs,h1],h2⟩
 ·obtain ⟨v,h1,h2⟩:=rd.elim h;exact ⟨_,_,_,by simp only [Xka,XbO.cs,h1],h2⟩
 ·obtain ⟨v,h1,h2⟩:=rd.elim h;exact ⟨_,_,_,by simp only [Xka,XbO.cs,h1],h2⟩
 ·exact h.elim
theorem XtF {n:Nat} {vals:List Value} {objs:List XbO} {K:CK} (h:Xt5 n vals objs K):Good (Xj0 n vals objs) K:=by
 unfold Xt5 at h
 split at h
 ·obtain ⟨h1,h2⟩:=req.elim h
  obtain ⟨_,h3⟩:=rdN.elim h2
  exact ⟨_,_,_,by simp only [Xj0,XbO.cs,if_pos (of_decide_eq_true h1)],h3⟩
 ·obtain ⟨h1,h2⟩:=req.elim h
  obtain ⟨_,h3⟩:=rdN.elim h2
  exact ⟨_,_,_,by simp only [Xj0,XbO.cs,if_pos (of_decide_eq_true h1)],h3⟩
 ·obtain ⟨h1,h2⟩:=req.elim h
  obtain ⟨_,h3⟩:=rdN.elim h2
  exact ⟨_,_,_,by simp only [Xj0,XbO.cs,if_pos (of_decide_eq_true h1)],h3⟩
 ·exact h.elim
theorem XtH {n:Nat} {vals:List Value} {objs:List XbO} {K:CK} (h:Xu0 n vals objs K):Good (Xli n vals objs) K:=by
 unfold Xu0 at h
 split at h
 ·obtain ⟨h1,h2⟩:=req.elim h
  rw [XlI] at h2
  simp only [Bool.and_eq_true,decide_eq_true_eq] at h1
  exact ⟨_,_,_,by simp only [Xli,XbO.cs,XbO.wr];rw [if_pos ⟨h1.1.1,h1.1.2,h1.2⟩],h2⟩
 ·obtain ⟨h1,h2⟩:=req.elim h
  rw [XlI] at h2
  simp only [Bool.and_eq_true,decide_eq_true_eq] at h1
  exact ⟨_,_,_,by simp only [Xli,XbO.cs,XbO.wr];rw [if_pos ⟨h1.1.1,h1.1.2,h1.2⟩],h2⟩
 ·obtain ⟨h1,cs',rfl,h2⟩:=req.elim h
  simp only [Bool.and_eq_true,decide_eq_true_eq] at h1
  exact ⟨_,_,_,by simp only [Xli,XbO.cs,XbO.wr];rw [if_pos ⟨h1.1.1,h1.1.2,h1.2⟩],h2⟩
 ·exact h.elim
theorem XwF {op:BinOp} {vals:List Value} {objs:List XbO} {K:CK} (h:XJG op vals objs K):Good (XuG op vals objs) K:=by
 unfold XJG at h
 split at h
 ·rename_i x y
  have key:∀ v,Xwj op x y=some v→K (some v) [] none→Good (XuG op [x,y] []) K:=fun v h1 h2=>⟨_,_,_,by simp only [XuG,h1,val],h2⟩
  unfold binK at h
  split at h
  ·split at h
   ·obtain ⟨h1,h2⟩:=req.elim h
    exact key _ (by simp only [Xwj];rw [if_pos (of_decide_eq_true h1)]) h2
   ·obtain ⟨h1,h2⟩:=req.elim h
    exact key _ (by simp only [Xwj];rw [if_pos (of_decide_eq_true h1)]) h2
   ·obtain ⟨h1,h2⟩:=req.elim h
    simp only [Bool.and_eq_true,decide_eq_true_eq,Bool.not_eq_true',decide_eq_false_iff_not] at h1
    exact key _ (by simp only [Xwj];rw [if_pos h1.1,if_neg h1.2]) h2
   ·obtain ⟨h1,h2⟩:=req.elim h
    simp only [Bool.and_eq_true,decide_eq_true_eq,Bool.not_eq_true',decide_eq_false_iff_not] at h1
    exact key _ (by simp only [Xwj];rw [if_pos h1.1,if_neg h1.2]) h2
   ·exact h.good
  ·split at h
   ·obtain ⟨h1,h2⟩:=req.elim h
    exact key _ (by simp only [Xwj];rw [if_pos (of_decide_eq_true h1)]) h2
   ·exact h.good
  ·exact h.elim
 ·exact h.elim
theorem Xtm {k:Nat} {neg:Bool} {vals:List Value} {objs:List XbO} {K:CK} (h:Xua k neg vals objs K):Good (XmU k neg vals objs) K:=by
 unfold Xua at h
 split at h
 ·rename_i n _
  obtain ⟨h1,h2⟩:=req.elim h
  cases n with
  | zero=>simp at h1
  | succ n=>exact ⟨_,_,_,by simp only [XmU,XIe,val];cases neg<;>rfl,h2⟩
 ·exact h.good
theorem Xwt {vals:List Value} {objs:List XbO} {K:CK} (h:XJ6 vals objs K):Good (Xsj vals objs) K:=by
 unfold XJ6 at h
 split at h
 ·exact ⟨_,_,_,rfl,h⟩
 ·split at h
  ·rename_i cs hcs
   obtain ⟨h1,bs,h2,h3⟩:=req.elim h
   exact ⟨_,_,_,by simp only [Xsj,hcs];rw [if_pos (of_decide_eq_true h1)];simp only [h2],h3⟩
  ·exact h.elim
 ·exact h.elim
theorem XwD {vals:List Value} {objs:List XbO} {top:Nat} {K:CK} (h:XKf vals objs top K):Good (XFq vals objs top) K:=by
 unfold XKf at h
 split at h
 ·obtain ⟨cs',rfl,h⟩:=h;exact ⟨_,_,_,rfl,h⟩
 ·exact h.elim
theorem XtW {sz bytes:Nat} {z:List Value} {vals:List Value} {objs:List XbO} {top:Nat} {K:CK} (h:Xz1 sz bytes z vals objs top K):Good (Xs7 sz bytes z vals objs top) K:=by
 unfold Xz1 at h
 split at h
 ·obtain ⟨h1,cs',rfl,h2⟩:=req.elim h
  exact ⟨_,_,_,by simp only [Xs7];rw [if_pos (of_decide_eq_true h1)],h2⟩
 ·exact h.elim
theorem XrS {bl bh:Bool} {vals:List Value} {objs:List XbO} {K:CK} (h:Xsh bl bh vals objs K):Good (Xmi bl bh vals objs) K:=by
 unfold Xsh at h
 split at h
 ·obtain ⟨l,u,h1,h2⟩:=Xqi.elim h
  exact ⟨_,_,_,by simp only [Xmi,h1,val],h2⟩
 ·exact h.elim
theorem XrU {sz:Nat} {bl bh:Bool} {vals:List Value} {objs:List XbO} {K:CK} (h:XrG sz bl bh vals objs K):Good (XkS sz bl bh vals objs) K:=by
 unfold XrG at h
 split at h
 ·obtain ⟨l,u,h1,h2⟩:=Xqi.elim h
  exact ⟨_,_,_,by simp only [XkS,h1,val],h2⟩
 ·obtain ⟨h0,h⟩:=req.elim h
  obtain ⟨l,u,h1,h2⟩:=Xqi.elim h
  exact ⟨_,_,_,by simp only [XkS];rw [if_pos (Nat.eq_of_beq_eq_true h0)];simp only [h1,val],h2⟩
 ·exact h.elim
theorem Xrt {n sz:Nat} {bl bh:Bool} {vals:List Value} {objs:List XbO} {K:CK} (h:Xsn n sz bl bh vals objs K):Good (XjR n sz bl bh vals objs) K:=by
 unfold Xsn at h
 split at h
 ·split at h
  ·rename_i cs hcs
   obtain ⟨h0,h⟩:=req.elim h
   obtain ⟨l,u,h1,h2⟩:=Xqi.elim h
   exact ⟨_,_,_,by simp only [XjR,hcs];rw [if_pos (of_decide_eq_true h0)];simp only [h1],h2⟩
  ·exact h.elim
 ·exact h.elim
theorem XtM {n sz:Nat} {vals:List Value} {objs:List XbO} {K:CK} (h:Xum n sz vals objs K):Good (Xn8 n sz vals objs) K:=by
 unfold Xum at h
 split at h
 ·obtain ⟨h1,h2⟩:=req.elim h
  exact ⟨_,_,_,by simp only [Xn8,val];rw [if_pos (of_decide_eq_true h1)],h2⟩
 ·exact h.elim
theorem XtB {sz:Nat} {vals:List Value} {objs:List XbO} {K:CK} (h:XuE sz vals objs K):Good (Xoz sz vals objs) K:=by
 unfold XuE at h
 split at h
 ·obtain ⟨h1,h2⟩:=req.elim h
  exact ⟨_,_,_,by simp only [Xoz,val];rw [if_pos (of_decide_eq_true h1)],h2⟩
 ·exact h.elim
theorem XtC {n:Nat} {vals:List Value} {objs:List XbO} {K:CK} (h:XuQ n vals objs K):Good (Xn3 n vals objs) K:=by
 unfold XuQ at h
 split at h
 ·obtain ⟨h1,h2⟩:=req.elim h
  obtain ⟨v,h3,h4⟩:=rd.elim h2
  exact ⟨_,_,_,by simp only [Xn3];rw [if_pos (of_decide_eq_true h1)];simp only [h3,val],h4⟩
 ·exact h.elim
theorem XsG {n sz:Nat} {vals:List Value} {objs:List XbO} {K:CK} (h:XuL n sz vals objs K):Good (Xoq n sz vals objs) K:=by
 unfold XuL at h
 split at h
 ·obtain ⟨h1,h2⟩:=req.elim h
  obtain ⟨_,h3⟩:=rdN.elim h2
  exact ⟨_,_,_,by simp only [Xoq,val];rw [if_pos (of_decide_eq_true h1)],h3⟩
 ·exact h.elim
theorem Xuc {vals:List Value} {objs:List XbO} {K:CK} (h:XzF vals objs K):Good (XqQ vals objs) K:=by
 unfold XzF at h
 split at h
 ·obtain ⟨h1,h2⟩:=req.elim h
  obtain ⟨v,h3,h4⟩:=rdS.elim h2
  exact ⟨_,_,_,by simp only [XqQ];rw [if_pos (of_decide_eq_true h1)];simp only [h3,val],h4⟩
 ·exact h.elim
theorem XwX {vals:List Value} {objs:List XbO} {K:CK} (h:XNM vals objs K):Good (XBx vals objs) K:=by
 unfold XNM at h
 split at h
 ·exact ⟨_,_,_,rfl,h⟩
 ·exact h.elim
theorem Xu2 {t:Nat} {vals:List Value} {objs:List XbO} {K:CK} (h:XxD t vals objs K):Good (Xrf t vals objs) K:=by
 unfold XxD at h
 split at h
 ·exact ⟨_,_,_,rfl,h⟩
 ·obtain ⟨h1,bs,h2,h3⟩:=req.elim h
  exact ⟨_,_,_,by simp only [Xrf];rw [if_pos (of_decide_eq_true h1)];simp only [h2],h3⟩
 ·exact h.elim
theorem Xw6 {sz:Nat} {vals:List Value} {objs:List XbO} {K:CK} (h:XL4 sz vals objs K):Good (Xwv sz vals objs) K:=by
 unfold XL4 at h
 split at h
 ·exact ⟨_,_,_,rfl,h⟩
 ·obtain ⟨h1,cs',rfl,h3⟩:=req.elim h
  exact ⟨_,_,_,by simp only [Xwv];rw [if_pos (of_decide_eq_true h1)],h3⟩
 ·exact h.elim
theorem Xwo {t sz bytes:Nat} {vals:List Value} {objs:List XbO} {top:Nat} {K:CK} (h:XNc t sz bytes vals objs top K):Good (Xuk t sz bytes vals objs top) K:=by
 unfold XNc at h
 split at h
 ·obtain ⟨c,m,h1,h2,h3⟩:=XyA.elim h
  obtain ⟨h4,cs',n',rfl,rfl,h5⟩:=req.elim h3
  exact ⟨_,_,_,by simp only [Xuk,h1,h2];rw [if_pos (of_decide_eq_true h4)],h5⟩
 ·obtain ⟨c,m,h1,h2,h3⟩:=XyA.elim h
  obtain ⟨h4,cs',n',rfl,rfl,h5⟩:=req.elim h3
  simp only [Bool.and_eq_true,decide_eq_true_eq] at h4
  exact ⟨_,_,_,by simp only [Xuk,h1,h2];rw [if_pos ⟨h4.1.1.1,h4.1.1.2.1,h4.1.1.2.2.1,h4.1.1.2.2.2,h4.1.2,h4.2⟩],h5⟩
 ·obtain ⟨c,m,h1,h2,h3⟩:=XyA.elim h
  obtain ⟨h4,cs',n',rfl,rfl,h5⟩:=req.elim h3
  exact ⟨_,_,_,by simp only [Xuk,h1,h2,bSl];rw [if_pos (of_decide_eq_true h4)],h5⟩
 ·obtain ⟨c,m,h1,h2,h3⟩:=XyA.elim h
  obtain ⟨h4,cs',n',rfl,rfl,h5⟩:=req.elim h3
  simp only [Bool.and_eq_true,decide_eq_true_eq] at h4
  exact ⟨_,_,_,by simp only [Xuk,h1,h2,bSl];rw [if_pos ⟨h4.1.1.1,h4.1.1.2.1,h4.1.1.2.2.1,h4.1.1.2.2.2.1,h4.1.1.2.2.2.2,h4.1.2,h4.2⟩],h5⟩
 ·exact h.elim
theorem Xtc {vals:List Value} {objs:List XbO} {K:CK} (h:Xuz vals objs K):Good (XmZ vals objs) K:=by
 unfold Xuz at h
 split at h
 ·rename_i s pos
  cases hb:decide (pos<s.size) with
  | true=>rw [hb] at h;exact ⟨_,_,_,by simp only [XmZ];rw [if_pos (of_decide_eq_true hb)],h⟩
  | false=>rw [hb] at h;exact ⟨_,_,_,by simp only [XmZ];rw [if_neg (of_decide_eq_false hb)],h⟩
 ·exact h.elim
theorem XL8.good {op:VOp} {vals:List Value} {objs:List XbO} {top:Nat} {K:CK} (h:XL8 op vals objs top K):Good (core op vals objs top) K:=by
 cases op with
 | pick=>exact Xue h
 | load1=>exact Xte h
 | loadN=>exact XtF h
 | store=>exact XtH h
 | bin=>exact XwF h
 | isNil=>exact Xtm h
 | b2s=>exact Xwt h
 | s2b=>exact XwD h
 | mkSl=>exact XtW h
 | sliceS=>exact XrS h
 | sliceL=>exact XrU h
 | sliceA=>exact Xrt h
 | idxAA=>exact XtM h
 | idxAL=>exact XtB h
 | idxV1=>exact XtC h
 | idxVN=>exact XsG h
 | idxS=>exact Xuc h
 | ixb=>exact XwX h
 | app=>exact Xwo h
 | ustr=>exact Xu2 h
 | clr=>exact Xw6 h
 | build=>exact Xtt h
 | buildSl=>exact Xqz h
 | nextS=>exact Xtc h
 | _=>exact XIj.good h
def XoA (h:Hp) (is:List Nat) (os:List (Option XbO)) (K:Hp→Prop):Prop:=
 match is,os with
 | i::is,some o::os=>XrR h i o fun h'=>XoA h' is os K
 | i::is,none::os=>Xuw h i fun h'=>XoA h' is os K
 | _,_=>K h
theorem Xp9:∀ (is:List Nat) (os:List (Option XbO)) (h:Hp) (K:Hp→Prop),XoA h is os K=K (Xgv h is os)
 | [],_,h,K=>by simp [XoA,Xgv]
 | i::is,[],h,K=>by simp [XoA,Xgv]
 | i::is,some o::os,h,K=>by rw [XoA,XjS,Xp9 is os];simp [Xgv]
 | i::is,none::os,h,K=>by rw [XoA,XnG,Xp9 is os];simp [Xgv]
def opK (op:VOp) (vals:List Value) (h:Hp) (top:Nat) (K:Option Value→Hp→Nat→Prop):Prop:=
 match Xjh h (needs op vals) with
 | none=>False
 | some objs=>XL8 op vals objs top fun v os fr=>XoA h (needs op vals) os fun h'=>match fr with
   | none=>K v h' top
   | some o=>XrR h' top o fun h''=>K v h'' (top+1)
theorem opK.elim {op:VOp} {vals:List Value} {h:Hp} {top:Nat} {K:Option Value→Hp→Nat→Prop} (hk:opK op vals h top K):∃ v h' top',XcM op vals h top=some (v,h',top')∧K v h' top':=by
 unfold opK at hk
 split at hk
 ·exact hk.elim
 ·rename_i objs hobjs
  obtain ⟨v,os,fr,hc,hk⟩:=hk.good
  rw [Xp9] at hk
  cases fr with
  | none=>exact ⟨v,_,_,by simp only [XcM,hobjs,hc],hk⟩
  | some o=>simp only [XjS] at hk;exact ⟨v,_,_,by simp only [XcM,hobjs,hc],hk⟩
def Xsy (n:Nat) (e:Env) (d:Option Nat) (v:Value) (K:Env→Prop):Prop:=
 match d with
 | some i=>cond (Nat.blt i n) (XrR e i v K) (K e)
 | none=>K e
theorem Xiz (n:Nat) (e:Env) (d:Option Nat) (v:Value) (K:Env→Prop):Xsy n e d v K=K (XpR n e d v):=by
 cases d with
 | none=>rfl
 | some i=>simp only [Xsy,XpR];cases Nat.blt i n<;>simp [XjS]
def XCR (i:Nat) (vs:List Value) (K:Env→Prop):Prop:=
 match vs with
 | []=>K []
 | v::vs=>XCR (i+1) vs fun e=>K ((i,v)::e)
theorem XvF:∀ (vs:List Value) (i:Nat) (K:Env→Prop),XCR i vs K=K (Xn1 i vs)
 | [],_,_=>rfl
 | v::vs,i,K=>by rw [XCR,XvF vs];rfl
def XpJ (F:Fns) (f:Nat) (args:List Value) (K:XbQ→Prop):Prop:=
 match F f with
 | some ⟨nt,body,_⟩=>cond (Nat.ble args.length nt) (XCR 0 args fun e=>K ⟨f,nt,e,[.code body],[],false,none⟩) False
 | none=>False
theorem XpJ.elim {F:Fns} {f:Nat} {args:List Value} {K:XbQ→Prop} (h:XpJ F f args K):∃ c,XjX F f args=some c∧K c:=by
 unfold XpJ at h
 split at h
 ·rename_i nt body rs hf
  cases hb:Nat.ble args.length nt with
  | false=>rw [hb] at h;exact h.elim
  | true=>
    rw [hb,cond_true,XvF] at h
    exact ⟨_,by simp only [XjX,hf];rw [if_pos (Nat.le_of_ble_eq_true hb)],h⟩
 ·exact h.elim
def Xr6 (u:XbQ) (v:Value) (K:XbQ→Prop):Prop:=
 match u with
 | ⟨fn,nt,env,.inReg (⟨dst,_,_⟩::rest)::k,defers,ret,round⟩=>Xsy nt env dst v fun e=>K ⟨fn,nt,e,.inReg rest::k,defers,ret,round⟩
 | ⟨fn,nt,env,.inRangeFunc l::k,defers,ret,round⟩=>K ⟨fn,nt,env,.endRangeFunc l::k,defers,ret,round⟩
 | _=>False
theorem Xr6.elim {u:XbQ} {v:Value} {K:XbQ→Prop} (h:Xr6 u v K):∃ u',finish u v=some u'∧K u':=by
 unfold Xr6 at h
 split at h
 ·rw [Xiz] at h;exact ⟨_,rfl,h⟩
 ·exact ⟨_,rfl,h⟩
 ·exact h.elim
def XzA (e:Env) (h:Hp) (rs:List XBJ) (K:List Value→Prop):Prop:=
 match rs with
 | []=>K []
 | .tmp t::rs=>match XaD e t with
   | some v=>XzA e h rs fun vs=>K (v::vs)
   | none=>False
 | .cell t ks agg::rs=>match XaD e t with
   | some (.pointer (some ⟨b,o,none⟩))=>match XaD h b with
     | some ob=>match ob.cs with
       | some cs=>cond agg (req (decide (o+ks.length≤cs.length)) (rdN cs o ks.length fun l=>XzA e h rs fun vs=>K (.agg ⟨l⟩::vs))) (rd cs o fun v=>XzA e h rs fun vs=>K (v::vs))
       | none=>False
     | none=>False
   | _=>False
theorem XzA.elim {e:Env} {h:Hp}:∀ {rs:List XBJ} {K:List Value→Prop},XzA e h rs K→∃ vs,XpO e h rs=some vs∧K vs
 | [],K,hk=>⟨[],rfl,hk⟩
 | .tmp t::rs,K,hk=>by
   simp only [XzA] at hk
   split at hk
   ·rename_i v hv
    obtain ⟨vs,h1,h2⟩:=XzA.elim hk
    exact ⟨v::vs,by simp only [XpO,resV,hv,h1],h2⟩
   ·exact hk.elim
 | .cell t ks agg::rs,K,hk=>by
   simp only [XzA] at hk
   split at hk
   ·rename_i b o hp
    split at hk
    ·rename_i ob hob
     split at hk
     ·rename_i cs hcs
      cases agg with
      | true=>
        obtain ⟨h1,h2⟩:=req.elim hk
        obtain ⟨_,h3⟩:=rdN.elim h2
        obtain ⟨vs,h4,h5⟩:=XzA.elim h3
        exact ⟨_,by simp only [XpO,resV,hp,hob,hcs,↓reduceIte,if_pos (of_decide_eq_true h1),h4],h5⟩
      | false=>
        obtain ⟨v,h1,h2⟩:=rd.elim hk
        obtain ⟨vs,h4,h5⟩:=XzA.elim h2
        exact ⟨_,by simp only [XpO,resV,hp,hob,hcs,Bool.false_eq_true,↓reduceIte,h1,h4],h5⟩
     ·exact hk.elim
    ·exact hk.elim
   ·exact hk.elim
def XAX (o:XbO) (K:XbO→Prop):Prop:=
 match o with
 | .cells cs=>K (.cells cs)
 | .row own cs=>K (.row own cs)
 | .ty t cs=>K (.ty t cs)
 | .siter s p=>K (.siter s p)
 | .loop l=>K (.loop l)
 | .marks=>K .marks
theorem XtO (o:XbO) (K:XbO→Prop):XAX o K=K o:=by cases o<;>rfl
def Xvd (h:Hp) (K:Hp→Prop):Prop:=
 match h with
 | []=>K []
 | (i,o)::l=>XAX o fun o=>Xvd l fun l=>K ((i,o)::l)
theorem XpK:∀ (h:Hp) (K:Hp→Prop),Xvd h K=K h
 | [],K=>rfl
 | (i,o)::l,K=>by rw [Xvd,XtO,XpK l]
def Xg9 (s:XbE) (vals:List Value) (h:Hp) (top:Nat) (K:Value→Hp→Nat→Prop):Prop:=
 match Xi0 s vals h top with
 | some (v,h',top')=>Xil v fun v=>Xvd h' fun h'=>K v h' top'
 | none=>False
theorem Xg9.elim {s:XbE} {vals:List Value} {h:Hp} {top:Nat} {K:Value→Hp→Nat→Prop} (hk:Xg9 s vals h top K):∃ v h' top',Xi0 s vals h top=some (v,h',top')∧K v h' top':=by
 unfold Xg9 at hk
 split at hk
 ·rw [Xh0,XpK] at hk;exact ⟨_,_,_,by assumption,hk⟩
 ·exact hk.elim
def XkB (F:Fns) (S:Xm2) (o:Xdf) (rest:List Xdf) (k:List Xgo) (fn nt:Nat) (env:Env) (defers:List Nat) (round:Option Nat) (up:List XbQ) (h:Hp) (top:Nat) (K:VM→Prop):Prop:=
 match o with
 | ⟨dst,op,g⟩=>match Xnx env op.ops with
   | none=>False
   | some vals=>match op with
     | .callF f _=>match S f with
       | some s=>Xg9 s vals h top fun v h' top'=>Xsy nt env dst v fun e=>K ⟨⟨fn,nt,e,.inReg rest::k,defers,false,round⟩,up,h',top'⟩
       | none=>XpJ F f vals fun c=>K ⟨c,⟨fn,nt,env,.inReg (⟨dst,op,g⟩::rest)::k,defers,false,round⟩::up,h,top⟩
     | .callV _ _=>match vals with
       | .func (.func f) ⟨first⟩ ⟨caps⟩::args=>match S f with
         | some s=>Xg9 s (first++args++caps) h top fun v h' top'=>Xsy nt env dst v fun e=>K ⟨⟨fn,nt,e,.inReg rest::k,defers,false,round⟩,up,h',top'⟩
         | none=>XpJ F f (first++args++caps) fun c=>K ⟨c,⟨fn,nt,env,.inReg (⟨dst,op,g⟩::rest)::k,defers,false,round⟩::up,h,top⟩
       | .func (.yield l) ⟨[]⟩ ⟨[]⟩::args=>match Xnf l args h with
         | some c=>K ⟨c,⟨fn,nt,env,.inReg (⟨dst,op,g⟩::rest)::k,defers,false,round⟩::up,h,top⟩
         | none=>False
       | _=>False
     | op=>opK op vals h top fun v h' top'=>match v with
       | some v=>Xsy nt env dst v fun e=>K ⟨⟨fn,nt,e,.inReg rest::k,defers,false,round⟩,up,h',top'⟩
       | none=>Xsy nt env dst Xh9 fun e=>K ⟨⟨fn,nt,e,.inReg rest::k,defers,false,round⟩,up,h',top'⟩
theorem XkB.elim {F:Fns} {S:Xm2} {o:Xdf} {rest:List Xdf} {k:List Xgo} {fn nt:Nat} {env:Env} {todo:List Xgo} {defers:List Nat} {round:Option Nat} {up:List XbQ} {h:Hp} {top:Nat} {K:VM→Prop}
 (hk:XkB F S o rest k fn nt env defers round up h top K):∃ vm',XtD F S o rest k ⟨fn,nt,env,todo,defers,false,round⟩ up h top=some vm'∧K vm':=by
 obtain ⟨dst,op,g⟩:=o
 unfold XkB at hk
 unfold XtD
 simp only at hk ⊢
 split at hk
 ·exact hk.elim
 ·rename_i vals hv
  simp only [hv]
  split at hk
  ·rename_i f xs
   split at hk
   ·rename_i s hs
    obtain ⟨v,h',top',h1,h2⟩:=hk.elim
    rw [Xiz] at h2
    exact ⟨_,by simp only [hs,h1],h2⟩
   ·rename_i hs
    obtain ⟨c,h1,h2⟩:=hk.elim
    exact ⟨_,by simp only [hs,h1],h2⟩
  ·split at hk
   ·split at hk
    ·rename_i s hs
     obtain ⟨v,h',top',h1,h2⟩:=hk.elim
     rw [Xiz] at h2
     exact ⟨_,by simp only [hs,h1],h2⟩
    ·rename_i hs
     obtain ⟨c,h1,h2⟩:=hk.elim
     exact ⟨_,by simp only [hs,h1],h2⟩
   ·split at hk
    ·rename_i c hc
     exact ⟨_,by simp only [hc],hk⟩
    ·exact hk.elim
   ·exact hk.elim
  ·rename_i hne1 hne2
   obtain ⟨v,h',top',h1,h2⟩:=hk.elim
   refine ⟨⟨⟨fn,nt,XpR nt env dst (v.getD Xh9),.inReg rest::k,defers,false,round⟩,up,h',top'⟩,?_,?_⟩
   ·split
    ·exact absurd rfl (hne1 _ _)
    ·exact absurd rfl (hne2 _ _)
    ·simp only [h1]
   ·cases v with
    | none=>simp only [Xiz] at h2;exact h2
    | some v=>simp only [Xiz] at h2;exact h2
def XpY (e:Env) (d:Nat) (x:Bool) (K:Env→Prop):Prop:=
 match e with
 | []=>K []
 | (i,v)::l=>cond (Nat.beq i d) (K ((i,.bool x)::l)) (XpY l d x fun l'=>K ((i,v)::l'))
theorem XnE:∀ {e:Env} {d:Nat} {x:Bool} {K:Env→Prop},XaD e d=some (.bool x)→XpY e d x K=K e
 | [],d,x,K,h=>rfl
 | (i,v)::l,d,x,K,h=>by
   simp only [XaD] at h
   simp only [XpY]
   cases hb:Nat.beq i d with
   | true=>rw [hb,cond_true,Option.some.injEq] at h;subst h;rfl
   | false=>rw [hb,cond_false] at h;simp only [cond_false];rw [XnE h]
def Xip (l:Nat) (jump:Option VC) (up:List XbQ) (h:Hp) (top:Nat) (K:VM→Prop):Prop:=
 match Xio l jump up h top with
 | some ⟨u,us,h',top'⟩=>K ⟨u,us,h',top'⟩
 | none=>False
theorem Xip.elim {l:Nat} {jump:Option VC} {up:List XbQ} {h:Hp} {top:Nat} {K:VM→Prop} (hk:Xip l jump up h top K):∃ vm',Xio l jump up h top=some vm'∧K vm':=by
 unfold Xip at hk
 split at hk
 ·exact ⟨_,by assumption,hk⟩
 ·exact hk.elim
def XmX (l:List Nat) (K:List Nat→Prop):Prop:=
 match l with
 | []=>K []
 | n::l=>XmX l (fun l'=>K (n::l'))
theorem Xks:∀ (l:List Nat) (K:List Nat→Prop),XmX l K=K l
 | [],_=>rfl
 | v::l,K=>by rw [XmX,Xks l]
def Xlc (S:Xm2) (nt:Nat) (o:Xdf) (e:Env) (h:Hp) (m:Nat) (K:Env→Hp→Nat→List Nat→List Nat→Prop):Prop:=
 match o with
 | ⟨dst,op,_⟩=>match Xnx e op.ops with
   | none=>False
   | some vals=>match op with
     | .callF f _=>match S f with
       | some s=>Xg9 s vals h m fun v h' m'=>Xsy nt e dst v fun e=>XmX (XdV (XkH h s.modes vals)) fun r=>XmX (XmM (XkH h s.modes vals)) fun w=>K e h' m' r w
       | none=>False
     | .callV _ _=>match vals with
       | .func (.func f) ⟨first⟩ ⟨caps⟩::args=>match S f with
         | some s=>Xg9 s (first++args++caps) h m fun v h' m'=>Xsy nt e dst v fun e=>XmX (XdV (XkH h s.modes (first++args++caps))) fun r=>XmX (XmM (XkH h s.modes (first++args++caps))) fun w=>K e h' m' r w
         | none=>False
       | _=>False
     | op=>opK op vals h m fun v h' m'=>match v with
       | some v=>Xsy nt e dst v fun e=>K e h' m' (needs op vals) (cond (XxH op) (needs op vals) [])
       | none=>Xsy nt e dst Xh9 fun e=>K e h' m' (needs op vals) (cond (XxH op) (needs op vals) [])
theorem Xlc.elim {S:Xm2} {nt:Nat} {o:Xdf} {e:Env} {h:Hp} {m:Nat} {K:Env→Hp→Nat→List Nat→List Nat→Prop} (hk:Xlc S nt o e h m K) (hw:XeK e o.g=some true) :
 ∃ e' h' m' r w,stepD S nt o e h m=some (e',h',m',r,w)∧K e' h' m' r w:=by
 obtain ⟨dst,op,g⟩:=o
 unfold Xlc at hk
 simp only at hk hw
 unfold stepD
 simp only [hw]
 split at hk
 ·exact hk.elim
 ·rename_i vals hv
  simp only [hv]
  split at hk
  ·split at hk
   ·rename_i s hs
    obtain ⟨v,h',m',h1,h2⟩:=hk.elim
    rw [Xiz,Xks,Xks] at h2
    exact ⟨_,_,_,_,_,by simp only [hs,h1],h2⟩
   ·exact hk.elim
  ·split at hk
   ·split at hk
    ·rename_i s hs
     obtain ⟨v,h',m',h1,h2⟩:=hk.elim
     rw [Xiz,Xks,Xks] at h2
     exact ⟨_,_,_,_,_,by simp only [hs,h1],h2⟩
    ·exact hk.elim
   ·exact hk.elim
  ·rename_i hne1 hne2
   obtain ⟨v,h',m',h1,h2⟩:=hk.elim
   refine ⟨XpR nt e dst (v.getD Xh9),h',m',needs op vals,cond (XxH op) (needs op vals) [],?_,?_⟩
   ·split
    ·exact absurd rfl (hne1 _ _)
    ·exact absurd rfl (hne2 _ _)
    ·simp only [h1]
   ·cases v with
    | none=>simp only [Xiz] at h2;exact h2
    | some v=>simp only [Xiz] at h2;exact h2
def XvJ (S:Xm2) (nt:Nat) (o:Xdf) (e:Env) (h:Hp) (m:Nat) (K:Env→Hp→Nat→List Nat→List Nat→Prop):Prop:=
 match o with
 | ⟨dst,op,none⟩=>Xlc S nt ⟨dst,op,none⟩ e h m K
 | ⟨dst,op,some (d,x)⟩=>match XaD e d with
   | some (.bool b)=>cond x
      (br b (XpY e d true fun e=>Xlc S nt ⟨dst,op,some (d,x)⟩ e h m K) (XpY e d false fun e=>Xsy nt e dst Xh9 fun e=>K e h m [] []))
      (br b (XpY e d true fun e=>Xsy nt e dst Xh9 fun e=>K e h m [] []) (XpY e d false fun e=>Xlc S nt ⟨dst,op,some (d,x)⟩ e h m K))
   | some (.tuple ⟨[]⟩)=>Xsy nt e dst Xh9 fun e=>K e h m [] []
   | _=>False
def Xwu (S:Xm2) (nt:Nat) (os:List Xdf) (e:Env) (h:Hp) (m:Nat) (K:List Fp→Env→Hp→Nat→Prop):Prop:=
 match os with
 | []=>K [] e h m
 | o::os=>XvJ S nt o e h m fun e1 h1 m1 r w=>Xwu S nt os e1 h1 (m1+1) fun fps e h m'=>K ((r,w++List.range' m (m1 - m))::fps) e h m'
theorem br.cases {b:Bool} {p q:Prop} (h:br b p q):(b=true∧p)∨(b=false∧q):=by cases b;exact .inr ⟨rfl,h⟩;exact .inl ⟨rfl,h⟩
theorem XvJ.elim {S:Xm2} {nt:Nat} {o:Xdf} {e:Env} {h:Hp} {m:Nat} {K:Env→Hp→Nat→List Nat→List Nat→Prop} (hk:XvJ S nt o e h m K) :
 ∃ e' h' m' r w,stepD S nt o e h m=some (e',h',m',r,w)∧K e' h' m' r w:=by
 obtain ⟨dst,op,g⟩:=o
 cases g with
 | none=>exact Xlc.elim (o:=⟨dst,op,none⟩) hk rfl
 | some p=>
   obtain ⟨d,x⟩:=p
   simp only [XvJ] at hk
   have skip:XeK e (some (d,x))=some false→(Xsy nt e dst Xh9 fun e=>K e h m [] [])→∃ e' h' m' r w,stepD S nt ⟨dst,op,some (d,x)⟩ e h m=some (e',h',m',r,w)∧K e' h' m' r w:=fun hw hk=>by
    rw [Xiz] at hk
    exact ⟨_,_,_,_,_,by simp only [stepD,hw],hk⟩
   split at hk
   ·rename_i b hb
    cases x with
    | true=>
      rw [cond_true] at hk
      rcases hk.cases with ⟨rfl,hk⟩|⟨rfl,hk⟩<;>rw [XnE hb] at hk
      ·exact Xlc.elim (show Xlc S nt ⟨dst,op,some (d,true)⟩ e h m K from hk) (by simp [XeK,hb])
      ·exact skip (by simp [XeK,hb]) hk
    | false=>
      rw [cond_false] at hk
      rcases hk.cases with ⟨rfl,hk⟩|⟨rfl,hk⟩<;>rw [XnE hb] at hk
      ·exact skip (by simp [XeK,hb]) hk
      ·exact Xlc.elim (show Xlc S nt ⟨dst,op,some (d,false)⟩ e h m K from hk) (by simp [XeK,hb])
   ·rename_i hb
    exact skip (by simp [XeK,hb]) hk
   ·exact hk.elim
theorem Xwu.elim {S:Xm2} {nt:Nat}:∀ {os:List Xdf} {e:Env} {h:Hp} {m:Nat} {K:List Fp→Env→Hp→Nat→Prop},Xwu S nt os e h m K→∃ fps e' h' m',XIP S nt os e h m=some (fps,e',h',m')∧K fps e' h' m'
 | [],e,h,m,K,hk=>⟨_,_,_,_,rfl,hk⟩
 | o::os,e,h,m,K,hk=>by
   simp only [Xwu] at hk
   obtain ⟨e1,h1,m1,r,w,g1,g2⟩:=hk.elim
   obtain ⟨fps,e',h',m',k1,k2⟩:=Xwu.elim g2
   exact ⟨_,_,_,_,by simp only [XIP,g1,k1],k2⟩
def Xzf (F:Fns) (S:Xm2) (f:Nat) (lp:Bool) (L:VM→Prop) (E:Value→Hp→Nat→Prop) (K:VM→Prop):VM→Prop
 | ⟨⟨fn,nt,env,todo,defers,ret,round⟩,up,h,top⟩=>
   match ret with
   | true=>match defers with
     | r::ds=>match XaD h r with
       | some .marks=>Xuw h r fun h'=>K ⟨⟨fn,nt,env,todo,ds,true,round⟩,up,h',top⟩
       | _=>False
     | []=>match F fn with
       | some ⟨_,_,rs⟩=>XzA env h rs fun vs=>match up with
         | u::us=>Xil (XJj vs) fun v=>Xr6 u v fun u'=>K ⟨u',us,h,top⟩
         | []=>cond (Nat.beq fn f) (Xil (XJj vs) fun v=>E v h top) False
       | none=>False
   | false=>match todo with
     | []=>match round with
       | none=>K ⟨⟨fn,nt,env,[],defers,true,none⟩,up,h,top⟩
       | some l=>Xip l none up h top K
     | .code .ret::k=>match round with
       | none=>K ⟨⟨fn,nt,env,.code .ret::k,defers,true,none⟩,up,h,top⟩
       | some l=>Xip l (some .ret) up h top K
     | .code .skip::k=>K ⟨⟨fn,nt,env,k,defers,false,round⟩,up,h,top⟩
     | .inScope::k=>K ⟨⟨fn,nt,env,k,defers,false,round⟩,up,h,top⟩
     | .code (.scope b)::k=>K ⟨⟨fn,nt,env,.code b::.inScope::k,defers,false,round⟩,up,h,top⟩
     | .inBlock _::k=>K ⟨⟨fn,nt,env,k,defers,false,round⟩,up,h,top⟩
     | .code (.seq a b)::k=>K ⟨⟨fn,nt,env,.code a::.code b::k,defers,false,round⟩,up,h,top⟩
     | .code (.cond c a b)::k=>match Xov env c with
       | some (.bool x)=>br x (K ⟨⟨fn,nt,env,.code a::k,defers,false,round⟩,up,h,top⟩) (K ⟨⟨fn,nt,env,.code b::k,defers,false,round⟩,up,h,top⟩)
       | _=>False
     | .code (.block id b)::k=>K ⟨⟨fn,nt,env,.code b::.inBlock id::k,defers,false,round⟩,up,h,top⟩
     | .code (.loop b)::k=>cond lp (L ⟨⟨fn,nt,env,.code b::.inLoop b::k,defers,false,round⟩,up,h,top⟩) (K ⟨⟨fn,nt,env,.code b::.inLoop b::k,defers,false,round⟩,up,h,top⟩)
     | .inLoop b::k=>cond lp (L ⟨⟨fn,nt,env,.code b::.inLoop b::k,defers,false,round⟩,up,h,top⟩) (K ⟨⟨fn,nt,env,.code b::.inLoop b::k,defers,false,round⟩,up,h,top⟩)
     | .code (.exit id)::k=>match exitTo id k with
       | some k'=>K ⟨⟨fn,nt,env,k',defers,false,round⟩,up,h,top⟩
       | none=>match round with
         | none=>False
         | some l=>Xip l (some (.exit id)) up h top K
     | .code (.reg ops)::k=>K ⟨⟨fn,nt,env,.inReg ops::k,defers,false,round⟩,up,h,top⟩
     | .code .stuck::_=>False
     | .code (.regD ops ord post)::k=>Xwu S nt ops env h top fun fps e h m=>req (Xn6 fps ord) (K ⟨⟨fn,nt,e,.inReg post::k,defers,false,round⟩,up,h,m⟩)
     | .inReg []::k=>K ⟨⟨fn,nt,env,k,defers,false,round⟩,up,h,top⟩
     | .inReg (⟨dst,op,none⟩::rest)::k=>XkB F S ⟨dst,op,none⟩ rest k fn nt env defers round up h top K
     | .inReg (⟨dst,op,some (d,w)⟩::rest)::k=>match XaD env d with
       | some (.bool b)=>cond w
          (br b (XpY env d true fun env=>XkB F S ⟨dst,op,some (d,w)⟩ rest k fn nt env defers round up h top K) (XpY env d false fun env=>Xsy nt env dst Xh9 fun e=>K ⟨⟨fn,nt,e,.inReg rest::k,defers,false,round⟩,up,h,top⟩))
          (br b (XpY env d true fun env=>Xsy nt env dst Xh9 fun e=>K ⟨⟨fn,nt,e,.inReg rest::k,defers,false,round⟩,up,h,top⟩) (XpY env d false fun env=>XkB F S ⟨dst,op,some (d,w)⟩ rest k fn nt env defers round up h top K))
       | some (.tuple ⟨[]⟩)=>Xsy nt env dst Xh9 fun e=>K ⟨⟨fn,nt,e,.inReg rest::k,defers,false,round⟩,up,h,top⟩
       | _=>False
     | .code (.rangeF f ps asg body)::k=>match Xov env f,round with
       | some (.func (.func g) ⟨first⟩ ⟨caps⟩),none=>
         XpJ F g (first++[.func (.yield (top+1)) #[] #[]]++caps) fun c=>XrR h top .marks fun h1=>XrR h1 (top+1) (.loop ⟨.ready,none,fn,nt,env,ps,asg,body,top⟩) fun h2=>
          K ⟨c,⟨fn,nt,env,.inRangeFunc (top+1)::k,top::defers,false,none⟩::up,h2,top+2⟩
       | some (.func (.func g) ⟨first⟩ ⟨caps⟩),some l0=>match XaD h l0 with
         | some (.loop r0)=>XpJ F g (first++[.func (.yield top) #[] #[]]++caps) fun c=>XrR h top (.loop ⟨.ready,none,fn,nt,env,ps,asg,body,r0.defers⟩) fun h2=>
            K ⟨c,⟨fn,nt,env,.inRangeFunc top::k,defers,false,some l0⟩::up,h2,top+1⟩
         | _=>False
       | _,_=>False
     | .inRangeFunc _::_=>False
     | .endRangeFunc l::k=>match XaD h l with
       | some (.loop ⟨st,pend,fn',nt',env',ps,asg,body,ds⟩)=>match st with
         | .busy=>False
         | _=>XrR h l (.loop ⟨.exhausted,pend,fn',nt',env',ps,asg,body,ds⟩) fun h'=>match pend with
           | some c=>K ⟨⟨fn,nt,env,.code c::k,defers,false,round⟩,up,h',top⟩
           | none=>K ⟨⟨fn,nt,env,k,defers,false,round⟩,up,h',top⟩
       | _=>False
     | .beginRound::k=>match round with
       | some l=>match XaD h l with
         | some (.loop ⟨st,pend,fn',nt',env',ps,asg,body,ds⟩)=>match st with
           | .ready=>XrR h l (.loop ⟨.busy,pend,fn',nt',env',ps,asg,body,ds⟩) fun h'=>K ⟨⟨fn,nt,env,k,defers,false,some l⟩,up,h',top⟩
           | _=>False
         | _=>False
       | none=>False
section
variable {P:Program} {F:Fns} {S:Xm2}
theorem XzL (hF:Xlx P F) (hS:Xak P S) {f base:Nat} {lp:Bool} {R:Value→Hp→Nat→Prop} {K:VM→Prop} (hK:∀ vm,K vm→XaG P f base vm R) {vm:VM}
 (h:Xzf F S f lp (fun vm=>XaG P f base vm R) R K vm):XaG P f base vm R:=by
 obtain ⟨⟨fn,nt,env,todo,defers,ret,round⟩,up,H,top⟩:=vm
 unfold Xzf at h
 simp only at h
 have go:∀ vm',XdE F S ⟨⟨fn,nt,env,todo,defers,ret,round⟩,up,H,top⟩=some vm'→K vm'→XaG P f base ⟨⟨fn,nt,env,todo,defers,ret,round⟩,up,H,top⟩ R:=
  fun vm' h1 h2=>XaG.next hF hS h1 (hK _ h2)
 split at h
 ·split at h
  ·split at h
   ·rename_i hm
    rw [XnG] at h
    exact go _ (by simp only [XdE,hm]) h
   ·exact h.elim
  ·split at h
   ·rename_i nt' b' rs hf
    obtain ⟨vs,h1,h2⟩:=h.elim
    split at h2
    ·rw [Xh0] at h2
     obtain ⟨u',h3,h4⟩:=h2.elim
     exact go _ (by simp only [XdE,hf,h1,h3]) h4
    ·cases hb:Nat.beq fn f with
     | false=>rw [hb] at h2;exact h2.elim
     | true=>
       rw [hb,cond_true,Xh0] at h2
       have:=Nat.eq_of_beq_eq_true hb
       subst this
       exact XaG.stop hF hf h1 h2
   ·exact h.elim
 ·split at h
  ·split at h
   ·exact go _ (by simp only [XdE]) h
   ·obtain ⟨vm',h1,h2⟩:=h.elim
    exact go _ (by simp only [XdE,h1]) h2
  ·split at h
   ·exact go _ (by simp only [XdE]) h
   ·obtain ⟨vm',h1,h2⟩:=h.elim
    exact go _ (by simp only [XdE,h1]) h2
  ·exact go _ (by simp only [XdE]) h
  ·exact go _ (by simp only [XdE]) h
  ·exact go _ (by simp only [XdE]) h
  ·exact go _ (by simp only [XdE]) h
  ·exact go _ (by simp only [XdE]) h
  ·split at h
   ·rename_i x hx
    rcases h.cases with ⟨rfl,h⟩|⟨rfl,h⟩
    ·exact go _ (by simp only [XdE,hx];rfl) h
    ·exact go _ (by simp only [XdE,hx];rfl) h
   ·exact h.elim
  ·exact go _ (by simp only [XdE]) h
  ·cases lp
   ·exact go _ (by simp only [XdE]) h
   ·exact XaG.next hF hS (vm':=_) (by simp only [XdE]) h
  ·cases lp
   ·exact go _ (by simp only [XdE]) h
   ·exact XaG.next hF hS (vm':=_) (by simp only [XdE]) h
  ·split at h
   ·rename_i k' hk'
    exact go _ (by simp only [XdE,hk']) h
   ·rename_i hk'
    split at h
    ·exact h.elim
    ·obtain ⟨vm',h1,h2⟩:=h.elim
     exact go _ (by simp only [XdE,hk',h1]) h2
  ·exact go _ (by simp only [XdE]) h
  ·exact h.elim
  ·obtain ⟨fps,e',h',m',g1,g2⟩:=h.elim
   obtain ⟨g3,g4⟩:=g2.elim
   exact go _ (by simp only [XdE,g1,g3]) g4
  ·exact go _ (by simp only [XdE]) h
  ·obtain ⟨vm',h1,h2⟩:=XkB.elim (todo:=_) h
   exact go _ (by simp only [XdE,XeK];exact h1) h2
  ·split at h
   ·rename_i b hb
    rename_i w _ _ _
    cases w
    ·rcases h.cases with ⟨rfl,h'⟩|⟨rfl,h'⟩<;>rw [XnE hb] at h'
     ·rw [Xiz] at h'
      replace h:=h'
      exact go _ (by simp only [XdE,XeK,hb];rfl) h
     ·obtain ⟨vm',h1,h2⟩:=XkB.elim (todo:=_) h'
      exact go _ (by simp only [XdE,XeK,hb];exact h1) h2
    ·rcases h.cases with ⟨rfl,h'⟩|⟨rfl,h'⟩<;>rw [XnE hb] at h'
     ·obtain ⟨vm',h1,h2⟩:=XkB.elim (todo:=_) h'
      exact go _ (by simp only [XdE,XeK,hb];exact h1) h2
     ·rw [Xiz] at h'
      replace h:=h'
      exact go _ (by simp only [XdE,XeK,hb];rfl) h
   ·rename_i hb
    rw [Xiz] at h
    exact go _ (by simp only [XdE,XeK,hb]) h
   ·exact h.elim
  ·split at h
   ·rename_i hfv
    obtain ⟨c,h1,h2⟩:=h.elim
    rw [XjS,XjS] at h2
    exact go _ (by simp only [XdE,hfv,h1]) h2
   ·rename_i hfv
    split at h
    ·rename_i r0 hr0
     obtain ⟨c,h1,h2⟩:=h.elim
     rw [XjS] at h2
     exact go _ (by simp only [XdE,hfv,hr0,h1]) h2
    ·exact h.elim
   ·exact h.elim
  ·exact h.elim
  ·split at h
   ·rename_i hl
    split at h
    ·exact h.elim
    ·rename_i hb
     rw [XjS] at h
     split at h
     ·rename_i st _ _ _ _ _ _ _ _ _ _
      exact go _ (by simp only [XdE,hl];cases st<;>first|exact absurd rfl hb|rfl) h
     ·rename_i st _ _ _ _ _ _ _ _ _
      exact go _ (by simp only [XdE,hl];cases st<;>first|exact absurd rfl hb|rfl) h
   ·exact h.elim
  ·split at h
   ·split at h
    ·rename_i hl
     split at h
     ·rw [XjS] at h
      exact go _ (by simp only [XdE,hl]) h
     ·exact h.elim
    ·exact h.elim
   ·exact h.elim
def ev (F:Fns) (S:Xm2) (f:Nat) (lp:Bool) (L:VM→Prop) (E:Value→Hp→Nat→Prop):Nat→VM→Prop
 | 0,vm=>L vm
 | n+1,vm=>Xzf F S f lp L E (ev F S f lp L E n) vm
theorem Xa6 (hF:Xlx P F) (hS:Xak P S) {f base:Nat} (lp:Bool) {R:Value→Hp→Nat→Prop}:∀ (n:Nat) {vm:VM},ev F S f lp (fun vm=>XaG P f base vm R) R n vm→XaG P f base vm R
 | 0,_,h=>h
 | n+1,_,h=>XzL hF hS (fun _ h=>Xa6 hF hS lp n h) h
end
end Go.Vm
namespace Go.Vm
open Go
def XQG (P:Program):List (Nat×VFn)→Prop
 | []=>True
 | (i,vf)::l=>(P.funcs[i]?).bind (XaA P)=some vf∧XQG P l
theorem Xlx.XaM {P:Program}:∀ {l:List (Nat×VFn)},XQG P l→Xlx P (XaD l)
 | [],_,f,vf,h=>by simp [XaD] at h
 | (i,v)::l,hl,f,vf,h=>by
   obtain ⟨h1,h2⟩:=hl
   simp only [XaD] at h
   cases hb:Nat.beq i f with
   | true=>
     rw [hb,cond_true,Option.some.injEq] at h
     subst h
     have:=Nat.eq_of_beq_eq_true hb
     subst this
     cases hf:P.funcs[i]? with
     | none=>simp [hf] at h1
     | some fn=>rw [hf,Option.bind_some] at h1;exact ⟨fn,rfl,h1⟩
   | false=>
     rw [hb,cond_false] at h
     exact Xlx.XaM h2 f vf h
theorem Xak.none {P:Program}:Xak P (fun _=>none):=fun _ _ h=>by cases h
end Go.Vm
namespace Go.Vm
open Go
def subE (e:Env):Env→Prop
 | []=>True
 | (i,v)::l=>XaD e i=some v∧subE e l
theorem XvB {e:Env}:∀ {l:Env},subE e l→∀ i v,XaD l i=some v→XaD e i=some v
 | [],_,i,v,h=>by simp [XaD] at h
 | (j,u)::l,h,i,v,hv=>by
   obtain ⟨h1,h2⟩:=h
   simp only [XaD] at hv
   cases hb:Nat.beq j i with
   | true=>
     rw [hb,cond_true,Option.some.injEq] at hv
     subst hv
     have:=Nat.eq_of_beq_eq_true hb;subst this
     exact h1
   | false=>
     rw [hb,cond_false] at hv
     exact XvB h2 i v hv
theorem XaG.env {P:Program} {f base fn nt:Nat} {e e':Env} {todo:List Xgo} {defers:List Nat} {ret:Bool} {round:Option Nat} {up:List XbQ} {H:Hp} {top:Nat} {R:Value→Hp→Nat→Prop}
 (h:XaG P f base ⟨⟨fn,nt,e',todo,defers,ret,round⟩,up,H,top⟩ R) (hs:subE e e'):XaG P f base ⟨⟨fn,nt,e,todo,defers,ret,round⟩,up,H,top⟩ R:=by
 refine ⟨fun w0 U ρ rf rfs w cs hr=>?_⟩
 exact h.get w0 U ρ rf rfs w cs ⟨{ hr.cur with env:=fun i v hv=>hr.cur.env i v (XvB hs i v hv) },hr.up,hr.heap⟩
end Go.Vm
namespace Go.Vm
open Go Go.RowKit
inductive XN7 where
 | v (x:Value)
 | sl (n:Nat) (cs:List Value)
def entry (k:Nat):List Md→List XN7→List Value
 | .v::ms,.v x::aqs=>x::entry k ms aqs
 | .sl sz::ms,.sl n _::aqs=>.slice (some ⟨k,0,none⟩) n sz::entry (k+1) ms aqs
 | _,_=>[]
def rowsOf (k:Nat):List XN7→Hp
 | .sl _ cs::aqs=>(k,.row false cs)::rowsOf (k+1) aqs
 | .v _::aqs=>rowsOf k aqs
 | []=>[]
def wins:List XN7→Nat
 | .sl _ _::aqs=>wins aqs+1
 | .v _::aqs=>wins aqs
 | []=>0
def ArgR (w:World):Md→XN7→Value→Prop
 | .v,.v x,rv=>Xbm x=true∧rv=x
 | .sl sz,.sl n cs,rv=>((∃ a,rv=.slice a 0 0)∧n=0∧cs=[])∨∃ b o c,rv=.slice (some ⟨b,o,none⟩) n c∧n≤c∧∀ ρ,Xbt ρ w ⟨b,o,c*sz⟩ false cs
 | _,_,_=>False
inductive Xyf (w:World):List Md→List XN7→List Value→Prop
 | nil:Xyf w [] [] []
 | cons {m ms a aqs v vs} (h:ArgR w m a v) (t:Xyf w ms aqs vs):Xyf w (m::ms) (a::aqs) (v::vs)
theorem XxE {k n:Nat} {ρc:Ren} {vs rvs:List Value} {Hr:Hp} {w:World} (c1:∀ i l,ρc i=some l→k+1≤i∧i<k+1+n) (c2:VRL ρc vs rvs)
 (c3:∀ i o,XaD Hr i=some o→∃ cs l,o=.row false cs∧ρc i=some l∧∀ ρ',Xbt ρ' w l false cs) (l:Loc) (cs:List Value) (hc:∀ ρ',Xbt ρ' w l false cs) :
 (∀ i l',upd ρc k l i=some l'→k≤i∧i<k+1+n)∧VRL (upd ρc k l) vs rvs ∧
   (∀ i o,XaD ((k,.row false cs)::Hr) i=some o→∃ cs l',o=.row false cs∧upd ρc k l i=some l'∧∀ ρ',Xbt ρ' w l' false cs)∧upd ρc k l k=some l:=by
 have hoff:ρc k=none:=by
  cases e:ρc k with
  | none=>rfl
  | some l=>have:=(c1 k l e).1;omega
 refine ⟨fun i l' e=>?_,c2.mono (Ext.upd hoff),fun i o e=>?_,upd_same _ _ _⟩
 ·by_cases hi:k=i
  ·subst hi;omega
  ·rw [upd_ne _ _ hi] at e;have:=c1 i l' e;omega
 ·rw [XlR] at e
  split at e
  ·rename_i hk
   cases e;subst hk
   exact ⟨cs,l,rfl,upd_same _ _ _,hc⟩
  ·rename_i hk
   obtain ⟨cs',l',a,b,c⟩:=c3 i o e
   exact ⟨cs',l',a,by rw [upd_ne _ _ hk];exact b,c⟩
theorem Xp7 {w:World}:∀ {ms:List Md} {aqs:List XN7} {rvals:List Value} (k:Nat),Xyf w ms aqs rvals →
 ∃ ρc:Ren,(∀ i l,ρc i=some l→k≤i∧i<k+wins aqs)∧VRL ρc (entry k ms aqs) rvals ∧
  (∀ i o,XaD (rowsOf k aqs) i=some o→∃ cs l,o=.row false cs∧ρc i=some l∧∀ ρ',Xbt ρ' w l false cs)
 | _,_,_,k,.nil=>⟨fun _=>none,fun i l e=>by simp at e,.nil,fun i o e=>by simp [rowsOf,XaD] at e⟩
 | _,_,_,k,.cons (m:=m) (a:=a) (v:=v) h t=>by
   cases m with
   | v=>
     cases a with
     | v x=>
       obtain ⟨hf,rfl⟩:=h
       obtain ⟨ρc,c1,c2,c3⟩:=Xp7 k t
       exact ⟨ρc,c1,.cons (VR.flat _ _ hf) c2,c3⟩
     | _=>exact h.elim
   | sl sz=>
     cases a with
     | sl n cs=>
       obtain ⟨ρc,c1,c2,c3⟩:=Xp7 (k+1) t
       rcases h with ⟨⟨a,rfl⟩,rfl,rfl⟩|⟨b,o,c,rfl,hn,hc⟩
       ·obtain ⟨d1,d2,d3,d4⟩:=XxE c1 c2 c3 ⟨0,0,0⟩ [] (fun ρ'=>⟨Nat.zero_le _,fun i v e=>by simp at e,fun i hi=>absurd hi (Nat.not_lt_zero _)⟩)
        exact ⟨_,by simpa [wins,Nat.add_assoc,Nat.add_comm 1] using d1,.cons (.slice0 _) d2,d3⟩
       ·obtain ⟨d1,d2,d3,d4⟩:=XxE c1 c2 c3 ⟨b,o,c*sz⟩ cs hc
        exact ⟨_,by simpa [wins,Nat.add_assoc,Nat.add_comm 1] using d1,.cons (.slice d4 hn (by simp)) d2,d3⟩
     | _=>exact h.elim
   | pt n=>cases a<;>exact h.elim
   | tr ps=>cases a<;>exact h.elim
theorem XBK {P:Program} {F:Fns} (hF:Xlx P F) {f:Nat} {ms:List Md} {aqs:List XN7} {rvals:List Value} {w:World} {c:XbQ} {r:Bool}
 (ha:Xyf w ms aqs rvals) (hc:XjX F f (entry 0 ms aqs)=some c) (hl:XaG P f (wins aqs) ⟨c,[],rowsOf 0 aqs,wins aqs⟩ (fun v _ _=>v=.bool r)) :
 Calls P f ⟨rvals⟩ w fun e w'=>e=.returned (.bool r)∧Below w.heap.size w w':=by
 intro cs
 obtain ⟨ρc,c1,c2,c3⟩:=Xp7 0 ha
 have hpc:HpR P w UG.no ρc (rowsOf 0 aqs) (wins aqs) w:=
  { obj:=fun i o e=>by obtain ⟨cs',l,rfl,a,b⟩:=c3 i o e;exact ⟨l,a,b ρc,fun e=>by cases e⟩
    dis:=fun i j oi oj li lj _ hi _ _ _ hw=>by obtain ⟨cs',l,rfl,a,b⟩:=c3 i oi hi;cases hw
    lt:=fun i l e=>by have:=c1 i l e;exact .inr ⟨Nat.zero_le _,by omega⟩
    keep:=Keep.refl _ _ }
 obtain ⟨ρ',rv,fr',w',v',Hc,tc,g1,g2,g3,g4,g5,g6,g7⟩:=hl.get w _ ρc _ [] w cs ⟨(Xkz hF hc c2).1,.nil,hpc⟩
 subst g7
 obtain rfl:=g4.XAK
 exact ⟨.returned (.bool r),w',fr',⟨rfl,g5.keep.toBelow⟩,g1,g2,g3⟩
end Go.Vm
namespace Go.Vm
open Go
def XI3 (P:Program):List (Nat×XbE)→Prop
 | []=>True
 | (i,s)::l=>XbM P i s∧XI3 P l
theorem Xak.XaM {P:Program}:∀ {l:List (Nat×XbE)},XI3 P l→Xak P (XaD l)
 | [],_,f,s,h=>by simp [XaD] at h
 | (i,v)::l,hl,f,s,h=>by
   obtain ⟨h1,h2⟩:=hl
   simp only [XaD] at h
   cases hb:Nat.beq i f with
   | true=>
     rw [hb,cond_true,Option.some.injEq] at h
     subst h
     have:=Nat.eq_of_beq_eq_true hb
     subst this
     exact h1
   | false=>
     rw [hb,cond_false] at h
     exact Xak.XaM h2 f s h
theorem Xg9.intro {s:XbE} {vals:List Value} {h:Hp} {top:Nat} {K:Value→Hp→Nat→Prop} {v:Value} {h':Hp} {top':Nat} (e:Xi0 s vals h top=some (v,h',top')) (k:Xil v fun v=>K v h' top'):Xg9 s vals h top K:=by
 unfold Xg9;rw [e];simp only [Xh0,XpK] at *;exact k
def unL {α:Type} (f:Value→Option α):List Value→Option (List α)
 | []=>some []
 | v::l=>match f v with
   | some x=>match unL f l with
     | some xs=>some (x::xs)
     | none=>none
   | none=>none
theorem XAk {α:Type} {f:Value→Option α} {g:α→Value} (h:∀ x,f (g x)=some x):∀ (xs:List α),unL f (xs.map g)=some xs
 | []=>rfl
 | x::xs=>by rw [List.map_cons,unL,h,XAk h xs]
theorem Xvv {α:Type} {f:Value→Option α} {g:α→Value} (h:∀ v x,f v=some x→v=g x):∀ {cs:List Value} {xs:List α},unL f cs=some xs→cs=xs.map g
 | [],xs,e=>by simp only [unL,Option.some.injEq] at e;subst e;rfl
 | v::cs,xs,e=>by
   simp only [unL] at e
   split at e<;>try (cases e;done)
   rename_i x hx
   split at e<;>cases e
   rename_i ys hys
   rw [List.map_cons,←h v x hx,←Xvv h hys]
theorem XnB {α:Type} {g:α→Value} (h:∀ x,Xbm (g x)=true):∀ (xs:List α),Xbm.flatL (xs.map g)=true
 | []=>rfl
 | x::xs=>by rw [List.map_cons,Xbm.flatL,h,XnB h xs];rfl
def asB:Value→Option Bool|.bool b=>some b|_=>none
theorem XAZ (v:Value) (x:Bool) (h:asB v=some x):v=.bool x:=by cases v<;>simp [asB] at h;subst h;rfl
def asI (k:IntKind):Value→Option Int|.int k' n=>if k'=k then some n else none|_=>none
theorem XvA (k:IntKind) (v:Value) (x:Int) (h:asI k v=some x):v=.int k x:=by
 cases v<;>simp [asI] at h
 obtain ⟨rfl,rfl⟩:=h;rfl
def reE (m:Nat→Option Nat) (e:Env):Env→Prop
 | []=>True
 | (i,v)::l=>(∃ v',Xe0 m v=some v'∧XaD e i=some v')∧reE m e l
theorem XuM {m:Nat→Option Nat} {e:Env}:∀ {l:Env},reE m e l→XQo m e l
 | [],_=>trivial
 | (i,v)::l,⟨⟨v',h1,h2⟩,h3⟩=>⟨by rw [h1];exact h2,XuM h3⟩
def reH (m:Nat→Option Nat) (H:Hp):Hp→Prop
 | []=>True
 | (i,o')::l=>(∃ j o,m i=some j∧XaD H j=some o∧Xrq m o o')∧reH m H l
theorem XAx {m:Nat→Option Nat} {H:Hp}:∀ {l:Hp},reH m H l→HSub m H l
 | [],_,i,o,h=>by simp [XaD] at h
 | (k,x)::l,⟨h1,h2⟩,i,o,h=>by
   rw [XlR] at h
   split at h
   ·rename_i e;cases h;subst e;exact h1
   ·exact XAx h2 i o h
def reU (m:Nat→Option Nat):List XbQ→List XbQ→Prop
 | [],[]=>True
 | ⟨fn,nt,e,td,ds,ret,rd⟩::l,⟨fn',nt',e',td',ds',ret',rd'⟩::l'=>(fn'=fn∧nt'=nt∧ret'=ret∧rd=none∧rd'=none∧reE m e e'∧XGI m td'=some td∧XDC m ds'=some ds)∧reU m l l'
 | _,_=>False
theorem Xx2 {m:Nat→Option Nat}:∀ {l l':List XbQ},reU m l l'→XlL (FSub m) l l'
 | [],[],_=>.nil
 | ⟨_,_,_,_,_,_,_⟩::l,⟨_,_,_,_,_,_,_⟩::l',⟨⟨h1,h2,h3,h4,h5,h6,h7,h8⟩,h9⟩=>.cons ⟨h1,h2,XuM h6,h7,h8,h3,by simp only;rw [h4,h5];trivial⟩ (Xx2 h9)
 | [],_::_,h=>h.elim
 | _::_,[],h=>h.elim
def Xr4 (j:Nat):List (Nat×Nat)→Bool
 | []=>true
 | (_,k)::l=>cond (Nat.beq j k) false (Xr4 j l)
def XBW (base top':Nat):List (Nat×Nat)→Bool
 | m=>injM m&&ltM m&&fixM m base
where
 injM:List (Nat×Nat)→Bool
  | []=>true
  | (_,j)::l=>Xr4 j l&&injM l
 ltM:List (Nat×Nat)→Bool
  | []=>true
  | (i,_)::l=>Nat.blt i top'&&ltM l
 fixM (m:List (Nat×Nat)):Nat→Bool
  | 0=>true
  | n+1=>(match XaD m n with|some j=>Nat.beq j n|none=>false)&&fixM m n
theorem Xlq {j:Nat}:∀ {l:List (Nat×Nat)},Xr4 j l=true→∀ i,XaD l i≠some j
 | [],_,i,h=>by simp [XaD] at h
 | (a,k)::l,hv,i,h=>by
   simp only [Xr4] at hv
   cases hb:Nat.beq j k with
   | true=>rw [hb] at hv;cases hv
   | false=>
     rw [hb,cond_false] at hv
     rw [XlR] at h
     split at h
     ·cases h;simp at hb
     ·exact Xlq hv i h
theorem XsU {top':Nat}:∀ {l:List (Nat×Nat)},XBW.injM l=true→∀ i j k,XaD l i=some k→XaD l j=some k→i=j
 | [],_,i,j,k,h,_=>by simp [XaD] at h
 | (a,b)::l,hv,i,j,k,h1,h2=>by
   simp only [XBW.injM,Bool.and_eq_true] at hv
   rw [XlR] at h1 h2
   split at h1<;>split at h2
   ·omega
   ·cases h1;exact absurd h2 (Xlq hv.1 j)
   ·cases h2;exact absurd h1 (Xlq hv.1 i)
   ·exact XsU (top':=top') hv.2 i j k h1 h2
theorem Xvi {top':Nat}:∀ {l:List (Nat×Nat)},XBW.ltM top' l=true→∀ i j,XaD l i=some j→i<top'
 | [],_,i,j,h=>by simp [XaD] at h
 | (a,b)::l,hv,i,j,h=>by
   simp only [XBW.ltM,Bool.and_eq_true] at hv
   rw [XlR] at h
   split at h
   ·rename_i e;subst e;exact Nat.blt_eq.mp hv.1
   ·exact Xvi hv.2 i j h
theorem XsC {m:List (Nat×Nat)}:∀ {n:Nat},XBW.fixM m n=true→∀ i,i<n→XaD m i=some i
 | 0,_,i,h=>absurd h (Nat.not_lt_zero _)
 | n+1,hv,i,h=>by
   simp only [XBW.fixM,Bool.and_eq_true] at hv
   by_cases hi:i=n
   ·subst hi
    have:=hv.1
    split at this
    ·rename_i j hj;rw [hj,Nat.eq_of_beq_eq_true this]
    ·cases this
   ·exact XsC hv.2 i (by omega)
theorem XaG.re {P:Program} {f base fn nt:Nat} {e e':Env} {todo todo':List Xgo} {ds ds':List Nat} {ret:Bool} {up up':List XbQ} {H H':Hp} {top top':Nat} {R:Value→Hp→Nat→Prop}
 (h:XaG P f base ⟨⟨fn,nt,e',todo',ds',ret,none⟩,up',H',top'⟩ R) (m:List (Nat×Nat)) (hc:XBW base top' m=true) (he:reE (XaD m) e e') (hH:reH (XaD m) H H')
 (ht:XGI (XaD m) todo'=some todo:=by rfl) (hd:XDC (XaD m) ds'=some ds:=by rfl) (hu:reU (XaD m) up up':=by trivial) :
 XaG P f base ⟨⟨fn,nt,e,todo,ds,ret,none⟩,up,H,top⟩ R:=by
 simp only [XBW,Bool.and_eq_true] at hc
 refine XaG.sub (s:=XaD m) ?_ h
 exact ⟨⟨rfl,rfl,XuM he,ht,hd,rfl,trivial⟩,Xx2 hu,XAx hH,XsU (top':=top') hc.1.1,Xvi hc.1.2,XsC hc.2⟩
end Go.Vm
namespace Go.Vm
open Go Go.RowKit Go.WideShapes
def XpG (g:TypeId→Option (List SK)) (P:Program) (o:Nat):List Field→Option (List SK)
 | []=>some []
 | f::fs=>if f.offset=o then match g f.type with
   | some a=>if a.length=P.cellsOf f.type then match XpG g P (o+a.length) fs with
     | some b=>some (a++b)
     | none=>none
     else none
   | none=>none
   else none
def XwO (P:Program):Nat→TypeId→Option (List SK)
 | 0,_=>none
 | n+1,t=>match P.underlying t with
   | some .bool=>some [.bool]
   | some (.int k)=>some [.int k]
   | some .string=>some [.str]
   | some (.struct fs)=>match XpG (XwO P n) P 0 fs.toList with
     | some ks=>if ks.length=P.cellsOf t then some ks else none
     | none=>none
   | _=>none
def XoE:SK→Value→Prop
 | .bool,v=>∃ b,v=.bool b
 | .int k,v=>∃ n,v=.int k n∧(Lit.int k n).wf=true
 | .str,v=>∃ s,v=.string s∧s.size≤maxLen
 | .oth,_=>False
def Xf5:List SK→List Value→Prop
 | [],[]=>True
 | k::ks,v::vs=>XoE k v∧Xf5 ks vs
 | _,_=>False
theorem Xf5.append:∀ {a b:List SK} {x y:List Value},Xf5 a x→Xf5 b y→Xf5 (a++b) (x++y)
 | [],_,[],_,_,k=>k
 | [],_,_::_,_,h,_=>h.elim
 | _::_,_,[],_,h,_=>h.elim
 | _::_,_,_::_,_,h,k=>⟨h.1,Xf5.append h.2 k⟩
theorem Xf5.length:∀ {a:List SK} {x:List Value},Xf5 a x→x.length=a.length
 | [],[],_=>rfl
 | [],_::_,h=>h.elim
 | _::_,[],h=>h.elim
 | _::_,_::_,h=>by simp [Xf5.length h.2]
theorem Xf5.inv {k:SK} {ks:List SK} {cs:List Value} (h:Xf5 (k::ks) cs):∃ v vs,cs=v::vs∧XoE k v∧Xf5 ks vs:=by
 cases cs with
 | nil=>exact h.elim
 | cons v vs=>exact ⟨v,vs,rfl,h⟩
theorem Xf5.inv0 {cs:List Value} (h:Xf5 [] cs):cs=[]:=by
 cases cs with
 | nil=>rfl
 | cons=>exact h.elim
section
variable {H:Type} {enc:TypeId×Value→H} {P:Program} {w:World} {base:Nat} {spare:Nat→Bool} {held:Bool}
theorem Xrj {g:TypeId→Option (List SK)} {F:TypeId→List Value→Prop} (hg:∀ t ks cs,g t=some ks→F t cs→Xf5 ks cs) {cs:List Value} :
 ∀ {fs:List Field} {o:Nat} {ks:List SK},XpG g P o fs=some ks→(∀ f∈fs,F f.type ((cs.drop f.offset).take (P.cellsOf f.type)))→Xf5 ks ((cs.drop o).take ks.length)
 | [],o,ks,h,_=>by simp only [XpG,Option.some.injEq] at h;subst h;simp [Xf5]
 | f::fs,o,ks,h,hm=>by
   simp only [XpG] at h
   split at h<;>try (cases h;done)
   rename_i ho
   split at h<;>try (cases h;done)
   rename_i a ha
   split at h<;>try (cases h;done)
   rename_i hl
   split at h<;>cases h
   rename_i b hb
   have h1:=hg f.type a _ ha (hm f (by simp))
   have h2:=Xrj hg hb (fun f' hf=>hm f' (by simp [hf]))
   have h3:=h1.append h2
   rw [ho,←hl] at h3
   rw [List.length_append,List.take_add,List.drop_drop]
   exact h3
theorem Xpz:∀ {n:Nat} {t:TypeId} {ks:List SK} {fuel:Nat} {cs:List Value} {x:DataW H×List MemPlace},XwO P n t=some ks→DataW.trod enc P w base spare held fuel t cs=some x→Xf5 ks cs
 | 0,t,ks,fuel,cs,x,h,_=>by simp [XwO] at h
 | n+1,t,ks,fuel,cs,x,h,hd=>by
   simp only [XwO] at h
   split at h
   ·rename_i ht
    cases h
    obtain ⟨b,rfl,_⟩:=DataW.trod_bool ht hd
    exact ⟨⟨_,rfl⟩,trivial⟩
   ·rename_i k ht
    cases h
    obtain ⟨b,rfl,_,hw⟩:=DataW.trod_int ht hd
    exact ⟨⟨_,rfl,hw⟩,trivial⟩
   ·rename_i ht
    cases h
    obtain ⟨b,rfl,_,hw⟩:=DataW.trod_string ht hd
    exact ⟨⟨_,rfl,hw⟩,trivial⟩
   ·rename_i fs ht
    split at h<;>try (cases h;done)
    rename_i ks' hks
    split at h<;>cases h
    rename_i hlen
    obtain ⟨xs,m,_,_,hcl,hxl,hf⟩:=DataW.trod_struct ht hd
    have:=Xrj (P:=P) (cs:=cs) (F:=fun t cs=>∃ x,DataW.trod enc P w base spare held m t cs=some x) (fun t ks cs h1 ⟨x,h2⟩=>Xpz h1 h2) hks (fun f hfm=>by
     obtain ⟨i,hi⟩:=List.getElem?_of_mem hfm
     rw [Array.getElem?_toList] at hi
     have hlt:i<xs.length:=by rw [hxl];exact (Array.getElem?_eq_some_iff.1 hi).1
     exact ⟨xs[i],by rw [hf i f hi,List.getElem?_eq_getElem hlt]⟩)
    rw [List.drop_zero,List.take_of_length_le (by omega)] at this
    exact this
   ·cases h
theorem XQ9 {r:Reach} {b0 n:Nat} {t:TypeId} {ks:List SK} {v:Value} {d:DataW H} {ps:List MemPlace} (hk:XwO P n t=some ks) (hval:Value.okWide P w r b0 t v) (hd:DataW.Trod enc P w base spare held t v d ps) :
 Xf5 ks (XaX v)∧((Xgb P t=true∧v=.agg ⟨XaX v⟩)∨Xgb P t=false):=by
 obtain ⟨fuel,hf⟩:=hd
 refine ⟨Xpz hk hf,?_⟩
 unfold Value.okWide at hval
 unfold Xgb
 split at hval
 ·rename_i hu;rw [hu]
  obtain ⟨cs,rfl,_⟩:=hval
  exact .inl ⟨rfl,rfl⟩
 ·rename_i hu;rw [hu]
  obtain ⟨cs,rfl,_⟩:=hval
  exact .inl ⟨rfl,rfl⟩
 ·rename_i h1 h2
  right
  split
  ·rename_i hu;exact absurd hu (h1 _)
  ·rename_i hu;exact absurd hu (h2 _ _)
  ·rfl
def RowR (w:World) (k:SK) (a:Option Addr) (len cap:Nat) (zs:List Value):Prop:=
 (a=none∧len=0∧cap=0∧zs=[])∨∃ x,a=some x∧len≤cap∧cap≤maxLen∧zs.length=cap∧∀ (i:Nat) v,zs[i]?=some v→w.cell? (x.add i)=some v∧XoE k v
theorem open_row {r:Reach} {b0 n:Nat} {t e:TypeId} {k:SK} {v:Value} {d:DataW H} {ps:List MemPlace} (ht:P.underlying t=some (.slice e)) (hc:P.cellsOf e=1) (hk:XwO P n e=some [k]) (hval:Value.okWide P w r b0 t v)
 (hd:DataW.Trod enc P w base (fun _=>true) held t v d ps):∃ a len cap zs,v=.slice a len cap∧RowR w k a len cap zs:=by
 obtain ⟨a,len,cap,rfl⟩:=okWide_slice ht hval
 obtain ⟨fuel,hf⟩:=hd
 rcases Go.Deep.open_slice1 ht hc hf with ⟨h0,_⟩|⟨x,l,c,m,n',V,D,Pl,hcs,hb,hl,hm,hmm,_,hx⟩
 ·simp [Value.cells] at h0
  obtain ⟨rfl,rfl,rfl⟩:=h0
  exact ⟨_,_,_,[],rfl,.inl ⟨rfl,rfl,rfl,rfl⟩⟩
 ·simp [Value.cells] at hcs
  obtain ⟨rfl,rfl,rfl⟩:=hcs
  simp only [if_true] at hmm
  subst hmm
  refine ⟨_,_,_,(List.range m).map V,rfl,.inr ⟨x,rfl,hl,hm,by simp,fun i v e=>?_⟩⟩
  rw [List.getElem?_map] at e
  have hi:i<m:=by
   rcases Nat.lt_or_ge i m with h|h
   ·exact h
   ·rw [List.getElem?_eq_none (by simpa using h)] at e;cases e
  rw [List.getElem?_range hi,Option.map_some,Option.some.injEq] at e
  subst e
  obtain ⟨h1,h2⟩:=hx i hi
  refine ⟨h1,?_⟩
  obtain ⟨v',vs,e1,h3,_⟩:=(Xpz hk h2).inv
  cases e1;exact h3
theorem XoE.flat {k:SK} {v:Value} (h:XoE k v):Xbm v=true:=by
 cases k with
 | bool=>obtain ⟨b,rfl⟩:=h;rfl
 | int k=>obtain ⟨b,rfl,_⟩:=h;rfl
 | str=>obtain ⟨b,rfl,_⟩:=h;rfl
 | oth=>exact h.elim
theorem ArgR.row {k:SK} {w:World} {a:Option Addr} {len cap:Nat} {zs:List Value} (h:RowR w k a len cap zs):ArgR w (.sl 1) (.sl len (zs.take len)) (.slice a len cap)∧(zs.take len).length=len∧(∀ v∈zs.take len,XoE k v)∧len≤maxLen:=by
 rcases h with ⟨rfl,rfl,rfl,rfl⟩|⟨x,rfl,hl,hm,hz,hc⟩
 ·exact ⟨.inl ⟨⟨_,rfl⟩,rfl,rfl⟩,rfl,fun v hv=>by simp at hv,by simp [maxLen]⟩
 ·have hleaf:∀ v∈zs.take len,XoE k v:=fun v hv=>by
   obtain ⟨i,hi⟩:=List.getElem?_of_mem (List.mem_of_mem_take hv)
   exact (hc i v hi).2
  refine ⟨?_,by simp;omega,hleaf,by omega⟩
  rcases Nat.eq_zero_or_pos cap with h0|h0
  ·subst h0
   obtain rfl:len=0:=by omega
   exact .inl ⟨⟨_,rfl⟩,rfl,by simp⟩
  ·have hs:x.spot=none:=by
    have:=(hc 0 zs[0] (List.getElem?_eq_getElem (by omega))).1
    cases hx:x.spot with
    | none=>rfl
    | some q=>
      simp only [Addr.add,↓reduceIte,World.cell?] at this
      split at this
      ·simp [hx] at this
      ·cases this
   obtain ⟨b,o,q⟩:=x
   simp only at hs
   subst hs
   have hadd:∀ i,(⟨b,o,none⟩:Addr).add i=⟨b,o+i,none⟩:=fun i=>by
    unfold Addr.add;split
    ·rename_i e;subst e;rfl
    ·rfl
   refine .inr ⟨b,o,cap,rfl,hl,fun ρ=>⟨by simp;omega,fun i v e=>?_,fun i hi=>?_⟩⟩
   ·have hi:i<len:=by
     rcases Nat.lt_or_ge i len with h|h
     ·exact h
     ·rw [List.getElem?_eq_none (by simp;omega)] at e;cases e
    rw [List.getElem?_take_of_lt hi] at e
    obtain ⟨h1,h2⟩:=hc i v e
    rw [hadd] at h1
    exact ⟨v,h1,VR.flat ρ v h2.flat⟩
   ·have hi':i<zs.length:=by simp at hi;omega
    obtain ⟨h1,_⟩:=hc i zs[i] (List.getElem?_eq_getElem hi')
    rw [hadd] at h1
    exact ⟨by simp [h1],fun e=>by cases e⟩
theorem XyX:∀ {zs:List Value},(∀ v∈zs,XoE .str v)→∃ xs:List ByteArray,zs=xs.map .string∧∀ s∈xs,s.size≤maxLen
 | [],_=>⟨[],rfl,fun _ h=>by cases h⟩
 | v::zs,h=>by
   obtain ⟨b,rfl,hw⟩:=h v (by simp)
   obtain ⟨xs,rfl,hx⟩:=XyX (zs:=zs) fun v hv=>h v (by simp [hv])
   exact ⟨b::xs,rfl,fun n hn=>by rcases List.mem_cons.1 hn with rfl|hn;exact hw;exact hx n hn⟩
end
theorem wf_u64 {n:Int} (h:(Lit.int .u64 n).wf=true):0≤n∧n<18446744073709551616:=by simp [Lit.wf,IntKind.min,IntKind.max,IntKind.signed,IntKind.bits] at h;omega
end Go.Vm
