import Derived.Test.YtjgbmnhijmkejaaNSketchGuessesd
namespace Go.Vm.Code
open Go Go.Vm Go.Proofs
set_option maxRecDepth 100000
set_option maxHeartbeats 4000000
set_option linter.unusedVariables false
def Xgo (s:Xaz) (oa1:Xaz):Option (Sum Unit (Bool×Xaz)):=
 let t:=if (wI .i64 (s.total+oa1.total))<1099511627776 then wI .i64 (s.total+oa1.total) else 1099511627776
 some (.inr ((true,Xaz.mk s.key Xbj.mk t)))
def Xhy (Xac:Xaq) (s:Xaz) (oa1:Xaz):Option (Bool×Xaz):=
 (Xac.v00 (Xaz.mk s.key Xbj.mk s.total) (Xaz.mk oa1.key Xbj.mk oa1.total)).bind fun x0=>
 cond (!x0)
  (
  some ((false,Xaz.mk s.key Xbj.mk s.total)))
  (
  iter (fun _=>Xgo s oa1) FUEL ())
def Xr9 (x:Bool×Xaz):Xdu:=⟨.bool x.1,[],[some [.int .u64 x.2.key.A,.int .u64 x.2.key.B,.slice none 0 0,.int .i64 x.2.total],none,none,none,none,none,none,none,none,none,none,none,none,none,none,none,none,none,none,none]⟩
abbrev Xgs:=Xaz→Xaz→Option (Bool×Xaz)
def XIM (g:Xgs):Dec:=dTr 10 (XcE 0) fun (y0:Xaz)=>dTr 10 (XcE 10) fun (y1:Xaz)=>XeA (ofG (g y0 y1) Xr9)
abbrev XqI (Xac:Xaq):List (Nat×XcU):=[(42,s42 Xac)]
def XsB (s:Xaz) (oa1:Xaz):VM:=
 ⟨⟨14,51,[(0,.pointer (some ⟨0,0,none⟩)),(1,.pointer (some ⟨10,0,none⟩)),(16,.slice none 0 0),(17,.int .i64 0),(18,.int .i64 0)],[.code Xdw,.inLoop Xdw,.inBlock 0,.code XdF],[],false,none⟩,[],[(0,.cells [.int .u64 s.key.A,.int .u64 s.key.B,.slice none 0 0,.int .i64 s.total]),(10,.row false [.int .u64 oa1.key.A,.int .u64 oa1.key.B,.slice none 0 0,.int .i64 oa1.total])],20⟩
theorem XrZ (Xac:Xaq) (hS:XaF Try.prog (XaP (XqI Xac))) {s:Xaz} {oa1:Xaz} {res:Bool×Xaz}:∀ {fuel} {st:Unit} {o:Bool×Xaz},iter (fun _=>Xgo s oa1) fuel st=some o→(o=res) →
 XaU Try.prog 14 20 (XsB s oa1 ) (fun v H _=>Res 20 (Xr9 res) v H):=by
 apply XaO
 intro st o h hc
 try dsimp -zeta only at h ⊢
 unfold Xgo at h
 have J:=js []
 refine Xa4 XaM hS true 3000 ?_
 conv=>whnf
 exact W
theorem Xvl (Xac:Xaq) (hS:XaF Try.prog (XaP (XqI Xac))) (s:Xaz) (oa1:Xaz) (res:Bool×Xaz) (h:Xhy Xac s oa1=some res) :
 XaU Try.prog 14 20 ⟨⟨14,51,[(0,.pointer (some ⟨0,0,none⟩)),(1,.pointer (some ⟨10,0,none⟩))],[.code Xls],[],false,none⟩,[],[(0,.cells [.int .u64 s.key.A,.int .u64 s.key.B,.slice none 0 0,.int .i64 s.total]),(10,.row false [.int .u64 oa1.key.A,.int .u64 oa1.key.B,.slice none 0 0,.int .i64 oa1.total])],20⟩ (fun v H _=>Res 20 (Xr9 res) v H):=by
 unfold Xhy at h
 have R1:=@Xog Xac
 have J:=js []
 have LP:=@XrZ Xac hS;have LQ:=lm XcT
 refine Xa4 XaM hS true 3000 ?_
 conv=>whnf
 exact W
def Xdg (s:XaA) (oa1:XaA) (t25:Int) (c:List Int):Option (Sum (Int×(List Int)) (Bool×XaA)):=
 cond (decide (t25<(oa1.rows.m0:Int)))
  (
  XaQ (decide ((0:Int)≤t25∧t25<(oa1.rows.m0:Int))) <|
  (oa1.rows.e0[t25.toNat]?).bind fun (e:Int)=>
  XaQ (decide ((0:Int)≤t25∧t25<(s.rows.m0:Int))) <|
  (c[t25.toNat]?).bind fun (e1:Int)=>
  let t:=if (wI .i64 (e1+e))<1099511627776 then wI .i64 (e1+e) else 1099511627776
  XaQ (decide (t25.toNat<c.length)) <|
  let row:=c.set t25.toNat t
  some (.inl (wI .i64 (t25+1),row)))
  (
  let t1:=if (wI .i64 (s.total+oa1.total))<1099511627776 then wI .i64 (s.total+oa1.total) else 1099511627776
  some (.inr ((true,XaA.mk s.key (Xd4.mk c s.rows.m0) t1))))
def Xeh (Xac:Xaq) (s:XaA) (oa1:XaA):Option (Bool×XaA):=
 (Xac.v11 s oa1).bind fun x1=>
 cond (!x1)
  (
  some ((false,s)))
  (
  iter (fun st=>Xdg s oa1 st.1 st.2) FUEL (0,s.rows.e0))
def Xpv (x:Bool×XaA):Xdu:=⟨.bool x.1,[(vI .i64 x.2.rows.e0)],[some [.int .u64 x.2.key.A,.int .u64 x.2.key.B,.slice (some ⟨2,0,none⟩) 1 1,.int .i64 x.2.total],some [.slice (some ⟨0,0,none⟩) x.2.rows.m0 1],none,none,none,none,none,none,none,none,none,none,none,none,none,none,none,none,none,none]⟩
abbrev Xgl:=XaA→XaA→Option (Bool×XaA)
def XIF (g:Xgl):Dec:=dTr 10 (XbH 0) fun (y0:XaA)=>dTr 10 (XbH 10) fun (y1:XaA)=>XeA (ofG (g y0 y1) Xpv)
abbrev Xqo (Xac:Xaq):List (Nat×XcU):=[(42,s42 Xac)]
def Xs2 (s:XaA) (oa1:XaA) (t25:Int) (c:List Int):VM:=
 ⟨⟨14,51,[(0,.pointer (some ⟨0,0,none⟩)),(1,.pointer (some ⟨10,0,none⟩)),(5,.int .i64 0),(16,.slice (some ⟨11,0,none⟩) 1 1),(17,.int .i64 1),(18,.int .i64 0),(23,.slice (some ⟨12,0,none⟩) oa1.rows.m0 1),(24,.int .i64 (oa1.rows.m0:Int)),(25,.int .i64 t25)],[.code Xbq,.inLoop Xbq,.inBlock 2,.inBlock 1,.code XdW,.inLoop Xdw,.inBlock 0,.code XdF],[],false,none⟩,[],[(0,.cells [.int .u64 s.key.A,.int .u64 s.key.B,.slice (some ⟨1,0,none⟩) 1 1,.int .i64 s.total]),(1,.cells [.slice (some ⟨2,0,none⟩) s.rows.m0 1]),(2,.row true (vI .i64 c)),(10,.row false [.int .u64 oa1.key.A,.int .u64 oa1.key.B,.slice (some ⟨11,0,none⟩) 1 1,.int .i64 oa1.total]),(11,.row false [.slice (some ⟨12,0,none⟩) oa1.rows.m0 1]),(12,.row false (vI .i64 oa1.rows.e0))],20⟩
theorem Xsz (Xac:Xaq) (hS:XaF Try.prog (XaP (Xqo Xac))) {s:XaA} {oa1:XaA} {res:Bool×XaA}:∀ {fuel} {st:Int×(List Int)} {o:Bool×XaA},iter (fun st=>Xdg s oa1 st.1 st.2) fuel st=some o→(o=res) →
 XaU Try.prog 14 20 (Xs2 s oa1 st.1 st.2) (fun v H _=>Res 20 (Xpv res) v H):=by
 apply XaO
 intro st o h hc
 obtain ⟨t25,c⟩:=st
 try dsimp -zeta only at h ⊢
 unfold Xdg at h
 have J:=js [2]
 have LM:=lm XcT
 refine Xa4 XaM hS true 3000 ?_
 conv=>whnf
 exact W
theorem XvR (Xac:Xaq) (hS:XaF Try.prog (XaP (Xqo Xac))) (s:XaA) (oa1:XaA) (res:Bool×XaA) (h:Xeh Xac s oa1=some res) :
 XaU Try.prog 14 20 ⟨⟨14,51,[(0,.pointer (some ⟨0,0,none⟩)),(1,.pointer (some ⟨10,0,none⟩))],[.code Xls],[],false,none⟩,[],[(0,.cells [.int .u64 s.key.A,.int .u64 s.key.B,.slice (some ⟨1,0,none⟩) 1 1,.int .i64 s.total]),(1,.cells [.slice (some ⟨2,0,none⟩) s.rows.m0 1]),(2,.row true (vI .i64 s.rows.e0)),(10,.row false [.int .u64 oa1.key.A,.int .u64 oa1.key.B,.slice (some ⟨11,0,none⟩) 1 1,.int .i64 oa1.total]),(11,.row false [.slice (some ⟨12,0,none⟩) oa1.rows.m0 1]),(12,.row false (vI .i64 oa1.rows.e0))],20⟩ (fun v H _=>Res 20 (Xpv res) v H):=by
 unfold Xeh at h
 have R1:=@Xxc Xac
 have J:=js [2]
 have LP:=@Xsz Xac hS;have LQ:=lm XcT
 refine Xa4 XaM hS true 3000 ?_
 conv=>whnf
 exact W
def Xcx (s:Xax) (oa1:Xax) (c:List Int) (t251:Int) (c1:List Int):Option (Sum (Int×(List Int)) (Bool×Xax)):=
 cond (decide (t251<(oa1.rows.m1:Int)))
  (
  XaQ (decide ((0:Int)≤t251∧t251<(oa1.rows.m1:Int))) <|
  (oa1.rows.e1[t251.toNat]?).bind fun (e2:Int)=>
  XaQ (decide ((0:Int)≤t251∧t251<(s.rows.m1:Int))) <|
  (c1[t251.toNat]?).bind fun (e3:Int)=>
  let t1:=if (wI .i64 (e3+e2))<1099511627776 then wI .i64 (e3+e2) else 1099511627776
  XaQ (decide (t251.toNat<c1.length)) <|
  let row1:=c1.set t251.toNat t1
  some (.inl (wI .i64 (t251+1),row1)))
  (
  let t2:=if (wI .i64 (s.total+oa1.total))<1099511627776 then wI .i64 (s.total+oa1.total) else 1099511627776
  some (.inr ((true,Xax.mk s.key (XdA.mk c c1 s.rows.m0 s.rows.m1) t2))))
def Xdd (s:Xax) (oa1:Xax) (t25:Int) (c:List Int):Option (Sum (Int×(List Int)) (Bool×Xax)):=
 cond (decide (t25<(oa1.rows.m0:Int)))
  (
  XaQ (decide ((0:Int)≤t25∧t25<(oa1.rows.m0:Int))) <|
  (oa1.rows.e0[t25.toNat]?).bind fun (e:Int)=>
  XaQ (decide ((0:Int)≤t25∧t25<(s.rows.m0:Int))) <|
  (c[t25.toNat]?).bind fun (e1:Int)=>
  let t:=if (wI .i64 (e1+e))<1099511627776 then wI .i64 (e1+e) else 1099511627776
  XaQ (decide (t25.toNat<c.length)) <|
  let row:=c.set t25.toNat t
  some (.inl (wI .i64 (t25+1),row)))
  (
  (iter (fun st=>Xcx s oa1 c st.1 st.2) FUEL (0,s.rows.e1)).bind fun o=>some (.inr (o)))
def Xei (Xac:Xaq) (s:Xax) (oa1:Xax):Option (Bool×Xax):=
 (Xac.v22 s oa1).bind fun x2=>
 cond (!x2)
  (
  some ((false,s)))
  (
  iter (fun st=>Xdd s oa1 st.1 st.2) FUEL (0,s.rows.e0))
def Xoi (x:Bool×Xax):Xdu:=⟨.bool x.1,[(vI .i64 x.2.rows.e0),(vI .i64 x.2.rows.e1)],[some [.int .u64 x.2.key.A,.int .u64 x.2.key.B,.slice (some ⟨3,0,none⟩) 2 1,.int .i64 x.2.total],some [.slice (some ⟨0,0,none⟩) x.2.rows.m0 1,.slice (some ⟨1,0,none⟩) x.2.rows.m1 1],none,none,none,none,none,none,none,none,none,none,none,none,none,none,none,none,none,none]⟩
abbrev Xgw:=Xax→Xax→Option (Bool×Xax)
def XG3 (g:Xgw):Dec:=dTr 10 (XbL 0) fun (y0:Xax)=>dTr 10 (XbL 10) fun (y1:Xax)=>XeA (ofG (g y0 y1) Xoi)
abbrev XoB (Xac:Xaq):List (Nat×XcU):=[(42,s42 Xac)]
def Xsx (s:Xax) (oa1:Xax) (c:List Int) (t251:Int) (c1:List Int):VM:=
 ⟨⟨14,51,[(0,.pointer (some ⟨0,0,none⟩)),(1,.pointer (some ⟨10,0,none⟩)),(5,.int .i64 1),(16,.slice (some ⟨11,0,none⟩) 2 1),(17,.int .i64 2),(18,.int .i64 1),(23,.slice (some ⟨13,0,none⟩) oa1.rows.m1 1),(24,.int .i64 (oa1.rows.m1:Int)),(25,.int .i64 t251)],[.code Xbq,.inLoop Xbq,.inBlock 2,.inBlock 1,.code XdW,.inLoop Xdw,.inBlock 0,.code XdF],[],false,none⟩,[],[(0,.cells [.int .u64 s.key.A,.int .u64 s.key.B,.slice (some ⟨1,0,none⟩) 2 1,.int .i64 s.total]),(1,.cells [.slice (some ⟨2,0,none⟩) s.rows.m0 1,.slice (some ⟨3,0,none⟩) s.rows.m1 1]),(2,.row true (vI .i64 c)),(3,.row true (vI .i64 c1)),(10,.row false [.int .u64 oa1.key.A,.int .u64 oa1.key.B,.slice (some ⟨11,0,none⟩) 2 1,.int .i64 oa1.total]),(11,.row false [.slice (some ⟨12,0,none⟩) oa1.rows.m0 1,.slice (some ⟨13,0,none⟩) oa1.rows.m1 1]),(12,.row false (vI .i64 oa1.rows.e0)),(13,.row false (vI .i64 oa1.rows.e1))],20⟩
def XrG (s:Xax) (oa1:Xax) (t25:Int) (c:List Int):VM:=
 ⟨⟨14,51,[(0,.pointer (some ⟨0,0,none⟩)),(1,.pointer (some ⟨10,0,none⟩)),(5,.int .i64 0),(16,.slice (some ⟨11,0,none⟩) 2 1),(17,.int .i64 2),(18,.int .i64 0),(23,.slice (some ⟨12,0,none⟩) oa1.rows.m0 1),(24,.int .i64 (oa1.rows.m0:Int)),(25,.int .i64 t25)],[.code Xbq,.inLoop Xbq,.inBlock 2,.inBlock 1,.code XdW,.inLoop Xdw,.inBlock 0,.code XdF],[],false,none⟩,[],[(0,.cells [.int .u64 s.key.A,.int .u64 s.key.B,.slice (some ⟨1,0,none⟩) 2 1,.int .i64 s.total]),(1,.cells [.slice (some ⟨2,0,none⟩) s.rows.m0 1,.slice (some ⟨3,0,none⟩) s.rows.m1 1]),(2,.row true (vI .i64 c)),(3,.row true (vI .i64 s.rows.e1)),(10,.row false [.int .u64 oa1.key.A,.int .u64 oa1.key.B,.slice (some ⟨11,0,none⟩) 2 1,.int .i64 oa1.total]),(11,.row false [.slice (some ⟨12,0,none⟩) oa1.rows.m0 1,.slice (some ⟨13,0,none⟩) oa1.rows.m1 1]),(12,.row false (vI .i64 oa1.rows.e0)),(13,.row false (vI .i64 oa1.rows.e1))],20⟩
theorem XrL (Xac:Xaq) (hS:XaF Try.prog (XaP (XoB Xac))) {s:Xax} {oa1:Xax} {c:List Int} {res:Bool×Xax}:∀ {fuel} {st:Int×(List Int)} {o:Bool×Xax},iter (fun st=>Xcx s oa1 c st.1 st.2) fuel st=some o→(o=res) →
 XaU Try.prog 14 20 (Xsx s oa1 c st.1 st.2) (fun v H _=>Res 20 (Xoi res) v H):=by
 apply XaO
 intro st o h hc
 obtain ⟨t251,c1⟩:=st
 try dsimp -zeta only at h ⊢
 unfold Xcx at h
 have J:=js [2,3]
 have LM:=lm XcT
 refine Xa4 XaM hS true 3000 ?_
 conv=>whnf
 exact W
theorem XsD (Xac:Xaq) (hS:XaF Try.prog (XaP (XoB Xac))) {s:Xax} {oa1:Xax} {res:Bool×Xax}:∀ {fuel} {st:Int×(List Int)} {o:Bool×Xax},iter (fun st=>Xdd s oa1 st.1 st.2) fuel st=some o→(o=res) →
 XaU Try.prog 14 20 (XrG s oa1 st.1 st.2) (fun v H _=>Res 20 (Xoi res) v H):=by
 apply XaO
 intro st o h hc
 obtain ⟨t25,c⟩:=st
 try dsimp -zeta only at h ⊢
 unfold Xdd at h
 have J:=js [2,3]
 have LM:=lm XcT
 have LP:=@XrL Xac hS;have LQ:=lm XcT
 refine Xa4 XaM hS true 3000 ?_
 conv=>whnf
 exact W
theorem XvA (Xac:Xaq) (hS:XaF Try.prog (XaP (XoB Xac))) (s:Xax) (oa1:Xax) (res:Bool×Xax) (h:Xei Xac s oa1=some res) :
 XaU Try.prog 14 20 ⟨⟨14,51,[(0,.pointer (some ⟨0,0,none⟩)),(1,.pointer (some ⟨10,0,none⟩))],[.code Xls],[],false,none⟩,[],[(0,.cells [.int .u64 s.key.A,.int .u64 s.key.B,.slice (some ⟨1,0,none⟩) 2 1,.int .i64 s.total]),(1,.cells [.slice (some ⟨2,0,none⟩) s.rows.m0 1,.slice (some ⟨3,0,none⟩) s.rows.m1 1]),(2,.row true (vI .i64 s.rows.e0)),(3,.row true (vI .i64 s.rows.e1)),(10,.row false [.int .u64 oa1.key.A,.int .u64 oa1.key.B,.slice (some ⟨11,0,none⟩) 2 1,.int .i64 oa1.total]),(11,.row false [.slice (some ⟨12,0,none⟩) oa1.rows.m0 1,.slice (some ⟨13,0,none⟩) oa1.rows.m1 1]),(12,.row false (vI .i64 oa1.rows.e0)),(13,.row false (vI .i64 oa1.rows.e1))],20⟩ (fun v H _=>Res 20 (Xoi res) v H):=by
 unfold Xei at h
 have R1:=@Xy3 Xac
 have J:=js [2,3]
 have LP:=@XsD Xac hS;have LQ:=lm XcT
 refine Xa4 XaM hS true 3000 ?_
 conv=>whnf
 exact W
def Xcg (s:Xau) (oa1:Xau) (c:List Int) (c1:List Int) (t252:Int) (c2:List Int):Option (Sum (Int×(List Int)) (Bool×Xau)):=
 cond (decide (t252<(oa1.rows.m2:Int)))
  (
  XaQ (decide ((0:Int)≤t252∧t252<(oa1.rows.m2:Int))) <|
  (oa1.rows.e2[t252.toNat]?).bind fun (e4:Int)=>
  XaQ (decide ((0:Int)≤t252∧t252<(s.rows.m2:Int))) <|
  (c2[t252.toNat]?).bind fun (e5:Int)=>
  let t2:=if (wI .i64 (e5+e4))<1099511627776 then wI .i64 (e5+e4) else 1099511627776
  XaQ (decide (t252.toNat<c2.length)) <|
  let row2:=c2.set t252.toNat t2
  some (.inl (wI .i64 (t252+1),row2)))
  (
  let t3:=if (wI .i64 (s.total+oa1.total))<1099511627776 then wI .i64 (s.total+oa1.total) else 1099511627776
  some (.inr ((true,Xau.mk s.key (Xdp.mk c c1 c2 s.rows.m0 s.rows.m1 s.rows.m2) t3))))
def Xch (s:Xau) (oa1:Xau) (c:List Int) (t251:Int) (c1:List Int):Option (Sum (Int×(List Int)) (Bool×Xau)):=
 cond (decide (t251<(oa1.rows.m1:Int)))
  (
  XaQ (decide ((0:Int)≤t251∧t251<(oa1.rows.m1:Int))) <|
  (oa1.rows.e1[t251.toNat]?).bind fun (e2:Int)=>
  XaQ (decide ((0:Int)≤t251∧t251<(s.rows.m1:Int))) <|
  (c1[t251.toNat]?).bind fun (e3:Int)=>
  let t1:=if (wI .i64 (e3+e2))<1099511627776 then wI .i64 (e3+e2) else 1099511627776
  XaQ (decide (t251.toNat<c1.length)) <|
  let row1:=c1.set t251.toNat t1
  some (.inl (wI .i64 (t251+1),row1)))
  (
  (iter (fun st=>Xcg s oa1 c c1 st.1 st.2) FUEL (0,s.rows.e2)).bind fun o=>some (.inr (o)))
def Xdc (s:Xau) (oa1:Xau) (t25:Int) (c:List Int):Option (Sum (Int×(List Int)) (Bool×Xau)):=
 cond (decide (t25<(oa1.rows.m0:Int)))
  (
  XaQ (decide ((0:Int)≤t25∧t25<(oa1.rows.m0:Int))) <|
  (oa1.rows.e0[t25.toNat]?).bind fun (e:Int)=>
  XaQ (decide ((0:Int)≤t25∧t25<(s.rows.m0:Int))) <|
  (c[t25.toNat]?).bind fun (e1:Int)=>
  let t:=if (wI .i64 (e1+e))<1099511627776 then wI .i64 (e1+e) else 1099511627776
  XaQ (decide (t25.toNat<c.length)) <|
  let row:=c.set t25.toNat t
  some (.inl (wI .i64 (t25+1),row)))
  (
  (iter (fun st=>Xch s oa1 c st.1 st.2) FUEL (0,s.rows.e1)).bind fun o=>some (.inr (o)))
def Xek (Xac:Xaq) (s:Xau) (oa1:Xau):Option (Bool×Xau):=
 (Xac.v33 s oa1).bind fun x3=>
 cond (!x3)
  (
  some ((false,s)))
  (
  iter (fun st=>Xdc s oa1 st.1 st.2) FUEL (0,s.rows.e0))
def XmV (x:Bool×Xau):Xdu:=⟨.bool x.1,[(vI .i64 x.2.rows.e0),(vI .i64 x.2.rows.e1),(vI .i64 x.2.rows.e2)],[some [.int .u64 x.2.key.A,.int .u64 x.2.key.B,.slice (some ⟨4,0,none⟩) 3 1,.int .i64 x.2.total],some [.slice (some ⟨0,0,none⟩) x.2.rows.m0 1,.slice (some ⟨1,0,none⟩) x.2.rows.m1 1,.slice (some ⟨2,0,none⟩) x.2.rows.m2 1],none,none,none,none,none,none,none,none,none,none,none,none,none,none,none,none,none,none]⟩
abbrev Xgv:=Xau→Xau→Option (Bool×Xau)
def XGT (g:Xgv):Dec:=dTr 10 (XbK 0) fun (y0:Xau)=>dTr 10 (XbK 10) fun (y1:Xau)=>XeA (ofG (g y0 y1) XmV)
abbrev Xmr (Xac:Xaq):List (Nat×XcU):=[(42,s42 Xac)]
def Xsw (s:Xau) (oa1:Xau) (c:List Int) (c1:List Int) (t252:Int) (c2:List Int):VM:=
 ⟨⟨14,51,[(0,.pointer (some ⟨0,0,none⟩)),(1,.pointer (some ⟨10,0,none⟩)),(5,.int .i64 2),(16,.slice (some ⟨11,0,none⟩) 3 1),(17,.int .i64 3),(18,.int .i64 2),(23,.slice (some ⟨14,0,none⟩) oa1.rows.m2 1),(24,.int .i64 (oa1.rows.m2:Int)),(25,.int .i64 t252)],[.code Xbq,.inLoop Xbq,.inBlock 2,.inBlock 1,.code XdW,.inLoop Xdw,.inBlock 0,.code XdF],[],false,none⟩,[],[(0,.cells [.int .u64 s.key.A,.int .u64 s.key.B,.slice (some ⟨1,0,none⟩) 3 1,.int .i64 s.total]),(1,.cells [.slice (some ⟨2,0,none⟩) s.rows.m0 1,.slice (some ⟨3,0,none⟩) s.rows.m1 1,.slice (some ⟨4,0,none⟩) s.rows.m2 1]),(2,.row true (vI .i64 c)),(3,.row true (vI .i64 c1)),(4,.row true (vI .i64 c2)),(10,.row false [.int .u64 oa1.key.A,.int .u64 oa1.key.B,.slice (some ⟨11,0,none⟩) 3 1,.int .i64 oa1.total]),(11,.row false [.slice (some ⟨12,0,none⟩) oa1.rows.m0 1,.slice (some ⟨13,0,none⟩) oa1.rows.m1 1,.slice (some ⟨14,0,none⟩) oa1.rows.m2 1]),(12,.row false (vI .i64 oa1.rows.e0)),(13,.row false (vI .i64 oa1.rows.e1)),(14,.row false (vI .i64 oa1.rows.e2))],20⟩
def XrI (s:Xau) (oa1:Xau) (c:List Int) (t251:Int) (c1:List Int):VM:=
 ⟨⟨14,51,[(0,.pointer (some ⟨0,0,none⟩)),(1,.pointer (some ⟨10,0,none⟩)),(5,.int .i64 1),(16,.slice (some ⟨11,0,none⟩) 3 1),(17,.int .i64 3),(18,.int .i64 1),(23,.slice (some ⟨13,0,none⟩) oa1.rows.m1 1),(24,.int .i64 (oa1.rows.m1:Int)),(25,.int .i64 t251)],[.code Xbq,.inLoop Xbq,.inBlock 2,.inBlock 1,.code XdW,.inLoop Xdw,.inBlock 0,.code XdF],[],false,none⟩,[],[(0,.cells [.int .u64 s.key.A,.int .u64 s.key.B,.slice (some ⟨1,0,none⟩) 3 1,.int .i64 s.total]),(1,.cells [.slice (some ⟨2,0,none⟩) s.rows.m0 1,.slice (some ⟨3,0,none⟩) s.rows.m1 1,.slice (some ⟨4,0,none⟩) s.rows.m2 1]),(2,.row true (vI .i64 c)),(3,.row true (vI .i64 c1)),(4,.row true (vI .i64 s.rows.e2)),(10,.row false [.int .u64 oa1.key.A,.int .u64 oa1.key.B,.slice (some ⟨11,0,none⟩) 3 1,.int .i64 oa1.total]),(11,.row false [.slice (some ⟨12,0,none⟩) oa1.rows.m0 1,.slice (some ⟨13,0,none⟩) oa1.rows.m1 1,.slice (some ⟨14,0,none⟩) oa1.rows.m2 1]),(12,.row false (vI .i64 oa1.rows.e0)),(13,.row false (vI .i64 oa1.rows.e1)),(14,.row false (vI .i64 oa1.rows.e2))],20⟩
def Xrp (s:Xau) (oa1:Xau) (t25:Int) (c:List Int):VM:=
 ⟨⟨14,51,[(0,.pointer (some ⟨0,0,none⟩)),(1,.pointer (some ⟨10,0,none⟩)),(5,.int .i64 0),(16,.slice (some ⟨11,0,none⟩) 3 1),(17,.int .i64 3),(18,.int .i64 0),(23,.slice (some ⟨12,0,none⟩) oa1.rows.m0 1),(24,.int .i64 (oa1.rows.m0:Int)),(25,.int .i64 t25)],[.code Xbq,.inLoop Xbq,.inBlock 2,.inBlock 1,.code XdW,.inLoop Xdw,.inBlock 0,.code XdF],[],false,none⟩,[],[(0,.cells [.int .u64 s.key.A,.int .u64 s.key.B,.slice (some ⟨1,0,none⟩) 3 1,.int .i64 s.total]),(1,.cells [.slice (some ⟨2,0,none⟩) s.rows.m0 1,.slice (some ⟨3,0,none⟩) s.rows.m1 1,.slice (some ⟨4,0,none⟩) s.rows.m2 1]),(2,.row true (vI .i64 c)),(3,.row true (vI .i64 s.rows.e1)),(4,.row true (vI .i64 s.rows.e2)),(10,.row false [.int .u64 oa1.key.A,.int .u64 oa1.key.B,.slice (some ⟨11,0,none⟩) 3 1,.int .i64 oa1.total]),(11,.row false [.slice (some ⟨12,0,none⟩) oa1.rows.m0 1,.slice (some ⟨13,0,none⟩) oa1.rows.m1 1,.slice (some ⟨14,0,none⟩) oa1.rows.m2 1]),(12,.row false (vI .i64 oa1.rows.e0)),(13,.row false (vI .i64 oa1.rows.e1)),(14,.row false (vI .i64 oa1.rows.e2))],20⟩
theorem Xr3 (Xac:Xaq) (hS:XaF Try.prog (XaP (Xmr Xac))) {s:Xau} {oa1:Xau} {c:List Int} {c1:List Int} {res:Bool×Xau}:∀ {fuel} {st:Int×(List Int)} {o:Bool×Xau},iter (fun st=>Xcg s oa1 c c1 st.1 st.2) fuel st=some o→(o=res) →
 XaU Try.prog 14 20 (Xsw s oa1 c c1 st.1 st.2) (fun v H _=>Res 20 (XmV res) v H):=by
 apply XaO
 intro st o h hc
 obtain ⟨t252,c2⟩:=st
 try dsimp -zeta only at h ⊢
 unfold Xcg at h
 have J:=js [2,3,4]
 have LM:=lm XcT
 refine Xa4 XaM hS true 3000 ?_
 conv=>whnf
 exact W
theorem XsK (Xac:Xaq) (hS:XaF Try.prog (XaP (Xmr Xac))) {s:Xau} {oa1:Xau} {c:List Int} {res:Bool×Xau}:∀ {fuel} {st:Int×(List Int)} {o:Bool×Xau},iter (fun st=>Xch s oa1 c st.1 st.2) fuel st=some o→(o=res) →
 XaU Try.prog 14 20 (XrI s oa1 c st.1 st.2) (fun v H _=>Res 20 (XmV res) v H):=by
 apply XaO
 intro st o h hc
 obtain ⟨t251,c1⟩:=st
 try dsimp -zeta only at h ⊢
 unfold Xch at h
 have J:=js [2,3,4]
 have LM:=lm XcT
 have LP:=@Xr3 Xac hS;have LQ:=lm XcT
 refine Xa4 XaM hS true 3000 ?_
 conv=>whnf
 exact W
theorem XsS (Xac:Xaq) (hS:XaF Try.prog (XaP (Xmr Xac))) {s:Xau} {oa1:Xau} {res:Bool×Xau}:∀ {fuel} {st:Int×(List Int)} {o:Bool×Xau},iter (fun st=>Xdc s oa1 st.1 st.2) fuel st=some o→(o=res) →
 XaU Try.prog 14 20 (Xrp s oa1 st.1 st.2) (fun v H _=>Res 20 (XmV res) v H):=by
 apply XaO
 intro st o h hc
 obtain ⟨t25,c⟩:=st
 try dsimp -zeta only at h ⊢
 unfold Xdc at h
 have J:=js [2,3,4]
 have LM:=lm XcT
 have LP:=@XsK Xac hS;have LQ:=lm XcT
 refine Xa4 XaM hS true 3000 ?_
 conv=>whnf
 exact W
theorem XvT (Xac:Xaq) (hS:XaF Try.prog (XaP (Xmr Xac))) (s:Xau) (oa1:Xau) (res:Bool×Xau) (h:Xek Xac s oa1=some res) :
 XaU Try.prog 14 20 ⟨⟨14,51,[(0,.pointer (some ⟨0,0,none⟩)),(1,.pointer (some ⟨10,0,none⟩))],[.code Xls],[],false,none⟩,[],[(0,.cells [.int .u64 s.key.A,.int .u64 s.key.B,.slice (some ⟨1,0,none⟩) 3 1,.int .i64 s.total]),(1,.cells [.slice (some ⟨2,0,none⟩) s.rows.m0 1,.slice (some ⟨3,0,none⟩) s.rows.m1 1,.slice (some ⟨4,0,none⟩) s.rows.m2 1]),(2,.row true (vI .i64 s.rows.e0)),(3,.row true (vI .i64 s.rows.e1)),(4,.row true (vI .i64 s.rows.e2)),(10,.row false [.int .u64 oa1.key.A,.int .u64 oa1.key.B,.slice (some ⟨11,0,none⟩) 3 1,.int .i64 oa1.total]),(11,.row false [.slice (some ⟨12,0,none⟩) oa1.rows.m0 1,.slice (some ⟨13,0,none⟩) oa1.rows.m1 1,.slice (some ⟨14,0,none⟩) oa1.rows.m2 1]),(12,.row false (vI .i64 oa1.rows.e0)),(13,.row false (vI .i64 oa1.rows.e1)),(14,.row false (vI .i64 oa1.rows.e2))],20⟩ (fun v H _=>Res 20 (XmV res) v H):=by
 unfold Xek at h
 have R1:=@XwS Xac
 have J:=js [2,3,4]
 have LP:=@XsS Xac hS;have LQ:=lm XcT
 refine Xa4 XaM hS true 3000 ?_
 conv=>whnf
 exact W
def Xce (s:Xar) (oa1:Xar) (c:List Int) (c1:List Int) (c2:List Int) (t253:Int) (c3:List Int):Option (Sum (Int×(List Int)) (Bool×Xar)):=
 cond (decide (t253<(oa1.rows.m3:Int)))
  (
  XaQ (decide ((0:Int)≤t253∧t253<(oa1.rows.m3:Int))) <|
  (oa1.rows.e3[t253.toNat]?).bind fun (e6:Int)=>
  XaQ (decide ((0:Int)≤t253∧t253<(s.rows.m3:Int))) <|
  (c3[t253.toNat]?).bind fun (e7:Int)=>
  let t3:=if (wI .i64 (e7+e6))<1099511627776 then wI .i64 (e7+e6) else 1099511627776
  XaQ (decide (t253.toNat<c3.length)) <|
  let row3:=c3.set t253.toNat t3
  some (.inl (wI .i64 (t253+1),row3)))
  (
  let t4:=if (wI .i64 (s.total+oa1.total))<1099511627776 then wI .i64 (s.total+oa1.total) else 1099511627776
  some (.inr ((true,Xar.mk s.key (Xc8.mk c c1 c2 c3 s.rows.m0 s.rows.m1 s.rows.m2 s.rows.m3) t4))))
def Xcw (s:Xar) (oa1:Xar) (c:List Int) (c1:List Int) (t252:Int) (c2:List Int):Option (Sum (Int×(List Int)) (Bool×Xar)):=
 cond (decide (t252<(oa1.rows.m2:Int)))
  (
  XaQ (decide ((0:Int)≤t252∧t252<(oa1.rows.m2:Int))) <|
  (oa1.rows.e2[t252.toNat]?).bind fun (e4:Int)=>
  XaQ (decide ((0:Int)≤t252∧t252<(s.rows.m2:Int))) <|
  (c2[t252.toNat]?).bind fun (e5:Int)=>
  let t2:=if (wI .i64 (e5+e4))<1099511627776 then wI .i64 (e5+e4) else 1099511627776
  XaQ (decide (t252.toNat<c2.length)) <|
  let row2:=c2.set t252.toNat t2
  some (.inl (wI .i64 (t252+1),row2)))
  (
  (iter (fun st=>Xce s oa1 c c1 c2 st.1 st.2) FUEL (0,s.rows.e3)).bind fun o=>some (.inr (o)))
def Xcf (s:Xar) (oa1:Xar) (c:List Int) (t251:Int) (c1:List Int):Option (Sum (Int×(List Int)) (Bool×Xar)):=
 cond (decide (t251<(oa1.rows.m1:Int)))
  (
  XaQ (decide ((0:Int)≤t251∧t251<(oa1.rows.m1:Int))) <|
  (oa1.rows.e1[t251.toNat]?).bind fun (e2:Int)=>
  XaQ (decide ((0:Int)≤t251∧t251<(s.rows.m1:Int))) <|
  (c1[t251.toNat]?).bind fun (e3:Int)=>
  let t1:=if (wI .i64 (e3+e2))<1099511627776 then wI .i64 (e3+e2) else 1099511627776
  XaQ (decide (t251.toNat<c1.length)) <|
  let row1:=c1.set t251.toNat t1
  some (.inl (wI .i64 (t251+1),row1)))
  (
  (iter (fun st=>Xcw s oa1 c c1 st.1 st.2) FUEL (0,s.rows.e2)).bind fun o=>some (.inr (o)))
def Xdh (s:Xar) (oa1:Xar) (t25:Int) (c:List Int):Option (Sum (Int×(List Int)) (Bool×Xar)):=
 cond (decide (t25<(oa1.rows.m0:Int)))
  (
  XaQ (decide ((0:Int)≤t25∧t25<(oa1.rows.m0:Int))) <|
  (oa1.rows.e0[t25.toNat]?).bind fun (e:Int)=>
  XaQ (decide ((0:Int)≤t25∧t25<(s.rows.m0:Int))) <|
  (c[t25.toNat]?).bind fun (e1:Int)=>
  let t:=if (wI .i64 (e1+e))<1099511627776 then wI .i64 (e1+e) else 1099511627776
  XaQ (decide (t25.toNat<c.length)) <|
  let row:=c.set t25.toNat t
  some (.inl (wI .i64 (t25+1),row)))
  (
  (iter (fun st=>Xcf s oa1 c st.1 st.2) FUEL (0,s.rows.e1)).bind fun o=>some (.inr (o)))
def Xd7 (Xac:Xaq) (s:Xar) (oa1:Xar):Option (Bool×Xar):=
 (Xac.v44 s oa1).bind fun x4=>
 cond (!x4)
  (
  some ((false,s)))
  (
  iter (fun st=>Xdh s oa1 st.1 st.2) FUEL (0,s.rows.e0))
def XlH (x:Bool×Xar):Xdu:=⟨.bool x.1,[(vI .i64 x.2.rows.e0),(vI .i64 x.2.rows.e1),(vI .i64 x.2.rows.e2),(vI .i64 x.2.rows.e3)],[some [.int .u64 x.2.key.A,.int .u64 x.2.key.B,.slice (some ⟨5,0,none⟩) 4 1,.int .i64 x.2.total],some [.slice (some ⟨0,0,none⟩) x.2.rows.m0 1,.slice (some ⟨1,0,none⟩) x.2.rows.m1 1,.slice (some ⟨2,0,none⟩) x.2.rows.m2 1,.slice (some ⟨3,0,none⟩) x.2.rows.m3 1],none,none,none,none,none,none,none,none,none,none,none,none,none,none,none,none,none,none]⟩
abbrev Xgk:=Xar→Xar→Option (Bool×Xar)
def XHz (g:Xgk):Dec:=dTr 10 (XbJ 0) fun (y0:Xar)=>dTr 10 (XbJ 10) fun (y1:Xar)=>XeA (ofG (g y0 y1) XlH)
abbrev XkN (Xac:Xaq):List (Nat×XcU):=[(42,s42 Xac)]
def XrU (s:Xar) (oa1:Xar) (c:List Int) (c1:List Int) (c2:List Int) (t253:Int) (c3:List Int):VM:=
 ⟨⟨14,51,[(0,.pointer (some ⟨0,0,none⟩)),(1,.pointer (some ⟨10,0,none⟩)),(5,.int .i64 3),(16,.slice (some ⟨11,0,none⟩) 4 1),(17,.int .i64 4),(18,.int .i64 3),(23,.slice (some ⟨15,0,none⟩) oa1.rows.m3 1),(24,.int .i64 (oa1.rows.m3:Int)),(25,.int .i64 t253)],[.code Xbq,.inLoop Xbq,.inBlock 2,.inBlock 1,.code XdW,.inLoop Xdw,.inBlock 0,.code XdF],[],false,none⟩,[],[(0,.cells [.int .u64 s.key.A,.int .u64 s.key.B,.slice (some ⟨1,0,none⟩) 4 1,.int .i64 s.total]),(1,.cells [.slice (some ⟨2,0,none⟩) s.rows.m0 1,.slice (some ⟨3,0,none⟩) s.rows.m1 1,.slice (some ⟨4,0,none⟩) s.rows.m2 1,.slice (some ⟨5,0,none⟩) s.rows.m3 1]),(2,.row true (vI .i64 c)),(3,.row true (vI .i64 c1)),(4,.row true (vI .i64 c2)),(5,.row true (vI .i64 c3)),(10,.row false [.int .u64 oa1.key.A,.int .u64 oa1.key.B,.slice (some ⟨11,0,none⟩) 4 1,.int .i64 oa1.total]),(11,.row false [.slice (some ⟨12,0,none⟩) oa1.rows.m0 1,.slice (some ⟨13,0,none⟩) oa1.rows.m1 1,.slice (some ⟨14,0,none⟩) oa1.rows.m2 1,.slice (some ⟨15,0,none⟩) oa1.rows.m3 1]),(12,.row false (vI .i64 oa1.rows.e0)),(13,.row false (vI .i64 oa1.rows.e1)),(14,.row false (vI .i64 oa1.rows.e2)),(15,.row false (vI .i64 oa1.rows.e3))],20⟩
def Xs7 (s:Xar) (oa1:Xar) (c:List Int) (c1:List Int) (t252:Int) (c2:List Int):VM:=
 ⟨⟨14,51,[(0,.pointer (some ⟨0,0,none⟩)),(1,.pointer (some ⟨10,0,none⟩)),(5,.int .i64 2),(16,.slice (some ⟨11,0,none⟩) 4 1),(17,.int .i64 4),(18,.int .i64 2),(23,.slice (some ⟨14,0,none⟩) oa1.rows.m2 1),(24,.int .i64 (oa1.rows.m2:Int)),(25,.int .i64 t252)],[.code Xbq,.inLoop Xbq,.inBlock 2,.inBlock 1,.code XdW,.inLoop Xdw,.inBlock 0,.code XdF],[],false,none⟩,[],[(0,.cells [.int .u64 s.key.A,.int .u64 s.key.B,.slice (some ⟨1,0,none⟩) 4 1,.int .i64 s.total]),(1,.cells [.slice (some ⟨2,0,none⟩) s.rows.m0 1,.slice (some ⟨3,0,none⟩) s.rows.m1 1,.slice (some ⟨4,0,none⟩) s.rows.m2 1,.slice (some ⟨5,0,none⟩) s.rows.m3 1]),(2,.row true (vI .i64 c)),(3,.row true (vI .i64 c1)),(4,.row true (vI .i64 c2)),(5,.row true (vI .i64 s.rows.e3)),(10,.row false [.int .u64 oa1.key.A,.int .u64 oa1.key.B,.slice (some ⟨11,0,none⟩) 4 1,.int .i64 oa1.total]),(11,.row false [.slice (some ⟨12,0,none⟩) oa1.rows.m0 1,.slice (some ⟨13,0,none⟩) oa1.rows.m1 1,.slice (some ⟨14,0,none⟩) oa1.rows.m2 1,.slice (some ⟨15,0,none⟩) oa1.rows.m3 1]),(12,.row false (vI .i64 oa1.rows.e0)),(13,.row false (vI .i64 oa1.rows.e1)),(14,.row false (vI .i64 oa1.rows.e2)),(15,.row false (vI .i64 oa1.rows.e3))],20⟩
def XsZ (s:Xar) (oa1:Xar) (c:List Int) (t251:Int) (c1:List Int):VM:=
 ⟨⟨14,51,[(0,.pointer (some ⟨0,0,none⟩)),(1,.pointer (some ⟨10,0,none⟩)),(5,.int .i64 1),(16,.slice (some ⟨11,0,none⟩) 4 1),(17,.int .i64 4),(18,.int .i64 1),(23,.slice (some ⟨13,0,none⟩) oa1.rows.m1 1),(24,.int .i64 (oa1.rows.m1:Int)),(25,.int .i64 t251)],[.code Xbq,.inLoop Xbq,.inBlock 2,.inBlock 1,.code XdW,.inLoop Xdw,.inBlock 0,.code XdF],[],false,none⟩,[],[(0,.cells [.int .u64 s.key.A,.int .u64 s.key.B,.slice (some ⟨1,0,none⟩) 4 1,.int .i64 s.total]),(1,.cells [.slice (some ⟨2,0,none⟩) s.rows.m0 1,.slice (some ⟨3,0,none⟩) s.rows.m1 1,.slice (some ⟨4,0,none⟩) s.rows.m2 1,.slice (some ⟨5,0,none⟩) s.rows.m3 1]),(2,.row true (vI .i64 c)),(3,.row true (vI .i64 c1)),(4,.row true (vI .i64 s.rows.e2)),(5,.row true (vI .i64 s.rows.e3)),(10,.row false [.int .u64 oa1.key.A,.int .u64 oa1.key.B,.slice (some ⟨11,0,none⟩) 4 1,.int .i64 oa1.total]),(11,.row false [.slice (some ⟨12,0,none⟩) oa1.rows.m0 1,.slice (some ⟨13,0,none⟩) oa1.rows.m1 1,.slice (some ⟨14,0,none⟩) oa1.rows.m2 1,.slice (some ⟨15,0,none⟩) oa1.rows.m3 1]),(12,.row false (vI .i64 oa1.rows.e0)),(13,.row false (vI .i64 oa1.rows.e1)),(14,.row false (vI .i64 oa1.rows.e2)),(15,.row false (vI .i64 oa1.rows.e3))],20⟩
def XrH (s:Xar) (oa1:Xar) (t25:Int) (c:List Int):VM:=
 ⟨⟨14,51,[(0,.pointer (some ⟨0,0,none⟩)),(1,.pointer (some ⟨10,0,none⟩)),(5,.int .i64 0),(16,.slice (some ⟨11,0,none⟩) 4 1),(17,.int .i64 4),(18,.int .i64 0),(23,.slice (some ⟨12,0,none⟩) oa1.rows.m0 1),(24,.int .i64 (oa1.rows.m0:Int)),(25,.int .i64 t25)],[.code Xbq,.inLoop Xbq,.inBlock 2,.inBlock 1,.code XdW,.inLoop Xdw,.inBlock 0,.code XdF],[],false,none⟩,[],[(0,.cells [.int .u64 s.key.A,.int .u64 s.key.B,.slice (some ⟨1,0,none⟩) 4 1,.int .i64 s.total]),(1,.cells [.slice (some ⟨2,0,none⟩) s.rows.m0 1,.slice (some ⟨3,0,none⟩) s.rows.m1 1,.slice (some ⟨4,0,none⟩) s.rows.m2 1,.slice (some ⟨5,0,none⟩) s.rows.m3 1]),(2,.row true (vI .i64 c)),(3,.row true (vI .i64 s.rows.e1)),(4,.row true (vI .i64 s.rows.e2)),(5,.row true (vI .i64 s.rows.e3)),(10,.row false [.int .u64 oa1.key.A,.int .u64 oa1.key.B,.slice (some ⟨11,0,none⟩) 4 1,.int .i64 oa1.total]),(11,.row false [.slice (some ⟨12,0,none⟩) oa1.rows.m0 1,.slice (some ⟨13,0,none⟩) oa1.rows.m1 1,.slice (some ⟨14,0,none⟩) oa1.rows.m2 1,.slice (some ⟨15,0,none⟩) oa1.rows.m3 1]),(12,.row false (vI .i64 oa1.rows.e0)),(13,.row false (vI .i64 oa1.rows.e1)),(14,.row false (vI .i64 oa1.rows.e2)),(15,.row false (vI .i64 oa1.rows.e3))],20⟩
theorem Xtm (Xac:Xaq) (hS:XaF Try.prog (XaP (XkN Xac))) {s:Xar} {oa1:Xar} {c:List Int} {c1:List Int} {c2:List Int} {res:Bool×Xar}:∀ {fuel} {st:Int×(List Int)} {o:Bool×Xar},iter (fun st=>Xce s oa1 c c1 c2 st.1 st.2) fuel st=some o→(o=res) →
 XaU Try.prog 14 20 (XrU s oa1 c c1 c2 st.1 st.2) (fun v H _=>Res 20 (XlH res) v H):=by
 apply XaO
 intro st o h hc
 obtain ⟨t253,c3⟩:=st
 try dsimp -zeta only at h ⊢
 unfold Xce at h
 have J:=js [2,3,4,5]
 have LM:=lm XcT
 refine Xa4 XaM hS true 3000 ?_
 conv=>whnf
 exact W
theorem XsQ (Xac:Xaq) (hS:XaF Try.prog (XaP (XkN Xac))) {s:Xar} {oa1:Xar} {c:List Int} {c1:List Int} {res:Bool×Xar}:∀ {fuel} {st:Int×(List Int)} {o:Bool×Xar},iter (fun st=>Xcw s oa1 c c1 st.1 st.2) fuel st=some o→(o=res) →
 XaU Try.prog 14 20 (Xs7 s oa1 c c1 st.1 st.2) (fun v H _=>Res 20 (XlH res) v H):=by
 apply XaO
 intro st o h hc
 obtain ⟨t252,c2⟩:=st
 try dsimp -zeta only at h ⊢
 unfold Xcw at h
 have J:=js [2,3,4,5]
 have LM:=lm XcT
 have LP:=@Xtm Xac hS;have LQ:=lm XcT
 refine Xa4 XaM hS true 3000 ?_
 conv=>whnf
 exact W
theorem XrN (Xac:Xaq) (hS:XaF Try.prog (XaP (XkN Xac))) {s:Xar} {oa1:Xar} {c:List Int} {res:Bool×Xar}:∀ {fuel} {st:Int×(List Int)} {o:Bool×Xar},iter (fun st=>Xcf s oa1 c st.1 st.2) fuel st=some o→(o=res) →
 XaU Try.prog 14 20 (XsZ s oa1 c st.1 st.2) (fun v H _=>Res 20 (XlH res) v H):=by
 apply XaO
 intro st o h hc
 obtain ⟨t251,c1⟩:=st
 try dsimp -zeta only at h ⊢
 unfold Xcf at h
 have J:=js [2,3,4,5]
 have LM:=lm XcT
 have LP:=@XsQ Xac hS;have LQ:=lm XcT
 refine Xa4 XaM hS true 3000 ?_
 conv=>whnf
 exact W
theorem Xtu (Xac:Xaq) (hS:XaF Try.prog (XaP (XkN Xac))) {s:Xar} {oa1:Xar} {res:Bool×Xar}:∀ {fuel} {st:Int×(List Int)} {o:Bool×Xar},iter (fun st=>Xdh s oa1 st.1 st.2) fuel st=some o→(o=res) →
 XaU Try.prog 14 20 (XrH s oa1 st.1 st.2) (fun v H _=>Res 20 (XlH res) v H):=by
 apply XaO
 intro st o h hc
 obtain ⟨t25,c⟩:=st
 try dsimp -zeta only at h ⊢
 unfold Xdh at h
 have J:=js [2,3,4,5]
 have LM:=lm XcT
 have LP:=@XrN Xac hS;have LQ:=lm XcT
 refine Xa4 XaM hS true 3000 ?_
 conv=>whnf
 exact W
theorem Xvg (Xac:Xaq) (hS:XaF Try.prog (XaP (XkN Xac))) (s:Xar) (oa1:Xar) (res:Bool×Xar) (h:Xd7 Xac s oa1=some res) :
 XaU Try.prog 14 20 ⟨⟨14,51,[(0,.pointer (some ⟨0,0,none⟩)),(1,.pointer (some ⟨10,0,none⟩))],[.code Xls],[],false,none⟩,[],[(0,.cells [.int .u64 s.key.A,.int .u64 s.key.B,.slice (some ⟨1,0,none⟩) 4 1,.int .i64 s.total]),(1,.cells [.slice (some ⟨2,0,none⟩) s.rows.m0 1,.slice (some ⟨3,0,none⟩) s.rows.m1 1,.slice (some ⟨4,0,none⟩) s.rows.m2 1,.slice (some ⟨5,0,none⟩) s.rows.m3 1]),(2,.row true (vI .i64 s.rows.e0)),(3,.row true (vI .i64 s.rows.e1)),(4,.row true (vI .i64 s.rows.e2)),(5,.row true (vI .i64 s.rows.e3)),(10,.row false [.int .u64 oa1.key.A,.int .u64 oa1.key.B,.slice (some ⟨11,0,none⟩) 4 1,.int .i64 oa1.total]),(11,.row false [.slice (some ⟨12,0,none⟩) oa1.rows.m0 1,.slice (some ⟨13,0,none⟩) oa1.rows.m1 1,.slice (some ⟨14,0,none⟩) oa1.rows.m2 1,.slice (some ⟨15,0,none⟩) oa1.rows.m3 1]),(12,.row false (vI .i64 oa1.rows.e0)),(13,.row false (vI .i64 oa1.rows.e1)),(14,.row false (vI .i64 oa1.rows.e2)),(15,.row false (vI .i64 oa1.rows.e3))],20⟩ (fun v H _=>Res 20 (XlH res) v H):=by
 unfold Xd7 at h
 have R1:=@Xx9 Xac
 have J:=js [2,3,4,5]
 have LP:=@Xtu Xac hS;have LQ:=lm XcT
 refine Xa4 XaM hS true 3000 ?_
 conv=>whnf
 exact W
def Xcz (s:Xap) (oa1:Xap) (c:List Int) (c1:List Int) (c2:List Int) (c3:List Int) (t254:Int) (c4:List Int):Option (Sum (Int×(List Int)) (Bool×Xap)):=
 cond (decide (t254<(oa1.rows.m4:Int)))
  (
  XaQ (decide ((0:Int)≤t254∧t254<(oa1.rows.m4:Int))) <|
  (oa1.rows.e4[t254.toNat]?).bind fun (e8:Int)=>
  XaQ (decide ((0:Int)≤t254∧t254<(s.rows.m4:Int))) <|
  (c4[t254.toNat]?).bind fun (e9:Int)=>
  let t4:=if (wI .i64 (e9+e8))<1099511627776 then wI .i64 (e9+e8) else 1099511627776
  XaQ (decide (t254.toNat<c4.length)) <|
  let row4:=c4.set t254.toNat t4
  some (.inl (wI .i64 (t254+1),row4)))
  (
  let t5:=if (wI .i64 (s.total+oa1.total))<1099511627776 then wI .i64 (s.total+oa1.total) else 1099511627776
  some (.inr ((true,Xap.mk s.key (XcH.mk c c1 c2 c3 c4 s.rows.m0 s.rows.m1 s.rows.m2 s.rows.m3 s.rows.m4) t5))))
def XcD (s:Xap) (oa1:Xap) (c:List Int) (c1:List Int) (c2:List Int) (t253:Int) (c3:List Int):Option (Sum (Int×(List Int)) (Bool×Xap)):=
 cond (decide (t253<(oa1.rows.m3:Int)))
  (
  XaQ (decide ((0:Int)≤t253∧t253<(oa1.rows.m3:Int))) <|
  (oa1.rows.e3[t253.toNat]?).bind fun (e6:Int)=>
  XaQ (decide ((0:Int)≤t253∧t253<(s.rows.m3:Int))) <|
  (c3[t253.toNat]?).bind fun (e7:Int)=>
  let t3:=if (wI .i64 (e7+e6))<1099511627776 then wI .i64 (e7+e6) else 1099511627776
  XaQ (decide (t253.toNat<c3.length)) <|
  let row3:=c3.set t253.toNat t3
  some (.inl (wI .i64 (t253+1),row3)))
  (
  (iter (fun st=>Xcz s oa1 c c1 c2 c3 st.1 st.2) FUEL (0,s.rows.e4)).bind fun o=>some (.inr (o)))
def Xcm (s:Xap) (oa1:Xap) (c:List Int) (c1:List Int) (t252:Int) (c2:List Int):Option (Sum (Int×(List Int)) (Bool×Xap)):=
 cond (decide (t252<(oa1.rows.m2:Int)))
  (
  XaQ (decide ((0:Int)≤t252∧t252<(oa1.rows.m2:Int))) <|
  (oa1.rows.e2[t252.toNat]?).bind fun (e4:Int)=>
  XaQ (decide ((0:Int)≤t252∧t252<(s.rows.m2:Int))) <|
  (c2[t252.toNat]?).bind fun (e5:Int)=>
  let t2:=if (wI .i64 (e5+e4))<1099511627776 then wI .i64 (e5+e4) else 1099511627776
  XaQ (decide (t252.toNat<c2.length)) <|
  let row2:=c2.set t252.toNat t2
  some (.inl (wI .i64 (t252+1),row2)))
  (
  (iter (fun st=>XcD s oa1 c c1 c2 st.1 st.2) FUEL (0,s.rows.e3)).bind fun o=>some (.inr (o)))
def Xcd (s:Xap) (oa1:Xap) (c:List Int) (t251:Int) (c1:List Int):Option (Sum (Int×(List Int)) (Bool×Xap)):=
 cond (decide (t251<(oa1.rows.m1:Int)))
  (
  XaQ (decide ((0:Int)≤t251∧t251<(oa1.rows.m1:Int))) <|
  (oa1.rows.e1[t251.toNat]?).bind fun (e2:Int)=>
  XaQ (decide ((0:Int)≤t251∧t251<(s.rows.m1:Int))) <|
  (c1[t251.toNat]?).bind fun (e3:Int)=>
  let t1:=if (wI .i64 (e3+e2))<1099511627776 then wI .i64 (e3+e2) else 1099511627776
  XaQ (decide (t251.toNat<c1.length)) <|
  let row1:=c1.set t251.toNat t1
  some (.inl (wI .i64 (t251+1),row1)))
  (
  (iter (fun st=>Xcm s oa1 c c1 st.1 st.2) FUEL (0,s.rows.e2)).bind fun o=>some (.inr (o)))
def Xdb (s:Xap) (oa1:Xap) (t25:Int) (c:List Int):Option (Sum (Int×(List Int)) (Bool×Xap)):=
 cond (decide (t25<(oa1.rows.m0:Int)))
  (
  XaQ (decide ((0:Int)≤t25∧t25<(oa1.rows.m0:Int))) <|
  (oa1.rows.e0[t25.toNat]?).bind fun (e:Int)=>
  XaQ (decide ((0:Int)≤t25∧t25<(s.rows.m0:Int))) <|
  (c[t25.toNat]?).bind fun (e1:Int)=>
  let t:=if (wI .i64 (e1+e))<1099511627776 then wI .i64 (e1+e) else 1099511627776
  XaQ (decide (t25.toNat<c.length)) <|
  let row:=c.set t25.toNat t
  some (.inl (wI .i64 (t25+1),row)))
  (
  (iter (fun st=>Xcd s oa1 c st.1 st.2) FUEL (0,s.rows.e1)).bind fun o=>some (.inr (o)))
def Xd5 (Xac:Xaq) (s:Xap) (oa1:Xap):Option (Bool×Xap):=
 (Xac.v55 s oa1).bind fun x5=>
 cond (!x5)
  (
  some ((false,s)))
  (
  iter (fun st=>Xdb s oa1 st.1 st.2) FUEL (0,s.rows.e0))
def XkG (x:Bool×Xap):Xdu:=⟨.bool x.1,[(vI .i64 x.2.rows.e0),(vI .i64 x.2.rows.e1),(vI .i64 x.2.rows.e2),(vI .i64 x.2.rows.e3),(vI .i64 x.2.rows.e4)],[some [.int .u64 x.2.key.A,.int .u64 x.2.key.B,.slice (some ⟨6,0,none⟩) 5 1,.int .i64 x.2.total],some [.slice (some ⟨0,0,none⟩) x.2.rows.m0 1,.slice (some ⟨1,0,none⟩) x.2.rows.m1 1,.slice (some ⟨2,0,none⟩) x.2.rows.m2 1,.slice (some ⟨3,0,none⟩) x.2.rows.m3 1,.slice (some ⟨4,0,none⟩) x.2.rows.m4 1],none,none,none,none,none,none,none,none,none,none,none,none,none,none,none,none,none,none]⟩
abbrev Xgn:=Xap→Xap→Option (Bool×Xap)
def XIS (g:Xgn):Dec:=dTr 10 (XbG 0) fun (y0:Xap)=>dTr 10 (XbG 10) fun (y1:Xap)=>XeA (ofG (g y0 y1) XkG)
abbrev XjD (Xac:Xaq):List (Nat×XcU):=[(42,s42 Xac)]
def Xto (s:Xap) (oa1:Xap) (c:List Int) (c1:List Int) (c2:List Int) (c3:List Int) (t254:Int) (c4:List Int):VM:=
 ⟨⟨14,51,[(0,.pointer (some ⟨0,0,none⟩)),(1,.pointer (some ⟨10,0,none⟩)),(5,.int .i64 4),(16,.slice (some ⟨11,0,none⟩) 5 1),(17,.int .i64 5),(18,.int .i64 4),(23,.slice (some ⟨16,0,none⟩) oa1.rows.m4 1),(24,.int .i64 (oa1.rows.m4:Int)),(25,.int .i64 t254)],[.code Xbq,.inLoop Xbq,.inBlock 2,.inBlock 1,.code XdW,.inLoop Xdw,.inBlock 0,.code XdF],[],false,none⟩,[],[(0,.cells [.int .u64 s.key.A,.int .u64 s.key.B,.slice (some ⟨1,0,none⟩) 5 1,.int .i64 s.total]),(1,.cells [.slice (some ⟨2,0,none⟩) s.rows.m0 1,.slice (some ⟨3,0,none⟩) s.rows.m1 1,.slice (some ⟨4,0,none⟩) s.rows.m2 1,.slice (some ⟨5,0,none⟩) s.rows.m3 1,.slice (some ⟨6,0,none⟩) s.rows.m4 1]),(2,.row true (vI .i64 c)),(3,.row true (vI .i64 c1)),(4,.row true (vI .i64 c2)),(5,.row true (vI .i64 c3)),(6,.row true (vI .i64 c4)),(10,.row false [.int .u64 oa1.key.A,.int .u64 oa1.key.B,.slice (some ⟨11,0,none⟩) 5 1,.int .i64 oa1.total]),(11,.row false [.slice (some ⟨12,0,none⟩) oa1.rows.m0 1,.slice (some ⟨13,0,none⟩) oa1.rows.m1 1,.slice (some ⟨14,0,none⟩) oa1.rows.m2 1,.slice (some ⟨15,0,none⟩) oa1.rows.m3 1,.slice (some ⟨16,0,none⟩) oa1.rows.m4 1]),(12,.row false (vI .i64 oa1.rows.e0)),(13,.row false (vI .i64 oa1.rows.e1)),(14,.row false (vI .i64 oa1.rows.e2)),(15,.row false (vI .i64 oa1.rows.e3)),(16,.row false (vI .i64 oa1.rows.e4))],20⟩
def XsL (s:Xap) (oa1:Xap) (c:List Int) (c1:List Int) (c2:List Int) (t253:Int) (c3:List Int):VM:=
 ⟨⟨14,51,[(0,.pointer (some ⟨0,0,none⟩)),(1,.pointer (some ⟨10,0,none⟩)),(5,.int .i64 3),(16,.slice (some ⟨11,0,none⟩) 5 1),(17,.int .i64 5),(18,.int .i64 3),(23,.slice (some ⟨15,0,none⟩) oa1.rows.m3 1),(24,.int .i64 (oa1.rows.m3:Int)),(25,.int .i64 t253)],[.code Xbq,.inLoop Xbq,.inBlock 2,.inBlock 1,.code XdW,.inLoop Xdw,.inBlock 0,.code XdF],[],false,none⟩,[],[(0,.cells [.int .u64 s.key.A,.int .u64 s.key.B,.slice (some ⟨1,0,none⟩) 5 1,.int .i64 s.total]),(1,.cells [.slice (some ⟨2,0,none⟩) s.rows.m0 1,.slice (some ⟨3,0,none⟩) s.rows.m1 1,.slice (some ⟨4,0,none⟩) s.rows.m2 1,.slice (some ⟨5,0,none⟩) s.rows.m3 1,.slice (some ⟨6,0,none⟩) s.rows.m4 1]),(2,.row true (vI .i64 c)),(3,.row true (vI .i64 c1)),(4,.row true (vI .i64 c2)),(5,.row true (vI .i64 c3)),(6,.row true (vI .i64 s.rows.e4)),(10,.row false [.int .u64 oa1.key.A,.int .u64 oa1.key.B,.slice (some ⟨11,0,none⟩) 5 1,.int .i64 oa1.total]),(11,.row false [.slice (some ⟨12,0,none⟩) oa1.rows.m0 1,.slice (some ⟨13,0,none⟩) oa1.rows.m1 1,.slice (some ⟨14,0,none⟩) oa1.rows.m2 1,.slice (some ⟨15,0,none⟩) oa1.rows.m3 1,.slice (some ⟨16,0,none⟩) oa1.rows.m4 1]),(12,.row false (vI .i64 oa1.rows.e0)),(13,.row false (vI .i64 oa1.rows.e1)),(14,.row false (vI .i64 oa1.rows.e2)),(15,.row false (vI .i64 oa1.rows.e3)),(16,.row false (vI .i64 oa1.rows.e4))],20⟩
def XsR (s:Xap) (oa1:Xap) (c:List Int) (c1:List Int) (t252:Int) (c2:List Int):VM:=
 ⟨⟨14,51,[(0,.pointer (some ⟨0,0,none⟩)),(1,.pointer (some ⟨10,0,none⟩)),(5,.int .i64 2),(16,.slice (some ⟨11,0,none⟩) 5 1),(17,.int .i64 5),(18,.int .i64 2),(23,.slice (some ⟨14,0,none⟩) oa1.rows.m2 1),(24,.int .i64 (oa1.rows.m2:Int)),(25,.int .i64 t252)],[.code Xbq,.inLoop Xbq,.inBlock 2,.inBlock 1,.code XdW,.inLoop Xdw,.inBlock 0,.code XdF],[],false,none⟩,[],[(0,.cells [.int .u64 s.key.A,.int .u64 s.key.B,.slice (some ⟨1,0,none⟩) 5 1,.int .i64 s.total]),(1,.cells [.slice (some ⟨2,0,none⟩) s.rows.m0 1,.slice (some ⟨3,0,none⟩) s.rows.m1 1,.slice (some ⟨4,0,none⟩) s.rows.m2 1,.slice (some ⟨5,0,none⟩) s.rows.m3 1,.slice (some ⟨6,0,none⟩) s.rows.m4 1]),(2,.row true (vI .i64 c)),(3,.row true (vI .i64 c1)),(4,.row true (vI .i64 c2)),(5,.row true (vI .i64 s.rows.e3)),(6,.row true (vI .i64 s.rows.e4)),(10,.row false [.int .u64 oa1.key.A,.int .u64 oa1.key.B,.slice (some ⟨11,0,none⟩) 5 1,.int .i64 oa1.total]),(11,.row false [.slice (some ⟨12,0,none⟩) oa1.rows.m0 1,.slice (some ⟨13,0,none⟩) oa1.rows.m1 1,.slice (some ⟨14,0,none⟩) oa1.rows.m2 1,.slice (some ⟨15,0,none⟩) oa1.rows.m3 1,.slice (some ⟨16,0,none⟩) oa1.rows.m4 1]),(12,.row false (vI .i64 oa1.rows.e0)),(13,.row false (vI .i64 oa1.rows.e1)),(14,.row false (vI .i64 oa1.rows.e2)),(15,.row false (vI .i64 oa1.rows.e3)),(16,.row false (vI .i64 oa1.rows.e4))],20⟩
def Xro (s:Xap) (oa1:Xap) (c:List Int) (t251:Int) (c1:List Int):VM:=
 ⟨⟨14,51,[(0,.pointer (some ⟨0,0,none⟩)),(1,.pointer (some ⟨10,0,none⟩)),(5,.int .i64 1),(16,.slice (some ⟨11,0,none⟩) 5 1),(17,.int .i64 5),(18,.int .i64 1),(23,.slice (some ⟨13,0,none⟩) oa1.rows.m1 1),(24,.int .i64 (oa1.rows.m1:Int)),(25,.int .i64 t251)],[.code Xbq,.inLoop Xbq,.inBlock 2,.inBlock 1,.code XdW,.inLoop Xdw,.inBlock 0,.code XdF],[],false,none⟩,[],[(0,.cells [.int .u64 s.key.A,.int .u64 s.key.B,.slice (some ⟨1,0,none⟩) 5 1,.int .i64 s.total]),(1,.cells [.slice (some ⟨2,0,none⟩) s.rows.m0 1,.slice (some ⟨3,0,none⟩) s.rows.m1 1,.slice (some ⟨4,0,none⟩) s.rows.m2 1,.slice (some ⟨5,0,none⟩) s.rows.m3 1,.slice (some ⟨6,0,none⟩) s.rows.m4 1]),(2,.row true (vI .i64 c)),(3,.row true (vI .i64 c1)),(4,.row true (vI .i64 s.rows.e2)),(5,.row true (vI .i64 s.rows.e3)),(6,.row true (vI .i64 s.rows.e4)),(10,.row false [.int .u64 oa1.key.A,.int .u64 oa1.key.B,.slice (some ⟨11,0,none⟩) 5 1,.int .i64 oa1.total]),(11,.row false [.slice (some ⟨12,0,none⟩) oa1.rows.m0 1,.slice (some ⟨13,0,none⟩) oa1.rows.m1 1,.slice (some ⟨14,0,none⟩) oa1.rows.m2 1,.slice (some ⟨15,0,none⟩) oa1.rows.m3 1,.slice (some ⟨16,0,none⟩) oa1.rows.m4 1]),(12,.row false (vI .i64 oa1.rows.e0)),(13,.row false (vI .i64 oa1.rows.e1)),(14,.row false (vI .i64 oa1.rows.e2)),(15,.row false (vI .i64 oa1.rows.e3)),(16,.row false (vI .i64 oa1.rows.e4))],20⟩
def XsJ (s:Xap) (oa1:Xap) (t25:Int) (c:List Int):VM:=
 ⟨⟨14,51,[(0,.pointer (some ⟨0,0,none⟩)),(1,.pointer (some ⟨10,0,none⟩)),(5,.int .i64 0),(16,.slice (some ⟨11,0,none⟩) 5 1),(17,.int .i64 5),(18,.int .i64 0),(23,.slice (some ⟨12,0,none⟩) oa1.rows.m0 1),(24,.int .i64 (oa1.rows.m0:Int)),(25,.int .i64 t25)],[.code Xbq,.inLoop Xbq,.inBlock 2,.inBlock 1,.code XdW,.inLoop Xdw,.inBlock 0,.code XdF],[],false,none⟩,[],[(0,.cells [.int .u64 s.key.A,.int .u64 s.key.B,.slice (some ⟨1,0,none⟩) 5 1,.int .i64 s.total]),(1,.cells [.slice (some ⟨2,0,none⟩) s.rows.m0 1,.slice (some ⟨3,0,none⟩) s.rows.m1 1,.slice (some ⟨4,0,none⟩) s.rows.m2 1,.slice (some ⟨5,0,none⟩) s.rows.m3 1,.slice (some ⟨6,0,none⟩) s.rows.m4 1]),(2,.row true (vI .i64 c)),(3,.row true (vI .i64 s.rows.e1)),(4,.row true (vI .i64 s.rows.e2)),(5,.row true (vI .i64 s.rows.e3)),(6,.row true (vI .i64 s.rows.e4)),(10,.row false [.int .u64 oa1.key.A,.int .u64 oa1.key.B,.slice (some ⟨11,0,none⟩) 5 1,.int .i64 oa1.total]),(11,.row false [.slice (some ⟨12,0,none⟩) oa1.rows.m0 1,.slice (some ⟨13,0,none⟩) oa1.rows.m1 1,.slice (some ⟨14,0,none⟩) oa1.rows.m2 1,.slice (some ⟨15,0,none⟩) oa1.rows.m3 1,.slice (some ⟨16,0,none⟩) oa1.rows.m4 1]),(12,.row false (vI .i64 oa1.rows.e0)),(13,.row false (vI .i64 oa1.rows.e1)),(14,.row false (vI .i64 oa1.rows.e2)),(15,.row false (vI .i64 oa1.rows.e3)),(16,.row false (vI .i64 oa1.rows.e4))],20⟩
theorem Xtv (Xac:Xaq) (hS:XaF Try.prog (XaP (XjD Xac))) {s:Xap} {oa1:Xap} {c:List Int} {c1:List Int} {c2:List Int} {c3:List Int} {res:Bool×Xap}:∀ {fuel} {st:Int×(List Int)} {o:Bool×Xap},iter (fun st=>Xcz s oa1 c c1 c2 c3 st.1 st.2) fuel st=some o→(o=res) →
 XaU Try.prog 14 20 (Xto s oa1 c c1 c2 c3 st.1 st.2) (fun v H _=>Res 20 (XkG res) v H):=by
 apply XaO
 intro st o h hc
 obtain ⟨t254,c4⟩:=st
 try dsimp -zeta only at h ⊢
 unfold Xcz at h
 have J:=js [2,3,4,5,6]
 have LM:=lm XcT
 refine Xa4 XaM hS true 3000 ?_
 conv=>whnf
 exact W
theorem XsY (Xac:Xaq) (hS:XaF Try.prog (XaP (XjD Xac))) {s:Xap} {oa1:Xap} {c:List Int} {c1:List Int} {c2:List Int} {res:Bool×Xap}:∀ {fuel} {st:Int×(List Int)} {o:Bool×Xap},iter (fun st=>XcD s oa1 c c1 c2 st.1 st.2) fuel st=some o→(o=res) →
 XaU Try.prog 14 20 (XsL s oa1 c c1 c2 st.1 st.2) (fun v H _=>Res 20 (XkG res) v H):=by
 apply XaO
 intro st o h hc
 obtain ⟨t253,c3⟩:=st
 try dsimp -zeta only at h ⊢
 unfold XcD at h
 have J:=js [2,3,4,5,6]
 have LM:=lm XcT
 have LP:=@Xtv Xac hS;have LQ:=lm XcT
 refine Xa4 XaM hS true 3000 ?_
 conv=>whnf
 exact W
theorem Xrv (Xac:Xaq) (hS:XaF Try.prog (XaP (XjD Xac))) {s:Xap} {oa1:Xap} {c:List Int} {c1:List Int} {res:Bool×Xap}:∀ {fuel} {st:Int×(List Int)} {o:Bool×Xap},iter (fun st=>Xcm s oa1 c c1 st.1 st.2) fuel st=some o→(o=res) →
 XaU Try.prog 14 20 (XsR s oa1 c c1 st.1 st.2) (fun v H _=>Res 20 (XkG res) v H):=by
 apply XaO
 intro st o h hc
 obtain ⟨t252,c2⟩:=st
 try dsimp -zeta only at h ⊢
 unfold Xcm at h
 have J:=js [2,3,4,5,6]
 have LM:=lm XcT
 have LP:=@XsY Xac hS;have LQ:=lm XcT
 refine Xa4 XaM hS true 3000 ?_
 conv=>whnf
 exact W
theorem Xsh (Xac:Xaq) (hS:XaF Try.prog (XaP (XjD Xac))) {s:Xap} {oa1:Xap} {c:List Int} {res:Bool×Xap}:∀ {fuel} {st:Int×(List Int)} {o:Bool×Xap},iter (fun st=>Xcd s oa1 c st.1 st.2) fuel st=some o→(o=res) →
 XaU Try.prog 14 20 (Xro s oa1 c st.1 st.2) (fun v H _=>Res 20 (XkG res) v H):=by
 apply XaO
 intro st o h hc
 obtain ⟨t251,c1⟩:=st
 try dsimp -zeta only at h ⊢
 unfold Xcd at h
 have J:=js [2,3,4,5,6]
 have LM:=lm XcT
 have LP:=@Xrv Xac hS;have LQ:=lm XcT
 refine Xa4 XaM hS true 3000 ?_
 conv=>whnf
 exact W
theorem XrE (Xac:Xaq) (hS:XaF Try.prog (XaP (XjD Xac))) {s:Xap} {oa1:Xap} {res:Bool×Xap}:∀ {fuel} {st:Int×(List Int)} {o:Bool×Xap},iter (fun st=>Xdb s oa1 st.1 st.2) fuel st=some o→(o=res) →
 XaU Try.prog 14 20 (XsJ s oa1 st.1 st.2) (fun v H _=>Res 20 (XkG res) v H):=by
 apply XaO
 intro st o h hc
 obtain ⟨t25,c⟩:=st
 try dsimp -zeta only at h ⊢
 unfold Xdb at h
 have J:=js [2,3,4,5,6]
 have LM:=lm XcT
 have LP:=@Xsh Xac hS;have LQ:=lm XcT
 refine Xa4 XaM hS true 3000 ?_
 conv=>whnf
 exact W
theorem XvU (Xac:Xaq) (hS:XaF Try.prog (XaP (XjD Xac))) (s:Xap) (oa1:Xap) (res:Bool×Xap) (h:Xd5 Xac s oa1=some res) :
 XaU Try.prog 14 20 ⟨⟨14,51,[(0,.pointer (some ⟨0,0,none⟩)),(1,.pointer (some ⟨10,0,none⟩))],[.code Xls],[],false,none⟩,[],[(0,.cells [.int .u64 s.key.A,.int .u64 s.key.B,.slice (some ⟨1,0,none⟩) 5 1,.int .i64 s.total]),(1,.cells [.slice (some ⟨2,0,none⟩) s.rows.m0 1,.slice (some ⟨3,0,none⟩) s.rows.m1 1,.slice (some ⟨4,0,none⟩) s.rows.m2 1,.slice (some ⟨5,0,none⟩) s.rows.m3 1,.slice (some ⟨6,0,none⟩) s.rows.m4 1]),(2,.row true (vI .i64 s.rows.e0)),(3,.row true (vI .i64 s.rows.e1)),(4,.row true (vI .i64 s.rows.e2)),(5,.row true (vI .i64 s.rows.e3)),(6,.row true (vI .i64 s.rows.e4)),(10,.row false [.int .u64 oa1.key.A,.int .u64 oa1.key.B,.slice (some ⟨11,0,none⟩) 5 1,.int .i64 oa1.total]),(11,.row false [.slice (some ⟨12,0,none⟩) oa1.rows.m0 1,.slice (some ⟨13,0,none⟩) oa1.rows.m1 1,.slice (some ⟨14,0,none⟩) oa1.rows.m2 1,.slice (some ⟨15,0,none⟩) oa1.rows.m3 1,.slice (some ⟨16,0,none⟩) oa1.rows.m4 1]),(12,.row false (vI .i64 oa1.rows.e0)),(13,.row false (vI .i64 oa1.rows.e1)),(14,.row false (vI .i64 oa1.rows.e2)),(15,.row false (vI .i64 oa1.rows.e3)),(16,.row false (vI .i64 oa1.rows.e4))],20⟩ (fun v H _=>Res 20 (XkG res) v H):=by
 unfold Xd5 at h
 have R1:=@Xxh Xac
 have J:=js [2,3,4,5,6]
 have LP:=@XrE Xac hS;have LQ:=lm XcT
 refine Xa4 XaM hS true 3000 ?_
 conv=>whnf
 exact W
def Xcv (s:Xan) (oa1:Xan) (c:List Int) (c1:List Int) (c2:List Int) (c3:List Int) (c4:List Int) (t255:Int) (c5:List Int):Option (Sum (Int×(List Int)) (Bool×Xan)):=
 cond (decide (t255<(oa1.rows.m5:Int)))
  (
  XaQ (decide ((0:Int)≤t255∧t255<(oa1.rows.m5:Int))) <|
  (oa1.rows.e5[t255.toNat]?).bind fun (e10:Int)=>
  XaQ (decide ((0:Int)≤t255∧t255<(s.rows.m5:Int))) <|
  (c5[t255.toNat]?).bind fun (e11:Int)=>
  let t5:=if (wI .i64 (e11+e10))<1099511627776 then wI .i64 (e11+e10) else 1099511627776
  XaQ (decide (t255.toNat<c5.length)) <|
  let row5:=c5.set t255.toNat t5
  some (.inl (wI .i64 (t255+1),row5)))
  (
  let t6:=if (wI .i64 (s.total+oa1.total))<1099511627776 then wI .i64 (s.total+oa1.total) else 1099511627776
  some (.inr ((true,Xan.mk s.key (Xb9.mk c c1 c2 c3 c4 c5 s.rows.m0 s.rows.m1 s.rows.m2 s.rows.m3 s.rows.m4 s.rows.m5) t6))))
def Xcs (s:Xan) (oa1:Xan) (c:List Int) (c1:List Int) (c2:List Int) (c3:List Int) (t254:Int) (c4:List Int):Option (Sum (Int×(List Int)) (Bool×Xan)):=
 cond (decide (t254<(oa1.rows.m4:Int)))
  (
  XaQ (decide ((0:Int)≤t254∧t254<(oa1.rows.m4:Int))) <|
  (oa1.rows.e4[t254.toNat]?).bind fun (e8:Int)=>
  XaQ (decide ((0:Int)≤t254∧t254<(s.rows.m4:Int))) <|
  (c4[t254.toNat]?).bind fun (e9:Int)=>
  let t4:=if (wI .i64 (e9+e8))<1099511627776 then wI .i64 (e9+e8) else 1099511627776
  XaQ (decide (t254.toNat<c4.length)) <|
  let row4:=c4.set t254.toNat t4
  some (.inl (wI .i64 (t254+1),row4)))
  (
  (iter (fun st=>Xcv s oa1 c c1 c2 c3 c4 st.1 st.2) FUEL (0,s.rows.e5)).bind fun o=>some (.inr (o)))
def Xck (s:Xan) (oa1:Xan) (c:List Int) (c1:List Int) (c2:List Int) (t253:Int) (c3:List Int):Option (Sum (Int×(List Int)) (Bool×Xan)):=
 cond (decide (t253<(oa1.rows.m3:Int)))
  (
  XaQ (decide ((0:Int)≤t253∧t253<(oa1.rows.m3:Int))) <|
  (oa1.rows.e3[t253.toNat]?).bind fun (e6:Int)=>
  XaQ (decide ((0:Int)≤t253∧t253<(s.rows.m3:Int))) <|
  (c3[t253.toNat]?).bind fun (e7:Int)=>
  let t3:=if (wI .i64 (e7+e6))<1099511627776 then wI .i64 (e7+e6) else 1099511627776
  XaQ (decide (t253.toNat<c3.length)) <|
  let row3:=c3.set t253.toNat t3
  some (.inl (wI .i64 (t253+1),row3)))
  (
  (iter (fun st=>Xcs s oa1 c c1 c2 c3 st.1 st.2) FUEL (0,s.rows.e4)).bind fun o=>some (.inr (o)))
def Xcc (s:Xan) (oa1:Xan) (c:List Int) (c1:List Int) (t252:Int) (c2:List Int):Option (Sum (Int×(List Int)) (Bool×Xan)):=
 cond (decide (t252<(oa1.rows.m2:Int)))
  (
  XaQ (decide ((0:Int)≤t252∧t252<(oa1.rows.m2:Int))) <|
  (oa1.rows.e2[t252.toNat]?).bind fun (e4:Int)=>
  XaQ (decide ((0:Int)≤t252∧t252<(s.rows.m2:Int))) <|
  (c2[t252.toNat]?).bind fun (e5:Int)=>
  let t2:=if (wI .i64 (e5+e4))<1099511627776 then wI .i64 (e5+e4) else 1099511627776
  XaQ (decide (t252.toNat<c2.length)) <|
  let row2:=c2.set t252.toNat t2
  some (.inl (wI .i64 (t252+1),row2)))
  (
  (iter (fun st=>Xck s oa1 c c1 c2 st.1 st.2) FUEL (0,s.rows.e3)).bind fun o=>some (.inr (o)))
def Xco (s:Xan) (oa1:Xan) (c:List Int) (t251:Int) (c1:List Int):Option (Sum (Int×(List Int)) (Bool×Xan)):=
 cond (decide (t251<(oa1.rows.m1:Int)))
  (
  XaQ (decide ((0:Int)≤t251∧t251<(oa1.rows.m1:Int))) <|
  (oa1.rows.e1[t251.toNat]?).bind fun (e2:Int)=>
  XaQ (decide ((0:Int)≤t251∧t251<(s.rows.m1:Int))) <|
  (c1[t251.toNat]?).bind fun (e3:Int)=>
  let t1:=if (wI .i64 (e3+e2))<1099511627776 then wI .i64 (e3+e2) else 1099511627776
  XaQ (decide (t251.toNat<c1.length)) <|
  let row1:=c1.set t251.toNat t1
  some (.inl (wI .i64 (t251+1),row1)))
  (
  (iter (fun st=>Xcc s oa1 c c1 st.1 st.2) FUEL (0,s.rows.e2)).bind fun o=>some (.inr (o)))
def Xdi (s:Xan) (oa1:Xan) (t25:Int) (c:List Int):Option (Sum (Int×(List Int)) (Bool×Xan)):=
 cond (decide (t25<(oa1.rows.m0:Int)))
  (
  XaQ (decide ((0:Int)≤t25∧t25<(oa1.rows.m0:Int))) <|
  (oa1.rows.e0[t25.toNat]?).bind fun (e:Int)=>
  XaQ (decide ((0:Int)≤t25∧t25<(s.rows.m0:Int))) <|
  (c[t25.toNat]?).bind fun (e1:Int)=>
  let t:=if (wI .i64 (e1+e))<1099511627776 then wI .i64 (e1+e) else 1099511627776
  XaQ (decide (t25.toNat<c.length)) <|
  let row:=c.set t25.toNat t
  some (.inl (wI .i64 (t25+1),row)))
  (
  (iter (fun st=>Xco s oa1 c st.1 st.2) FUEL (0,s.rows.e1)).bind fun o=>some (.inr (o)))
def Xea (Xac:Xaq) (s:Xan) (oa1:Xan):Option (Bool×Xan):=
 (Xac.v66 s oa1).bind fun x6=>
 cond (!x6)
  (
  some ((false,s)))
  (
  iter (fun st=>Xdi s oa1 st.1 st.2) FUEL (0,s.rows.e0))
def Xj2 (x:Bool×Xan):Xdu:=⟨.bool x.1,[(vI .i64 x.2.rows.e0),(vI .i64 x.2.rows.e1),(vI .i64 x.2.rows.e2),(vI .i64 x.2.rows.e3),(vI .i64 x.2.rows.e4),(vI .i64 x.2.rows.e5)],[some [.int .u64 x.2.key.A,.int .u64 x.2.key.B,.slice (some ⟨7,0,none⟩) 6 1,.int .i64 x.2.total],some [.slice (some ⟨0,0,none⟩) x.2.rows.m0 1,.slice (some ⟨1,0,none⟩) x.2.rows.m1 1,.slice (some ⟨2,0,none⟩) x.2.rows.m2 1,.slice (some ⟨3,0,none⟩) x.2.rows.m3 1,.slice (some ⟨4,0,none⟩) x.2.rows.m4 1,.slice (some ⟨5,0,none⟩) x.2.rows.m5 1],none,none,none,none,none,none,none,none,none,none,none,none,none,none,none,none,none,none]⟩
abbrev Xgu:=Xan→Xan→Option (Bool×Xan)
def XHR (g:Xgu):Dec:=dTr 10 (XbF 0) fun (y0:Xan)=>dTr 10 (XbF 10) fun (y1:Xan)=>XeA (ofG (g y0 y1) Xj2)
abbrev Xi4 (Xac:Xaq):List (Nat×XcU):=[(42,s42 Xac)]
def XrC (s:Xan) (oa1:Xan) (c:List Int) (c1:List Int) (c2:List Int) (c3:List Int) (c4:List Int) (t255:Int) (c5:List Int):VM:=
 ⟨⟨14,51,[(0,.pointer (some ⟨0,0,none⟩)),(1,.pointer (some ⟨10,0,none⟩)),(5,.int .i64 5),(16,.slice (some ⟨11,0,none⟩) 6 1),(17,.int .i64 6),(18,.int .i64 5),(23,.slice (some ⟨17,0,none⟩) oa1.rows.m5 1),(24,.int .i64 (oa1.rows.m5:Int)),(25,.int .i64 t255)],[.code Xbq,.inLoop Xbq,.inBlock 2,.inBlock 1,.code XdW,.inLoop Xdw,.inBlock 0,.code XdF],[],false,none⟩,[],[(0,.cells [.int .u64 s.key.A,.int .u64 s.key.B,.slice (some ⟨1,0,none⟩) 6 1,.int .i64 s.total]),(1,.cells [.slice (some ⟨2,0,none⟩) s.rows.m0 1,.slice (some ⟨3,0,none⟩) s.rows.m1 1,.slice (some ⟨4,0,none⟩) s.rows.m2 1,.slice (some ⟨5,0,none⟩) s.rows.m3 1,.slice (some ⟨6,0,none⟩) s.rows.m4 1,.slice (some ⟨7,0,none⟩) s.rows.m5 1]),(2,.row true (vI .i64 c)),(3,.row true (vI .i64 c1)),(4,.row true (vI .i64 c2)),(5,.row true (vI .i64 c3)),(6,.row true (vI .i64 c4)),(7,.row true (vI .i64 c5)),(10,.row false [.int .u64 oa1.key.A,.int .u64 oa1.key.B,.slice (some ⟨11,0,none⟩) 6 1,.int .i64 oa1.total]),(11,.row false [.slice (some ⟨12,0,none⟩) oa1.rows.m0 1,.slice (some ⟨13,0,none⟩) oa1.rows.m1 1,.slice (some ⟨14,0,none⟩) oa1.rows.m2 1,.slice (some ⟨15,0,none⟩) oa1.rows.m3 1,.slice (some ⟨16,0,none⟩) oa1.rows.m4 1,.slice (some ⟨17,0,none⟩) oa1.rows.m5 1]),(12,.row false (vI .i64 oa1.rows.e0)),(13,.row false (vI .i64 oa1.rows.e1)),(14,.row false (vI .i64 oa1.rows.e2)),(15,.row false (vI .i64 oa1.rows.e3)),(16,.row false (vI .i64 oa1.rows.e4)),(17,.row false (vI .i64 oa1.rows.e5))],20⟩
def Xry (s:Xan) (oa1:Xan) (c:List Int) (c1:List Int) (c2:List Int) (c3:List Int) (t254:Int) (c4:List Int):VM:=
 ⟨⟨14,51,[(0,.pointer (some ⟨0,0,none⟩)),(1,.pointer (some ⟨10,0,none⟩)),(5,.int .i64 4),(16,.slice (some ⟨11,0,none⟩) 6 1),(17,.int .i64 6),(18,.int .i64 4),(23,.slice (some ⟨16,0,none⟩) oa1.rows.m4 1),(24,.int .i64 (oa1.rows.m4:Int)),(25,.int .i64 t254)],[.code Xbq,.inLoop Xbq,.inBlock 2,.inBlock 1,.code XdW,.inLoop Xdw,.inBlock 0,.code XdF],[],false,none⟩,[],[(0,.cells [.int .u64 s.key.A,.int .u64 s.key.B,.slice (some ⟨1,0,none⟩) 6 1,.int .i64 s.total]),(1,.cells [.slice (some ⟨2,0,none⟩) s.rows.m0 1,.slice (some ⟨3,0,none⟩) s.rows.m1 1,.slice (some ⟨4,0,none⟩) s.rows.m2 1,.slice (some ⟨5,0,none⟩) s.rows.m3 1,.slice (some ⟨6,0,none⟩) s.rows.m4 1,.slice (some ⟨7,0,none⟩) s.rows.m5 1]),(2,.row true (vI .i64 c)),(3,.row true (vI .i64 c1)),(4,.row true (vI .i64 c2)),(5,.row true (vI .i64 c3)),(6,.row true (vI .i64 c4)),(7,.row true (vI .i64 s.rows.e5)),(10,.row false [.int .u64 oa1.key.A,.int .u64 oa1.key.B,.slice (some ⟨11,0,none⟩) 6 1,.int .i64 oa1.total]),(11,.row false [.slice (some ⟨12,0,none⟩) oa1.rows.m0 1,.slice (some ⟨13,0,none⟩) oa1.rows.m1 1,.slice (some ⟨14,0,none⟩) oa1.rows.m2 1,.slice (some ⟨15,0,none⟩) oa1.rows.m3 1,.slice (some ⟨16,0,none⟩) oa1.rows.m4 1,.slice (some ⟨17,0,none⟩) oa1.rows.m5 1]),(12,.row false (vI .i64 oa1.rows.e0)),(13,.row false (vI .i64 oa1.rows.e1)),(14,.row false (vI .i64 oa1.rows.e2)),(15,.row false (vI .i64 oa1.rows.e3)),(16,.row false (vI .i64 oa1.rows.e4)),(17,.row false (vI .i64 oa1.rows.e5))],20⟩
def XsT (s:Xan) (oa1:Xan) (c:List Int) (c1:List Int) (c2:List Int) (t253:Int) (c3:List Int):VM:=
 ⟨⟨14,51,[(0,.pointer (some ⟨0,0,none⟩)),(1,.pointer (some ⟨10,0,none⟩)),(5,.int .i64 3),(16,.slice (some ⟨11,0,none⟩) 6 1),(17,.int .i64 6),(18,.int .i64 3),(23,.slice (some ⟨15,0,none⟩) oa1.rows.m3 1),(24,.int .i64 (oa1.rows.m3:Int)),(25,.int .i64 t253)],[.code Xbq,.inLoop Xbq,.inBlock 2,.inBlock 1,.code XdW,.inLoop Xdw,.inBlock 0,.code XdF],[],false,none⟩,[],[(0,.cells [.int .u64 s.key.A,.int .u64 s.key.B,.slice (some ⟨1,0,none⟩) 6 1,.int .i64 s.total]),(1,.cells [.slice (some ⟨2,0,none⟩) s.rows.m0 1,.slice (some ⟨3,0,none⟩) s.rows.m1 1,.slice (some ⟨4,0,none⟩) s.rows.m2 1,.slice (some ⟨5,0,none⟩) s.rows.m3 1,.slice (some ⟨6,0,none⟩) s.rows.m4 1,.slice (some ⟨7,0,none⟩) s.rows.m5 1]),(2,.row true (vI .i64 c)),(3,.row true (vI .i64 c1)),(4,.row true (vI .i64 c2)),(5,.row true (vI .i64 c3)),(6,.row true (vI .i64 s.rows.e4)),(7,.row true (vI .i64 s.rows.e5)),(10,.row false [.int .u64 oa1.key.A,.int .u64 oa1.key.B,.slice (some ⟨11,0,none⟩) 6 1,.int .i64 oa1.total]),(11,.row false [.slice (some ⟨12,0,none⟩) oa1.rows.m0 1,.slice (some ⟨13,0,none⟩) oa1.rows.m1 1,.slice (some ⟨14,0,none⟩) oa1.rows.m2 1,.slice (some ⟨15,0,none⟩) oa1.rows.m3 1,.slice (some ⟨16,0,none⟩) oa1.rows.m4 1,.slice (some ⟨17,0,none⟩) oa1.rows.m5 1]),(12,.row false (vI .i64 oa1.rows.e0)),(13,.row false (vI .i64 oa1.rows.e1)),(14,.row false (vI .i64 oa1.rows.e2)),(15,.row false (vI .i64 oa1.rows.e3)),(16,.row false (vI .i64 oa1.rows.e4)),(17,.row false (vI .i64 oa1.rows.e5))],20⟩
def Xr1 (s:Xan) (oa1:Xan) (c:List Int) (c1:List Int) (t252:Int) (c2:List Int):VM:=
 ⟨⟨14,51,[(0,.pointer (some ⟨0,0,none⟩)),(1,.pointer (some ⟨10,0,none⟩)),(5,.int .i64 2),(16,.slice (some ⟨11,0,none⟩) 6 1),(17,.int .i64 6),(18,.int .i64 2),(23,.slice (some ⟨14,0,none⟩) oa1.rows.m2 1),(24,.int .i64 (oa1.rows.m2:Int)),(25,.int .i64 t252)],[.code Xbq,.inLoop Xbq,.inBlock 2,.inBlock 1,.code XdW,.inLoop Xdw,.inBlock 0,.code XdF],[],false,none⟩,[],[(0,.cells [.int .u64 s.key.A,.int .u64 s.key.B,.slice (some ⟨1,0,none⟩) 6 1,.int .i64 s.total]),(1,.cells [.slice (some ⟨2,0,none⟩) s.rows.m0 1,.slice (some ⟨3,0,none⟩) s.rows.m1 1,.slice (some ⟨4,0,none⟩) s.rows.m2 1,.slice (some ⟨5,0,none⟩) s.rows.m3 1,.slice (some ⟨6,0,none⟩) s.rows.m4 1,.slice (some ⟨7,0,none⟩) s.rows.m5 1]),(2,.row true (vI .i64 c)),(3,.row true (vI .i64 c1)),(4,.row true (vI .i64 c2)),(5,.row true (vI .i64 s.rows.e3)),(6,.row true (vI .i64 s.rows.e4)),(7,.row true (vI .i64 s.rows.e5)),(10,.row false [.int .u64 oa1.key.A,.int .u64 oa1.key.B,.slice (some ⟨11,0,none⟩) 6 1,.int .i64 oa1.total]),(11,.row false [.slice (some ⟨12,0,none⟩) oa1.rows.m0 1,.slice (some ⟨13,0,none⟩) oa1.rows.m1 1,.slice (some ⟨14,0,none⟩) oa1.rows.m2 1,.slice (some ⟨15,0,none⟩) oa1.rows.m3 1,.slice (some ⟨16,0,none⟩) oa1.rows.m4 1,.slice (some ⟨17,0,none⟩) oa1.rows.m5 1]),(12,.row false (vI .i64 oa1.rows.e0)),(13,.row false (vI .i64 oa1.rows.e1)),(14,.row false (vI .i64 oa1.rows.e2)),(15,.row false (vI .i64 oa1.rows.e3)),(16,.row false (vI .i64 oa1.rows.e4)),(17,.row false (vI .i64 oa1.rows.e5))],20⟩
def Xsk (s:Xan) (oa1:Xan) (c:List Int) (t251:Int) (c1:List Int):VM:=
 ⟨⟨14,51,[(0,.pointer (some ⟨0,0,none⟩)),(1,.pointer (some ⟨10,0,none⟩)),(5,.int .i64 1),(16,.slice (some ⟨11,0,none⟩) 6 1),(17,.int .i64 6),(18,.int .i64 1),(23,.slice (some ⟨13,0,none⟩) oa1.rows.m1 1),(24,.int .i64 (oa1.rows.m1:Int)),(25,.int .i64 t251)],[.code Xbq,.inLoop Xbq,.inBlock 2,.inBlock 1,.code XdW,.inLoop Xdw,.inBlock 0,.code XdF],[],false,none⟩,[],[(0,.cells [.int .u64 s.key.A,.int .u64 s.key.B,.slice (some ⟨1,0,none⟩) 6 1,.int .i64 s.total]),(1,.cells [.slice (some ⟨2,0,none⟩) s.rows.m0 1,.slice (some ⟨3,0,none⟩) s.rows.m1 1,.slice (some ⟨4,0,none⟩) s.rows.m2 1,.slice (some ⟨5,0,none⟩) s.rows.m3 1,.slice (some ⟨6,0,none⟩) s.rows.m4 1,.slice (some ⟨7,0,none⟩) s.rows.m5 1]),(2,.row true (vI .i64 c)),(3,.row true (vI .i64 c1)),(4,.row true (vI .i64 s.rows.e2)),(5,.row true (vI .i64 s.rows.e3)),(6,.row true (vI .i64 s.rows.e4)),(7,.row true (vI .i64 s.rows.e5)),(10,.row false [.int .u64 oa1.key.A,.int .u64 oa1.key.B,.slice (some ⟨11,0,none⟩) 6 1,.int .i64 oa1.total]),(11,.row false [.slice (some ⟨12,0,none⟩) oa1.rows.m0 1,.slice (some ⟨13,0,none⟩) oa1.rows.m1 1,.slice (some ⟨14,0,none⟩) oa1.rows.m2 1,.slice (some ⟨15,0,none⟩) oa1.rows.m3 1,.slice (some ⟨16,0,none⟩) oa1.rows.m4 1,.slice (some ⟨17,0,none⟩) oa1.rows.m5 1]),(12,.row false (vI .i64 oa1.rows.e0)),(13,.row false (vI .i64 oa1.rows.e1)),(14,.row false (vI .i64 oa1.rows.e2)),(15,.row false (vI .i64 oa1.rows.e3)),(16,.row false (vI .i64 oa1.rows.e4)),(17,.row false (vI .i64 oa1.rows.e5))],20⟩
def Xsu (s:Xan) (oa1:Xan) (t25:Int) (c:List Int):VM:=
 ⟨⟨14,51,[(0,.pointer (some ⟨0,0,none⟩)),(1,.pointer (some ⟨10,0,none⟩)),(5,.int .i64 0),(16,.slice (some ⟨11,0,none⟩) 6 1),(17,.int .i64 6),(18,.int .i64 0),(23,.slice (some ⟨12,0,none⟩) oa1.rows.m0 1),(24,.int .i64 (oa1.rows.m0:Int)),(25,.int .i64 t25)],[.code Xbq,.inLoop Xbq,.inBlock 2,.inBlock 1,.code XdW,.inLoop Xdw,.inBlock 0,.code XdF],[],false,none⟩,[],[(0,.cells [.int .u64 s.key.A,.int .u64 s.key.B,.slice (some ⟨1,0,none⟩) 6 1,.int .i64 s.total]),(1,.cells [.slice (some ⟨2,0,none⟩) s.rows.m0 1,.slice (some ⟨3,0,none⟩) s.rows.m1 1,.slice (some ⟨4,0,none⟩) s.rows.m2 1,.slice (some ⟨5,0,none⟩) s.rows.m3 1,.slice (some ⟨6,0,none⟩) s.rows.m4 1,.slice (some ⟨7,0,none⟩) s.rows.m5 1]),(2,.row true (vI .i64 c)),(3,.row true (vI .i64 s.rows.e1)),(4,.row true (vI .i64 s.rows.e2)),(5,.row true (vI .i64 s.rows.e3)),(6,.row true (vI .i64 s.rows.e4)),(7,.row true (vI .i64 s.rows.e5)),(10,.row false [.int .u64 oa1.key.A,.int .u64 oa1.key.B,.slice (some ⟨11,0,none⟩) 6 1,.int .i64 oa1.total]),(11,.row false [.slice (some ⟨12,0,none⟩) oa1.rows.m0 1,.slice (some ⟨13,0,none⟩) oa1.rows.m1 1,.slice (some ⟨14,0,none⟩) oa1.rows.m2 1,.slice (some ⟨15,0,none⟩) oa1.rows.m3 1,.slice (some ⟨16,0,none⟩) oa1.rows.m4 1,.slice (some ⟨17,0,none⟩) oa1.rows.m5 1]),(12,.row false (vI .i64 oa1.rows.e0)),(13,.row false (vI .i64 oa1.rows.e1)),(14,.row false (vI .i64 oa1.rows.e2)),(15,.row false (vI .i64 oa1.rows.e3)),(16,.row false (vI .i64 oa1.rows.e4)),(17,.row false (vI .i64 oa1.rows.e5))],20⟩
theorem XrW (Xac:Xaq) (hS:XaF Try.prog (XaP (Xi4 Xac))) {s:Xan} {oa1:Xan} {c:List Int} {c1:List Int} {c2:List Int} {c3:List Int} {c4:List Int} {res:Bool×Xan}:∀ {fuel} {st:Int×(List Int)} {o:Bool×Xan},iter (fun st=>Xcv s oa1 c c1 c2 c3 c4 st.1 st.2) fuel st=some o→(o=res) →
 XaU Try.prog 14 20 (XrC s oa1 c c1 c2 c3 c4 st.1 st.2) (fun v H _=>Res 20 (Xj2 res) v H):=by
 apply XaO
 intro st o h hc
 obtain ⟨t255,c5⟩:=st
 try dsimp -zeta only at h ⊢
 unfold Xcv at h
 have J:=js [2,3,4,5,6,7]
 have LM:=lm XcT
 refine Xa4 XaM hS true 3000 ?_
 conv=>whnf
 exact W
theorem Xsm (Xac:Xaq) (hS:XaF Try.prog (XaP (Xi4 Xac))) {s:Xan} {oa1:Xan} {c:List Int} {c1:List Int} {c2:List Int} {c3:List Int} {res:Bool×Xan}:∀ {fuel} {st:Int×(List Int)} {o:Bool×Xan},iter (fun st=>Xcs s oa1 c c1 c2 c3 st.1 st.2) fuel st=some o→(o=res) →
 XaU Try.prog 14 20 (Xry s oa1 c c1 c2 c3 st.1 st.2) (fun v H _=>Res 20 (Xj2 res) v H):=by
 apply XaO
 intro st o h hc
 obtain ⟨t254,c4⟩:=st
 try dsimp -zeta only at h ⊢
 unfold Xcs at h
 have J:=js [2,3,4,5,6,7]
 have LM:=lm XcT
 have LP:=@XrW Xac hS;have LQ:=lm XcT
 refine Xa4 XaM hS true 3000 ?_
 conv=>whnf
 exact W
theorem XrK (Xac:Xaq) (hS:XaF Try.prog (XaP (Xi4 Xac))) {s:Xan} {oa1:Xan} {c:List Int} {c1:List Int} {c2:List Int} {res:Bool×Xan}:∀ {fuel} {st:Int×(List Int)} {o:Bool×Xan},iter (fun st=>Xck s oa1 c c1 c2 st.1 st.2) fuel st=some o→(o=res) →
 XaU Try.prog 14 20 (XsT s oa1 c c1 c2 st.1 st.2) (fun v H _=>Res 20 (Xj2 res) v H):=by
 apply XaO
 intro st o h hc
 obtain ⟨t253,c3⟩:=st
 try dsimp -zeta only at h ⊢
 unfold Xck at h
 have J:=js [2,3,4,5,6,7]
 have LM:=lm XcT
 have LP:=@Xsm Xac hS;have LQ:=lm XcT
 refine Xa4 XaM hS true 3000 ?_
 conv=>whnf
 exact W
theorem XrQ (Xac:Xaq) (hS:XaF Try.prog (XaP (Xi4 Xac))) {s:Xan} {oa1:Xan} {c:List Int} {c1:List Int} {res:Bool×Xan}:∀ {fuel} {st:Int×(List Int)} {o:Bool×Xan},iter (fun st=>Xcc s oa1 c c1 st.1 st.2) fuel st=some o→(o=res) →
 XaU Try.prog 14 20 (Xr1 s oa1 c c1 st.1 st.2) (fun v H _=>Res 20 (Xj2 res) v H):=by
 apply XaO
 intro st o h hc
 obtain ⟨t252,c2⟩:=st
 try dsimp -zeta only at h ⊢
 unfold Xcc at h
 have J:=js [2,3,4,5,6,7]
 have LM:=lm XcT
 have LP:=@XrK Xac hS;have LQ:=lm XcT
 refine Xa4 XaM hS true 3000 ?_
 conv=>whnf
 exact W
theorem Xsg (Xac:Xaq) (hS:XaF Try.prog (XaP (Xi4 Xac))) {s:Xan} {oa1:Xan} {c:List Int} {res:Bool×Xan}:∀ {fuel} {st:Int×(List Int)} {o:Bool×Xan},iter (fun st=>Xco s oa1 c st.1 st.2) fuel st=some o→(o=res) →
 XaU Try.prog 14 20 (Xsk s oa1 c st.1 st.2) (fun v H _=>Res 20 (Xj2 res) v H):=by
 apply XaO
 intro st o h hc
 obtain ⟨t251,c1⟩:=st
 try dsimp -zeta only at h ⊢
 unfold Xco at h
 have J:=js [2,3,4,5,6,7]
 have LM:=lm XcT
 have LP:=@XrQ Xac hS;have LQ:=lm XcT
 refine Xa4 XaM hS true 3000 ?_
 conv=>whnf
 exact W
theorem Xtk (Xac:Xaq) (hS:XaF Try.prog (XaP (Xi4 Xac))) {s:Xan} {oa1:Xan} {res:Bool×Xan}:∀ {fuel} {st:Int×(List Int)} {o:Bool×Xan},iter (fun st=>Xdi s oa1 st.1 st.2) fuel st=some o→(o=res) →
 XaU Try.prog 14 20 (Xsu s oa1 st.1 st.2) (fun v H _=>Res 20 (Xj2 res) v H):=by
 apply XaO
 intro st o h hc
 obtain ⟨t25,c⟩:=st
 try dsimp -zeta only at h ⊢
 unfold Xdi at h
 have J:=js [2,3,4,5,6,7]
 have LM:=lm XcT
 have LP:=@Xsg Xac hS;have LQ:=lm XcT
 refine Xa4 XaM hS true 3000 ?_
 conv=>whnf
 exact W
theorem XvS (Xac:Xaq) (hS:XaF Try.prog (XaP (Xi4 Xac))) (s:Xan) (oa1:Xan) (res:Bool×Xan) (h:Xea Xac s oa1=some res) :
 XaU Try.prog 14 20 ⟨⟨14,51,[(0,.pointer (some ⟨0,0,none⟩)),(1,.pointer (some ⟨10,0,none⟩))],[.code Xls],[],false,none⟩,[],[(0,.cells [.int .u64 s.key.A,.int .u64 s.key.B,.slice (some ⟨1,0,none⟩) 6 1,.int .i64 s.total]),(1,.cells [.slice (some ⟨2,0,none⟩) s.rows.m0 1,.slice (some ⟨3,0,none⟩) s.rows.m1 1,.slice (some ⟨4,0,none⟩) s.rows.m2 1,.slice (some ⟨5,0,none⟩) s.rows.m3 1,.slice (some ⟨6,0,none⟩) s.rows.m4 1,.slice (some ⟨7,0,none⟩) s.rows.m5 1]),(2,.row true (vI .i64 s.rows.e0)),(3,.row true (vI .i64 s.rows.e1)),(4,.row true (vI .i64 s.rows.e2)),(5,.row true (vI .i64 s.rows.e3)),(6,.row true (vI .i64 s.rows.e4)),(7,.row true (vI .i64 s.rows.e5)),(10,.row false [.int .u64 oa1.key.A,.int .u64 oa1.key.B,.slice (some ⟨11,0,none⟩) 6 1,.int .i64 oa1.total]),(11,.row false [.slice (some ⟨12,0,none⟩) oa1.rows.m0 1,.slice (some ⟨13,0,none⟩) oa1.rows.m1 1,.slice (some ⟨14,0,none⟩) oa1.rows.m2 1,.slice (some ⟨15,0,none⟩) oa1.rows.m3 1,.slice (some ⟨16,0,none⟩) oa1.rows.m4 1,.slice (some ⟨17,0,none⟩) oa1.rows.m5 1]),(12,.row false (vI .i64 oa1.rows.e0)),(13,.row false (vI .i64 oa1.rows.e1)),(14,.row false (vI .i64 oa1.rows.e2)),(15,.row false (vI .i64 oa1.rows.e3)),(16,.row false (vI .i64 oa1.rows.e4)),(17,.row false (vI .i64 oa1.rows.e5))],20⟩ (fun v H _=>Res 20 (Xj2 res) v H):=by
 unfold Xea at h
 have R1:=@XwW Xac
 have J:=js [2,3,4,5,6,7]
 have LP:=@Xtk Xac hS;have LQ:=lm XcT
 refine Xa4 XaM hS true 3000 ?_
 conv=>whnf
 exact W
def Xci (s:Xal) (oa1:Xal) (c:List Int) (c1:List Int) (c2:List Int) (c3:List Int) (c4:List Int) (c5:List Int) (t256:Int) (c6:List Int):Option (Sum (Int×(List Int)) (Bool×Xal)):=
 cond (decide (t256<(oa1.rows.m6:Int)))
  (
  XaQ (decide ((0:Int)≤t256∧t256<(oa1.rows.m6:Int))) <|
  (oa1.rows.e6[t256.toNat]?).bind fun (e12:Int)=>
  XaQ (decide ((0:Int)≤t256∧t256<(s.rows.m6:Int))) <|
  (c6[t256.toNat]?).bind fun (e13:Int)=>
  let t6:=if (wI .i64 (e13+e12))<1099511627776 then wI .i64 (e13+e12) else 1099511627776
  XaQ (decide (t256.toNat<c6.length)) <|
  let row6:=c6.set t256.toNat t6
  some (.inl (wI .i64 (t256+1),row6)))
  (
  let t7:=if (wI .i64 (s.total+oa1.total))<1099511627776 then wI .i64 (s.total+oa1.total) else 1099511627776
  some (.inr ((true,Xal.mk s.key (XbV.mk c c1 c2 c3 c4 c5 c6 s.rows.m0 s.rows.m1 s.rows.m2 s.rows.m3 s.rows.m4 s.rows.m5 s.rows.m6) t7))))
def Xcy (s:Xal) (oa1:Xal) (c:List Int) (c1:List Int) (c2:List Int) (c3:List Int) (c4:List Int) (t255:Int) (c5:List Int):Option (Sum (Int×(List Int)) (Bool×Xal)):=
 cond (decide (t255<(oa1.rows.m5:Int)))
  (
  XaQ (decide ((0:Int)≤t255∧t255<(oa1.rows.m5:Int))) <|
  (oa1.rows.e5[t255.toNat]?).bind fun (e10:Int)=>
  XaQ (decide ((0:Int)≤t255∧t255<(s.rows.m5:Int))) <|
  (c5[t255.toNat]?).bind fun (e11:Int)=>
  let t5:=if (wI .i64 (e11+e10))<1099511627776 then wI .i64 (e11+e10) else 1099511627776
  XaQ (decide (t255.toNat<c5.length)) <|
  let row5:=c5.set t255.toNat t5
  some (.inl (wI .i64 (t255+1),row5)))
  (
  (iter (fun st=>Xci s oa1 c c1 c2 c3 c4 c5 st.1 st.2) FUEL (0,s.rows.e6)).bind fun o=>some (.inr (o)))
def XcC (s:Xal) (oa1:Xal) (c:List Int) (c1:List Int) (c2:List Int) (c3:List Int) (t254:Int) (c4:List Int):Option (Sum (Int×(List Int)) (Bool×Xal)):=
 cond (decide (t254<(oa1.rows.m4:Int)))
  (
  XaQ (decide ((0:Int)≤t254∧t254<(oa1.rows.m4:Int))) <|
  (oa1.rows.e4[t254.toNat]?).bind fun (e8:Int)=>
  XaQ (decide ((0:Int)≤t254∧t254<(s.rows.m4:Int))) <|
  (c4[t254.toNat]?).bind fun (e9:Int)=>
  let t4:=if (wI .i64 (e9+e8))<1099511627776 then wI .i64 (e9+e8) else 1099511627776
  XaQ (decide (t254.toNat<c4.length)) <|
  let row4:=c4.set t254.toNat t4
  some (.inl (wI .i64 (t254+1),row4)))
  (
  (iter (fun st=>Xcy s oa1 c c1 c2 c3 c4 st.1 st.2) FUEL (0,s.rows.e5)).bind fun o=>some (.inr (o)))
def Xcj (s:Xal) (oa1:Xal) (c:List Int) (c1:List Int) (c2:List Int) (t253:Int) (c3:List Int):Option (Sum (Int×(List Int)) (Bool×Xal)):=
 cond (decide (t253<(oa1.rows.m3:Int)))
  (
  XaQ (decide ((0:Int)≤t253∧t253<(oa1.rows.m3:Int))) <|
  (oa1.rows.e3[t253.toNat]?).bind fun (e6:Int)=>
  XaQ (decide ((0:Int)≤t253∧t253<(s.rows.m3:Int))) <|
  (c3[t253.toNat]?).bind fun (e7:Int)=>
  let t3:=if (wI .i64 (e7+e6))<1099511627776 then wI .i64 (e7+e6) else 1099511627776
  XaQ (decide (t253.toNat<c3.length)) <|
  let row3:=c3.set t253.toNat t3
  some (.inl (wI .i64 (t253+1),row3)))
  (
  (iter (fun st=>XcC s oa1 c c1 c2 c3 st.1 st.2) FUEL (0,s.rows.e4)).bind fun o=>some (.inr (o)))
def XcB (s:Xal) (oa1:Xal) (c:List Int) (c1:List Int) (t252:Int) (c2:List Int):Option (Sum (Int×(List Int)) (Bool×Xal)):=
 cond (decide (t252<(oa1.rows.m2:Int)))
  (
  XaQ (decide ((0:Int)≤t252∧t252<(oa1.rows.m2:Int))) <|
  (oa1.rows.e2[t252.toNat]?).bind fun (e4:Int)=>
  XaQ (decide ((0:Int)≤t252∧t252<(s.rows.m2:Int))) <|
  (c2[t252.toNat]?).bind fun (e5:Int)=>
  let t2:=if (wI .i64 (e5+e4))<1099511627776 then wI .i64 (e5+e4) else 1099511627776
  XaQ (decide (t252.toNat<c2.length)) <|
  let row2:=c2.set t252.toNat t2
  some (.inl (wI .i64 (t252+1),row2)))
  (
  (iter (fun st=>Xcj s oa1 c c1 c2 st.1 st.2) FUEL (0,s.rows.e3)).bind fun o=>some (.inr (o)))
def Xcl (s:Xal) (oa1:Xal) (c:List Int) (t251:Int) (c1:List Int):Option (Sum (Int×(List Int)) (Bool×Xal)):=
 cond (decide (t251<(oa1.rows.m1:Int)))
  (
  XaQ (decide ((0:Int)≤t251∧t251<(oa1.rows.m1:Int))) <|
  (oa1.rows.e1[t251.toNat]?).bind fun (e2:Int)=>
  XaQ (decide ((0:Int)≤t251∧t251<(s.rows.m1:Int))) <|
  (c1[t251.toNat]?).bind fun (e3:Int)=>
  let t1:=if (wI .i64 (e3+e2))<1099511627776 then wI .i64 (e3+e2) else 1099511627776
  XaQ (decide (t251.toNat<c1.length)) <|
  let row1:=c1.set t251.toNat t1
  some (.inl (wI .i64 (t251+1),row1)))
  (
  (iter (fun st=>XcB s oa1 c c1 st.1 st.2) FUEL (0,s.rows.e2)).bind fun o=>some (.inr (o)))
def Xdj (s:Xal) (oa1:Xal) (t25:Int) (c:List Int):Option (Sum (Int×(List Int)) (Bool×Xal)):=
 cond (decide (t25<(oa1.rows.m0:Int)))
  (
  XaQ (decide ((0:Int)≤t25∧t25<(oa1.rows.m0:Int))) <|
  (oa1.rows.e0[t25.toNat]?).bind fun (e:Int)=>
  XaQ (decide ((0:Int)≤t25∧t25<(s.rows.m0:Int))) <|
  (c[t25.toNat]?).bind fun (e1:Int)=>
  let t:=if (wI .i64 (e1+e))<1099511627776 then wI .i64 (e1+e) else 1099511627776
  XaQ (decide (t25.toNat<c.length)) <|
  let row:=c.set t25.toNat t
  some (.inl (wI .i64 (t25+1),row)))
  (
  (iter (fun st=>Xcl s oa1 c st.1 st.2) FUEL (0,s.rows.e1)).bind fun o=>some (.inr (o)))
def Xee (Xac:Xaq) (s:Xal) (oa1:Xal):Option (Bool×Xal):=
 (Xac.v77 s oa1).bind fun x7=>
 cond (!x7)
  (
  some ((false,s)))
  (
  iter (fun st=>Xdj s oa1 st.1 st.2) FUEL (0,s.rows.e0))
def Xjv (x:Bool×Xal):Xdu:=⟨.bool x.1,[(vI .i64 x.2.rows.e0),(vI .i64 x.2.rows.e1),(vI .i64 x.2.rows.e2),(vI .i64 x.2.rows.e3),(vI .i64 x.2.rows.e4),(vI .i64 x.2.rows.e5),(vI .i64 x.2.rows.e6)],[some [.int .u64 x.2.key.A,.int .u64 x.2.key.B,.slice (some ⟨8,0,none⟩) 7 1,.int .i64 x.2.total],some [.slice (some ⟨0,0,none⟩) x.2.rows.m0 1,.slice (some ⟨1,0,none⟩) x.2.rows.m1 1,.slice (some ⟨2,0,none⟩) x.2.rows.m2 1,.slice (some ⟨3,0,none⟩) x.2.rows.m3 1,.slice (some ⟨4,0,none⟩) x.2.rows.m4 1,.slice (some ⟨5,0,none⟩) x.2.rows.m5 1,.slice (some ⟨6,0,none⟩) x.2.rows.m6 1],none,none,none,none,none,none,none,none,none,none,none,none,none,none,none,none,none,none]⟩
abbrev Xgr:=Xal→Xal→Option (Bool×Xal)
def XHH (g:Xgr):Dec:=dTr 10 (XbM 0) fun (y0:Xal)=>dTr 10 (XbM 10) fun (y1:Xal)=>XeA (ofG (g y0 y1) Xjv)
abbrev XiF (Xac:Xaq):List (Nat×XcU):=[(42,s42 Xac)]
def XsO (s:Xal) (oa1:Xal) (c:List Int) (c1:List Int) (c2:List Int) (c3:List Int) (c4:List Int) (c5:List Int) (t256:Int) (c6:List Int):VM:=
 ⟨⟨14,51,[(0,.pointer (some ⟨0,0,none⟩)),(1,.pointer (some ⟨10,0,none⟩)),(5,.int .i64 6),(16,.slice (some ⟨11,0,none⟩) 7 1),(17,.int .i64 7),(18,.int .i64 6),(23,.slice (some ⟨18,0,none⟩) oa1.rows.m6 1),(24,.int .i64 (oa1.rows.m6:Int)),(25,.int .i64 t256)],[.code Xbq,.inLoop Xbq,.inBlock 2,.inBlock 1,.code XdW,.inLoop Xdw,.inBlock 0,.code XdF],[],false,none⟩,[],[(0,.cells [.int .u64 s.key.A,.int .u64 s.key.B,.slice (some ⟨1,0,none⟩) 7 1,.int .i64 s.total]),(1,.cells [.slice (some ⟨2,0,none⟩) s.rows.m0 1,.slice (some ⟨3,0,none⟩) s.rows.m1 1,.slice (some ⟨4,0,none⟩) s.rows.m2 1,.slice (some ⟨5,0,none⟩) s.rows.m3 1,.slice (some ⟨6,0,none⟩) s.rows.m4 1,.slice (some ⟨7,0,none⟩) s.rows.m5 1,.slice (some ⟨8,0,none⟩) s.rows.m6 1]),(2,.row true (vI .i64 c)),(3,.row true (vI .i64 c1)),(4,.row true (vI .i64 c2)),(5,.row true (vI .i64 c3)),(6,.row true (vI .i64 c4)),(7,.row true (vI .i64 c5)),(8,.row true (vI .i64 c6)),(10,.row false [.int .u64 oa1.key.A,.int .u64 oa1.key.B,.slice (some ⟨11,0,none⟩) 7 1,.int .i64 oa1.total]),(11,.row false [.slice (some ⟨12,0,none⟩) oa1.rows.m0 1,.slice (some ⟨13,0,none⟩) oa1.rows.m1 1,.slice (some ⟨14,0,none⟩) oa1.rows.m2 1,.slice (some ⟨15,0,none⟩) oa1.rows.m3 1,.slice (some ⟨16,0,none⟩) oa1.rows.m4 1,.slice (some ⟨17,0,none⟩) oa1.rows.m5 1,.slice (some ⟨18,0,none⟩) oa1.rows.m6 1]),(12,.row false (vI .i64 oa1.rows.e0)),(13,.row false (vI .i64 oa1.rows.e1)),(14,.row false (vI .i64 oa1.rows.e2)),(15,.row false (vI .i64 oa1.rows.e3)),(16,.row false (vI .i64 oa1.rows.e4)),(17,.row false (vI .i64 oa1.rows.e5)),(18,.row false (vI .i64 oa1.rows.e6))],20⟩
def Xsl (s:Xal) (oa1:Xal) (c:List Int) (c1:List Int) (c2:List Int) (c3:List Int) (c4:List Int) (t255:Int) (c5:List Int):VM:=
 ⟨⟨14,51,[(0,.pointer (some ⟨0,0,none⟩)),(1,.pointer (some ⟨10,0,none⟩)),(5,.int .i64 5),(16,.slice (some ⟨11,0,none⟩) 7 1),(17,.int .i64 7),(18,.int .i64 5),(23,.slice (some ⟨17,0,none⟩) oa1.rows.m5 1),(24,.int .i64 (oa1.rows.m5:Int)),(25,.int .i64 t255)],[.code Xbq,.inLoop Xbq,.inBlock 2,.inBlock 1,.code XdW,.inLoop Xdw,.inBlock 0,.code XdF],[],false,none⟩,[],[(0,.cells [.int .u64 s.key.A,.int .u64 s.key.B,.slice (some ⟨1,0,none⟩) 7 1,.int .i64 s.total]),(1,.cells [.slice (some ⟨2,0,none⟩) s.rows.m0 1,.slice (some ⟨3,0,none⟩) s.rows.m1 1,.slice (some ⟨4,0,none⟩) s.rows.m2 1,.slice (some ⟨5,0,none⟩) s.rows.m3 1,.slice (some ⟨6,0,none⟩) s.rows.m4 1,.slice (some ⟨7,0,none⟩) s.rows.m5 1,.slice (some ⟨8,0,none⟩) s.rows.m6 1]),(2,.row true (vI .i64 c)),(3,.row true (vI .i64 c1)),(4,.row true (vI .i64 c2)),(5,.row true (vI .i64 c3)),(6,.row true (vI .i64 c4)),(7,.row true (vI .i64 c5)),(8,.row true (vI .i64 s.rows.e6)),(10,.row false [.int .u64 oa1.key.A,.int .u64 oa1.key.B,.slice (some ⟨11,0,none⟩) 7 1,.int .i64 oa1.total]),(11,.row false [.slice (some ⟨12,0,none⟩) oa1.rows.m0 1,.slice (some ⟨13,0,none⟩) oa1.rows.m1 1,.slice (some ⟨14,0,none⟩) oa1.rows.m2 1,.slice (some ⟨15,0,none⟩) oa1.rows.m3 1,.slice (some ⟨16,0,none⟩) oa1.rows.m4 1,.slice (some ⟨17,0,none⟩) oa1.rows.m5 1,.slice (some ⟨18,0,none⟩) oa1.rows.m6 1]),(12,.row false (vI .i64 oa1.rows.e0)),(13,.row false (vI .i64 oa1.rows.e1)),(14,.row false (vI .i64 oa1.rows.e2)),(15,.row false (vI .i64 oa1.rows.e3)),(16,.row false (vI .i64 oa1.rows.e4)),(17,.row false (vI .i64 oa1.rows.e5)),(18,.row false (vI .i64 oa1.rows.e6))],20⟩
def Xrt (s:Xal) (oa1:Xal) (c:List Int) (c1:List Int) (c2:List Int) (c3:List Int) (t254:Int) (c4:List Int):VM:=
 ⟨⟨14,51,[(0,.pointer (some ⟨0,0,none⟩)),(1,.pointer (some ⟨10,0,none⟩)),(5,.int .i64 4),(16,.slice (some ⟨11,0,none⟩) 7 1),(17,.int .i64 7),(18,.int .i64 4),(23,.slice (some ⟨16,0,none⟩) oa1.rows.m4 1),(24,.int .i64 (oa1.rows.m4:Int)),(25,.int .i64 t254)],[.code Xbq,.inLoop Xbq,.inBlock 2,.inBlock 1,.code XdW,.inLoop Xdw,.inBlock 0,.code XdF],[],false,none⟩,[],[(0,.cells [.int .u64 s.key.A,.int .u64 s.key.B,.slice (some ⟨1,0,none⟩) 7 1,.int .i64 s.total]),(1,.cells [.slice (some ⟨2,0,none⟩) s.rows.m0 1,.slice (some ⟨3,0,none⟩) s.rows.m1 1,.slice (some ⟨4,0,none⟩) s.rows.m2 1,.slice (some ⟨5,0,none⟩) s.rows.m3 1,.slice (some ⟨6,0,none⟩) s.rows.m4 1,.slice (some ⟨7,0,none⟩) s.rows.m5 1,.slice (some ⟨8,0,none⟩) s.rows.m6 1]),(2,.row true (vI .i64 c)),(3,.row true (vI .i64 c1)),(4,.row true (vI .i64 c2)),(5,.row true (vI .i64 c3)),(6,.row true (vI .i64 c4)),(7,.row true (vI .i64 s.rows.e5)),(8,.row true (vI .i64 s.rows.e6)),(10,.row false [.int .u64 oa1.key.A,.int .u64 oa1.key.B,.slice (some ⟨11,0,none⟩) 7 1,.int .i64 oa1.total]),(11,.row false [.slice (some ⟨12,0,none⟩) oa1.rows.m0 1,.slice (some ⟨13,0,none⟩) oa1.rows.m1 1,.slice (some ⟨14,0,none⟩) oa1.rows.m2 1,.slice (some ⟨15,0,none⟩) oa1.rows.m3 1,.slice (some ⟨16,0,none⟩) oa1.rows.m4 1,.slice (some ⟨17,0,none⟩) oa1.rows.m5 1,.slice (some ⟨18,0,none⟩) oa1.rows.m6 1]),(12,.row false (vI .i64 oa1.rows.e0)),(13,.row false (vI .i64 oa1.rows.e1)),(14,.row false (vI .i64 oa1.rows.e2)),(15,.row false (vI .i64 oa1.rows.e3)),(16,.row false (vI .i64 oa1.rows.e4)),(17,.row false (vI .i64 oa1.rows.e5)),(18,.row false (vI .i64 oa1.rows.e6))],20⟩
def Xss (s:Xal) (oa1:Xal) (c:List Int) (c1:List Int) (c2:List Int) (t253:Int) (c3:List Int):VM:=
 ⟨⟨14,51,[(0,.pointer (some ⟨0,0,none⟩)),(1,.pointer (some ⟨10,0,none⟩)),(5,.int .i64 3),(16,.slice (some ⟨11,0,none⟩) 7 1),(17,.int .i64 7),(18,.int .i64 3),(23,.slice (some ⟨15,0,none⟩) oa1.rows.m3 1),(24,.int .i64 (oa1.rows.m3:Int)),(25,.int .i64 t253)],[.code Xbq,.inLoop Xbq,.inBlock 2,.inBlock 1,.code XdW,.inLoop Xdw,.inBlock 0,.code XdF],[],false,none⟩,[],[(0,.cells [.int .u64 s.key.A,.int .u64 s.key.B,.slice (some ⟨1,0,none⟩) 7 1,.int .i64 s.total]),(1,.cells [.slice (some ⟨2,0,none⟩) s.rows.m0 1,.slice (some ⟨3,0,none⟩) s.rows.m1 1,.slice (some ⟨4,0,none⟩) s.rows.m2 1,.slice (some ⟨5,0,none⟩) s.rows.m3 1,.slice (some ⟨6,0,none⟩) s.rows.m4 1,.slice (some ⟨7,0,none⟩) s.rows.m5 1,.slice (some ⟨8,0,none⟩) s.rows.m6 1]),(2,.row true (vI .i64 c)),(3,.row true (vI .i64 c1)),(4,.row true (vI .i64 c2)),(5,.row true (vI .i64 c3)),(6,.row true (vI .i64 s.rows.e4)),(7,.row true (vI .i64 s.rows.e5)),(8,.row true (vI .i64 s.rows.e6)),(10,.row false [.int .u64 oa1.key.A,.int .u64 oa1.key.B,.slice (some ⟨11,0,none⟩) 7 1,.int .i64 oa1.total]),(11,.row false [.slice (some ⟨12,0,none⟩) oa1.rows.m0 1,.slice (some ⟨13,0,none⟩) oa1.rows.m1 1,.slice (some ⟨14,0,none⟩) oa1.rows.m2 1,.slice (some ⟨15,0,none⟩) oa1.rows.m3 1,.slice (some ⟨16,0,none⟩) oa1.rows.m4 1,.slice (some ⟨17,0,none⟩) oa1.rows.m5 1,.slice (some ⟨18,0,none⟩) oa1.rows.m6 1]),(12,.row false (vI .i64 oa1.rows.e0)),(13,.row false (vI .i64 oa1.rows.e1)),(14,.row false (vI .i64 oa1.rows.e2)),(15,.row false (vI .i64 oa1.rows.e3)),(16,.row false (vI .i64 oa1.rows.e4)),(17,.row false (vI .i64 oa1.rows.e5)),(18,.row false (vI .i64 oa1.rows.e6))],20⟩
def Xsf (s:Xal) (oa1:Xal) (c:List Int) (c1:List Int) (t252:Int) (c2:List Int):VM:=
 ⟨⟨14,51,[(0,.pointer (some ⟨0,0,none⟩)),(1,.pointer (some ⟨10,0,none⟩)),(5,.int .i64 2),(16,.slice (some ⟨11,0,none⟩) 7 1),(17,.int .i64 7),(18,.int .i64 2),(23,.slice (some ⟨14,0,none⟩) oa1.rows.m2 1),(24,.int .i64 (oa1.rows.m2:Int)),(25,.int .i64 t252)],[.code Xbq,.inLoop Xbq,.inBlock 2,.inBlock 1,.code XdW,.inLoop Xdw,.inBlock 0,.code XdF],[],false,none⟩,[],[(0,.cells [.int .u64 s.key.A,.int .u64 s.key.B,.slice (some ⟨1,0,none⟩) 7 1,.int .i64 s.total]),(1,.cells [.slice (some ⟨2,0,none⟩) s.rows.m0 1,.slice (some ⟨3,0,none⟩) s.rows.m1 1,.slice (some ⟨4,0,none⟩) s.rows.m2 1,.slice (some ⟨5,0,none⟩) s.rows.m3 1,.slice (some ⟨6,0,none⟩) s.rows.m4 1,.slice (some ⟨7,0,none⟩) s.rows.m5 1,.slice (some ⟨8,0,none⟩) s.rows.m6 1]),(2,.row true (vI .i64 c)),(3,.row true (vI .i64 c1)),(4,.row true (vI .i64 c2)),(5,.row true (vI .i64 s.rows.e3)),(6,.row true (vI .i64 s.rows.e4)),(7,.row true (vI .i64 s.rows.e5)),(8,.row true (vI .i64 s.rows.e6)),(10,.row false [.int .u64 oa1.key.A,.int .u64 oa1.key.B,.slice (some ⟨11,0,none⟩) 7 1,.int .i64 oa1.total]),(11,.row false [.slice (some ⟨12,0,none⟩) oa1.rows.m0 1,.slice (some ⟨13,0,none⟩) oa1.rows.m1 1,.slice (some ⟨14,0,none⟩) oa1.rows.m2 1,.slice (some ⟨15,0,none⟩) oa1.rows.m3 1,.slice (some ⟨16,0,none⟩) oa1.rows.m4 1,.slice (some ⟨17,0,none⟩) oa1.rows.m5 1,.slice (some ⟨18,0,none⟩) oa1.rows.m6 1]),(12,.row false (vI .i64 oa1.rows.e0)),(13,.row false (vI .i64 oa1.rows.e1)),(14,.row false (vI .i64 oa1.rows.e2)),(15,.row false (vI .i64 oa1.rows.e3)),(16,.row false (vI .i64 oa1.rows.e4)),(17,.row false (vI .i64 oa1.rows.e5)),(18,.row false (vI .i64 oa1.rows.e6))],20⟩
def Xs9 (s:Xal) (oa1:Xal) (c:List Int) (t251:Int) (c1:List Int):VM:=
 ⟨⟨14,51,[(0,.pointer (some ⟨0,0,none⟩)),(1,.pointer (some ⟨10,0,none⟩)),(5,.int .i64 1),(16,.slice (some ⟨11,0,none⟩) 7 1),(17,.int .i64 7),(18,.int .i64 1),(23,.slice (some ⟨13,0,none⟩) oa1.rows.m1 1),(24,.int .i64 (oa1.rows.m1:Int)),(25,.int .i64 t251)],[.code Xbq,.inLoop Xbq,.inBlock 2,.inBlock 1,.code XdW,.inLoop Xdw,.inBlock 0,.code XdF],[],false,none⟩,[],[(0,.cells [.int .u64 s.key.A,.int .u64 s.key.B,.slice (some ⟨1,0,none⟩) 7 1,.int .i64 s.total]),(1,.cells [.slice (some ⟨2,0,none⟩) s.rows.m0 1,.slice (some ⟨3,0,none⟩) s.rows.m1 1,.slice (some ⟨4,0,none⟩) s.rows.m2 1,.slice (some ⟨5,0,none⟩) s.rows.m3 1,.slice (some ⟨6,0,none⟩) s.rows.m4 1,.slice (some ⟨7,0,none⟩) s.rows.m5 1,.slice (some ⟨8,0,none⟩) s.rows.m6 1]),(2,.row true (vI .i64 c)),(3,.row true (vI .i64 c1)),(4,.row true (vI .i64 s.rows.e2)),(5,.row true (vI .i64 s.rows.e3)),(6,.row true (vI .i64 s.rows.e4)),(7,.row true (vI .i64 s.rows.e5)),(8,.row true (vI .i64 s.rows.e6)),(10,.row false [.int .u64 oa1.key.A,.int .u64 oa1.key.B,.slice (some ⟨11,0,none⟩) 7 1,.int .i64 oa1.total]),(11,.row false [.slice (some ⟨12,0,none⟩) oa1.rows.m0 1,.slice (some ⟨13,0,none⟩) oa1.rows.m1 1,.slice (some ⟨14,0,none⟩) oa1.rows.m2 1,.slice (some ⟨15,0,none⟩) oa1.rows.m3 1,.slice (some ⟨16,0,none⟩) oa1.rows.m4 1,.slice (some ⟨17,0,none⟩) oa1.rows.m5 1,.slice (some ⟨18,0,none⟩) oa1.rows.m6 1]),(12,.row false (vI .i64 oa1.rows.e0)),(13,.row false (vI .i64 oa1.rows.e1)),(14,.row false (vI .i64 oa1.rows.e2)),(15,.row false (vI .i64 oa1.rows.e3)),(16,.row false (vI .i64 oa1.rows.e4)),(17,.row false (vI .i64 oa1.rows.e5)),(18,.row false (vI .i64 oa1.rows.e6))],20⟩
def Xs4 (s:Xal) (oa1:Xal) (t25:Int) (c:List Int):VM:=
 ⟨⟨14,51,[(0,.pointer (some ⟨0,0,none⟩)),(1,.pointer (some ⟨10,0,none⟩)),(5,.int .i64 0),(16,.slice (some ⟨11,0,none⟩) 7 1),(17,.int .i64 7),(18,.int .i64 0),(23,.slice (some ⟨12,0,none⟩) oa1.rows.m0 1),(24,.int .i64 (oa1.rows.m0:Int)),(25,.int .i64 t25)],[.code Xbq,.inLoop Xbq,.inBlock 2,.inBlock 1,.code XdW,.inLoop Xdw,.inBlock 0,.code XdF],[],false,none⟩,[],[(0,.cells [.int .u64 s.key.A,.int .u64 s.key.B,.slice (some ⟨1,0,none⟩) 7 1,.int .i64 s.total]),(1,.cells [.slice (some ⟨2,0,none⟩) s.rows.m0 1,.slice (some ⟨3,0,none⟩) s.rows.m1 1,.slice (some ⟨4,0,none⟩) s.rows.m2 1,.slice (some ⟨5,0,none⟩) s.rows.m3 1,.slice (some ⟨6,0,none⟩) s.rows.m4 1,.slice (some ⟨7,0,none⟩) s.rows.m5 1,.slice (some ⟨8,0,none⟩) s.rows.m6 1]),(2,.row true (vI .i64 c)),(3,.row true (vI .i64 s.rows.e1)),(4,.row true (vI .i64 s.rows.e2)),(5,.row true (vI .i64 s.rows.e3)),(6,.row true (vI .i64 s.rows.e4)),(7,.row true (vI .i64 s.rows.e5)),(8,.row true (vI .i64 s.rows.e6)),(10,.row false [.int .u64 oa1.key.A,.int .u64 oa1.key.B,.slice (some ⟨11,0,none⟩) 7 1,.int .i64 oa1.total]),(11,.row false [.slice (some ⟨12,0,none⟩) oa1.rows.m0 1,.slice (some ⟨13,0,none⟩) oa1.rows.m1 1,.slice (some ⟨14,0,none⟩) oa1.rows.m2 1,.slice (some ⟨15,0,none⟩) oa1.rows.m3 1,.slice (some ⟨16,0,none⟩) oa1.rows.m4 1,.slice (some ⟨17,0,none⟩) oa1.rows.m5 1,.slice (some ⟨18,0,none⟩) oa1.rows.m6 1]),(12,.row false (vI .i64 oa1.rows.e0)),(13,.row false (vI .i64 oa1.rows.e1)),(14,.row false (vI .i64 oa1.rows.e2)),(15,.row false (vI .i64 oa1.rows.e3)),(16,.row false (vI .i64 oa1.rows.e4)),(17,.row false (vI .i64 oa1.rows.e5)),(18,.row false (vI .i64 oa1.rows.e6))],20⟩
theorem XsV (Xac:Xaq) (hS:XaF Try.prog (XaP (XiF Xac))) {s:Xal} {oa1:Xal} {c:List Int} {c1:List Int} {c2:List Int} {c3:List Int} {c4:List Int} {c5:List Int} {res:Bool×Xal}:∀ {fuel} {st:Int×(List Int)} {o:Bool×Xal},iter (fun st=>Xci s oa1 c c1 c2 c3 c4 c5 st.1 st.2) fuel st=some o→(o=res) →
 XaU Try.prog 14 20 (XsO s oa1 c c1 c2 c3 c4 c5 st.1 st.2) (fun v H _=>Res 20 (Xjv res) v H):=by
 apply XaO
 intro st o h hc
 obtain ⟨t256,c6⟩:=st
 try dsimp -zeta only at h ⊢
 unfold Xci at h
 have J:=js [2,3,4,5,6,7,8]
 have LM:=lm XcT
 refine Xa4 XaM hS true 3000 ?_
 conv=>whnf
 exact W
theorem Xr7 (Xac:Xaq) (hS:XaF Try.prog (XaP (XiF Xac))) {s:Xal} {oa1:Xal} {c:List Int} {c1:List Int} {c2:List Int} {c3:List Int} {c4:List Int} {res:Bool×Xal}:∀ {fuel} {st:Int×(List Int)} {o:Bool×Xal},iter (fun st=>Xcy s oa1 c c1 c2 c3 c4 st.1 st.2) fuel st=some o→(o=res) →
 XaU Try.prog 14 20 (Xsl s oa1 c c1 c2 c3 c4 st.1 st.2) (fun v H _=>Res 20 (Xjv res) v H):=by
 apply XaO
 intro st o h hc
 obtain ⟨t255,c5⟩:=st
 try dsimp -zeta only at h ⊢
 unfold Xcy at h
 have J:=js [2,3,4,5,6,7,8]
 have LM:=lm XcT
 have LP:=@XsV Xac hS;have LQ:=lm XcT
 refine Xa4 XaM hS true 3000 ?_
 conv=>whnf
 exact W
theorem Xtj (Xac:Xaq) (hS:XaF Try.prog (XaP (XiF Xac))) {s:Xal} {oa1:Xal} {c:List Int} {c1:List Int} {c2:List Int} {c3:List Int} {res:Bool×Xal}:∀ {fuel} {st:Int×(List Int)} {o:Bool×Xal},iter (fun st=>XcC s oa1 c c1 c2 c3 st.1 st.2) fuel st=some o→(o=res) →
 XaU Try.prog 14 20 (Xrt s oa1 c c1 c2 c3 st.1 st.2) (fun v H _=>Res 20 (Xjv res) v H):=by
 apply XaO
 intro st o h hc
 obtain ⟨t254,c4⟩:=st
 try dsimp -zeta only at h ⊢
 unfold XcC at h
 have J:=js [2,3,4,5,6,7,8]
 have LM:=lm XcT
 have LP:=@Xr7 Xac hS;have LQ:=lm XcT
 refine Xa4 XaM hS true 3000 ?_
 conv=>whnf
 exact W
theorem XrS (Xac:Xaq) (hS:XaF Try.prog (XaP (XiF Xac))) {s:Xal} {oa1:Xal} {c:List Int} {c1:List Int} {c2:List Int} {res:Bool×Xal}:∀ {fuel} {st:Int×(List Int)} {o:Bool×Xal},iter (fun st=>Xcj s oa1 c c1 c2 st.1 st.2) fuel st=some o→(o=res) →
 XaU Try.prog 14 20 (Xss s oa1 c c1 c2 st.1 st.2) (fun v H _=>Res 20 (Xjv res) v H):=by
 apply XaO
 intro st o h hc
 obtain ⟨t253,c3⟩:=st
 try dsimp -zeta only at h ⊢
 unfold Xcj at h
 have J:=js [2,3,4,5,6,7,8]
 have LM:=lm XcT
 have LP:=@Xtj Xac hS;have LQ:=lm XcT
 refine Xa4 XaM hS true 3000 ?_
 conv=>whnf
 exact W
theorem XrA (Xac:Xaq) (hS:XaF Try.prog (XaP (XiF Xac))) {s:Xal} {oa1:Xal} {c:List Int} {c1:List Int} {res:Bool×Xal}:∀ {fuel} {st:Int×(List Int)} {o:Bool×Xal},iter (fun st=>XcB s oa1 c c1 st.1 st.2) fuel st=some o→(o=res) →
 XaU Try.prog 14 20 (Xsf s oa1 c c1 st.1 st.2) (fun v H _=>Res 20 (Xjv res) v H):=by
 apply XaO
 intro st o h hc
 obtain ⟨t252,c2⟩:=st
 try dsimp -zeta only at h ⊢
 unfold XcB at h
 have J:=js [2,3,4,5,6,7,8]
 have LM:=lm XcT
 have LP:=@XrS Xac hS;have LQ:=lm XcT
 refine Xa4 XaM hS true 3000 ?_
 conv=>whnf
 exact W
theorem Xsd (Xac:Xaq) (hS:XaF Try.prog (XaP (XiF Xac))) {s:Xal} {oa1:Xal} {c:List Int} {res:Bool×Xal}:∀ {fuel} {st:Int×(List Int)} {o:Bool×Xal},iter (fun st=>Xcl s oa1 c st.1 st.2) fuel st=some o→(o=res) →
 XaU Try.prog 14 20 (Xs9 s oa1 c st.1 st.2) (fun v H _=>Res 20 (Xjv res) v H):=by
 apply XaO
 intro st o h hc
 obtain ⟨t251,c1⟩:=st
 try dsimp -zeta only at h ⊢
 unfold Xcl at h
 have J:=js [2,3,4,5,6,7,8]
 have LM:=lm XcT
 have LP:=@XrA Xac hS;have LQ:=lm XcT
 refine Xa4 XaM hS true 3000 ?_
 conv=>whnf
 exact W
theorem XrV (Xac:Xaq) (hS:XaF Try.prog (XaP (XiF Xac))) {s:Xal} {oa1:Xal} {res:Bool×Xal}:∀ {fuel} {st:Int×(List Int)} {o:Bool×Xal},iter (fun st=>Xdj s oa1 st.1 st.2) fuel st=some o→(o=res) →
 XaU Try.prog 14 20 (Xs4 s oa1 st.1 st.2) (fun v H _=>Res 20 (Xjv res) v H):=by
 apply XaO
 intro st o h hc
 obtain ⟨t25,c⟩:=st
 try dsimp -zeta only at h ⊢
 unfold Xdj at h
 have J:=js [2,3,4,5,6,7,8]
 have LM:=lm XcT
 have LP:=@Xsd Xac hS;have LQ:=lm XcT
 refine Xa4 XaM hS true 3000 ?_
 conv=>whnf
 exact W
theorem Xvk (Xac:Xaq) (hS:XaF Try.prog (XaP (XiF Xac))) (s:Xal) (oa1:Xal) (res:Bool×Xal) (h:Xee Xac s oa1=some res) :
 XaU Try.prog 14 20 ⟨⟨14,51,[(0,.pointer (some ⟨0,0,none⟩)),(1,.pointer (some ⟨10,0,none⟩))],[.code Xls],[],false,none⟩,[],[(0,.cells [.int .u64 s.key.A,.int .u64 s.key.B,.slice (some ⟨1,0,none⟩) 7 1,.int .i64 s.total]),(1,.cells [.slice (some ⟨2,0,none⟩) s.rows.m0 1,.slice (some ⟨3,0,none⟩) s.rows.m1 1,.slice (some ⟨4,0,none⟩) s.rows.m2 1,.slice (some ⟨5,0,none⟩) s.rows.m3 1,.slice (some ⟨6,0,none⟩) s.rows.m4 1,.slice (some ⟨7,0,none⟩) s.rows.m5 1,.slice (some ⟨8,0,none⟩) s.rows.m6 1]),(2,.row true (vI .i64 s.rows.e0)),(3,.row true (vI .i64 s.rows.e1)),(4,.row true (vI .i64 s.rows.e2)),(5,.row true (vI .i64 s.rows.e3)),(6,.row true (vI .i64 s.rows.e4)),(7,.row true (vI .i64 s.rows.e5)),(8,.row true (vI .i64 s.rows.e6)),(10,.row false [.int .u64 oa1.key.A,.int .u64 oa1.key.B,.slice (some ⟨11,0,none⟩) 7 1,.int .i64 oa1.total]),(11,.row false [.slice (some ⟨12,0,none⟩) oa1.rows.m0 1,.slice (some ⟨13,0,none⟩) oa1.rows.m1 1,.slice (some ⟨14,0,none⟩) oa1.rows.m2 1,.slice (some ⟨15,0,none⟩) oa1.rows.m3 1,.slice (some ⟨16,0,none⟩) oa1.rows.m4 1,.slice (some ⟨17,0,none⟩) oa1.rows.m5 1,.slice (some ⟨18,0,none⟩) oa1.rows.m6 1]),(12,.row false (vI .i64 oa1.rows.e0)),(13,.row false (vI .i64 oa1.rows.e1)),(14,.row false (vI .i64 oa1.rows.e2)),(15,.row false (vI .i64 oa1.rows.e3)),(16,.row false (vI .i64 oa1.rows.e4)),(17,.row false (vI .i64 oa1.rows.e5)),(18,.row false (vI .i64 oa1.rows.e6))],20⟩ (fun v H _=>Res 20 (Xjv res) v H):=by
 unfold Xee at h
 have R1:=@Xxa Xac
 have J:=js [2,3,4,5,6,7,8]
 have LP:=@XrV Xac hS;have LQ:=lm XcT
 refine Xa4 XaM hS true 3000 ?_
 conv=>whnf
 exact W
def Xcp (s:Xak) (oa1:Xak) (c:List Int) (c1:List Int) (c2:List Int) (c3:List Int) (c4:List Int) (c5:List Int) (c6:List Int) (t257:Int) (c7:List Int):Option (Sum (Int×(List Int)) (Bool×Xak)):=
 cond (decide (t257<(oa1.rows.m7:Int)))
  (
  XaQ (decide ((0:Int)≤t257∧t257<(oa1.rows.m7:Int))) <|
  (oa1.rows.e7[t257.toNat]?).bind fun (e14:Int)=>
  XaQ (decide ((0:Int)≤t257∧t257<(s.rows.m7:Int))) <|
  (c7[t257.toNat]?).bind fun (e15:Int)=>
  let t7:=if (wI .i64 (e15+e14))<1099511627776 then wI .i64 (e15+e14) else 1099511627776
  XaQ (decide (t257.toNat<c7.length)) <|
  let row7:=c7.set t257.toNat t7
  some (.inl (wI .i64 (t257+1),row7)))
  (
  let t8:=if (wI .i64 (s.total+oa1.total))<1099511627776 then wI .i64 (s.total+oa1.total) else 1099511627776
  some (.inr ((true,Xak.mk s.key (XbC.mk c c1 c2 c3 c4 c5 c6 c7 s.rows.m0 s.rows.m1 s.rows.m2 s.rows.m3 s.rows.m4 s.rows.m5 s.rows.m6 s.rows.m7) t8))))
def XcA (s:Xak) (oa1:Xak) (c:List Int) (c1:List Int) (c2:List Int) (c3:List Int) (c4:List Int) (c5:List Int) (t256:Int) (c6:List Int):Option (Sum (Int×(List Int)) (Bool×Xak)):=
 cond (decide (t256<(oa1.rows.m6:Int)))
  (
  XaQ (decide ((0:Int)≤t256∧t256<(oa1.rows.m6:Int))) <|
  (oa1.rows.e6[t256.toNat]?).bind fun (e12:Int)=>
  XaQ (decide ((0:Int)≤t256∧t256<(s.rows.m6:Int))) <|
  (c6[t256.toNat]?).bind fun (e13:Int)=>
  let t6:=if (wI .i64 (e13+e12))<1099511627776 then wI .i64 (e13+e12) else 1099511627776
  XaQ (decide (t256.toNat<c6.length)) <|
  let row6:=c6.set t256.toNat t6
  some (.inl (wI .i64 (t256+1),row6)))
  (
  (iter (fun st=>Xcp s oa1 c c1 c2 c3 c4 c5 c6 st.1 st.2) FUEL (0,s.rows.e7)).bind fun o=>some (.inr (o)))
def Xcu (s:Xak) (oa1:Xak) (c:List Int) (c1:List Int) (c2:List Int) (c3:List Int) (c4:List Int) (t255:Int) (c5:List Int):Option (Sum (Int×(List Int)) (Bool×Xak)):=
 cond (decide (t255<(oa1.rows.m5:Int)))
  (
  XaQ (decide ((0:Int)≤t255∧t255<(oa1.rows.m5:Int))) <|
  (oa1.rows.e5[t255.toNat]?).bind fun (e10:Int)=>
  XaQ (decide ((0:Int)≤t255∧t255<(s.rows.m5:Int))) <|
  (c5[t255.toNat]?).bind fun (e11:Int)=>
  let t5:=if (wI .i64 (e11+e10))<1099511627776 then wI .i64 (e11+e10) else 1099511627776
  XaQ (decide (t255.toNat<c5.length)) <|
  let row5:=c5.set t255.toNat t5
  some (.inl (wI .i64 (t255+1),row5)))
  (
  (iter (fun st=>XcA s oa1 c c1 c2 c3 c4 c5 st.1 st.2) FUEL (0,s.rows.e6)).bind fun o=>some (.inr (o)))
def Xct (s:Xak) (oa1:Xak) (c:List Int) (c1:List Int) (c2:List Int) (c3:List Int) (t254:Int) (c4:List Int):Option (Sum (Int×(List Int)) (Bool×Xak)):=
 cond (decide (t254<(oa1.rows.m4:Int)))
  (
  XaQ (decide ((0:Int)≤t254∧t254<(oa1.rows.m4:Int))) <|
  (oa1.rows.e4[t254.toNat]?).bind fun (e8:Int)=>
  XaQ (decide ((0:Int)≤t254∧t254<(s.rows.m4:Int))) <|
  (c4[t254.toNat]?).bind fun (e9:Int)=>
  let t4:=if (wI .i64 (e9+e8))<1099511627776 then wI .i64 (e9+e8) else 1099511627776
  XaQ (decide (t254.toNat<c4.length)) <|
  let row4:=c4.set t254.toNat t4
  some (.inl (wI .i64 (t254+1),row4)))
  (
  (iter (fun st=>Xcu s oa1 c c1 c2 c3 c4 st.1 st.2) FUEL (0,s.rows.e5)).bind fun o=>some (.inr (o)))
def Xcq (s:Xak) (oa1:Xak) (c:List Int) (c1:List Int) (c2:List Int) (t253:Int) (c3:List Int):Option (Sum (Int×(List Int)) (Bool×Xak)):=
 cond (decide (t253<(oa1.rows.m3:Int)))
  (
  XaQ (decide ((0:Int)≤t253∧t253<(oa1.rows.m3:Int))) <|
  (oa1.rows.e3[t253.toNat]?).bind fun (e6:Int)=>
  XaQ (decide ((0:Int)≤t253∧t253<(s.rows.m3:Int))) <|
  (c3[t253.toNat]?).bind fun (e7:Int)=>
  let t3:=if (wI .i64 (e7+e6))<1099511627776 then wI .i64 (e7+e6) else 1099511627776
  XaQ (decide (t253.toNat<c3.length)) <|
  let row3:=c3.set t253.toNat t3
  some (.inl (wI .i64 (t253+1),row3)))
  (
  (iter (fun st=>Xct s oa1 c c1 c2 c3 st.1 st.2) FUEL (0,s.rows.e4)).bind fun o=>some (.inr (o)))
def Xcr (s:Xak) (oa1:Xak) (c:List Int) (c1:List Int) (t252:Int) (c2:List Int):Option (Sum (Int×(List Int)) (Bool×Xak)):=
 cond (decide (t252<(oa1.rows.m2:Int)))
  (
  XaQ (decide ((0:Int)≤t252∧t252<(oa1.rows.m2:Int))) <|
  (oa1.rows.e2[t252.toNat]?).bind fun (e4:Int)=>
  XaQ (decide ((0:Int)≤t252∧t252<(s.rows.m2:Int))) <|
  (c2[t252.toNat]?).bind fun (e5:Int)=>
  let t2:=if (wI .i64 (e5+e4))<1099511627776 then wI .i64 (e5+e4) else 1099511627776
  XaQ (decide (t252.toNat<c2.length)) <|
  let row2:=c2.set t252.toNat t2
  some (.inl (wI .i64 (t252+1),row2)))
  (
  (iter (fun st=>Xcq s oa1 c c1 c2 st.1 st.2) FUEL (0,s.rows.e3)).bind fun o=>some (.inr (o)))
def Xcn (s:Xak) (oa1:Xak) (c:List Int) (t251:Int) (c1:List Int):Option (Sum (Int×(List Int)) (Bool×Xak)):=
 cond (decide (t251<(oa1.rows.m1:Int)))
  (
  XaQ (decide ((0:Int)≤t251∧t251<(oa1.rows.m1:Int))) <|
  (oa1.rows.e1[t251.toNat]?).bind fun (e2:Int)=>
  XaQ (decide ((0:Int)≤t251∧t251<(s.rows.m1:Int))) <|
  (c1[t251.toNat]?).bind fun (e3:Int)=>
  let t1:=if (wI .i64 (e3+e2))<1099511627776 then wI .i64 (e3+e2) else 1099511627776
  XaQ (decide (t251.toNat<c1.length)) <|
  let row1:=c1.set t251.toNat t1
  some (.inl (wI .i64 (t251+1),row1)))
  (
  (iter (fun st=>Xcr s oa1 c c1 st.1 st.2) FUEL (0,s.rows.e2)).bind fun o=>some (.inr (o)))
def Xdf (s:Xak) (oa1:Xak) (t25:Int) (c:List Int):Option (Sum (Int×(List Int)) (Bool×Xak)):=
 cond (decide (t25<(oa1.rows.m0:Int)))
  (
  XaQ (decide ((0:Int)≤t25∧t25<(oa1.rows.m0:Int))) <|
  (oa1.rows.e0[t25.toNat]?).bind fun (e:Int)=>
  XaQ (decide ((0:Int)≤t25∧t25<(s.rows.m0:Int))) <|
  (c[t25.toNat]?).bind fun (e1:Int)=>
  let t:=if (wI .i64 (e1+e))<1099511627776 then wI .i64 (e1+e) else 1099511627776
  XaQ (decide (t25.toNat<c.length)) <|
  let row:=c.set t25.toNat t
  some (.inl (wI .i64 (t25+1),row)))
  (
  (iter (fun st=>Xcn s oa1 c st.1 st.2) FUEL (0,s.rows.e1)).bind fun o=>some (.inr (o)))
def Xd8 (Xac:Xaq) (s:Xak) (oa1:Xak):Option (Bool×Xak):=
 (Xac.v88 s oa1).bind fun x8=>
 cond (!x8)
  (
  some ((false,s)))
  (
  iter (fun st=>Xdf s oa1 st.1 st.2) FUEL (0,s.rows.e0))
def Xja (x:Bool×Xak):Xdu:=⟨.bool x.1,[(vI .i64 x.2.rows.e0),(vI .i64 x.2.rows.e1),(vI .i64 x.2.rows.e2),(vI .i64 x.2.rows.e3),(vI .i64 x.2.rows.e4),(vI .i64 x.2.rows.e5),(vI .i64 x.2.rows.e6),(vI .i64 x.2.rows.e7)],[some [.int .u64 x.2.key.A,.int .u64 x.2.key.B,.slice (some ⟨9,0,none⟩) 8 1,.int .i64 x.2.total],some [.slice (some ⟨0,0,none⟩) x.2.rows.m0 1,.slice (some ⟨1,0,none⟩) x.2.rows.m1 1,.slice (some ⟨2,0,none⟩) x.2.rows.m2 1,.slice (some ⟨3,0,none⟩) x.2.rows.m3 1,.slice (some ⟨4,0,none⟩) x.2.rows.m4 1,.slice (some ⟨5,0,none⟩) x.2.rows.m5 1,.slice (some ⟨6,0,none⟩) x.2.rows.m6 1,.slice (some ⟨7,0,none⟩) x.2.rows.m7 1],none,none,none,none,none,none,none,none,none,none,none,none,none,none,none,none,none,none]⟩
abbrev Xgj:=Xak→Xak→Option (Bool×Xak)
def XHX (g:Xgj):Dec:=dTr 10 (XbE 0) fun (y0:Xak)=>dTr 10 (XbE 10) fun (y1:Xak)=>XeA (ofG (g y0 y1) Xja)
abbrev Xh9 (Xac:Xaq):List (Nat×XcU):=[(42,s42 Xac)]
def XsP (s:Xak) (oa1:Xak) (c:List Int) (c1:List Int) (c2:List Int) (c3:List Int) (c4:List Int) (c5:List Int) (c6:List Int) (t257:Int) (c7:List Int):VM:=
 ⟨⟨14,51,[(0,.pointer (some ⟨0,0,none⟩)),(1,.pointer (some ⟨10,0,none⟩)),(5,.int .i64 7),(16,.slice (some ⟨11,0,none⟩) 8 1),(17,.int .i64 8),(18,.int .i64 7),(23,.slice (some ⟨19,0,none⟩) oa1.rows.m7 1),(24,.int .i64 (oa1.rows.m7:Int)),(25,.int .i64 t257)],[.code Xbq,.inLoop Xbq,.inBlock 2,.inBlock 1,.code XdW,.inLoop Xdw,.inBlock 0,.code XdF],[],false,none⟩,[],[(0,.cells [.int .u64 s.key.A,.int .u64 s.key.B,.slice (some ⟨1,0,none⟩) 8 1,.int .i64 s.total]),(1,.cells [.slice (some ⟨2,0,none⟩) s.rows.m0 1,.slice (some ⟨3,0,none⟩) s.rows.m1 1,.slice (some ⟨4,0,none⟩) s.rows.m2 1,.slice (some ⟨5,0,none⟩) s.rows.m3 1,.slice (some ⟨6,0,none⟩) s.rows.m4 1,.slice (some ⟨7,0,none⟩) s.rows.m5 1,.slice (some ⟨8,0,none⟩) s.rows.m6 1,.slice (some ⟨9,0,none⟩) s.rows.m7 1]),(2,.row true (vI .i64 c)),(3,.row true (vI .i64 c1)),(4,.row true (vI .i64 c2)),(5,.row true (vI .i64 c3)),(6,.row true (vI .i64 c4)),(7,.row true (vI .i64 c5)),(8,.row true (vI .i64 c6)),(9,.row true (vI .i64 c7)),(10,.row false [.int .u64 oa1.key.A,.int .u64 oa1.key.B,.slice (some ⟨11,0,none⟩) 8 1,.int .i64 oa1.total]),(11,.row false [.slice (some ⟨12,0,none⟩) oa1.rows.m0 1,.slice (some ⟨13,0,none⟩) oa1.rows.m1 1,.slice (some ⟨14,0,none⟩) oa1.rows.m2 1,.slice (some ⟨15,0,none⟩) oa1.rows.m3 1,.slice (some ⟨16,0,none⟩) oa1.rows.m4 1,.slice (some ⟨17,0,none⟩) oa1.rows.m5 1,.slice (some ⟨18,0,none⟩) oa1.rows.m6 1,.slice (some ⟨19,0,none⟩) oa1.rows.m7 1]),(12,.row false (vI .i64 oa1.rows.e0)),(13,.row false (vI .i64 oa1.rows.e1)),(14,.row false (vI .i64 oa1.rows.e2)),(15,.row false (vI .i64 oa1.rows.e3)),(16,.row false (vI .i64 oa1.rows.e4)),(17,.row false (vI .i64 oa1.rows.e5)),(18,.row false (vI .i64 oa1.rows.e6)),(19,.row false (vI .i64 oa1.rows.e7))],20⟩
def Xsp (s:Xak) (oa1:Xak) (c:List Int) (c1:List Int) (c2:List Int) (c3:List Int) (c4:List Int) (c5:List Int) (t256:Int) (c6:List Int):VM:=
 ⟨⟨14,51,[(0,.pointer (some ⟨0,0,none⟩)),(1,.pointer (some ⟨10,0,none⟩)),(5,.int .i64 6),(16,.slice (some ⟨11,0,none⟩) 8 1),(17,.int .i64 8),(18,.int .i64 6),(23,.slice (some ⟨18,0,none⟩) oa1.rows.m6 1),(24,.int .i64 (oa1.rows.m6:Int)),(25,.int .i64 t256)],[.code Xbq,.inLoop Xbq,.inBlock 2,.inBlock 1,.code XdW,.inLoop Xdw,.inBlock 0,.code XdF],[],false,none⟩,[],[(0,.cells [.int .u64 s.key.A,.int .u64 s.key.B,.slice (some ⟨1,0,none⟩) 8 1,.int .i64 s.total]),(1,.cells [.slice (some ⟨2,0,none⟩) s.rows.m0 1,.slice (some ⟨3,0,none⟩) s.rows.m1 1,.slice (some ⟨4,0,none⟩) s.rows.m2 1,.slice (some ⟨5,0,none⟩) s.rows.m3 1,.slice (some ⟨6,0,none⟩) s.rows.m4 1,.slice (some ⟨7,0,none⟩) s.rows.m5 1,.slice (some ⟨8,0,none⟩) s.rows.m6 1,.slice (some ⟨9,0,none⟩) s.rows.m7 1]),(2,.row true (vI .i64 c)),(3,.row true (vI .i64 c1)),(4,.row true (vI .i64 c2)),(5,.row true (vI .i64 c3)),(6,.row true (vI .i64 c4)),(7,.row true (vI .i64 c5)),(8,.row true (vI .i64 c6)),(9,.row true (vI .i64 s.rows.e7)),(10,.row false [.int .u64 oa1.key.A,.int .u64 oa1.key.B,.slice (some ⟨11,0,none⟩) 8 1,.int .i64 oa1.total]),(11,.row false [.slice (some ⟨12,0,none⟩) oa1.rows.m0 1,.slice (some ⟨13,0,none⟩) oa1.rows.m1 1,.slice (some ⟨14,0,none⟩) oa1.rows.m2 1,.slice (some ⟨15,0,none⟩) oa1.rows.m3 1,.slice (some ⟨16,0,none⟩) oa1.rows.m4 1,.slice (some ⟨17,0,none⟩) oa1.rows.m5 1,.slice (some ⟨18,0,none⟩) oa1.rows.m6 1,.slice (some ⟨19,0,none⟩) oa1.rows.m7 1]),(12,.row false (vI .i64 oa1.rows.e0)),(13,.row false (vI .i64 oa1.rows.e1)),(14,.row false (vI .i64 oa1.rows.e2)),(15,.row false (vI .i64 oa1.rows.e3)),(16,.row false (vI .i64 oa1.rows.e4)),(17,.row false (vI .i64 oa1.rows.e5)),(18,.row false (vI .i64 oa1.rows.e6)),(19,.row false (vI .i64 oa1.rows.e7))],20⟩
def Xtw (s:Xak) (oa1:Xak) (c:List Int) (c1:List Int) (c2:List Int) (c3:List Int) (c4:List Int) (t255:Int) (c5:List Int):VM:=
 ⟨⟨14,51,[(0,.pointer (some ⟨0,0,none⟩)),(1,.pointer (some ⟨10,0,none⟩)),(5,.int .i64 5),(16,.slice (some ⟨11,0,none⟩) 8 1),(17,.int .i64 8),(18,.int .i64 5),(23,.slice (some ⟨17,0,none⟩) oa1.rows.m5 1),(24,.int .i64 (oa1.rows.m5:Int)),(25,.int .i64 t255)],[.code Xbq,.inLoop Xbq,.inBlock 2,.inBlock 1,.code XdW,.inLoop Xdw,.inBlock 0,.code XdF],[],false,none⟩,[],[(0,.cells [.int .u64 s.key.A,.int .u64 s.key.B,.slice (some ⟨1,0,none⟩) 8 1,.int .i64 s.total]),(1,.cells [.slice (some ⟨2,0,none⟩) s.rows.m0 1,.slice (some ⟨3,0,none⟩) s.rows.m1 1,.slice (some ⟨4,0,none⟩) s.rows.m2 1,.slice (some ⟨5,0,none⟩) s.rows.m3 1,.slice (some ⟨6,0,none⟩) s.rows.m4 1,.slice (some ⟨7,0,none⟩) s.rows.m5 1,.slice (some ⟨8,0,none⟩) s.rows.m6 1,.slice (some ⟨9,0,none⟩) s.rows.m7 1]),(2,.row true (vI .i64 c)),(3,.row true (vI .i64 c1)),(4,.row true (vI .i64 c2)),(5,.row true (vI .i64 c3)),(6,.row true (vI .i64 c4)),(7,.row true (vI .i64 c5)),(8,.row true (vI .i64 s.rows.e6)),(9,.row true (vI .i64 s.rows.e7)),(10,.row false [.int .u64 oa1.key.A,.int .u64 oa1.key.B,.slice (some ⟨11,0,none⟩) 8 1,.int .i64 oa1.total]),(11,.row false [.slice (some ⟨12,0,none⟩) oa1.rows.m0 1,.slice (some ⟨13,0,none⟩) oa1.rows.m1 1,.slice (some ⟨14,0,none⟩) oa1.rows.m2 1,.slice (some ⟨15,0,none⟩) oa1.rows.m3 1,.slice (some ⟨16,0,none⟩) oa1.rows.m4 1,.slice (some ⟨17,0,none⟩) oa1.rows.m5 1,.slice (some ⟨18,0,none⟩) oa1.rows.m6 1,.slice (some ⟨19,0,none⟩) oa1.rows.m7 1]),(12,.row false (vI .i64 oa1.rows.e0)),(13,.row false (vI .i64 oa1.rows.e1)),(14,.row false (vI .i64 oa1.rows.e2)),(15,.row false (vI .i64 oa1.rows.e3)),(16,.row false (vI .i64 oa1.rows.e4)),(17,.row false (vI .i64 oa1.rows.e5)),(18,.row false (vI .i64 oa1.rows.e6)),(19,.row false (vI .i64 oa1.rows.e7))],20⟩
def XsU (s:Xak) (oa1:Xak) (c:List Int) (c1:List Int) (c2:List Int) (c3:List Int) (t254:Int) (c4:List Int):VM:=
 ⟨⟨14,51,[(0,.pointer (some ⟨0,0,none⟩)),(1,.pointer (some ⟨10,0,none⟩)),(5,.int .i64 4),(16,.slice (some ⟨11,0,none⟩) 8 1),(17,.int .i64 8),(18,.int .i64 4),(23,.slice (some ⟨16,0,none⟩) oa1.rows.m4 1),(24,.int .i64 (oa1.rows.m4:Int)),(25,.int .i64 t254)],[.code Xbq,.inLoop Xbq,.inBlock 2,.inBlock 1,.code XdW,.inLoop Xdw,.inBlock 0,.code XdF],[],false,none⟩,[],[(0,.cells [.int .u64 s.key.A,.int .u64 s.key.B,.slice (some ⟨1,0,none⟩) 8 1,.int .i64 s.total]),(1,.cells [.slice (some ⟨2,0,none⟩) s.rows.m0 1,.slice (some ⟨3,0,none⟩) s.rows.m1 1,.slice (some ⟨4,0,none⟩) s.rows.m2 1,.slice (some ⟨5,0,none⟩) s.rows.m3 1,.slice (some ⟨6,0,none⟩) s.rows.m4 1,.slice (some ⟨7,0,none⟩) s.rows.m5 1,.slice (some ⟨8,0,none⟩) s.rows.m6 1,.slice (some ⟨9,0,none⟩) s.rows.m7 1]),(2,.row true (vI .i64 c)),(3,.row true (vI .i64 c1)),(4,.row true (vI .i64 c2)),(5,.row true (vI .i64 c3)),(6,.row true (vI .i64 c4)),(7,.row true (vI .i64 s.rows.e5)),(8,.row true (vI .i64 s.rows.e6)),(9,.row true (vI .i64 s.rows.e7)),(10,.row false [.int .u64 oa1.key.A,.int .u64 oa1.key.B,.slice (some ⟨11,0,none⟩) 8 1,.int .i64 oa1.total]),(11,.row false [.slice (some ⟨12,0,none⟩) oa1.rows.m0 1,.slice (some ⟨13,0,none⟩) oa1.rows.m1 1,.slice (some ⟨14,0,none⟩) oa1.rows.m2 1,.slice (some ⟨15,0,none⟩) oa1.rows.m3 1,.slice (some ⟨16,0,none⟩) oa1.rows.m4 1,.slice (some ⟨17,0,none⟩) oa1.rows.m5 1,.slice (some ⟨18,0,none⟩) oa1.rows.m6 1,.slice (some ⟨19,0,none⟩) oa1.rows.m7 1]),(12,.row false (vI .i64 oa1.rows.e0)),(13,.row false (vI .i64 oa1.rows.e1)),(14,.row false (vI .i64 oa1.rows.e2)),(15,.row false (vI .i64 oa1.rows.e3)),(16,.row false (vI .i64 oa1.rows.e4)),(17,.row false (vI .i64 oa1.rows.e5)),(18,.row false (vI .i64 oa1.rows.e6)),(19,.row false (vI .i64 oa1.rows.e7))],20⟩
def XsC (s:Xak) (oa1:Xak) (c:List Int) (c1:List Int) (c2:List Int) (t253:Int) (c3:List Int):VM:=
 ⟨⟨14,51,[(0,.pointer (some ⟨0,0,none⟩)),(1,.pointer (some ⟨10,0,none⟩)),(5,.int .i64 3),(16,.slice (some ⟨11,0,none⟩) 8 1),(17,.int .i64 8),(18,.int .i64 3),(23,.slice (some ⟨15,0,none⟩) oa1.rows.m3 1),(24,.int .i64 (oa1.rows.m3:Int)),(25,.int .i64 t253)],[.code Xbq,.inLoop Xbq,.inBlock 2,.inBlock 1,.code XdW,.inLoop Xdw,.inBlock 0,.code XdF],[],false,none⟩,[],[(0,.cells [.int .u64 s.key.A,.int .u64 s.key.B,.slice (some ⟨1,0,none⟩) 8 1,.int .i64 s.total]),(1,.cells [.slice (some ⟨2,0,none⟩) s.rows.m0 1,.slice (some ⟨3,0,none⟩) s.rows.m1 1,.slice (some ⟨4,0,none⟩) s.rows.m2 1,.slice (some ⟨5,0,none⟩) s.rows.m3 1,.slice (some ⟨6,0,none⟩) s.rows.m4 1,.slice (some ⟨7,0,none⟩) s.rows.m5 1,.slice (some ⟨8,0,none⟩) s.rows.m6 1,.slice (some ⟨9,0,none⟩) s.rows.m7 1]),(2,.row true (vI .i64 c)),(3,.row true (vI .i64 c1)),(4,.row true (vI .i64 c2)),(5,.row true (vI .i64 c3)),(6,.row true (vI .i64 s.rows.e4)),(7,.row true (vI .i64 s.rows.e5)),(8,.row true (vI .i64 s.rows.e6)),(9,.row true (vI .i64 s.rows.e7)),(10,.row false [.int .u64 oa1.key.A,.int .u64 oa1.key.B,.slice (some ⟨11,0,none⟩) 8 1,.int .i64 oa1.total]),(11,.row false [.slice (some ⟨12,0,none⟩) oa1.rows.m0 1,.slice (some ⟨13,0,none⟩) oa1.rows.m1 1,.slice (some ⟨14,0,none⟩) oa1.rows.m2 1,.slice (some ⟨15,0,none⟩) oa1.rows.m3 1,.slice (some ⟨16,0,none⟩) oa1.rows.m4 1,.slice (some ⟨17,0,none⟩) oa1.rows.m5 1,.slice (some ⟨18,0,none⟩) oa1.rows.m6 1,.slice (some ⟨19,0,none⟩) oa1.rows.m7 1]),(12,.row false (vI .i64 oa1.rows.e0)),(13,.row false (vI .i64 oa1.rows.e1)),(14,.row false (vI .i64 oa1.rows.e2)),(15,.row false (vI .i64 oa1.rows.e3)),(16,.row false (vI .i64 oa1.rows.e4)),(17,.row false (vI .i64 oa1.rows.e5)),(18,.row false (vI .i64 oa1.rows.e6)),(19,.row false (vI .i64 oa1.rows.e7))],20⟩
def Xs5 (s:Xak) (oa1:Xak) (c:List Int) (c1:List Int) (t252:Int) (c2:List Int):VM:=
 ⟨⟨14,51,[(0,.pointer (some ⟨0,0,none⟩)),(1,.pointer (some ⟨10,0,none⟩)),(5,.int .i64 2),(16,.slice (some ⟨11,0,none⟩) 8 1),(17,.int .i64 8),(18,.int .i64 2),(23,.slice (some ⟨14,0,none⟩) oa1.rows.m2 1),(24,.int .i64 (oa1.rows.m2:Int)),(25,.int .i64 t252)],[.code Xbq,.inLoop Xbq,.inBlock 2,.inBlock 1,.code XdW,.inLoop Xdw,.inBlock 0,.code XdF],[],false,none⟩,[],[(0,.cells [.int .u64 s.key.A,.int .u64 s.key.B,.slice (some ⟨1,0,none⟩) 8 1,.int .i64 s.total]),(1,.cells [.slice (some ⟨2,0,none⟩) s.rows.m0 1,.slice (some ⟨3,0,none⟩) s.rows.m1 1,.slice (some ⟨4,0,none⟩) s.rows.m2 1,.slice (some ⟨5,0,none⟩) s.rows.m3 1,.slice (some ⟨6,0,none⟩) s.rows.m4 1,.slice (some ⟨7,0,none⟩) s.rows.m5 1,.slice (some ⟨8,0,none⟩) s.rows.m6 1,.slice (some ⟨9,0,none⟩) s.rows.m7 1]),(2,.row true (vI .i64 c)),(3,.row true (vI .i64 c1)),(4,.row true (vI .i64 c2)),(5,.row true (vI .i64 s.rows.e3)),(6,.row true (vI .i64 s.rows.e4)),(7,.row true (vI .i64 s.rows.e5)),(8,.row true (vI .i64 s.rows.e6)),(9,.row true (vI .i64 s.rows.e7)),(10,.row false [.int .u64 oa1.key.A,.int .u64 oa1.key.B,.slice (some ⟨11,0,none⟩) 8 1,.int .i64 oa1.total]),(11,.row false [.slice (some ⟨12,0,none⟩) oa1.rows.m0 1,.slice (some ⟨13,0,none⟩) oa1.rows.m1 1,.slice (some ⟨14,0,none⟩) oa1.rows.m2 1,.slice (some ⟨15,0,none⟩) oa1.rows.m3 1,.slice (some ⟨16,0,none⟩) oa1.rows.m4 1,.slice (some ⟨17,0,none⟩) oa1.rows.m5 1,.slice (some ⟨18,0,none⟩) oa1.rows.m6 1,.slice (some ⟨19,0,none⟩) oa1.rows.m7 1]),(12,.row false (vI .i64 oa1.rows.e0)),(13,.row false (vI .i64 oa1.rows.e1)),(14,.row false (vI .i64 oa1.rows.e2)),(15,.row false (vI .i64 oa1.rows.e3)),(16,.row false (vI .i64 oa1.rows.e4)),(17,.row false (vI .i64 oa1.rows.e5)),(18,.row false (vI .i64 oa1.rows.e6)),(19,.row false (vI .i64 oa1.rows.e7))],20⟩
def XrX (s:Xak) (oa1:Xak) (c:List Int) (t251:Int) (c1:List Int):VM:=
 ⟨⟨14,51,[(0,.pointer (some ⟨0,0,none⟩)),(1,.pointer (some ⟨10,0,none⟩)),(5,.int .i64 1),(16,.slice (some ⟨11,0,none⟩) 8 1),(17,.int .i64 8),(18,.int .i64 1),(23,.slice (some ⟨13,0,none⟩) oa1.rows.m1 1),(24,.int .i64 (oa1.rows.m1:Int)),(25,.int .i64 t251)],[.code Xbq,.inLoop Xbq,.inBlock 2,.inBlock 1,.code XdW,.inLoop Xdw,.inBlock 0,.code XdF],[],false,none⟩,[],[(0,.cells [.int .u64 s.key.A,.int .u64 s.key.B,.slice (some ⟨1,0,none⟩) 8 1,.int .i64 s.total]),(1,.cells [.slice (some ⟨2,0,none⟩) s.rows.m0 1,.slice (some ⟨3,0,none⟩) s.rows.m1 1,.slice (some ⟨4,0,none⟩) s.rows.m2 1,.slice (some ⟨5,0,none⟩) s.rows.m3 1,.slice (some ⟨6,0,none⟩) s.rows.m4 1,.slice (some ⟨7,0,none⟩) s.rows.m5 1,.slice (some ⟨8,0,none⟩) s.rows.m6 1,.slice (some ⟨9,0,none⟩) s.rows.m7 1]),(2,.row true (vI .i64 c)),(3,.row true (vI .i64 c1)),(4,.row true (vI .i64 s.rows.e2)),(5,.row true (vI .i64 s.rows.e3)),(6,.row true (vI .i64 s.rows.e4)),(7,.row true (vI .i64 s.rows.e5)),(8,.row true (vI .i64 s.rows.e6)),(9,.row true (vI .i64 s.rows.e7)),(10,.row false [.int .u64 oa1.key.A,.int .u64 oa1.key.B,.slice (some ⟨11,0,none⟩) 8 1,.int .i64 oa1.total]),(11,.row false [.slice (some ⟨12,0,none⟩) oa1.rows.m0 1,.slice (some ⟨13,0,none⟩) oa1.rows.m1 1,.slice (some ⟨14,0,none⟩) oa1.rows.m2 1,.slice (some ⟨15,0,none⟩) oa1.rows.m3 1,.slice (some ⟨16,0,none⟩) oa1.rows.m4 1,.slice (some ⟨17,0,none⟩) oa1.rows.m5 1,.slice (some ⟨18,0,none⟩) oa1.rows.m6 1,.slice (some ⟨19,0,none⟩) oa1.rows.m7 1]),(12,.row false (vI .i64 oa1.rows.e0)),(13,.row false (vI .i64 oa1.rows.e1)),(14,.row false (vI .i64 oa1.rows.e2)),(15,.row false (vI .i64 oa1.rows.e3)),(16,.row false (vI .i64 oa1.rows.e4)),(17,.row false (vI .i64 oa1.rows.e5)),(18,.row false (vI .i64 oa1.rows.e6)),(19,.row false (vI .i64 oa1.rows.e7))],20⟩
def Xtg (s:Xak) (oa1:Xak) (t25:Int) (c:List Int):VM:=
 ⟨⟨14,51,[(0,.pointer (some ⟨0,0,none⟩)),(1,.pointer (some ⟨10,0,none⟩)),(5,.int .i64 0),(16,.slice (some ⟨11,0,none⟩) 8 1),(17,.int .i64 8),(18,.int .i64 0),(23,.slice (some ⟨12,0,none⟩) oa1.rows.m0 1),(24,.int .i64 (oa1.rows.m0:Int)),(25,.int .i64 t25)],[.code Xbq,.inLoop Xbq,.inBlock 2,.inBlock 1,.code XdW,.inLoop Xdw,.inBlock 0,.code XdF],[],false,none⟩,[],[(0,.cells [.int .u64 s.key.A,.int .u64 s.key.B,.slice (some ⟨1,0,none⟩) 8 1,.int .i64 s.total]),(1,.cells [.slice (some ⟨2,0,none⟩) s.rows.m0 1,.slice (some ⟨3,0,none⟩) s.rows.m1 1,.slice (some ⟨4,0,none⟩) s.rows.m2 1,.slice (some ⟨5,0,none⟩) s.rows.m3 1,.slice (some ⟨6,0,none⟩) s.rows.m4 1,.slice (some ⟨7,0,none⟩) s.rows.m5 1,.slice (some ⟨8,0,none⟩) s.rows.m6 1,.slice (some ⟨9,0,none⟩) s.rows.m7 1]),(2,.row true (vI .i64 c)),(3,.row true (vI .i64 s.rows.e1)),(4,.row true (vI .i64 s.rows.e2)),(5,.row true (vI .i64 s.rows.e3)),(6,.row true (vI .i64 s.rows.e4)),(7,.row true (vI .i64 s.rows.e5)),(8,.row true (vI .i64 s.rows.e6)),(9,.row true (vI .i64 s.rows.e7)),(10,.row false [.int .u64 oa1.key.A,.int .u64 oa1.key.B,.slice (some ⟨11,0,none⟩) 8 1,.int .i64 oa1.total]),(11,.row false [.slice (some ⟨12,0,none⟩) oa1.rows.m0 1,.slice (some ⟨13,0,none⟩) oa1.rows.m1 1,.slice (some ⟨14,0,none⟩) oa1.rows.m2 1,.slice (some ⟨15,0,none⟩) oa1.rows.m3 1,.slice (some ⟨16,0,none⟩) oa1.rows.m4 1,.slice (some ⟨17,0,none⟩) oa1.rows.m5 1,.slice (some ⟨18,0,none⟩) oa1.rows.m6 1,.slice (some ⟨19,0,none⟩) oa1.rows.m7 1]),(12,.row false (vI .i64 oa1.rows.e0)),(13,.row false (vI .i64 oa1.rows.e1)),(14,.row false (vI .i64 oa1.rows.e2)),(15,.row false (vI .i64 oa1.rows.e3)),(16,.row false (vI .i64 oa1.rows.e4)),(17,.row false (vI .i64 oa1.rows.e5)),(18,.row false (vI .i64 oa1.rows.e6)),(19,.row false (vI .i64 oa1.rows.e7))],20⟩
theorem Xtn (Xac:Xaq) (hS:XaF Try.prog (XaP (Xh9 Xac))) {s:Xak} {oa1:Xak} {c:List Int} {c1:List Int} {c2:List Int} {c3:List Int} {c4:List Int} {c5:List Int} {c6:List Int} {res:Bool×Xak}:∀ {fuel} {st:Int×(List Int)} {o:Bool×Xak},iter (fun st=>Xcp s oa1 c c1 c2 c3 c4 c5 c6 st.1 st.2) fuel st=some o→(o=res) →
 XaU Try.prog 14 20 (XsP s oa1 c c1 c2 c3 c4 c5 c6 st.1 st.2) (fun v H _=>Res 20 (Xja res) v H):=by
 apply XaO
 intro st o h hc
 obtain ⟨t257,c7⟩:=st
 try dsimp -zeta only at h ⊢
 unfold Xcp at h
 have J:=js [2,3,4,5,6,7,8,9]
 have LM:=lm XcT
 refine Xa4 XaM hS true 3000 ?_
 conv=>whnf
 exact W
theorem XrT (Xac:Xaq) (hS:XaF Try.prog (XaP (Xh9 Xac))) {s:Xak} {oa1:Xak} {c:List Int} {c1:List Int} {c2:List Int} {c3:List Int} {c4:List Int} {c5:List Int} {res:Bool×Xak}:∀ {fuel} {st:Int×(List Int)} {o:Bool×Xak},iter (fun st=>XcA s oa1 c c1 c2 c3 c4 c5 st.1 st.2) fuel st=some o→(o=res) →
 XaU Try.prog 14 20 (Xsp s oa1 c c1 c2 c3 c4 c5 st.1 st.2) (fun v H _=>Res 20 (Xja res) v H):=by
 apply XaO
 intro st o h hc
 obtain ⟨t256,c6⟩:=st
 try dsimp -zeta only at h ⊢
 unfold XcA at h
 have J:=js [2,3,4,5,6,7,8,9]
 have LM:=lm XcT
 have LP:=@Xtn Xac hS;have LQ:=lm XcT
 refine Xa4 XaM hS true 3000 ?_
 conv=>whnf
 exact W
theorem Xtd (Xac:Xaq) (hS:XaF Try.prog (XaP (Xh9 Xac))) {s:Xak} {oa1:Xak} {c:List Int} {c1:List Int} {c2:List Int} {c3:List Int} {c4:List Int} {res:Bool×Xak}:∀ {fuel} {st:Int×(List Int)} {o:Bool×Xak},iter (fun st=>Xcu s oa1 c c1 c2 c3 c4 st.1 st.2) fuel st=some o→(o=res) →
 XaU Try.prog 14 20 (Xtw s oa1 c c1 c2 c3 c4 st.1 st.2) (fun v H _=>Res 20 (Xja res) v H):=by
 apply XaO
 intro st o h hc
 obtain ⟨t255,c5⟩:=st
 try dsimp -zeta only at h ⊢
 unfold Xcu at h
 have J:=js [2,3,4,5,6,7,8,9]
 have LM:=lm XcT
 have LP:=@XrT Xac hS;have LQ:=lm XcT
 refine Xa4 XaM hS true 3000 ?_
 conv=>whnf
 exact W
theorem Xtl (Xac:Xaq) (hS:XaF Try.prog (XaP (Xh9 Xac))) {s:Xak} {oa1:Xak} {c:List Int} {c1:List Int} {c2:List Int} {c3:List Int} {res:Bool×Xak}:∀ {fuel} {st:Int×(List Int)} {o:Bool×Xak},iter (fun st=>Xct s oa1 c c1 c2 c3 st.1 st.2) fuel st=some o→(o=res) →
 XaU Try.prog 14 20 (XsU s oa1 c c1 c2 c3 st.1 st.2) (fun v H _=>Res 20 (Xja res) v H):=by
 apply XaO
 intro st o h hc
 obtain ⟨t254,c4⟩:=st
 try dsimp -zeta only at h ⊢
 unfold Xct at h
 have J:=js [2,3,4,5,6,7,8,9]
 have LM:=lm XcT
 have LP:=@Xtd Xac hS;have LQ:=lm XcT
 refine Xa4 XaM hS true 3000 ?_
 conv=>whnf
 exact W
theorem Xsn (Xac:Xaq) (hS:XaF Try.prog (XaP (Xh9 Xac))) {s:Xak} {oa1:Xak} {c:List Int} {c1:List Int} {c2:List Int} {res:Bool×Xak}:∀ {fuel} {st:Int×(List Int)} {o:Bool×Xak},iter (fun st=>Xcq s oa1 c c1 c2 st.1 st.2) fuel st=some o→(o=res) →
 XaU Try.prog 14 20 (XsC s oa1 c c1 c2 st.1 st.2) (fun v H _=>Res 20 (Xja res) v H):=by
 apply XaO
 intro st o h hc
 obtain ⟨t253,c3⟩:=st
 try dsimp -zeta only at h ⊢
 unfold Xcq at h
 have J:=js [2,3,4,5,6,7,8,9]
 have LM:=lm XcT
 have LP:=@Xtl Xac hS;have LQ:=lm XcT
 refine Xa4 XaM hS true 3000 ?_
 conv=>whnf
 exact W
theorem Xtr (Xac:Xaq) (hS:XaF Try.prog (XaP (Xh9 Xac))) {s:Xak} {oa1:Xak} {c:List Int} {c1:List Int} {res:Bool×Xak}:∀ {fuel} {st:Int×(List Int)} {o:Bool×Xak},iter (fun st=>Xcr s oa1 c c1 st.1 st.2) fuel st=some o→(o=res) →
 XaU Try.prog 14 20 (Xs5 s oa1 c c1 st.1 st.2) (fun v H _=>Res 20 (Xja res) v H):=by
 apply XaO
 intro st o h hc
 obtain ⟨t252,c2⟩:=st
 try dsimp -zeta only at h ⊢
 unfold Xcr at h
 have J:=js [2,3,4,5,6,7,8,9]
 have LM:=lm XcT
 have LP:=@Xsn Xac hS;have LQ:=lm XcT
 refine Xa4 XaM hS true 3000 ?_
 conv=>whnf
 exact W
theorem XrJ (Xac:Xaq) (hS:XaF Try.prog (XaP (Xh9 Xac))) {s:Xak} {oa1:Xak} {c:List Int} {res:Bool×Xak}:∀ {fuel} {st:Int×(List Int)} {o:Bool×Xak},iter (fun st=>Xcn s oa1 c st.1 st.2) fuel st=some o→(o=res) →
 XaU Try.prog 14 20 (XrX s oa1 c st.1 st.2) (fun v H _=>Res 20 (Xja res) v H):=by
 apply XaO
 intro st o h hc
 obtain ⟨t251,c1⟩:=st
 try dsimp -zeta only at h ⊢
 unfold Xcn at h
 have J:=js [2,3,4,5,6,7,8,9]
 have LM:=lm XcT
 have LP:=@Xtr Xac hS;have LQ:=lm XcT
 refine Xa4 XaM hS true 3000 ?_
 conv=>whnf
 exact W
theorem XrR (Xac:Xaq) (hS:XaF Try.prog (XaP (Xh9 Xac))) {s:Xak} {oa1:Xak} {res:Bool×Xak}:∀ {fuel} {st:Int×(List Int)} {o:Bool×Xak},iter (fun st=>Xdf s oa1 st.1 st.2) fuel st=some o→(o=res) →
 XaU Try.prog 14 20 (Xtg s oa1 st.1 st.2) (fun v H _=>Res 20 (Xja res) v H):=by
 apply XaO
 intro st o h hc
 obtain ⟨t25,c⟩:=st
 try dsimp -zeta only at h ⊢
 unfold Xdf at h
 have J:=js [2,3,4,5,6,7,8,9]
 have LM:=lm XcT
 have LP:=@XrJ Xac hS;have LQ:=lm XcT
 refine Xa4 XaM hS true 3000 ?_
 conv=>whnf
 exact W
theorem Xvu (Xac:Xaq) (hS:XaF Try.prog (XaP (Xh9 Xac))) (s:Xak) (oa1:Xak) (res:Bool×Xak) (h:Xd8 Xac s oa1=some res) :
 XaU Try.prog 14 20 ⟨⟨14,51,[(0,.pointer (some ⟨0,0,none⟩)),(1,.pointer (some ⟨10,0,none⟩))],[.code Xls],[],false,none⟩,[],[(0,.cells [.int .u64 s.key.A,.int .u64 s.key.B,.slice (some ⟨1,0,none⟩) 8 1,.int .i64 s.total]),(1,.cells [.slice (some ⟨2,0,none⟩) s.rows.m0 1,.slice (some ⟨3,0,none⟩) s.rows.m1 1,.slice (some ⟨4,0,none⟩) s.rows.m2 1,.slice (some ⟨5,0,none⟩) s.rows.m3 1,.slice (some ⟨6,0,none⟩) s.rows.m4 1,.slice (some ⟨7,0,none⟩) s.rows.m5 1,.slice (some ⟨8,0,none⟩) s.rows.m6 1,.slice (some ⟨9,0,none⟩) s.rows.m7 1]),(2,.row true (vI .i64 s.rows.e0)),(3,.row true (vI .i64 s.rows.e1)),(4,.row true (vI .i64 s.rows.e2)),(5,.row true (vI .i64 s.rows.e3)),(6,.row true (vI .i64 s.rows.e4)),(7,.row true (vI .i64 s.rows.e5)),(8,.row true (vI .i64 s.rows.e6)),(9,.row true (vI .i64 s.rows.e7)),(10,.row false [.int .u64 oa1.key.A,.int .u64 oa1.key.B,.slice (some ⟨11,0,none⟩) 8 1,.int .i64 oa1.total]),(11,.row false [.slice (some ⟨12,0,none⟩) oa1.rows.m0 1,.slice (some ⟨13,0,none⟩) oa1.rows.m1 1,.slice (some ⟨14,0,none⟩) oa1.rows.m2 1,.slice (some ⟨15,0,none⟩) oa1.rows.m3 1,.slice (some ⟨16,0,none⟩) oa1.rows.m4 1,.slice (some ⟨17,0,none⟩) oa1.rows.m5 1,.slice (some ⟨18,0,none⟩) oa1.rows.m6 1,.slice (some ⟨19,0,none⟩) oa1.rows.m7 1]),(12,.row false (vI .i64 oa1.rows.e0)),(13,.row false (vI .i64 oa1.rows.e1)),(14,.row false (vI .i64 oa1.rows.e2)),(15,.row false (vI .i64 oa1.rows.e3)),(16,.row false (vI .i64 oa1.rows.e4)),(17,.row false (vI .i64 oa1.rows.e5)),(18,.row false (vI .i64 oa1.rows.e6)),(19,.row false (vI .i64 oa1.rows.e7))],20⟩ (fun v H _=>Res 20 (Xja res) v H):=by
 unfold Xd8 at h
 have R1:=@XyJ Xac
 have J:=js [2,3,4,5,6,7,8,9]
 have LP:=@XrR Xac hS;have LQ:=lm XcT
 refine Xa4 XaM hS true 3000 ?_
 conv=>whnf
 exact W
structure XaG where
 v00:Xgs
 v11:Xgl
 v22:Xgw
 v33:Xgv
 v44:Xgk
 v55:Xgn
 v66:Xgu
 v77:Xgr
 v88:Xgj
def s14 (g:XaG):XcU:=⟨[.tr [⟨none,0,0,1,none⟩,⟨some 0,2,0,1,none⟩,⟨some 1,0,0,2,none⟩,⟨some 1,1,0,2,none⟩,⟨some 1,2,0,2,none⟩,⟨some 1,3,0,2,none⟩,⟨some 1,4,0,2,none⟩,⟨some 1,5,0,2,none⟩,⟨some 1,6,0,2,none⟩,⟨some 1,7,0,2,none⟩],.tr [⟨none,0,0,0,none⟩,⟨some 0,2,0,0,none⟩,⟨some 1,0,0,0,none⟩,⟨some 1,1,0,0,none⟩,⟨some 1,2,0,0,none⟩,⟨some 1,3,0,0,none⟩,⟨some 1,4,0,0,none⟩,⟨some 1,5,0,0,none⟩,⟨some 1,6,0,0,none⟩,⟨some 1,7,0,0,none⟩]],orD (XIM g.v00) (orD (XIF g.v11) (orD (XG3 g.v22) (orD (XGT g.v33) (orD (XHz g.v44) (orD (XIS g.v55) (orD (XHR g.v66) (orD (XHH g.v77) (XHX g.v88))))))))⟩
theorem Xrf {g:XaG} {y0:XaA} {y1:XaA} {x:Bool×XaA} (hx:g.v11 y0 y1=some x):(s14 g).run [.pointer (some ⟨0,0,none⟩),.pointer (some ⟨10,0,none⟩)] [some [.int .u64 y0.key.A,.int .u64 y0.key.B,.slice (some ⟨1,0,none⟩) 1 1,.int .i64 y0.total],some [.slice (some ⟨2,0,none⟩) y0.rows.m0 1],some (vI .i64 y0.rows.e0),none,none,none,none,none,none,none,some [.int .u64 y1.key.A,.int .u64 y1.key.B,.slice (some ⟨11,0,none⟩) 1 1,.int .i64 y1.total],some [.slice (some ⟨12,0,none⟩) y1.rows.m0 1],some (vI .i64 y1.rows.e0),none,none,none,none,none,none,none]=some (Xpv x):=by dsimp only [s14];exact (XaL rfl (XdM ((Xbn rfl rfl (XcR 0 _)).trans ((Xbn rfl rfl (XcR 10 _)).trans (Xbc hx)))))
theorem XqX {g:XaG} {y0:Xax} {y1:Xax} {x:Bool×Xax} (hx:g.v22 y0 y1=some x):(s14 g).run [.pointer (some ⟨0,0,none⟩),.pointer (some ⟨10,0,none⟩)] [some [.int .u64 y0.key.A,.int .u64 y0.key.B,.slice (some ⟨1,0,none⟩) 2 1,.int .i64 y0.total],some [.slice (some ⟨2,0,none⟩) y0.rows.m0 1,.slice (some ⟨3,0,none⟩) y0.rows.m1 1],some (vI .i64 y0.rows.e0),some (vI .i64 y0.rows.e1),none,none,none,none,none,none,some [.int .u64 y1.key.A,.int .u64 y1.key.B,.slice (some ⟨11,0,none⟩) 2 1,.int .i64 y1.total],some [.slice (some ⟨12,0,none⟩) y1.rows.m0 1,.slice (some ⟨13,0,none⟩) y1.rows.m1 1],some (vI .i64 y1.rows.e0),some (vI .i64 y1.rows.e1),none,none,none,none,none,none]=some (Xoi x):=by dsimp only [s14];exact (XaL rfl (XaL rfl (XdM ((Xbn rfl rfl (XcM 0 _)).trans ((Xbn rfl rfl (XcM 10 _)).trans (Xbc hx))))))
theorem XqS {g:XaG} {y0:Xau} {y1:Xau} {x:Bool×Xau} (hx:g.v33 y0 y1=some x):(s14 g).run [.pointer (some ⟨0,0,none⟩),.pointer (some ⟨10,0,none⟩)] [some [.int .u64 y0.key.A,.int .u64 y0.key.B,.slice (some ⟨1,0,none⟩) 3 1,.int .i64 y0.total],some [.slice (some ⟨2,0,none⟩) y0.rows.m0 1,.slice (some ⟨3,0,none⟩) y0.rows.m1 1,.slice (some ⟨4,0,none⟩) y0.rows.m2 1],some (vI .i64 y0.rows.e0),some (vI .i64 y0.rows.e1),some (vI .i64 y0.rows.e2),none,none,none,none,none,some [.int .u64 y1.key.A,.int .u64 y1.key.B,.slice (some ⟨11,0,none⟩) 3 1,.int .i64 y1.total],some [.slice (some ⟨12,0,none⟩) y1.rows.m0 1,.slice (some ⟨13,0,none⟩) y1.rows.m1 1,.slice (some ⟨14,0,none⟩) y1.rows.m2 1],some (vI .i64 y1.rows.e0),some (vI .i64 y1.rows.e1),some (vI .i64 y1.rows.e2),none,none,none,none,none]=some (XmV x):=by dsimp only [s14];exact (XaL rfl (XaL rfl (XaL rfl (XdM ((Xbn rfl rfl (XcK 0 _)).trans ((Xbn rfl rfl (XcK 10 _)).trans (Xbc hx)))))))
theorem XqC {g:XaG} {y0:Xar} {y1:Xar} {x:Bool×Xar} (hx:g.v44 y0 y1=some x):(s14 g).run [.pointer (some ⟨0,0,none⟩),.pointer (some ⟨10,0,none⟩)] [some [.int .u64 y0.key.A,.int .u64 y0.key.B,.slice (some ⟨1,0,none⟩) 4 1,.int .i64 y0.total],some [.slice (some ⟨2,0,none⟩) y0.rows.m0 1,.slice (some ⟨3,0,none⟩) y0.rows.m1 1,.slice (some ⟨4,0,none⟩) y0.rows.m2 1,.slice (some ⟨5,0,none⟩) y0.rows.m3 1],some (vI .i64 y0.rows.e0),some (vI .i64 y0.rows.e1),some (vI .i64 y0.rows.e2),some (vI .i64 y0.rows.e3),none,none,none,none,some [.int .u64 y1.key.A,.int .u64 y1.key.B,.slice (some ⟨11,0,none⟩) 4 1,.int .i64 y1.total],some [.slice (some ⟨12,0,none⟩) y1.rows.m0 1,.slice (some ⟨13,0,none⟩) y1.rows.m1 1,.slice (some ⟨14,0,none⟩) y1.rows.m2 1,.slice (some ⟨15,0,none⟩) y1.rows.m3 1],some (vI .i64 y1.rows.e0),some (vI .i64 y1.rows.e1),some (vI .i64 y1.rows.e2),some (vI .i64 y1.rows.e3),none,none,none,none]=some (XlH x):=by dsimp only [s14];exact (XaL rfl (XaL rfl (XaL rfl (XaL rfl (XdM ((Xbn rfl rfl (XcN 0 _)).trans ((Xbn rfl rfl (XcN 10 _)).trans (Xbc hx))))))))
theorem Xqi {g:XaG} {y0:Xap} {y1:Xap} {x:Bool×Xap} (hx:g.v55 y0 y1=some x):(s14 g).run [.pointer (some ⟨0,0,none⟩),.pointer (some ⟨10,0,none⟩)] [some [.int .u64 y0.key.A,.int .u64 y0.key.B,.slice (some ⟨1,0,none⟩) 5 1,.int .i64 y0.total],some [.slice (some ⟨2,0,none⟩) y0.rows.m0 1,.slice (some ⟨3,0,none⟩) y0.rows.m1 1,.slice (some ⟨4,0,none⟩) y0.rows.m2 1,.slice (some ⟨5,0,none⟩) y0.rows.m3 1,.slice (some ⟨6,0,none⟩) y0.rows.m4 1],some (vI .i64 y0.rows.e0),some (vI .i64 y0.rows.e1),some (vI .i64 y0.rows.e2),some (vI .i64 y0.rows.e3),some (vI .i64 y0.rows.e4),none,none,none,some [.int .u64 y1.key.A,.int .u64 y1.key.B,.slice (some ⟨11,0,none⟩) 5 1,.int .i64 y1.total],some [.slice (some ⟨12,0,none⟩) y1.rows.m0 1,.slice (some ⟨13,0,none⟩) y1.rows.m1 1,.slice (some ⟨14,0,none⟩) y1.rows.m2 1,.slice (some ⟨15,0,none⟩) y1.rows.m3 1,.slice (some ⟨16,0,none⟩) y1.rows.m4 1],some (vI .i64 y1.rows.e0),some (vI .i64 y1.rows.e1),some (vI .i64 y1.rows.e2),some (vI .i64 y1.rows.e3),some (vI .i64 y1.rows.e4),none,none,none]=some (XkG x):=by dsimp only [s14];exact (XaL rfl (XaL rfl (XaL rfl (XaL rfl (XaL rfl (XdM ((Xbn rfl rfl (XcO 0 _)).trans ((Xbn rfl rfl (XcO 10 _)).trans (Xbc hx)))))))))
theorem Xq8 {g:XaG} {y0:Xan} {y1:Xan} {x:Bool×Xan} (hx:g.v66 y0 y1=some x):(s14 g).run [.pointer (some ⟨0,0,none⟩),.pointer (some ⟨10,0,none⟩)] [some [.int .u64 y0.key.A,.int .u64 y0.key.B,.slice (some ⟨1,0,none⟩) 6 1,.int .i64 y0.total],some [.slice (some ⟨2,0,none⟩) y0.rows.m0 1,.slice (some ⟨3,0,none⟩) y0.rows.m1 1,.slice (some ⟨4,0,none⟩) y0.rows.m2 1,.slice (some ⟨5,0,none⟩) y0.rows.m3 1,.slice (some ⟨6,0,none⟩) y0.rows.m4 1,.slice (some ⟨7,0,none⟩) y0.rows.m5 1],some (vI .i64 y0.rows.e0),some (vI .i64 y0.rows.e1),some (vI .i64 y0.rows.e2),some (vI .i64 y0.rows.e3),some (vI .i64 y0.rows.e4),some (vI .i64 y0.rows.e5),none,none,some [.int .u64 y1.key.A,.int .u64 y1.key.B,.slice (some ⟨11,0,none⟩) 6 1,.int .i64 y1.total],some [.slice (some ⟨12,0,none⟩) y1.rows.m0 1,.slice (some ⟨13,0,none⟩) y1.rows.m1 1,.slice (some ⟨14,0,none⟩) y1.rows.m2 1,.slice (some ⟨15,0,none⟩) y1.rows.m3 1,.slice (some ⟨16,0,none⟩) y1.rows.m4 1,.slice (some ⟨17,0,none⟩) y1.rows.m5 1],some (vI .i64 y1.rows.e0),some (vI .i64 y1.rows.e1),some (vI .i64 y1.rows.e2),some (vI .i64 y1.rows.e3),some (vI .i64 y1.rows.e4),some (vI .i64 y1.rows.e5),none,none]=some (Xj2 x):=by dsimp only [s14];exact (XaL rfl (XaL rfl (XaL rfl (XaL rfl (XaL rfl (XaL rfl (XdM ((Xbn rfl rfl (XcQ 0 _)).trans ((Xbn rfl rfl (XcQ 10 _)).trans (Xbc hx))))))))))
theorem XqT {g:XaG} {y0:Xal} {y1:Xal} {x:Bool×Xal} (hx:g.v77 y0 y1=some x):(s14 g).run [.pointer (some ⟨0,0,none⟩),.pointer (some ⟨10,0,none⟩)] [some [.int .u64 y0.key.A,.int .u64 y0.key.B,.slice (some ⟨1,0,none⟩) 7 1,.int .i64 y0.total],some [.slice (some ⟨2,0,none⟩) y0.rows.m0 1,.slice (some ⟨3,0,none⟩) y0.rows.m1 1,.slice (some ⟨4,0,none⟩) y0.rows.m2 1,.slice (some ⟨5,0,none⟩) y0.rows.m3 1,.slice (some ⟨6,0,none⟩) y0.rows.m4 1,.slice (some ⟨7,0,none⟩) y0.rows.m5 1,.slice (some ⟨8,0,none⟩) y0.rows.m6 1],some (vI .i64 y0.rows.e0),some (vI .i64 y0.rows.e1),some (vI .i64 y0.rows.e2),some (vI .i64 y0.rows.e3),some (vI .i64 y0.rows.e4),some (vI .i64 y0.rows.e5),some (vI .i64 y0.rows.e6),none,some [.int .u64 y1.key.A,.int .u64 y1.key.B,.slice (some ⟨11,0,none⟩) 7 1,.int .i64 y1.total],some [.slice (some ⟨12,0,none⟩) y1.rows.m0 1,.slice (some ⟨13,0,none⟩) y1.rows.m1 1,.slice (some ⟨14,0,none⟩) y1.rows.m2 1,.slice (some ⟨15,0,none⟩) y1.rows.m3 1,.slice (some ⟨16,0,none⟩) y1.rows.m4 1,.slice (some ⟨17,0,none⟩) y1.rows.m5 1,.slice (some ⟨18,0,none⟩) y1.rows.m6 1],some (vI .i64 y1.rows.e0),some (vI .i64 y1.rows.e1),some (vI .i64 y1.rows.e2),some (vI .i64 y1.rows.e3),some (vI .i64 y1.rows.e4),some (vI .i64 y1.rows.e5),some (vI .i64 y1.rows.e6),none]=some (Xjv x):=by dsimp only [s14];exact (XaL rfl (XaL rfl (XaL rfl (XaL rfl (XaL rfl (XaL rfl (XaL rfl (XdM ((Xbn rfl rfl (XcL 0 _)).trans ((Xbn rfl rfl (XcL 10 _)).trans (Xbc hx)))))))))))
theorem Xqr {g:XaG} {y0:Xak} {y1:Xak} {x:Bool×Xak} (hx:g.v88 y0 y1=some x):(s14 g).run [.pointer (some ⟨0,0,none⟩),.pointer (some ⟨10,0,none⟩)] [some [.int .u64 y0.key.A,.int .u64 y0.key.B,.slice (some ⟨1,0,none⟩) 8 1,.int .i64 y0.total],some [.slice (some ⟨2,0,none⟩) y0.rows.m0 1,.slice (some ⟨3,0,none⟩) y0.rows.m1 1,.slice (some ⟨4,0,none⟩) y0.rows.m2 1,.slice (some ⟨5,0,none⟩) y0.rows.m3 1,.slice (some ⟨6,0,none⟩) y0.rows.m4 1,.slice (some ⟨7,0,none⟩) y0.rows.m5 1,.slice (some ⟨8,0,none⟩) y0.rows.m6 1,.slice (some ⟨9,0,none⟩) y0.rows.m7 1],some (vI .i64 y0.rows.e0),some (vI .i64 y0.rows.e1),some (vI .i64 y0.rows.e2),some (vI .i64 y0.rows.e3),some (vI .i64 y0.rows.e4),some (vI .i64 y0.rows.e5),some (vI .i64 y0.rows.e6),some (vI .i64 y0.rows.e7),some [.int .u64 y1.key.A,.int .u64 y1.key.B,.slice (some ⟨11,0,none⟩) 8 1,.int .i64 y1.total],some [.slice (some ⟨12,0,none⟩) y1.rows.m0 1,.slice (some ⟨13,0,none⟩) y1.rows.m1 1,.slice (some ⟨14,0,none⟩) y1.rows.m2 1,.slice (some ⟨15,0,none⟩) y1.rows.m3 1,.slice (some ⟨16,0,none⟩) y1.rows.m4 1,.slice (some ⟨17,0,none⟩) y1.rows.m5 1,.slice (some ⟨18,0,none⟩) y1.rows.m6 1,.slice (some ⟨19,0,none⟩) y1.rows.m7 1],some (vI .i64 y1.rows.e0),some (vI .i64 y1.rows.e1),some (vI .i64 y1.rows.e2),some (vI .i64 y1.rows.e3),some (vI .i64 y1.rows.e4),some (vI .i64 y1.rows.e5),some (vI .i64 y1.rows.e6),some (vI .i64 y1.rows.e7)]=some (Xja x):=by dsimp only [s14];exact (XaL rfl (XaL rfl (XaL rfl (XaL rfl (XaL rfl (XaL rfl (XaL rfl (XaL rfl ((Xbn rfl rfl (XcP 0 _)).trans ((Xbn rfl rfl (XcP 10 _)).trans (Xbc hx)))))))))))
def Xlo:Xgs:=Xhy Xac
def Xeu:Xgl:=Xeh Xac
def Xes:Xgw:=Xei Xac
def Xew:Xgv:=Xek Xac
def Xeq:Xgk:=Xd7 Xac
def Xex:Xgn:=Xd5 Xac
def Xer:Xgu:=Xea Xac
def Xev:Xgr:=Xee Xac
def Xet:Xgj:=Xd8 Xac
def Xah:XaG:=⟨Xlo,Xeu,Xes,Xew,Xeq,Xex,Xer,Xev,Xet⟩
theorem lift14:XeG Try.prog 14 (s14 Xah):=by
 have L0:=Xvl Xac (XaF.Xba ⟨Xlu,trivial⟩)
 have L1:=XvR Xac (XaF.Xba ⟨Xlu,trivial⟩)
 have L2:=XvA Xac (XaF.Xba ⟨Xlu,trivial⟩)
 have L3:=XvT Xac (XaF.Xba ⟨Xlu,trivial⟩)
 have L4:=Xvg Xac (XaF.Xba ⟨Xlu,trivial⟩)
 have L5:=XvU Xac (XaF.Xba ⟨Xlu,trivial⟩)
 have L6:=XvS Xac (XaF.Xba ⟨Xlu,trivial⟩)
 have L7:=Xvk Xac (XaF.Xba ⟨Xlu,trivial⟩)
 have L8:=Xvu Xac (XaF.Xba ⟨Xlu,trivial⟩)
 refine XeG.Xjn XaM (fun ar os r ha hr=>?_) ⟨Try.f14,rfl,by decide,rfl⟩
 generalize hc:XiS os=C at hr
 replace hr:=orD.elim hr;rcases hr with hr|hr
 ·have LL:=L0;have U1:=@XdZ;exact okB
 replace hr:=orD.elim hr;rcases hr with hr|hr
 ·have LL:=L1;have U1:=@Xc2;exact okB
 replace hr:=orD.elim hr;rcases hr with hr|hr
 ·have LL:=L2;have U1:=@Xc6;exact okB
 replace hr:=orD.elim hr;rcases hr with hr|hr
 ·have LL:=L3;have U1:=@XcW;exact okB
 replace hr:=orD.elim hr;rcases hr with hr|hr
 ·have LL:=L4;have U1:=@Xc3;exact okB
 replace hr:=orD.elim hr;rcases hr with hr|hr
 ·have LL:=L5;have U1:=@Xc4;exact okB
 replace hr:=orD.elim hr;rcases hr with hr|hr
 ·have LL:=L6;have U1:=@Xc1;exact okB
 replace hr:=orD.elim hr;rcases hr with hr|hr
 ·have LL:=L7;have U1:=@XcX;exact okB
 have LL:=L8;have U1:=@XcY;exact okB
end Go.Vm.Code
namespace Go.Vm.Code
open Go Go.Vm
set_option maxHeartbeats 4000000
def Xdo (k k':Xat):Bool:=(k.A==k'.A)&&((k.B==k'.B)&&true)
theorem XbD {a b:List Int} (h:a.length=b.length):Xai a b=some true:=by
 unfold Xai Xe8
 simp [h]
theorem Xup {k k':Xat} {p:Nat} {x y:SkS} (hx:Xdk p x) (hy:Xdk p y):Xhp (Xjo k p x) (Xjo k' p y)=some (Xdo k k'):=by
 unfold Xhp XeS
 rw [show Xaa.v1 (Xjo k p x)=some true from rfl,show Xaa.v1 (Xjo k' p y)=some true from rfl,Option.bind_some,show (!true)=false from rfl,cond_false,Option.bind_some,show (!true)=false from rfl,cond_false]
 show cond (!(Xdo k k')) _ _=_
 cases Xdo k k' with
 | false=>rfl
 | true=>
   rw [show (!true)=false from rfl,cond_false]
   unfold Xjo;dsimp only
   rw [XaH (show p≤(x.R 0).length by rw [hx.len 0];exact Nat.le_refl _),XaH (show p≤(y.R 0).length by rw [hy.len 0];exact Nat.le_refl _),XbD (by rw [List.length_take,List.length_take,hx.len 0,hy.len 0]),Option.bind_some,show (!true)=false from rfl,cond_false]
theorem XGB {k k':Xat} {p:Nat} {x y:SkS} (hx:Xdk p x) (hy:Xdk p y) (hk:Xdo k k'=false):Xeu (Xjo k p x) (Xjo k' p y)=some (false,Xjo k p x):=by
 unfold Xeu Xeh
 rw [show Xac.v11 (Xjo k p x) (Xjo k' p y)=some (Xdo k k') from Xup hx hy,hk];rfl
theorem XDX {k:Xat} {p:Nat} (hp:p≤4096) {x y:SkS} (hx:Xdk p x) (hy:Xdk p y):Xeu (Xjo k p x) (Xjo k p y)=some (true,Xjo k p (Xdt x y)):=by
 have hk:Xdo k k=true:=by unfold Xdo;simp
 have ht:(if wI .i64 (x.tot+y.tot)<1099511627776 then wI .i64 (x.tot+y.tot) else 1099511627776)=cap (x.tot+y.tot):=by rw [XfG (by have:=hx.tot;have:=hy.tot;omega) (by have:=hx.tot;have:=hy.tot;omega)];rfl
 have h1:iter (fun st=>Xdg (Xjo k p x) (Xjo k p y) st.1 st.2) FUEL (0,x.R 0)=some (true,Xjo k p (Xdt x y)):=XcS (hx.len 0) (hy.len 0) hp (hx.rng 0) (hy.rng 0) (K:=fun c=>some (Sum.inr (true,(⟨k,⟨c,p⟩,if wI .i64 (x.tot+y.tot)<1099511627776 then wI .i64 (x.tot+y.tot) else 1099511627776⟩:XaA)))) (fun t c=>by show Xdg (Xjo k p x) (Xjo k p y) t c=_;unfold Xdg Xjo;rfl) (by show some (Sum.inr (true,_))=_;rw [ht];rfl)
 unfold Xeu Xeh
 rw [show Xac.v11 (Xjo k p x) (Xjo k p y)=some (Xdo k k) from Xup hx hy,hk];exact h1
theorem XuC {k k':Xat} {p:Nat} {x y:SkS} (hx:Xdk p x) (hy:Xdk p y):Xhz (XiQ k p x) (XiQ k' p y)=some (Xdo k k'):=by
 unfold Xhz XeR
 rw [show Xaa.v2 (XiQ k p x)=some true from rfl,show Xaa.v2 (XiQ k' p y)=some true from rfl,Option.bind_some,show (!true)=false from rfl,cond_false,Option.bind_some,show (!true)=false from rfl,cond_false]
 show cond (!(Xdo k k')) _ _=_
 cases Xdo k k' with
 | false=>rfl
 | true=>
   rw [show (!true)=false from rfl,cond_false]
   unfold XiQ;dsimp only
   rw [XaH (show p≤(x.R 0).length by rw [hx.len 0];exact Nat.le_refl _),XaH (show p≤(y.R 0).length by rw [hy.len 0];exact Nat.le_refl _),XbD (by rw [List.length_take,List.length_take,hx.len 0,hy.len 0]),Option.bind_some,show (!true)=false from rfl,cond_false]
   rw [XaH (show p≤(x.R 1).length by rw [hx.len 1];exact Nat.le_refl _),XaH (show p≤(y.R 1).length by rw [hy.len 1];exact Nat.le_refl _),XbD (by rw [List.length_take,List.length_take,hx.len 1,hy.len 1]),Option.bind_some,show (!true)=false from rfl,cond_false]
theorem XGy {k k':Xat} {p:Nat} {x y:SkS} (hx:Xdk p x) (hy:Xdk p y) (hk:Xdo k k'=false):Xes (XiQ k p x) (XiQ k' p y)=some (false,XiQ k p x):=by
 unfold Xes Xei
 rw [show Xac.v22 (XiQ k p x) (XiQ k' p y)=some (Xdo k k') from XuC hx hy,hk];rfl
theorem XDU {k:Xat} {p:Nat} (hp:p≤4096) {x y:SkS} (hx:Xdk p x) (hy:Xdk p y):Xes (XiQ k p x) (XiQ k p y)=some (true,XiQ k p (Xdt x y)):=by
 have hk:Xdo k k=true:=by unfold Xdo;simp
 have ht:(if wI .i64 (x.tot+y.tot)<1099511627776 then wI .i64 (x.tot+y.tot) else 1099511627776)=cap (x.tot+y.tot):=by rw [XfG (by have:=hx.tot;have:=hy.tot;omega) (by have:=hx.tot;have:=hy.tot;omega)];rfl
 have h1:iter (fun st=>Xcx (XiQ k p x) (XiQ k p y) (Xbf (x.R 0) (y.R 0)) st.1 st.2) FUEL (0,x.R 1)=some (true,XiQ k p (Xdt x y)):=XcS (hx.len 1) (hy.len 1) hp (hx.rng 1) (hy.rng 1) (K:=fun c=>some (Sum.inr (true,(⟨k,⟨Xbf (x.R 0) (y.R 0),c,p,p⟩,if wI .i64 (x.tot+y.tot)<1099511627776 then wI .i64 (x.tot+y.tot) else 1099511627776⟩:Xax)))) (fun t c=>by show Xcx (XiQ k p x) (XiQ k p y) (Xbf (x.R 0) (y.R 0)) t c=_;unfold Xcx XiQ;rfl) (by show some (Sum.inr (true,_))=_;rw [ht];rfl)
 have h2:iter (fun st=>Xdd (XiQ k p x) (XiQ k p y) st.1 st.2) FUEL (0,x.R 0)=some (true,XiQ k p (Xdt x y)):=XcS (hx.len 0) (hy.len 0) hp (hx.rng 0) (hy.rng 0) (K:=fun c=>(iter (fun st=>Xcx (XiQ k p x) (XiQ k p y) c st.1 st.2) FUEL (0,x.R 1)).bind fun o=>some (Sum.inr o)) (fun t c=>by show Xdd (XiQ k p x) (XiQ k p y) t c=_;unfold Xdd XiQ;rfl) (by show (iter _ FUEL (0,x.R 1)).bind _=_;rw [h1];rfl)
 unfold Xes Xei
 rw [show Xac.v22 (XiQ k p x) (XiQ k p y)=some (Xdo k k) from XuC hx hy,hk];exact h2
theorem Xux {k k':Xat} {p:Nat} {x y:SkS} (hx:Xdk p x) (hy:Xdk p y):Xhq (Xh8 k p x) (Xh8 k' p y)=some (Xdo k k'):=by
 unfold Xhq XeO
 rw [show Xaa.v3 (Xh8 k p x)=some true from rfl,show Xaa.v3 (Xh8 k' p y)=some true from rfl,Option.bind_some,show (!true)=false from rfl,cond_false,Option.bind_some,show (!true)=false from rfl,cond_false]
 show cond (!(Xdo k k')) _ _=_
 cases Xdo k k' with
 | false=>rfl
 | true=>
   rw [show (!true)=false from rfl,cond_false]
   unfold Xh8;dsimp only
   rw [XaH (show p≤(x.R 0).length by rw [hx.len 0];exact Nat.le_refl _),XaH (show p≤(y.R 0).length by rw [hy.len 0];exact Nat.le_refl _),XbD (by rw [List.length_take,List.length_take,hx.len 0,hy.len 0]),Option.bind_some,show (!true)=false from rfl,cond_false]
   rw [XaH (show p≤(x.R 1).length by rw [hx.len 1];exact Nat.le_refl _),XaH (show p≤(y.R 1).length by rw [hy.len 1];exact Nat.le_refl _),XbD (by rw [List.length_take,List.length_take,hx.len 1,hy.len 1]),Option.bind_some,show (!true)=false from rfl,cond_false]
   rw [XaH (show p≤(x.R 2).length by rw [hx.len 2];exact Nat.le_refl _),XaH (show p≤(y.R 2).length by rw [hy.len 2];exact Nat.le_refl _),XbD (by rw [List.length_take,List.length_take,hx.len 2,hy.len 2]),Option.bind_some,show (!true)=false from rfl,cond_false]
theorem XF5 {k k':Xat} {p:Nat} {x y:SkS} (hx:Xdk p x) (hy:Xdk p y) (hk:Xdo k k'=false):Xew (Xh8 k p x) (Xh8 k' p y)=some (false,Xh8 k p x):=by
 unfold Xew Xek
 rw [show Xac.v33 (Xh8 k p x) (Xh8 k' p y)=some (Xdo k k') from Xux hx hy,hk];rfl
theorem XD1 {k:Xat} {p:Nat} (hp:p≤4096) {x y:SkS} (hx:Xdk p x) (hy:Xdk p y):Xew (Xh8 k p x) (Xh8 k p y)=some (true,Xh8 k p (Xdt x y)):=by
 have hk:Xdo k k=true:=by unfold Xdo;simp
 have ht:(if wI .i64 (x.tot+y.tot)<1099511627776 then wI .i64 (x.tot+y.tot) else 1099511627776)=cap (x.tot+y.tot):=by rw [XfG (by have:=hx.tot;have:=hy.tot;omega) (by have:=hx.tot;have:=hy.tot;omega)];rfl
 have h1:iter (fun st=>Xcg (Xh8 k p x) (Xh8 k p y) (Xbf (x.R 0) (y.R 0)) (Xbf (x.R 1) (y.R 1)) st.1 st.2) FUEL (0,x.R 2)=some (true,Xh8 k p (Xdt x y)):=XcS (hx.len 2) (hy.len 2) hp (hx.rng 2) (hy.rng 2) (K:=fun c=>some (Sum.inr (true,(⟨k,⟨Xbf (x.R 0) (y.R 0),Xbf (x.R 1) (y.R 1),c,p,p,p⟩,if wI .i64 (x.tot+y.tot)<1099511627776 then wI .i64 (x.tot+y.tot) else 1099511627776⟩:Xau)))) (fun t c=>by show Xcg (Xh8 k p x) (Xh8 k p y) (Xbf (x.R 0) (y.R 0)) (Xbf (x.R 1) (y.R 1)) t c=_;unfold Xcg Xh8;rfl) (by show some (Sum.inr (true,_))=_;rw [ht];rfl)
 have h2:iter (fun st=>Xch (Xh8 k p x) (Xh8 k p y) (Xbf (x.R 0) (y.R 0)) st.1 st.2) FUEL (0,x.R 1)=some (true,Xh8 k p (Xdt x y)):=XcS (hx.len 1) (hy.len 1) hp (hx.rng 1) (hy.rng 1) (K:=fun c=>(iter (fun st=>Xcg (Xh8 k p x) (Xh8 k p y) (Xbf (x.R 0) (y.R 0)) c st.1 st.2) FUEL (0,x.R 2)).bind fun o=>some (Sum.inr o)) (fun t c=>by show Xch (Xh8 k p x) (Xh8 k p y) (Xbf (x.R 0) (y.R 0)) t c=_;unfold Xch Xh8;rfl) (by show (iter _ FUEL (0,x.R 2)).bind _=_;rw [h1];rfl)
 have h3:iter (fun st=>Xdc (Xh8 k p x) (Xh8 k p y) st.1 st.2) FUEL (0,x.R 0)=some (true,Xh8 k p (Xdt x y)):=XcS (hx.len 0) (hy.len 0) hp (hx.rng 0) (hy.rng 0) (K:=fun c=>(iter (fun st=>Xch (Xh8 k p x) (Xh8 k p y) c st.1 st.2) FUEL (0,x.R 1)).bind fun o=>some (Sum.inr o)) (fun t c=>by show Xdc (Xh8 k p x) (Xh8 k p y) t c=_;unfold Xdc Xh8;rfl) (by show (iter _ FUEL (0,x.R 1)).bind _=_;rw [h2];rfl)
 unfold Xew Xek
 rw [show Xac.v33 (Xh8 k p x) (Xh8 k p y)=some (Xdo k k) from Xux hx hy,hk];exact h3
theorem XuB {k k':Xat} {p:Nat} {x y:SkS} (hx:Xdk p x) (hy:Xdk p y):Xhs (XhF k p x) (XhF k' p y)=some (Xdo k k'):=by
 unfold Xhs Xe1
 rw [show Xaa.v4 (XhF k p x)=some true from rfl,show Xaa.v4 (XhF k' p y)=some true from rfl,Option.bind_some,show (!true)=false from rfl,cond_false,Option.bind_some,show (!true)=false from rfl,cond_false]
 show cond (!(Xdo k k')) _ _=_
 cases Xdo k k' with
 | false=>rfl
 | true=>
   rw [show (!true)=false from rfl,cond_false]
   unfold XhF;dsimp only
   rw [XaH (show p≤(x.R 0).length by rw [hx.len 0];exact Nat.le_refl _),XaH (show p≤(y.R 0).length by rw [hy.len 0];exact Nat.le_refl _),XbD (by rw [List.length_take,List.length_take,hx.len 0,hy.len 0]),Option.bind_some,show (!true)=false from rfl,cond_false]
   rw [XaH (show p≤(x.R 1).length by rw [hx.len 1];exact Nat.le_refl _),XaH (show p≤(y.R 1).length by rw [hy.len 1];exact Nat.le_refl _),XbD (by rw [List.length_take,List.length_take,hx.len 1,hy.len 1]),Option.bind_some,show (!true)=false from rfl,cond_false]
   rw [XaH (show p≤(x.R 2).length by rw [hx.len 2];exact Nat.le_refl _),XaH (show p≤(y.R 2).length by rw [hy.len 2];exact Nat.le_refl _),XbD (by rw [List.length_take,List.length_take,hx.len 2,hy.len 2]),Option.bind_some,show (!true)=false from rfl,cond_false]
   rw [XaH (show p≤(x.R 3).length by rw [hx.len 3];exact Nat.le_refl _),XaH (show p≤(y.R 3).length by rw [hy.len 3];exact Nat.le_refl _),XbD (by rw [List.length_take,List.length_take,hx.len 3,hy.len 3]),Option.bind_some,show (!true)=false from rfl,cond_false]
theorem XGh {k k':Xat} {p:Nat} {x y:SkS} (hx:Xdk p x) (hy:Xdk p y) (hk:Xdo k k'=false):Xeq (XhF k p x) (XhF k' p y)=some (false,XhF k p x):=by
 unfold Xeq Xd7
 rw [show Xac.v44 (XhF k p x) (XhF k' p y)=some (Xdo k k') from XuB hx hy,hk];rfl
theorem XDZ {k:Xat} {p:Nat} (hp:p≤4096) {x y:SkS} (hx:Xdk p x) (hy:Xdk p y):Xeq (XhF k p x) (XhF k p y)=some (true,XhF k p (Xdt x y)):=by
 have hk:Xdo k k=true:=by unfold Xdo;simp
 have ht:(if wI .i64 (x.tot+y.tot)<1099511627776 then wI .i64 (x.tot+y.tot) else 1099511627776)=cap (x.tot+y.tot):=by rw [XfG (by have:=hx.tot;have:=hy.tot;omega) (by have:=hx.tot;have:=hy.tot;omega)];rfl
 have h1:iter (fun st=>Xce (XhF k p x) (XhF k p y) (Xbf (x.R 0) (y.R 0)) (Xbf (x.R 1) (y.R 1)) (Xbf (x.R 2) (y.R 2)) st.1 st.2) FUEL (0,x.R 3)=some (true,XhF k p (Xdt x y)):=XcS (hx.len 3) (hy.len 3) hp (hx.rng 3) (hy.rng 3) (K:=fun c=>some (Sum.inr (true,(⟨k,⟨Xbf (x.R 0) (y.R 0),Xbf (x.R 1) (y.R 1),Xbf (x.R 2) (y.R 2),c,p,p,p,p⟩,if wI .i64 (x.tot+y.tot)<1099511627776 then wI .i64 (x.tot+y.tot) else 1099511627776⟩:Xar)))) (fun t c=>by show Xce (XhF k p x) (XhF k p y) (Xbf (x.R 0) (y.R 0)) (Xbf (x.R 1) (y.R 1)) (Xbf (x.R 2) (y.R 2)) t c=_;unfold Xce XhF;rfl) (by show some (Sum.inr (true,_))=_;rw [ht];rfl)
 have h2:iter (fun st=>Xcw (XhF k p x) (XhF k p y) (Xbf (x.R 0) (y.R 0)) (Xbf (x.R 1) (y.R 1)) st.1 st.2) FUEL (0,x.R 2)=some (true,XhF k p (Xdt x y)):=XcS (hx.len 2) (hy.len 2) hp (hx.rng 2) (hy.rng 2) (K:=fun c=>(iter (fun st=>Xce (XhF k p x) (XhF k p y) (Xbf (x.R 0) (y.R 0)) (Xbf (x.R 1) (y.R 1)) c st.1 st.2) FUEL (0,x.R 3)).bind fun o=>some (Sum.inr o)) (fun t c=>by show Xcw (XhF k p x) (XhF k p y) (Xbf (x.R 0) (y.R 0)) (Xbf (x.R 1) (y.R 1)) t c=_;unfold Xcw XhF;rfl) (by show (iter _ FUEL (0,x.R 3)).bind _=_;rw [h1];rfl)
 have h3:iter (fun st=>Xcf (XhF k p x) (XhF k p y) (Xbf (x.R 0) (y.R 0)) st.1 st.2) FUEL (0,x.R 1)=some (true,XhF k p (Xdt x y)):=XcS (hx.len 1) (hy.len 1) hp (hx.rng 1) (hy.rng 1) (K:=fun c=>(iter (fun st=>Xcw (XhF k p x) (XhF k p y) (Xbf (x.R 0) (y.R 0)) c st.1 st.2) FUEL (0,x.R 2)).bind fun o=>some (Sum.inr o)) (fun t c=>by show Xcf (XhF k p x) (XhF k p y) (Xbf (x.R 0) (y.R 0)) t c=_;unfold Xcf XhF;rfl) (by show (iter _ FUEL (0,x.R 2)).bind _=_;rw [h2];rfl)
 have h4:iter (fun st=>Xdh (XhF k p x) (XhF k p y) st.1 st.2) FUEL (0,x.R 0)=some (true,XhF k p (Xdt x y)):=XcS (hx.len 0) (hy.len 0) hp (hx.rng 0) (hy.rng 0) (K:=fun c=>(iter (fun st=>Xcf (XhF k p x) (XhF k p y) c st.1 st.2) FUEL (0,x.R 1)).bind fun o=>some (Sum.inr o)) (fun t c=>by show Xdh (XhF k p x) (XhF k p y) t c=_;unfold Xdh XhF;rfl) (by show (iter _ FUEL (0,x.R 1)).bind _=_;rw [h3];rfl)
 unfold Xeq Xd7
 rw [show Xac.v44 (XhF k p x) (XhF k p y)=some (Xdo k k) from XuB hx hy,hk];exact h4
theorem Xug {k k':Xat} {p:Nat} {x y:SkS} (hx:Xdk p x) (hy:Xdk p y):Xho (XgB k p x) (XgB k' p y)=some (Xdo k k'):=by
 unfold Xho XeP
 rw [show Xaa.v5 (XgB k p x)=some true from rfl,show Xaa.v5 (XgB k' p y)=some true from rfl,Option.bind_some,show (!true)=false from rfl,cond_false,Option.bind_some,show (!true)=false from rfl,cond_false]
 show cond (!(Xdo k k')) _ _=_
 cases Xdo k k' with
 | false=>rfl
 | true=>
   rw [show (!true)=false from rfl,cond_false]
   unfold XgB;dsimp only
   rw [XaH (show p≤(x.R 0).length by rw [hx.len 0];exact Nat.le_refl _),XaH (show p≤(y.R 0).length by rw [hy.len 0];exact Nat.le_refl _),XbD (by rw [List.length_take,List.length_take,hx.len 0,hy.len 0]),Option.bind_some,show (!true)=false from rfl,cond_false]
   rw [XaH (show p≤(x.R 1).length by rw [hx.len 1];exact Nat.le_refl _),XaH (show p≤(y.R 1).length by rw [hy.len 1];exact Nat.le_refl _),XbD (by rw [List.length_take,List.length_take,hx.len 1,hy.len 1]),Option.bind_some,show (!true)=false from rfl,cond_false]
   rw [XaH (show p≤(x.R 2).length by rw [hx.len 2];exact Nat.le_refl _),XaH (show p≤(y.R 2).length by rw [hy.len 2];exact Nat.le_refl _),XbD (by rw [List.length_take,List.length_take,hx.len 2,hy.len 2]),Option.bind_some,show (!true)=false from rfl,cond_false]
   rw [XaH (show p≤(x.R 3).length by rw [hx.len 3];exact Nat.le_refl _),XaH (show p≤(y.R 3).length by rw [hy.len 3];exact Nat.le_refl _),XbD (by rw [List.length_take,List.length_take,hx.len 3,hy.len 3]),Option.bind_some,show (!true)=false from rfl,cond_false]
   rw [XaH (show p≤(x.R 4).length by rw [hx.len 4];exact Nat.le_refl _),XaH (show p≤(y.R 4).length by rw [hy.len 4];exact Nat.le_refl _),XbD (by rw [List.length_take,List.length_take,hx.len 4,hy.len 4]),Option.bind_some,show (!true)=false from rfl,cond_false]
theorem XFk {k k':Xat} {p:Nat} {x y:SkS} (hx:Xdk p x) (hy:Xdk p y) (hk:Xdo k k'=false):Xex (XgB k p x) (XgB k' p y)=some (false,XgB k p x):=by
 unfold Xex Xd5
 rw [show Xac.v55 (XgB k p x) (XgB k' p y)=some (Xdo k k') from Xug hx hy,hk];rfl
theorem XGv {k:Xat} {p:Nat} (hp:p≤4096) {x y:SkS} (hx:Xdk p x) (hy:Xdk p y):Xex (XgB k p x) (XgB k p y)=some (true,XgB k p (Xdt x y)):=by
 have hk:Xdo k k=true:=by unfold Xdo;simp
 have ht:(if wI .i64 (x.tot+y.tot)<1099511627776 then wI .i64 (x.tot+y.tot) else 1099511627776)=cap (x.tot+y.tot):=by rw [XfG (by have:=hx.tot;have:=hy.tot;omega) (by have:=hx.tot;have:=hy.tot;omega)];rfl
 have h1:iter (fun st=>Xcz (XgB k p x) (XgB k p y) (Xbf (x.R 0) (y.R 0)) (Xbf (x.R 1) (y.R 1)) (Xbf (x.R 2) (y.R 2)) (Xbf (x.R 3) (y.R 3)) st.1 st.2) FUEL (0,x.R 4)=some (true,XgB k p (Xdt x y)):=XcS (hx.len 4) (hy.len 4) hp (hx.rng 4) (hy.rng 4) (K:=fun c=>some (Sum.inr (true,(⟨k,⟨Xbf (x.R 0) (y.R 0),Xbf (x.R 1) (y.R 1),Xbf (x.R 2) (y.R 2),Xbf (x.R 3) (y.R 3),c,p,p,p,p,p⟩,if wI .i64 (x.tot+y.tot)<1099511627776 then wI .i64 (x.tot+y.tot) else 1099511627776⟩:Xap)))) (fun t c=>by show Xcz (XgB k p x) (XgB k p y) (Xbf (x.R 0) (y.R 0)) (Xbf (x.R 1) (y.R 1)) (Xbf (x.R 2) (y.R 2)) (Xbf (x.R 3) (y.R 3)) t c=_;unfold Xcz XgB;rfl) (by show some (Sum.inr (true,_))=_;rw [ht];rfl)
 have h2:iter (fun st=>XcD (XgB k p x) (XgB k p y) (Xbf (x.R 0) (y.R 0)) (Xbf (x.R 1) (y.R 1)) (Xbf (x.R 2) (y.R 2)) st.1 st.2) FUEL (0,x.R 3)=some (true,XgB k p (Xdt x y)):=XcS (hx.len 3) (hy.len 3) hp (hx.rng 3) (hy.rng 3) (K:=fun c=>(iter (fun st=>Xcz (XgB k p x) (XgB k p y) (Xbf (x.R 0) (y.R 0)) (Xbf (x.R 1) (y.R 1)) (Xbf (x.R 2) (y.R 2)) c st.1 st.2) FUEL (0,x.R 4)).bind fun o=>some (Sum.inr o)) (fun t c=>by show XcD (XgB k p x) (XgB k p y) (Xbf (x.R 0) (y.R 0)) (Xbf (x.R 1) (y.R 1)) (Xbf (x.R 2) (y.R 2)) t c=_;unfold XcD XgB;rfl) (by show (iter _ FUEL (0,x.R 4)).bind _=_;rw [h1];rfl)
 have h3:iter (fun st=>Xcm (XgB k p x) (XgB k p y) (Xbf (x.R 0) (y.R 0)) (Xbf (x.R 1) (y.R 1)) st.1 st.2) FUEL (0,x.R 2)=some (true,XgB k p (Xdt x y)):=XcS (hx.len 2) (hy.len 2) hp (hx.rng 2) (hy.rng 2) (K:=fun c=>(iter (fun st=>XcD (XgB k p x) (XgB k p y) (Xbf (x.R 0) (y.R 0)) (Xbf (x.R 1) (y.R 1)) c st.1 st.2) FUEL (0,x.R 3)).bind fun o=>some (Sum.inr o)) (fun t c=>by show Xcm (XgB k p x) (XgB k p y) (Xbf (x.R 0) (y.R 0)) (Xbf (x.R 1) (y.R 1)) t c=_;unfold Xcm XgB;rfl) (by show (iter _ FUEL (0,x.R 3)).bind _=_;rw [h2];rfl)
 have h4:iter (fun st=>Xcd (XgB k p x) (XgB k p y) (Xbf (x.R 0) (y.R 0)) st.1 st.2) FUEL (0,x.R 1)=some (true,XgB k p (Xdt x y)):=XcS (hx.len 1) (hy.len 1) hp (hx.rng 1) (hy.rng 1) (K:=fun c=>(iter (fun st=>Xcm (XgB k p x) (XgB k p y) (Xbf (x.R 0) (y.R 0)) c st.1 st.2) FUEL (0,x.R 2)).bind fun o=>some (Sum.inr o)) (fun t c=>by show Xcd (XgB k p x) (XgB k p y) (Xbf (x.R 0) (y.R 0)) t c=_;unfold Xcd XgB;rfl) (by show (iter _ FUEL (0,x.R 2)).bind _=_;rw [h3];rfl)
 have h5:iter (fun st=>Xdb (XgB k p x) (XgB k p y) st.1 st.2) FUEL (0,x.R 0)=some (true,XgB k p (Xdt x y)):=XcS (hx.len 0) (hy.len 0) hp (hx.rng 0) (hy.rng 0) (K:=fun c=>(iter (fun st=>Xcd (XgB k p x) (XgB k p y) c st.1 st.2) FUEL (0,x.R 1)).bind fun o=>some (Sum.inr o)) (fun t c=>by show Xdb (XgB k p x) (XgB k p y) t c=_;unfold Xdb XgB;rfl) (by show (iter _ FUEL (0,x.R 1)).bind _=_;rw [h4];rfl)
 unfold Xex Xd5
 rw [show Xac.v55 (XgB k p x) (XgB k p y)=some (Xdo k k) from Xug hx hy,hk];exact h5
theorem XtS {k k':Xat} {p:Nat} {x y:SkS} (hx:Xdk p x) (hy:Xdk p y):Xhn (Xfl k p x) (Xfl k' p y)=some (Xdo k k'):=by
 unfold Xhn XeV
 rw [show Xaa.v6 (Xfl k p x)=some true from rfl,show Xaa.v6 (Xfl k' p y)=some true from rfl,Option.bind_some,show (!true)=false from rfl,cond_false,Option.bind_some,show (!true)=false from rfl,cond_false]
 show cond (!(Xdo k k')) _ _=_
 cases Xdo k k' with
 | false=>rfl
 | true=>
   rw [show (!true)=false from rfl,cond_false]
   unfold Xfl;dsimp only
   rw [XaH (show p≤(x.R 0).length by rw [hx.len 0];exact Nat.le_refl _),XaH (show p≤(y.R 0).length by rw [hy.len 0];exact Nat.le_refl _),XbD (by rw [List.length_take,List.length_take,hx.len 0,hy.len 0]),Option.bind_some,show (!true)=false from rfl,cond_false]
   rw [XaH (show p≤(x.R 1).length by rw [hx.len 1];exact Nat.le_refl _),XaH (show p≤(y.R 1).length by rw [hy.len 1];exact Nat.le_refl _),XbD (by rw [List.length_take,List.length_take,hx.len 1,hy.len 1]),Option.bind_some,show (!true)=false from rfl,cond_false]
   rw [XaH (show p≤(x.R 2).length by rw [hx.len 2];exact Nat.le_refl _),XaH (show p≤(y.R 2).length by rw [hy.len 2];exact Nat.le_refl _),XbD (by rw [List.length_take,List.length_take,hx.len 2,hy.len 2]),Option.bind_some,show (!true)=false from rfl,cond_false]
   rw [XaH (show p≤(x.R 3).length by rw [hx.len 3];exact Nat.le_refl _),XaH (show p≤(y.R 3).length by rw [hy.len 3];exact Nat.le_refl _),XbD (by rw [List.length_take,List.length_take,hx.len 3,hy.len 3]),Option.bind_some,show (!true)=false from rfl,cond_false]
   rw [XaH (show p≤(x.R 4).length by rw [hx.len 4];exact Nat.le_refl _),XaH (show p≤(y.R 4).length by rw [hy.len 4];exact Nat.le_refl _),XbD (by rw [List.length_take,List.length_take,hx.len 4,hy.len 4]),Option.bind_some,show (!true)=false from rfl,cond_false]
   rw [XaH (show p≤(x.R 5).length by rw [hx.len 5];exact Nat.le_refl _),XaH (show p≤(y.R 5).length by rw [hy.len 5];exact Nat.le_refl _),XbD (by rw [List.length_take,List.length_take,hx.len 5,hy.len 5]),Option.bind_some,show (!true)=false from rfl,cond_false]
theorem XFc {k k':Xat} {p:Nat} {x y:SkS} (hx:Xdk p x) (hy:Xdk p y) (hk:Xdo k k'=false):Xer (Xfl k p x) (Xfl k' p y)=some (false,Xfl k p x):=by
 unfold Xer Xea
 rw [show Xac.v66 (Xfl k p x) (Xfl k' p y)=some (Xdo k k') from XtS hx hy,hk];rfl
theorem XEW {k:Xat} {p:Nat} (hp:p≤4096) {x y:SkS} (hx:Xdk p x) (hy:Xdk p y):Xer (Xfl k p x) (Xfl k p y)=some (true,Xfl k p (Xdt x y)):=by
 have hk:Xdo k k=true:=by unfold Xdo;simp
 have ht:(if wI .i64 (x.tot+y.tot)<1099511627776 then wI .i64 (x.tot+y.tot) else 1099511627776)=cap (x.tot+y.tot):=by rw [XfG (by have:=hx.tot;have:=hy.tot;omega) (by have:=hx.tot;have:=hy.tot;omega)];rfl
 have h1:iter (fun st=>Xcv (Xfl k p x) (Xfl k p y) (Xbf (x.R 0) (y.R 0)) (Xbf (x.R 1) (y.R 1)) (Xbf (x.R 2) (y.R 2)) (Xbf (x.R 3) (y.R 3)) (Xbf (x.R 4) (y.R 4)) st.1 st.2) FUEL (0,x.R 5)=some (true,Xfl k p (Xdt x y)):=XcS (hx.len 5) (hy.len 5) hp (hx.rng 5) (hy.rng 5) (K:=fun c=>some (Sum.inr (true,(⟨k,⟨Xbf (x.R 0) (y.R 0),Xbf (x.R 1) (y.R 1),Xbf (x.R 2) (y.R 2),Xbf (x.R 3) (y.R 3),Xbf (x.R 4) (y.R 4),c,p,p,p,p,p,p⟩,if wI .i64 (x.tot+y.tot)<1099511627776 then wI .i64 (x.tot+y.tot) else 1099511627776⟩:Xan)))) (fun t c=>by show Xcv (Xfl k p x) (Xfl k p y) (Xbf (x.R 0) (y.R 0)) (Xbf (x.R 1) (y.R 1)) (Xbf (x.R 2) (y.R 2)) (Xbf (x.R 3) (y.R 3)) (Xbf (x.R 4) (y.R 4)) t c=_;unfold Xcv Xfl;rfl) (by show some (Sum.inr (true,_))=_;rw [ht];rfl)
 have h2:iter (fun st=>Xcs (Xfl k p x) (Xfl k p y) (Xbf (x.R 0) (y.R 0)) (Xbf (x.R 1) (y.R 1)) (Xbf (x.R 2) (y.R 2)) (Xbf (x.R 3) (y.R 3)) st.1 st.2) FUEL (0,x.R 4)=some (true,Xfl k p (Xdt x y)):=XcS (hx.len 4) (hy.len 4) hp (hx.rng 4) (hy.rng 4) (K:=fun c=>(iter (fun st=>Xcv (Xfl k p x) (Xfl k p y) (Xbf (x.R 0) (y.R 0)) (Xbf (x.R 1) (y.R 1)) (Xbf (x.R 2) (y.R 2)) (Xbf (x.R 3) (y.R 3)) c st.1 st.2) FUEL (0,x.R 5)).bind fun o=>some (Sum.inr o)) (fun t c=>by show Xcs (Xfl k p x) (Xfl k p y) (Xbf (x.R 0) (y.R 0)) (Xbf (x.R 1) (y.R 1)) (Xbf (x.R 2) (y.R 2)) (Xbf (x.R 3) (y.R 3)) t c=_;unfold Xcs Xfl;rfl) (by show (iter _ FUEL (0,x.R 5)).bind _=_;rw [h1];rfl)
 have h3:iter (fun st=>Xck (Xfl k p x) (Xfl k p y) (Xbf (x.R 0) (y.R 0)) (Xbf (x.R 1) (y.R 1)) (Xbf (x.R 2) (y.R 2)) st.1 st.2) FUEL (0,x.R 3)=some (true,Xfl k p (Xdt x y)):=XcS (hx.len 3) (hy.len 3) hp (hx.rng 3) (hy.rng 3) (K:=fun c=>(iter (fun st=>Xcs (Xfl k p x) (Xfl k p y) (Xbf (x.R 0) (y.R 0)) (Xbf (x.R 1) (y.R 1)) (Xbf (x.R 2) (y.R 2)) c st.1 st.2) FUEL (0,x.R 4)).bind fun o=>some (Sum.inr o)) (fun t c=>by show Xck (Xfl k p x) (Xfl k p y) (Xbf (x.R 0) (y.R 0)) (Xbf (x.R 1) (y.R 1)) (Xbf (x.R 2) (y.R 2)) t c=_;unfold Xck Xfl;rfl) (by show (iter _ FUEL (0,x.R 4)).bind _=_;rw [h2];rfl)
 have h4:iter (fun st=>Xcc (Xfl k p x) (Xfl k p y) (Xbf (x.R 0) (y.R 0)) (Xbf (x.R 1) (y.R 1)) st.1 st.2) FUEL (0,x.R 2)=some (true,Xfl k p (Xdt x y)):=XcS (hx.len 2) (hy.len 2) hp (hx.rng 2) (hy.rng 2) (K:=fun c=>(iter (fun st=>Xck (Xfl k p x) (Xfl k p y) (Xbf (x.R 0) (y.R 0)) (Xbf (x.R 1) (y.R 1)) c st.1 st.2) FUEL (0,x.R 3)).bind fun o=>some (Sum.inr o)) (fun t c=>by show Xcc (Xfl k p x) (Xfl k p y) (Xbf (x.R 0) (y.R 0)) (Xbf (x.R 1) (y.R 1)) t c=_;unfold Xcc Xfl;rfl) (by show (iter _ FUEL (0,x.R 3)).bind _=_;rw [h3];rfl)
 have h5:iter (fun st=>Xco (Xfl k p x) (Xfl k p y) (Xbf (x.R 0) (y.R 0)) st.1 st.2) FUEL (0,x.R 1)=some (true,Xfl k p (Xdt x y)):=XcS (hx.len 1) (hy.len 1) hp (hx.rng 1) (hy.rng 1) (K:=fun c=>(iter (fun st=>Xcc (Xfl k p x) (Xfl k p y) (Xbf (x.R 0) (y.R 0)) c st.1 st.2) FUEL (0,x.R 2)).bind fun o=>some (Sum.inr o)) (fun t c=>by show Xco (Xfl k p x) (Xfl k p y) (Xbf (x.R 0) (y.R 0)) t c=_;unfold Xco Xfl;rfl) (by show (iter _ FUEL (0,x.R 2)).bind _=_;rw [h4];rfl)
 have h6:iter (fun st=>Xdi (Xfl k p x) (Xfl k p y) st.1 st.2) FUEL (0,x.R 0)=some (true,Xfl k p (Xdt x y)):=XcS (hx.len 0) (hy.len 0) hp (hx.rng 0) (hy.rng 0) (K:=fun c=>(iter (fun st=>Xco (Xfl k p x) (Xfl k p y) c st.1 st.2) FUEL (0,x.R 1)).bind fun o=>some (Sum.inr o)) (fun t c=>by show Xdi (Xfl k p x) (Xfl k p y) t c=_;unfold Xdi Xfl;rfl) (by show (iter _ FUEL (0,x.R 1)).bind _=_;rw [h5];rfl)
 unfold Xer Xea
 rw [show Xac.v66 (Xfl k p x) (Xfl k p y)=some (Xdo k k) from XtS hx hy,hk];exact h6
theorem XtJ {k k':Xat} {p:Nat} {x y:SkS} (hx:Xdk p x) (hy:Xdk p y):Xhm (Xe4 k p x) (Xe4 k' p y)=some (Xdo k k'):=by
 unfold Xhm Xe2
 rw [show Xaa.v7 (Xe4 k p x)=some true from rfl,show Xaa.v7 (Xe4 k' p y)=some true from rfl,Option.bind_some,show (!true)=false from rfl,cond_false,Option.bind_some,show (!true)=false from rfl,cond_false]
 show cond (!(Xdo k k')) _ _=_
 cases Xdo k k' with
 | false=>rfl
 | true=>
   rw [show (!true)=false from rfl,cond_false]
   unfold Xe4;dsimp only
   rw [XaH (show p≤(x.R 0).length by rw [hx.len 0];exact Nat.le_refl _),XaH (show p≤(y.R 0).length by rw [hy.len 0];exact Nat.le_refl _),XbD (by rw [List.length_take,List.length_take,hx.len 0,hy.len 0]),Option.bind_some,show (!true)=false from rfl,cond_false]
   rw [XaH (show p≤(x.R 1).length by rw [hx.len 1];exact Nat.le_refl _),XaH (show p≤(y.R 1).length by rw [hy.len 1];exact Nat.le_refl _),XbD (by rw [List.length_take,List.length_take,hx.len 1,hy.len 1]),Option.bind_some,show (!true)=false from rfl,cond_false]
   rw [XaH (show p≤(x.R 2).length by rw [hx.len 2];exact Nat.le_refl _),XaH (show p≤(y.R 2).length by rw [hy.len 2];exact Nat.le_refl _),XbD (by rw [List.length_take,List.length_take,hx.len 2,hy.len 2]),Option.bind_some,show (!true)=false from rfl,cond_false]
   rw [XaH (show p≤(x.R 3).length by rw [hx.len 3];exact Nat.le_refl _),XaH (show p≤(y.R 3).length by rw [hy.len 3];exact Nat.le_refl _),XbD (by rw [List.length_take,List.length_take,hx.len 3,hy.len 3]),Option.bind_some,show (!true)=false from rfl,cond_false]
   rw [XaH (show p≤(x.R 4).length by rw [hx.len 4];exact Nat.le_refl _),XaH (show p≤(y.R 4).length by rw [hy.len 4];exact Nat.le_refl _),XbD (by rw [List.length_take,List.length_take,hx.len 4,hy.len 4]),Option.bind_some,show (!true)=false from rfl,cond_false]
   rw [XaH (show p≤(x.R 5).length by rw [hx.len 5];exact Nat.le_refl _),XaH (show p≤(y.R 5).length by rw [hy.len 5];exact Nat.le_refl _),XbD (by rw [List.length_take,List.length_take,hx.len 5,hy.len 5]),Option.bind_some,show (!true)=false from rfl,cond_false]
   rw [XaH (show p≤(x.R 6).length by rw [hx.len 6];exact Nat.le_refl _),XaH (show p≤(y.R 6).length by rw [hy.len 6];exact Nat.le_refl _),XbD (by rw [List.length_take,List.length_take,hx.len 6,hy.len 6]),Option.bind_some,show (!true)=false from rfl,cond_false]
theorem XFa {k k':Xat} {p:Nat} {x y:SkS} (hx:Xdk p x) (hy:Xdk p y) (hk:Xdo k k'=false):Xev (Xe4 k p x) (Xe4 k' p y)=some (false,Xe4 k p x):=by
 unfold Xev Xee
 rw [show Xac.v77 (Xe4 k p x) (Xe4 k' p y)=some (Xdo k k') from XtJ hx hy,hk];rfl
theorem XEq {k:Xat} {p:Nat} (hp:p≤4096) {x y:SkS} (hx:Xdk p x) (hy:Xdk p y):Xev (Xe4 k p x) (Xe4 k p y)=some (true,Xe4 k p (Xdt x y)):=by
 have hk:Xdo k k=true:=by unfold Xdo;simp
 have ht:(if wI .i64 (x.tot+y.tot)<1099511627776 then wI .i64 (x.tot+y.tot) else 1099511627776)=cap (x.tot+y.tot):=by rw [XfG (by have:=hx.tot;have:=hy.tot;omega) (by have:=hx.tot;have:=hy.tot;omega)];rfl
 have h1:iter (fun st=>Xci (Xe4 k p x) (Xe4 k p y) (Xbf (x.R 0) (y.R 0)) (Xbf (x.R 1) (y.R 1)) (Xbf (x.R 2) (y.R 2)) (Xbf (x.R 3) (y.R 3)) (Xbf (x.R 4) (y.R 4)) (Xbf (x.R 5) (y.R 5)) st.1 st.2) FUEL (0,x.R 6)=some (true,Xe4 k p (Xdt x y)):=XcS (hx.len 6) (hy.len 6) hp (hx.rng 6) (hy.rng 6) (K:=fun c=>some (Sum.inr (true,(⟨k,⟨Xbf (x.R 0) (y.R 0),Xbf (x.R 1) (y.R 1),Xbf (x.R 2) (y.R 2),Xbf (x.R 3) (y.R 3),Xbf (x.R 4) (y.R 4),Xbf (x.R 5) (y.R 5),c,p,p,p,p,p,p,p⟩,if wI .i64 (x.tot+y.tot)<1099511627776 then wI .i64 (x.tot+y.tot) else 1099511627776⟩:Xal)))) (fun t c=>by show Xci (Xe4 k p x) (Xe4 k p y) (Xbf (x.R 0) (y.R 0)) (Xbf (x.R 1) (y.R 1)) (Xbf (x.R 2) (y.R 2)) (Xbf (x.R 3) (y.R 3)) (Xbf (x.R 4) (y.R 4)) (Xbf (x.R 5) (y.R 5)) t c=_;unfold Xci Xe4;rfl) (by show some (Sum.inr (true,_))=_;rw [ht];rfl)
 have h2:iter (fun st=>Xcy (Xe4 k p x) (Xe4 k p y) (Xbf (x.R 0) (y.R 0)) (Xbf (x.R 1) (y.R 1)) (Xbf (x.R 2) (y.R 2)) (Xbf (x.R 3) (y.R 3)) (Xbf (x.R 4) (y.R 4)) st.1 st.2) FUEL (0,x.R 5)=some (true,Xe4 k p (Xdt x y)):=XcS (hx.len 5) (hy.len 5) hp (hx.rng 5) (hy.rng 5) (K:=fun c=>(iter (fun st=>Xci (Xe4 k p x) (Xe4 k p y) (Xbf (x.R 0) (y.R 0)) (Xbf (x.R 1) (y.R 1)) (Xbf (x.R 2) (y.R 2)) (Xbf (x.R 3) (y.R 3)) (Xbf (x.R 4) (y.R 4)) c st.1 st.2) FUEL (0,x.R 6)).bind fun o=>some (Sum.inr o)) (fun t c=>by show Xcy (Xe4 k p x) (Xe4 k p y) (Xbf (x.R 0) (y.R 0)) (Xbf (x.R 1) (y.R 1)) (Xbf (x.R 2) (y.R 2)) (Xbf (x.R 3) (y.R 3)) (Xbf (x.R 4) (y.R 4)) t c=_;unfold Xcy Xe4;rfl) (by show (iter _ FUEL (0,x.R 6)).bind _=_;rw [h1];rfl)
 have h3:iter (fun st=>XcC (Xe4 k p x) (Xe4 k p y) (Xbf (x.R 0) (y.R 0)) (Xbf (x.R 1) (y.R 1)) (Xbf (x.R 2) (y.R 2)) (Xbf (x.R 3) (y.R 3)) st.1 st.2) FUEL (0,x.R 4)=some (true,Xe4 k p (Xdt x y)):=XcS (hx.len 4) (hy.len 4) hp (hx.rng 4) (hy.rng 4) (K:=fun c=>(iter (fun st=>Xcy (Xe4 k p x) (Xe4 k p y) (Xbf (x.R 0) (y.R 0)) (Xbf (x.R 1) (y.R 1)) (Xbf (x.R 2) (y.R 2)) (Xbf (x.R 3) (y.R 3)) c st.1 st.2) FUEL (0,x.R 5)).bind fun o=>some (Sum.inr o)) (fun t c=>by show XcC (Xe4 k p x) (Xe4 k p y) (Xbf (x.R 0) (y.R 0)) (Xbf (x.R 1) (y.R 1)) (Xbf (x.R 2) (y.R 2)) (Xbf (x.R 3) (y.R 3)) t c=_;unfold XcC Xe4;rfl) (by show (iter _ FUEL (0,x.R 5)).bind _=_;rw [h2];rfl)
 have h4:iter (fun st=>Xcj (Xe4 k p x) (Xe4 k p y) (Xbf (x.R 0) (y.R 0)) (Xbf (x.R 1) (y.R 1)) (Xbf (x.R 2) (y.R 2)) st.1 st.2) FUEL (0,x.R 3)=some (true,Xe4 k p (Xdt x y)):=XcS (hx.len 3) (hy.len 3) hp (hx.rng 3) (hy.rng 3) (K:=fun c=>(iter (fun st=>XcC (Xe4 k p x) (Xe4 k p y) (Xbf (x.R 0) (y.R 0)) (Xbf (x.R 1) (y.R 1)) (Xbf (x.R 2) (y.R 2)) c st.1 st.2) FUEL (0,x.R 4)).bind fun o=>some (Sum.inr o)) (fun t c=>by show Xcj (Xe4 k p x) (Xe4 k p y) (Xbf (x.R 0) (y.R 0)) (Xbf (x.R 1) (y.R 1)) (Xbf (x.R 2) (y.R 2)) t c=_;unfold Xcj Xe4;rfl) (by show (iter _ FUEL (0,x.R 4)).bind _=_;rw [h3];rfl)
 have h5:iter (fun st=>XcB (Xe4 k p x) (Xe4 k p y) (Xbf (x.R 0) (y.R 0)) (Xbf (x.R 1) (y.R 1)) st.1 st.2) FUEL (0,x.R 2)=some (true,Xe4 k p (Xdt x y)):=XcS (hx.len 2) (hy.len 2) hp (hx.rng 2) (hy.rng 2) (K:=fun c=>(iter (fun st=>Xcj (Xe4 k p x) (Xe4 k p y) (Xbf (x.R 0) (y.R 0)) (Xbf (x.R 1) (y.R 1)) c st.1 st.2) FUEL (0,x.R 3)).bind fun o=>some (Sum.inr o)) (fun t c=>by show XcB (Xe4 k p x) (Xe4 k p y) (Xbf (x.R 0) (y.R 0)) (Xbf (x.R 1) (y.R 1)) t c=_;unfold XcB Xe4;rfl) (by show (iter _ FUEL (0,x.R 3)).bind _=_;rw [h4];rfl)
 have h6:iter (fun st=>Xcl (Xe4 k p x) (Xe4 k p y) (Xbf (x.R 0) (y.R 0)) st.1 st.2) FUEL (0,x.R 1)=some (true,Xe4 k p (Xdt x y)):=XcS (hx.len 1) (hy.len 1) hp (hx.rng 1) (hy.rng 1) (K:=fun c=>(iter (fun st=>XcB (Xe4 k p x) (Xe4 k p y) (Xbf (x.R 0) (y.R 0)) c st.1 st.2) FUEL (0,x.R 2)).bind fun o=>some (Sum.inr o)) (fun t c=>by show Xcl (Xe4 k p x) (Xe4 k p y) (Xbf (x.R 0) (y.R 0)) t c=_;unfold Xcl Xe4;rfl) (by show (iter _ FUEL (0,x.R 2)).bind _=_;rw [h5];rfl)
 have h7:iter (fun st=>Xdj (Xe4 k p x) (Xe4 k p y) st.1 st.2) FUEL (0,x.R 0)=some (true,Xe4 k p (Xdt x y)):=XcS (hx.len 0) (hy.len 0) hp (hx.rng 0) (hy.rng 0) (K:=fun c=>(iter (fun st=>Xcl (Xe4 k p x) (Xe4 k p y) c st.1 st.2) FUEL (0,x.R 1)).bind fun o=>some (Sum.inr o)) (fun t c=>by show Xdj (Xe4 k p x) (Xe4 k p y) t c=_;unfold Xdj Xe4;rfl) (by show (iter _ FUEL (0,x.R 1)).bind _=_;rw [h6];rfl)
 unfold Xev Xee
 rw [show Xac.v77 (Xe4 k p x) (Xe4 k p y)=some (Xdo k k) from XtJ hx hy,hk];exact h7
theorem XtM {k k':Xat} {p:Nat} {x y:SkS} (hx:Xdk p x) (hy:Xdk p y):Xhx (Xey k p x) (Xey k' p y)=some (Xdo k k'):=by
 unfold Xhx Xe3
 rw [show Xaa.v8 (Xey k p x)=some true from rfl,show Xaa.v8 (Xey k' p y)=some true from rfl,Option.bind_some,show (!true)=false from rfl,cond_false,Option.bind_some,show (!true)=false from rfl,cond_false]
 show cond (!(Xdo k k')) _ _=_
 cases Xdo k k' with
 | false=>rfl
 | true=>
   rw [show (!true)=false from rfl,cond_false]
   unfold Xey;dsimp only
   rw [XaH (show p≤(x.R 0).length by rw [hx.len 0];exact Nat.le_refl _),XaH (show p≤(y.R 0).length by rw [hy.len 0];exact Nat.le_refl _),XbD (by rw [List.length_take,List.length_take,hx.len 0,hy.len 0]),Option.bind_some,show (!true)=false from rfl,cond_false]
   rw [XaH (show p≤(x.R 1).length by rw [hx.len 1];exact Nat.le_refl _),XaH (show p≤(y.R 1).length by rw [hy.len 1];exact Nat.le_refl _),XbD (by rw [List.length_take,List.length_take,hx.len 1,hy.len 1]),Option.bind_some,show (!true)=false from rfl,cond_false]
   rw [XaH (show p≤(x.R 2).length by rw [hx.len 2];exact Nat.le_refl _),XaH (show p≤(y.R 2).length by rw [hy.len 2];exact Nat.le_refl _),XbD (by rw [List.length_take,List.length_take,hx.len 2,hy.len 2]),Option.bind_some,show (!true)=false from rfl,cond_false]
   rw [XaH (show p≤(x.R 3).length by rw [hx.len 3];exact Nat.le_refl _),XaH (show p≤(y.R 3).length by rw [hy.len 3];exact Nat.le_refl _),XbD (by rw [List.length_take,List.length_take,hx.len 3,hy.len 3]),Option.bind_some,show (!true)=false from rfl,cond_false]
   rw [XaH (show p≤(x.R 4).length by rw [hx.len 4];exact Nat.le_refl _),XaH (show p≤(y.R 4).length by rw [hy.len 4];exact Nat.le_refl _),XbD (by rw [List.length_take,List.length_take,hx.len 4,hy.len 4]),Option.bind_some,show (!true)=false from rfl,cond_false]
   rw [XaH (show p≤(x.R 5).length by rw [hx.len 5];exact Nat.le_refl _),XaH (show p≤(y.R 5).length by rw [hy.len 5];exact Nat.le_refl _),XbD (by rw [List.length_take,List.length_take,hx.len 5,hy.len 5]),Option.bind_some,show (!true)=false from rfl,cond_false]
   rw [XaH (show p≤(x.R 6).length by rw [hx.len 6];exact Nat.le_refl _),XaH (show p≤(y.R 6).length by rw [hy.len 6];exact Nat.le_refl _),XbD (by rw [List.length_take,List.length_take,hx.len 6,hy.len 6]),Option.bind_some,show (!true)=false from rfl,cond_false]
   rw [XaH (show p≤(x.R 7).length by rw [hx.len 7];exact Nat.le_refl _),XaH (show p≤(y.R 7).length by rw [hy.len 7];exact Nat.le_refl _),XbD (by rw [List.length_take,List.length_take,hx.len 7,hy.len 7]),Option.bind_some,show (!true)=false from rfl,cond_false]
theorem XFN {k k':Xat} {p:Nat} {x y:SkS} (hx:Xdk p x) (hy:Xdk p y) (hk:Xdo k k'=false):Xet (Xey k p x) (Xey k' p y)=some (false,Xey k p x):=by
 unfold Xet Xd8
 rw [show Xac.v88 (Xey k p x) (Xey k' p y)=some (Xdo k k') from XtM hx hy,hk];rfl
theorem XGs {k:Xat} {p:Nat} (hp:p≤4096) {x y:SkS} (hx:Xdk p x) (hy:Xdk p y):Xet (Xey k p x) (Xey k p y)=some (true,Xey k p (Xdt x y)):=by
 have hk:Xdo k k=true:=by unfold Xdo;simp
 have ht:(if wI .i64 (x.tot+y.tot)<1099511627776 then wI .i64 (x.tot+y.tot) else 1099511627776)=cap (x.tot+y.tot):=by rw [XfG (by have:=hx.tot;have:=hy.tot;omega) (by have:=hx.tot;have:=hy.tot;omega)];rfl
 have h1:iter (fun st=>Xcp (Xey k p x) (Xey k p y) (Xbf (x.R 0) (y.R 0)) (Xbf (x.R 1) (y.R 1)) (Xbf (x.R 2) (y.R 2)) (Xbf (x.R 3) (y.R 3)) (Xbf (x.R 4) (y.R 4)) (Xbf (x.R 5) (y.R 5)) (Xbf (x.R 6) (y.R 6)) st.1 st.2) FUEL (0,x.R 7)=some (true,Xey k p (Xdt x y)):=XcS (hx.len 7) (hy.len 7) hp (hx.rng 7) (hy.rng 7) (K:=fun c=>some (Sum.inr (true,(⟨k,⟨Xbf (x.R 0) (y.R 0),Xbf (x.R 1) (y.R 1),Xbf (x.R 2) (y.R 2),Xbf (x.R 3) (y.R 3),Xbf (x.R 4) (y.R 4),Xbf (x.R 5) (y.R 5),Xbf (x.R 6) (y.R 6),c,p,p,p,p,p,p,p,p⟩,if wI .i64 (x.tot+y.tot)<1099511627776 then wI .i64 (x.tot+y.tot) else 1099511627776⟩:Xak)))) (fun t c=>by show Xcp (Xey k p x) (Xey k p y) (Xbf (x.R 0) (y.R 0)) (Xbf (x.R 1) (y.R 1)) (Xbf (x.R 2) (y.R 2)) (Xbf (x.R 3) (y.R 3)) (Xbf (x.R 4) (y.R 4)) (Xbf (x.R 5) (y.R 5)) (Xbf (x.R 6) (y.R 6)) t c=_;unfold Xcp Xey;rfl) (by show some (Sum.inr (true,_))=_;rw [ht];rfl)
 have h2:iter (fun st=>XcA (Xey k p x) (Xey k p y) (Xbf (x.R 0) (y.R 0)) (Xbf (x.R 1) (y.R 1)) (Xbf (x.R 2) (y.R 2)) (Xbf (x.R 3) (y.R 3)) (Xbf (x.R 4) (y.R 4)) (Xbf (x.R 5) (y.R 5)) st.1 st.2) FUEL (0,x.R 6)=some (true,Xey k p (Xdt x y)):=XcS (hx.len 6) (hy.len 6) hp (hx.rng 6) (hy.rng 6) (K:=fun c=>(iter (fun st=>Xcp (Xey k p x) (Xey k p y) (Xbf (x.R 0) (y.R 0)) (Xbf (x.R 1) (y.R 1)) (Xbf (x.R 2) (y.R 2)) (Xbf (x.R 3) (y.R 3)) (Xbf (x.R 4) (y.R 4)) (Xbf (x.R 5) (y.R 5)) c st.1 st.2) FUEL (0,x.R 7)).bind fun o=>some (Sum.inr o)) (fun t c=>by show XcA (Xey k p x) (Xey k p y) (Xbf (x.R 0) (y.R 0)) (Xbf (x.R 1) (y.R 1)) (Xbf (x.R 2) (y.R 2)) (Xbf (x.R 3) (y.R 3)) (Xbf (x.R 4) (y.R 4)) (Xbf (x.R 5) (y.R 5)) t c=_;unfold XcA Xey;rfl) (by show (iter _ FUEL (0,x.R 7)).bind _=_;rw [h1];rfl)
 have h3:iter (fun st=>Xcu (Xey k p x) (Xey k p y) (Xbf (x.R 0) (y.R 0)) (Xbf (x.R 1) (y.R 1)) (Xbf (x.R 2) (y.R 2)) (Xbf (x.R 3) (y.R 3)) (Xbf (x.R 4) (y.R 4)) st.1 st.2) FUEL (0,x.R 5)=some (true,Xey k p (Xdt x y)):=XcS (hx.len 5) (hy.len 5) hp (hx.rng 5) (hy.rng 5) (K:=fun c=>(iter (fun st=>XcA (Xey k p x) (Xey k p y) (Xbf (x.R 0) (y.R 0)) (Xbf (x.R 1) (y.R 1)) (Xbf (x.R 2) (y.R 2)) (Xbf (x.R 3) (y.R 3)) (Xbf (x.R 4) (y.R 4)) c st.1 st.2) FUEL (0,x.R 6)).bind fun o=>some (Sum.inr o)) (fun t c=>by show Xcu (Xey k p x) (Xey k p y) (Xbf (x.R 0) (y.R 0)) (Xbf (x.R 1) (y.R 1)) (Xbf (x.R 2) (y.R 2)) (Xbf (x.R 3) (y.R 3)) (Xbf (x.R 4) (y.R 4)) t c=_;unfold Xcu Xey;rfl) (by show (iter _ FUEL (0,x.R 6)).bind _=_;rw [h2];rfl)
 have h4:iter (fun st=>Xct (Xey k p x) (Xey k p y) (Xbf (x.R 0) (y.R 0)) (Xbf (x.R 1) (y.R 1)) (Xbf (x.R 2) (y.R 2)) (Xbf (x.R 3) (y.R 3)) st.1 st.2) FUEL (0,x.R 4)=some (true,Xey k p (Xdt x y)):=XcS (hx.len 4) (hy.len 4) hp (hx.rng 4) (hy.rng 4) (K:=fun c=>(iter (fun st=>Xcu (Xey k p x) (Xey k p y) (Xbf (x.R 0) (y.R 0)) (Xbf (x.R 1) (y.R 1)) (Xbf (x.R 2) (y.R 2)) (Xbf (x.R 3) (y.R 3)) c st.1 st.2) FUEL (0,x.R 5)).bind fun o=>some (Sum.inr o)) (fun t c=>by show Xct (Xey k p x) (Xey k p y) (Xbf (x.R 0) (y.R 0)) (Xbf (x.R 1) (y.R 1)) (Xbf (x.R 2) (y.R 2)) (Xbf (x.R 3) (y.R 3)) t c=_;unfold Xct Xey;rfl) (by show (iter _ FUEL (0,x.R 5)).bind _=_;rw [h3];rfl)
 have h5:iter (fun st=>Xcq (Xey k p x) (Xey k p y) (Xbf (x.R 0) (y.R 0)) (Xbf (x.R 1) (y.R 1)) (Xbf (x.R 2) (y.R 2)) st.1 st.2) FUEL (0,x.R 3)=some (true,Xey k p (Xdt x y)):=XcS (hx.len 3) (hy.len 3) hp (hx.rng 3) (hy.rng 3) (K:=fun c=>(iter (fun st=>Xct (Xey k p x) (Xey k p y) (Xbf (x.R 0) (y.R 0)) (Xbf (x.R 1) (y.R 1)) (Xbf (x.R 2) (y.R 2)) c st.1 st.2) FUEL (0,x.R 4)).bind fun o=>some (Sum.inr o)) (fun t c=>by show Xcq (Xey k p x) (Xey k p y) (Xbf (x.R 0) (y.R 0)) (Xbf (x.R 1) (y.R 1)) (Xbf (x.R 2) (y.R 2)) t c=_;unfold Xcq Xey;rfl) (by show (iter _ FUEL (0,x.R 4)).bind _=_;rw [h4];rfl)
 have h6:iter (fun st=>Xcr (Xey k p x) (Xey k p y) (Xbf (x.R 0) (y.R 0)) (Xbf (x.R 1) (y.R 1)) st.1 st.2) FUEL (0,x.R 2)=some (true,Xey k p (Xdt x y)):=XcS (hx.len 2) (hy.len 2) hp (hx.rng 2) (hy.rng 2) (K:=fun c=>(iter (fun st=>Xcq (Xey k p x) (Xey k p y) (Xbf (x.R 0) (y.R 0)) (Xbf (x.R 1) (y.R 1)) c st.1 st.2) FUEL (0,x.R 3)).bind fun o=>some (Sum.inr o)) (fun t c=>by show Xcr (Xey k p x) (Xey k p y) (Xbf (x.R 0) (y.R 0)) (Xbf (x.R 1) (y.R 1)) t c=_;unfold Xcr Xey;rfl) (by show (iter _ FUEL (0,x.R 3)).bind _=_;rw [h5];rfl)
 have h7:iter (fun st=>Xcn (Xey k p x) (Xey k p y) (Xbf (x.R 0) (y.R 0)) st.1 st.2) FUEL (0,x.R 1)=some (true,Xey k p (Xdt x y)):=XcS (hx.len 1) (hy.len 1) hp (hx.rng 1) (hy.rng 1) (K:=fun c=>(iter (fun st=>Xcr (Xey k p x) (Xey k p y) (Xbf (x.R 0) (y.R 0)) c st.1 st.2) FUEL (0,x.R 2)).bind fun o=>some (Sum.inr o)) (fun t c=>by show Xcn (Xey k p x) (Xey k p y) (Xbf (x.R 0) (y.R 0)) t c=_;unfold Xcn Xey;rfl) (by show (iter _ FUEL (0,x.R 2)).bind _=_;rw [h6];rfl)
 have h8:iter (fun st=>Xdf (Xey k p x) (Xey k p y) st.1 st.2) FUEL (0,x.R 0)=some (true,Xey k p (Xdt x y)):=XcS (hx.len 0) (hy.len 0) hp (hx.rng 0) (hy.rng 0) (K:=fun c=>(iter (fun st=>Xcn (Xey k p x) (Xey k p y) c st.1 st.2) FUEL (0,x.R 1)).bind fun o=>some (Sum.inr o)) (fun t c=>by show Xdf (Xey k p x) (Xey k p y) t c=_;unfold Xdf Xey;rfl) (by show (iter _ FUEL (0,x.R 1)).bind _=_;rw [h7];rfl)
 unfold Xet Xd8
 rw [show Xac.v88 (Xey k p x) (Xey k p y)=some (Xdo k k) from XtM hx hy,hk];exact h8
end Go.Vm.Code
namespace Go.Vm.Code
open Go Go.Vm Go.Proofs
set_option maxRecDepth 100000
set_option maxHeartbeats 4000000
set_option linter.unusedVariables false
def Xk9 (hi:Int) (lo:Int) (add:Int):Option (Int×Int):=
 let t:=Xrl .u64 (wI .u64 (hi*2^1)) (lo.fdiv (2^63))
 let t1:=decide ((wI .u64 ((wI .u64 (lo*2^1))+add))<(wI .u64 (lo*2^1)))
 cond (t1)
  (
  some ((wI .u64 (t+1),wI .u64 ((wI .u64 (lo*2^1))+add))))
  (
  some ((t,wI .u64 ((wI .u64 (lo*2^1))+add))))
def rx69 (x:Int×Int):Xdu:=⟨.tuple ⟨[.int .u64 x.1,.int .u64 x.2]⟩,[],[]⟩
abbrev XeE:=Int→Int→Int→Option (Int×Int)
def r69 (g:XeE):Dec:=dV (asI .u64) fun (y0:Int)=>dV (asI .u64) fun (y1:Int)=>dV (asI .u64) fun (y2:Int)=>XeA (ofG (g y0 y1 y2) rx69)
theorem r69_c {g:XeE} {y0:Int} {y1:Int} {y2:Int} {x:Int×Int} (hx:g y0 y1 y2=some x):r69 g [.int .u64 y0,.int .u64 y1,.int .u64 y2] []=some (rx69 x):=(Xbz (Xd1 _)).trans ((Xbz (Xd1 _)).trans ((Xbz (Xd1 _)).trans (Xbc hx)))
def s69 (g:XeE):XcU:=⟨[.v,.v,.v],r69 g⟩
theorem XJn {g:XeE} {y0:Int} {y1:Int} {y2:Int} {x:Int×Int} (hx:g y0 y1 y2=some x):(s69 g).run [.int .u64 y0,.int .u64 y1,.int .u64 y2] []=some (rx69 x):=r69_c hx
abbrev XId:List (Nat×XcU):=[]
theorem XGk (hS:XaF Try.prog (XaP (XId))) (hi:Int) (lo:Int) (add:Int) (res:Int×Int) (h:Xk9 hi lo add=some res) :
 XaU Try.prog 69 0 ⟨⟨69,28,[(0,.int .u64 hi),(1,.int .u64 lo),(2,.int .u64 add)],[.code XC0],[],false,none⟩,[],[],0⟩ (fun v H _=>Res 0 (rx69 res) v H):=by
 unfold Xk9 at h
 refine Xa4 XaM hS true 3000 ?_
 conv=>whnf
 exact W
def XcZ:XeE:=Xk9
theorem XIy:XeG Try.prog 69 (s69 XcZ):=by
 have hL:=XGk (XaF.Xba trivial)
 exact okA ⟨Try.f69,rfl,by decide,rfl⟩
def Xh4 (XcZ:XeE) (a:Int) (b:Int) (hi:Int) (lo:Int) (i:Int):Option (Sum (Int×Int×Int) (Int×Int)):=
 cond (decide (i≥0))
  (
  XaQ (decide (0≤i)) <|
  let t:=Xv7 .u64 (a.fdiv (2^(min i.toNat 64))) 1
  cond (t==1)
   (
   (XcZ hi lo b).bind fun t1=>
   some (.inl (t1.1,t1.2,wI .i64 (i - 1))))
   (
   (XcZ hi lo 0).bind fun t2=>
   some (.inl (t2.1,t2.2,wI .i64 (i - 1)))))
  (
  some (.inr ((hi,lo))))
def Xny (XcZ:XeE) (a:Int) (b:Int):Option (Int×Int):=
 iter (fun st=>Xh4 XcZ a b st.1 st.2.1 st.2.2) FUEL (0,0,63)
def XGE (x:Int×Int):Xdu:=⟨.tuple ⟨[.int .u64 x.1,.int .u64 x.2]⟩,[],[]⟩
abbrev Xh2:=Int→Int→Option (Int×Int)
def r56 (g:Xh2):Dec:=dV (asI .u64) fun (y0:Int)=>dV (asI .u64) fun (y1:Int)=>XeA (ofG (g y0 y1) XGE)
theorem r56_c {g:Xh2} {y0:Int} {y1:Int} {x:Int×Int} (hx:g y0 y1=some x):r56 g [.int .u64 y0,.int .u64 y1] []=some (XGE x):=(Xbz (Xd1 _)).trans ((Xbz (Xd1 _)).trans (Xbc hx))
def s56 (g:Xh2):XcU:=⟨[.v,.v],r56 g⟩
theorem XIp {g:Xh2} {y0:Int} {y1:Int} {x:Int×Int} (hx:g y0 y1=some x):(s56 g).run [.int .u64 y0,.int .u64 y1] []=some (XGE x):=r56_c hx
abbrev XDK (XcZ:XeE):List (Nat×XcU):=[(69,s69 XcZ)]
def Xuh (a:Int) (b:Int) (hi:Int) (lo:Int) (i:Int):VM:=
 ⟨⟨56,29,[(0,.int .u64 a),(1,.int .u64 b),(6,.int .u64 hi),(7,.int .u64 lo),(8,.int .i64 i)],[.code XxF,.inLoop XxF,.inBlock 0,.code XCV],[],false,none⟩,[],[],0⟩
theorem XAv (XcZ:XeE) (hS:XaF Try.prog (XaP (XDK XcZ))) {a:Int} {b:Int} {res:Int×Int}:∀ {fuel} {st:Int×Int×Int} {o:Int×Int},iter (fun st=>Xh4 XcZ a b st.1 st.2.1 st.2.2) fuel st=some o→(o=res) →
 XaU Try.prog 56 0 (Xuh a b st.1 st.2.1 st.2.2) (fun v H _=>Res 0 (XGE res) v H):=by
 apply XaO
 intro st o h hc
 obtain ⟨hi,lo,i⟩:=st
 replace h:Xh4 XcZ a b hi lo i=some o:=h
 show XaU Try.prog 56 0 (Xuh a b hi lo i) (fun v H _=>Res 0 (XGE res) v H)
 unfold Xh4 at h
 have R1:=@XJn XcZ
 have LM:=lm []
 refine Xa4 XaM hS true 3000 ?_
 conv=>whnf
 exact W
theorem XFG (XcZ:XeE) (hS:XaF Try.prog (XaP (XDK XcZ))) (a:Int) (b:Int) (res:Int×Int) (h:Xny XcZ a b=some res) :
 XaU Try.prog 56 0 ⟨⟨56,29,[(0,.int .u64 a),(1,.int .u64 b)],[.code XDb],[],false,none⟩,[],[],0⟩ (fun v H _=>Res 0 (XGE res) v H):=by
 unfold Xny at h
 have LP:=@XAv XcZ hS;have LQ:=lm []
 refine Xa4 XaM hS true 3000 ?_
 conv=>whnf
 exact W
def Xiq:Xh2:=Xny XcZ
theorem XHw:XeG Try.prog 56 (s56 Xiq):=by
 have hL:=XFG XcZ (XaF.Xba ⟨XIy,trivial⟩)
 exact okA ⟨Try.f56,rfl,by decide,rfl⟩
def Xlf (Xiq:Xh2) (x:Int) (n:Int):Option Int:=
 cond (decide (n<1))
  (
  some (0))
  (
  cond (decide (n>2147483648))
   (
   some (0))
   (
   (Xiq x (wI .u64 n)).bind fun m=>
   some (wI .i64 m.1)))
def rx43 (x:Int):Xdu:=⟨.int .i64 x,[],[]⟩
abbrev Xgi:=Int→Int→Option Int
def r43 (g:Xgi):Dec:=dV (asI .u64) fun (y0:Int)=>dV (asI .i64) fun (y1:Int)=>XeA (ofG (g y0 y1) rx43)
theorem r43_c {g:Xgi} {y0:Int} {y1:Int} {x:Int} (hx:g y0 y1=some x):r43 g [.int .u64 y0,.int .i64 y1] []=some (rx43 x):=(Xbz (Xd1 _)).trans ((Xbz (Xd1 _)).trans (Xbc hx))
def s43 (g:Xgi):XcU:=⟨[.v,.v],r43 g⟩
theorem XJm {g:Xgi} {y0:Int} {y1:Int} {x:Int} (hx:g y0 y1=some x):(s43 g).run [.int .u64 y0,.int .i64 y1] []=some (rx43 x):=r43_c hx
abbrev XHI (Xiq:Xh2):List (Nat×XcU):=[(56,s56 Xiq)]
theorem XEd (Xiq:Xh2) (hS:XaF Try.prog (XaP (XHI Xiq))) (x:Int) (n:Int) (res:Int) (h:Xlf Xiq x n=some res) :
 XaU Try.prog 43 0 ⟨⟨43,22,[(0,.int .u64 x),(1,.int .i64 n)],[.code XCD],[],false,none⟩,[],[],0⟩ (fun v H _=>Res 0 (rx43 res) v H):=by
 unfold Xlf at h
 have R1:=@XIp Xiq
 refine Xa4 XaM hS true 3000 ?_
 conv=>whnf
 exact W
def Xfd:Xgi:=Xlf Xiq
theorem XHm:XeG Try.prog 43 (s43 Xfd):=by
 have hL:=XEd Xiq (XaF.Xba ⟨XHw,trivial⟩)
 exact okA ⟨Try.f43,rfl,by decide,rfl⟩
def Xk6 (Xfd:Xgi) (XhA:Xhw) (k:Xat) (i:Int) (places:Int) (text:List UInt8):Option Int:=
 (XhA (Xat.mk (wI .u64 (k.A+(wI .u64 i))) k.B) text).bind fun xh=>
 (Xfd xh places).bind fun s=>
 some (s)
def rx15 (x:Int):Xdu:=⟨.int .i64 x,[],[]⟩
abbrev XaV:=Xat→Int→Int→(List UInt8)→Option Int
def r15 (g:XaV):Dec:=dV XhM fun (y0:Xat)=>dV (asI .i64) fun (y1:Int)=>dV (asI .i64) fun (y2:Int)=>dV asS fun (y3:List UInt8)=>XeA (ofG (g y0 y1 y2 y3) rx15)
theorem r15_c {g:XaV} {y0:Xat} {y1:Int} {y2:Int} {y3:List UInt8} {x:Int} (hx:g y0 y1 y2 y3=some x):r15 g [.agg ⟨[.int .u64 y0.A,.int .u64 y0.B]⟩,.int .i64 y1,.int .i64 y2,.string ⟨⟨y3⟩⟩] []=some (rx15 x):=(Xbz (Xim _)).trans ((Xbz (Xd1 _)).trans ((Xbz (Xd1 _)).trans ((Xbz (XhC)).trans (Xbc hx))))
def s15 (g:XaV):XcU:=⟨[.v,.v,.v,.v],r15 g⟩
theorem Xlz {g:XaV} {y0:Xat} {y1:Int} {y2:Int} {y3:List UInt8} {x:Int} (hx:g y0 y1 y2 y3=some x):(s15 g).run [.agg ⟨[.int .u64 y0.A,.int .u64 y0.B]⟩,.int .i64 y1,.int .i64 y2,.string ⟨⟨y3⟩⟩] []=some (rx15 x):=r15_c hx
abbrev XHx (Xfd:Xgi) (XhA:Xhw):List (Nat×XcU):=[(43,s43 Xfd),(44,s44 XhA)]
theorem XF8 (Xfd:Xgi) (XhA:Xhw) (hS:XaF Try.prog (XaP (XHx Xfd XhA))) (k:Xat) (i:Int) (places:Int) (text:List UInt8) (res:Int) (h:Xk6 Xfd XhA k i places text=some res) :
 XaU Try.prog 15 0 ⟨⟨15,21,[(0,.agg ⟨[.int .u64 k.A,.int .u64 k.B]⟩),(1,.int .i64 i),(2,.int .i64 places),(3,.string ⟨⟨text⟩⟩)],[.code XHZ],[],false,none⟩,[],[],0⟩ (fun v H _=>Res 0 (rx15 res) v H):=by
 unfold Xk6 at h
 have R1:=@XIY XhA
 have R2:=@XJm Xfd
 refine Xa4 XaM hS true 3000 ?_
 conv=>whnf
 exact W
def Xas:XaV:=Xk6 Xfd XhA
theorem XJv:XeG Try.prog 15 (s15 Xas):=by
 have hL:=XF8 Xfd XhA (XaF.Xba ⟨XHm,XI7,trivial⟩)
 exact okA ⟨Try.f15,rfl,by decide,rfl⟩
def XnA (p:Xay):Option Bool:=
 cond (decide (p.N≥0))
  (
  some (decide (p.N≤1048576)))
  (
  some (false))
def rx13 (x:Bool):Xdu:=⟨.bool x,[],[]⟩
abbrev Xa6:=Xay→Option Bool
def r13 (g:Xa6):Dec:=dV XlW fun (y0:Xay)=>XeA (ofG (g y0) rx13)
theorem r13_c {g:Xa6} {y0:Xay} {x:Bool} (hx:g y0=some x):r13 g [.agg ⟨[.string ⟨⟨y0.Text⟩⟩,.int .i64 y0.N]⟩] []=some (rx13 x):=(Xbz (XrB _)).trans (Xbc hx)
def s13 (g:Xa6):XcU:=⟨[.v],r13 g⟩
theorem Xlw {g:Xa6} {y0:Xay} {x:Bool} (hx:g y0=some x):(s13 g).run [.agg ⟨[.string ⟨⟨y0.Text⟩⟩,.int .i64 y0.N]⟩] []=some (rx13 x):=r13_c hx
abbrev XIr:List (Nat×XcU):=[]
theorem XFf (hS:XaF Try.prog (XaP (XIr))) (p:Xay) (res:Bool) (h:XnA p=some res) :
 XaU Try.prog 13 0 ⟨⟨13,11,[(0,.agg ⟨[.string ⟨⟨p.Text⟩⟩,.int .i64 p.N]⟩)],[.code XG7],[],false,none⟩,[],[],0⟩ (fun v H _=>Res 0 (rx13 res) v H):=by
 unfold XnA at h
 refine Xa4 XaM hS true 3000 ?_
 conv=>whnf
 exact W
def XaI:Xa6:=XnA
theorem XCE:XeG Try.prog 13 (s13 XaI):=by
 have hL:=XFf (XaF.Xba trivial)
 exact okA ⟨Try.f13,rfl,by decide,rfl⟩
def Xgf (XaI:Xa6) (Xas:XaV) (k:Xat) (rows:Int) (places:Int) (l:List Xay) (text:List UInt8) (best:Int) (i:Int) (n:Int) (xj:Int):Option (Sum (Int×Int) (Sum (Int×Int) Int)):=
 cond (decide (xj<(l.length:Int)))
  (
  XaQ (decide ((0:Int)≤xj∧xj<(l.length:Int))) <|
  (l[xj.toNat]?).bind fun (e:Xay)=>
  (XaI e).bind fun m=>
  cond (m)
   (
   XaQ (decide ((0:Int)≤xj∧xj<(l.length:Int))) <|
   (Xas k i places e.Text).bind fun p=>
   (Xas k i places text).bind fun p1=>
   cond (p==p1)
    (
    XaQ (decide ((0:Int)≤xj∧xj<(l.length:Int))) <|
    let t:=if (wI .i64 (n+e.N))<1099511627776 then wI .i64 (n+e.N) else 1099511627776
    some (.inl (t,wI .i64 (xj+1))))
    (
    some (.inl (n,wI .i64 (xj+1)))))
   (
   some (.inl (n,wI .i64 (xj+1)))))
  (
  some (.inr (.inl (if n<best then n else best,wI .i64 (i+1)))))
def Xgh (XaI:Xa6) (Xas:XaV) (k:Xat) (rows:Int) (places:Int) (l:List Xay) (text:List UInt8) (best:Int) (i:Int):Option (Sum (Int×Int) Int):=
 cond (decide (i<rows))
  (
  iter (fun st=>Xgf XaI Xas k rows places l text best i st.1 st.2) FUEL (0,0))
  (
  some (.inr (best)))
def Xlg (XaI:Xa6) (Xas:XaV) (k:Xat) (rows:Int) (places:Int) (l:List Xay) (text:List UInt8):Option Int:=
 iter (fun st=>Xgh XaI Xas k rows places l text st.1 st.2) FUEL (1099511627776,0)
def XCk (x:Int):Xdu:=⟨.int .i64 x,[],[none]⟩
abbrev XaZ:=Xat→Int→Int→(List Xay)→(List UInt8)→Option Int
def r17 (g:XaZ):Dec:=dV XhM fun (y0:Xat)=>dV (asI .i64) fun (y1:Int)=>dV (asI .i64) fun (y2:Int)=>dSl 0 2 (unR 2 Xif) fun (y3:List Xay)=>dV asS fun (y4:List UInt8)=>XeA (ofG (g y0 y1 y2 y3 y4) XCk)
theorem r17_c {g:XaZ} {y0:Xat} {y1:Int} {y2:Int} {y3:List Xay} {y4:List UInt8} {x:Int} (hx:g y0 y1 y2 y3 y4=some x):r17 g [.agg ⟨[.int .u64 y0.A,.int .u64 y0.B]⟩,.int .i64 y1,.int .i64 y2,.slice (some ⟨0,0,none⟩) y3.length 2,.string ⟨⟨y4⟩⟩] [some (vT Xa5 y3)]=some (XCk x):=(Xbz (Xim _)).trans ((Xbz (Xd1 _)).trans ((Xbz (Xd1 _)).trans ((Xqw (XwY (by first|exact Xkd|exact XaK|exact Xj0|exact Xi6|exact XjL) (by decide) XlS _)).trans ((Xbz (XhC)).trans (Xbc hx)))))
def s17 (g:XaZ):XcU:=⟨[.v,.v,.v,.sl 2,.v],r17 g⟩
theorem Xng {g:XaZ} {y0:Xat} {y1:Int} {y2:Int} {y3:List Xay} {y4:List UInt8} {x:Int} (hx:g y0 y1 y2 y3 y4=some x):(s17 g).run [.agg ⟨[.int .u64 y0.A,.int .u64 y0.B]⟩,.int .i64 y1,.int .i64 y2,.slice (some ⟨0,0,none⟩) y3.length 2,.string ⟨⟨y4⟩⟩] [some (vT Xa5 y3)]=some (XCk x):=r17_c hx
abbrev XwU (XaI:Xa6) (Xas:XaV):List (Nat×XcU):=[(13,s13 XaI),(15,s15 Xas)]
def Xuo (k:Xat) (rows:Int) (places:Int) (l:List Xay) (text:List UInt8) (best:Int) (i:Int) (n:Int) (xj:Int):VM:=
 ⟨⟨17,60,[(1,.int .i64 rows),(2,.int .i64 places),(3,.slice (some ⟨0,0,none⟩) l.length 2),(4,.string ⟨⟨text⟩⟩),(5,.pointer (some ⟨1,0,none⟩)),(11,.int .i64 best),(12,.int .i64 i),(13,.int .i64 n),(14,.int .i64 xj)],[.code Xxe,.inLoop Xxe,.inBlock 2,.code XCH,.inBlock 1,.code XCC,.inLoop XuY,.inBlock 0,.code Xwx],[],false,none⟩,[],[(0,.row false (vT Xa5 l)),(1,.cells [.int .u64 k.A,.int .u64 k.B])],2⟩
def XpB (k:Xat) (rows:Int) (places:Int) (l:List Xay) (text:List UInt8) (best:Int) (i:Int):VM:=
 ⟨⟨17,60,[(1,.int .i64 rows),(2,.int .i64 places),(3,.slice (some ⟨0,0,none⟩) l.length 2),(4,.string ⟨⟨text⟩⟩),(5,.pointer (some ⟨1,0,none⟩)),(11,.int .i64 best),(12,.int .i64 i)],[.code XuY,.inLoop XuY,.inBlock 0,.code Xwx],[],false,none⟩,[],[(0,.row false (vT Xa5 l)),(1,.cells [.int .u64 k.A,.int .u64 k.B])],2⟩
theorem XCq (XaI:Xa6) (Xas:XaV) (hS:XaF Try.prog (XaP (XwU XaI Xas))) {k:Xat} {rows:Int} {places:Int} {l:List Xay} {text:List UInt8} {best:Int} {i:Int} {res:Int}:∀ {fuel} {st:Int×Int} {o:Sum (Int×Int) Int},iter (fun st=>Xgf XaI Xas k rows places l text best i st.1 st.2) fuel st=some o→(Sum.elim (fun s0=>XaU Try.prog 17 1 (XpB k rows places l text s0.1 s0.2) (fun v H _=>Res 1 (XCk res) v H)) (fun r0=>r0=res) o) →
 XaU Try.prog 17 1 (Xuo k rows places l text best i st.1 st.2) (fun v H _=>Res 1 (XCk res) v H):=by
 apply XaO
 intro st o h hc
 obtain ⟨n,xj⟩:=st
 replace h:Xgf XaI Xas k rows places l text best i n xj=some o:=h
 show XaU Try.prog 17 1 (Xuo k rows places l text best i n xj) (fun v H _=>Res 1 (XCk res) v H)
 unfold Xgf at h
 have LM:=lm [(0,0),(1,1)]
 refine Xa4 XaM hS true 3000 ?_
 conv=>whnf
 refine br.h2 h (by rfl) ?_ ?_
 ·clear h;intro hb h;conv=>whnf
  exact W
 clear h;intro hb h;conv=>whnf
 replace h:=XaQ.elim h;obtain ⟨hb,h⟩:=h
 try (refine req.intro hb ?_;conv=>whnf)
 replace h:=Xbu.elim h;obtain ⟨e,hy,h⟩:=h
 refine Xz9 XaK hy (by first|omega|exact Nat.zero_add _|exact congrArg (·+_) (Nat.zero_add _)) rfl ?_
 conv=>whnf
 replace h:=Xbu.elim h;obtain ⟨m,hy,h⟩:=h
 refine XdH.a (Xlw hy) ?_
 conv=>whnf
 refine br.h2 h (by rfl) ?_ ?_
 ·clear h;intro hb h;conv=>whnf
  exact W
 clear h;intro hb h;conv=>whnf
 replace h:=XaQ.elim h;obtain ⟨hb,h⟩:=h
 try (refine req.intro hb ?_;conv=>whnf)
 refine rd.T (i:=xj.toNat) (x:=e) (j:=0) XaK (by assumption) (by first|omega|exact Nat.zero_add _|exact congrArg (·+_) (Nat.zero_add _)) (by decide) rfl ?_
 conv=>whnf
 replace h:=Xbu.elim h;obtain ⟨p,hy,h⟩:=h
 refine XdH.a (Xlz hy) ?_
 conv=>whnf
 replace h:=Xbu.elim h;obtain ⟨p1,hy,h⟩:=h
 refine XdH.a (Xlz hy) ?_
 conv=>whnf
 refine br.h2 h (by rfl) ?_ ?_
 ·clear h;intro hb h;conv=>whnf
  exact W
 clear h;intro hb h;conv=>whnf
 replace h:=XaQ.elim h;obtain ⟨hb,h⟩:=h
 try (refine req.intro hb ?_;conv=>whnf)
 refine rd.T (i:=xj.toNat) (x:=e) (j:=1) XaK (by assumption) (by first|omega|exact Nat.zero_add _|exact congrArg (·+_) (Nat.zero_add _)) (by decide) rfl ?_
 conv=>whnf
 exact W
theorem XAR (XaI:Xa6) (Xas:XaV) (hS:XaF Try.prog (XaP (XwU XaI Xas))) {k:Xat} {rows:Int} {places:Int} {l:List Xay} {text:List UInt8} {res:Int}:∀ {fuel} {st:Int×Int} {o:Int},iter (fun st=>Xgh XaI Xas k rows places l text st.1 st.2) fuel st=some o→(o=res) →
 XaU Try.prog 17 1 (XpB k rows places l text st.1 st.2) (fun v H _=>Res 1 (XCk res) v H):=by
 apply XaO
 intro st o h hc
 obtain ⟨best,i⟩:=st
 replace h:Xgh XaI Xas k rows places l text best i=some o:=h
 show XaU Try.prog 17 1 (XpB k rows places l text best i) (fun v H _=>Res 1 (XCk res) v H)
 unfold Xgh at h
 have LP:=@XCq XaI Xas hS;have LQ:=lm [(0,0),(1,1)]
 refine Xa4 XaM hS true 3000 ?_
 conv=>whnf
 exact W
theorem XGw (XaI:Xa6) (Xas:XaV) (hS:XaF Try.prog (XaP (XwU XaI Xas))) (k:Xat) (rows:Int) (places:Int) (l:List Xay) (text:List UInt8) (res:Int) (h:Xlg XaI Xas k rows places l text=some res) :
 XaU Try.prog 17 1 ⟨⟨17,60,[(0,.agg ⟨[.int .u64 k.A,.int .u64 k.B]⟩),(1,.int .i64 rows),(2,.int .i64 places),(3,.slice (some ⟨0,0,none⟩) l.length 2),(4,.string ⟨⟨text⟩⟩)],[.code XC1],[],false,none⟩,[],[(0,.row false (vT Xa5 l))],1⟩ (fun v H _=>Res 1 (XCk res) v H):=by
 unfold Xlg at h
 have LP:=@XAR XaI Xas hS;have LQ:=lm [(0,0),(1,1)]
 refine Xa4 XaM hS true 3000 ?_
 conv=>whnf
 exact W
def Xav:XaZ:=Xlg XaI Xas
theorem lift17:XeG Try.prog 17 (s17 Xav):=by
 have hL:=XGw XaI Xas (XaF.Xba ⟨XCE,XJv,trivial⟩)
 exact okA ⟨Try.f17,rfl,by decide,rfl⟩
def Xgg (XaI:Xa6) (l:List Xay) (n:Int) (xj:Int):Option (Sum (Int×Int) Int):=
 cond (decide (xj<(l.length:Int)))
  (
  XaQ (decide ((0:Int)≤xj∧xj<(l.length:Int))) <|
  (l[xj.toNat]?).bind fun (e:Xay)=>
  (XaI e).bind fun m=>
  cond (m)
   (
   XaQ (decide ((0:Int)≤xj∧xj<(l.length:Int))) <|
   let t:=if (wI .i64 (n+e.N))<1099511627776 then wI .i64 (n+e.N) else 1099511627776
   some (.inl (t,wI .i64 (xj+1))))
   (
   some (.inl (n,wI .i64 (xj+1)))))
  (
  some (.inr (n)))
def Xlb (XaI:Xa6) (l:List Xay):Option Int:=
 iter (fun st=>Xgg XaI l st.1 st.2) FUEL (0,0)
def XGK (x:Int):Xdu:=⟨.int .i64 x,[],[none]⟩
abbrev XaY:=(List Xay)→Option Int
def r19 (g:XaY):Dec:=dSl 0 2 (unR 2 Xif) fun (y0:List Xay)=>XeA (ofG (g y0) XGK)
theorem r19_c {g:XaY} {y0:List Xay} {x:Int} (hx:g y0=some x):r19 g [.slice (some ⟨0,0,none⟩) y0.length 2] [some (vT Xa5 y0)]=some (XGK x):=(Xqw (XwY (by first|exact Xkd|exact XaK|exact Xj0|exact Xi6|exact XjL) (by decide) XlS _)).trans (Xbc hx)
def s19 (g:XaY):XcU:=⟨[.sl 2],r19 g⟩
theorem Xnj {g:XaY} {y0:List Xay} {x:Int} (hx:g y0=some x):(s19 g).run [.slice (some ⟨0,0,none⟩) y0.length 2] [some (vT Xa5 y0)]=some (XGK x):=r19_c hx
abbrev XCW (XaI:Xa6):List (Nat×XcU):=[(13,s13 XaI)]
def Xt8 (l:List Xay) (n:Int) (xj:Int):VM:=
 ⟨⟨19,25,[(0,.slice (some ⟨0,0,none⟩) l.length 2),(3,.int .i64 n),(4,.int .i64 xj)],[.code Xwo,.inLoop Xwo,.inBlock 0,.code XCT],[],false,none⟩,[],[(0,.row false (vT Xa5 l))],1⟩
theorem XCb (XaI:Xa6) (hS:XaF Try.prog (XaP (XCW XaI))) {l:List Xay} {res:Int}:∀ {fuel} {st:Int×Int} {o:Int},iter (fun st=>Xgg XaI l st.1 st.2) fuel st=some o→(o=res) →
 XaU Try.prog 19 1 (Xt8 l st.1 st.2) (fun v H _=>Res 1 (XGK res) v H):=by
 apply XaO
 intro st o h hc
 obtain ⟨n,xj⟩:=st
 replace h:Xgg XaI l n xj=some o:=h
 show XaU Try.prog 19 1 (Xt8 l n xj) (fun v H _=>Res 1 (XGK res) v H)
 unfold Xgg at h
 have LM:=lm [(0,0)]
 refine Xa4 XaM hS true 3000 ?_
 conv=>whnf
 refine br.h2 h (by rfl) ?_ ?_
 ·clear h;intro hb h;conv=>whnf
  exact W
 clear h;intro hb h;conv=>whnf
 replace h:=XaQ.elim h;obtain ⟨hb,h⟩:=h
 try (refine req.intro hb ?_;conv=>whnf)
 replace h:=Xbu.elim h;obtain ⟨e,hy,h⟩:=h
 refine Xz9 XaK hy (by first|omega|exact Nat.zero_add _|exact congrArg (·+_) (Nat.zero_add _)) rfl ?_
 conv=>whnf
 replace h:=Xbu.elim h;obtain ⟨m,hy,h⟩:=h
 refine XdH.a (Xlw hy) ?_
 conv=>whnf
 refine br.h2 h (by rfl) ?_ ?_
 ·clear h;intro hb h;conv=>whnf
  exact W
 clear h;intro hb h;conv=>whnf
 replace h:=XaQ.elim h;obtain ⟨hb,h⟩:=h
 try (refine req.intro hb ?_;conv=>whnf)
 refine rd.T (i:=xj.toNat) (x:=e) (j:=1) XaK (by assumption) (by first|omega|exact Nat.zero_add _|exact congrArg (·+_) (Nat.zero_add _)) (by decide) rfl ?_
 conv=>whnf
 exact W
theorem XDO (XaI:Xa6) (hS:XaF Try.prog (XaP (XCW XaI))) (l:List Xay) (res:Int) (h:Xlb XaI l=some res) :
 XaU Try.prog 19 1 ⟨⟨19,25,[(0,.slice (some ⟨0,0,none⟩) l.length 2)],[.code XDA],[],false,none⟩,[],[(0,.row false (vT Xa5 l))],1⟩ (fun v H _=>Res 1 (XGK res) v H):=by
 unfold Xlb at h
 have LP:=@XCb XaI hS;have LQ:=lm [(0,0)]
 refine Xa4 XaM hS true 3000 ?_
 conv=>whnf
 exact W
def Xaw:XaY:=Xlb XaI
theorem lift19:XeG Try.prog 19 (s19 Xaw):=by
 have hL:=XDO XaI (XaF.Xba ⟨XCE,trivial⟩)
 exact okA ⟨Try.f19,rfl,by decide,rfl⟩
def Xlh (rows:Int) (places:Int):Option Bool:=
 cond (decide (rows≥1))
  (
  cond (decide (rows≤8))
   (
   cond (decide (places≥1))
    (
    some (decide (places≤4096)))
    (
    some (false)))
   (
   some (false)))
  (
  some (false))
def rx11 (x:Bool):Xdu:=⟨.bool x,[],[]⟩
abbrev Xbo:=Int→Int→Option Bool
def r11 (g:Xbo):Dec:=dV (asI .i64) fun (y0:Int)=>dV (asI .i64) fun (y1:Int)=>XeA (ofG (g y0 y1) rx11)
theorem r11_c {g:Xbo} {y0:Int} {y1:Int} {x:Bool} (hx:g y0 y1=some x):r11 g [.int .i64 y0,.int .i64 y1] []=some (rx11 x):=(Xbz (Xd1 _)).trans ((Xbz (Xd1 _)).trans (Xbc hx))
def s11 (g:Xbo):XcU:=⟨[.v,.v],r11 g⟩
theorem Xmd {g:Xbo} {y0:Int} {y1:Int} {x:Bool} (hx:g y0 y1=some x):(s11 g).run [.int .i64 y0,.int .i64 y1] []=some (rx11 x):=r11_c hx
abbrev XIx:List (Nat×XcU):=[]
theorem XEy (hS:XaF Try.prog (XaP (XIx))) (rows:Int) (places:Int) (res:Bool) (h:Xlh rows places=some res) :
 XaU Try.prog 11 0 ⟨⟨11,19,[(0,.int .i64 rows),(1,.int .i64 places)],[.code XIg],[],false,none⟩,[],[],0⟩ (fun v H _=>Res 0 (rx11 res) v H):=by
 unfold Xlh at h
 refine Xa4 XaM hS true 3000 ?_
 conv=>whnf
 exact W
def XaX:Xbo:=Xlh
theorem lift11:XeG Try.prog 11 (s11 XaX):=by
 have hL:=XEy (XaF.Xba trivial)
 exact okA ⟨Try.f11,rfl,by decide,rfl⟩
end Go.Vm.Code
namespace Go.Vm.Code
open Go Go.Vm
theorem Xwv {hi lo add:Int} (h1:0≤hi∧hi<2^63) (h2:0≤lo∧lo<2^64) (h3:0≤add∧add<2^64) (h4:2*(hi*2^64+lo)+add<2^128) :
 XcZ hi lo add=some ((2*(hi*2^64+lo)+add)/2^64,(2*(hi*2^64+lo)+add)%2^64):=by
 unfold XcZ Xk9
 rw [XzJ,Xn5 (n:=hi*2^1) (by omega) (by omega),XvY 1 h1.1 (by omega) (by omega) (by omega) (by omega),Xqz (lo*2^1),Xqz (lo*2^1%18446744073709551616+add)]
 simp only []
 by_cases hc:(lo*2^1%18446744073709551616+add)%18446744073709551616<lo*2^1%18446744073709551616
 ·rw [Xbd hc,Xn5 (by omega) (by omega)]
  congr 2<;>omega
 ·rw [Xa7 hc]
  congr 2<;>omega
theorem Mul01 {a b:Nat} (ha:a<2^64) (hb:b<2^64):Xiq (a:Int) (b:Int)=some (((a*b/2^64:Nat):Int),((a*b%2^64:Nat):Int)):=by
 unfold Xiq Xny
 rw [show ((0:Int),(0:Int),(63:Int))=(fun j:Nat=>(((a/2^(64 - j)*b/2^64:Nat):Int),((a/2^(64 - j)*b%2^64:Nat):Int),(63:Int) - (j:Int))) 0 by
  simp only [Nat.sub_zero,Nat.div_eq_of_lt ha,Nat.zero_mul];rfl]
 refine Xd3 (fun j:Nat=>(((a/2^(64 - j)*b/2^64:Nat):Int),((a/2^(64 - j)*b%2^64:Nat):Int),(63:Int) - (j:Int))) _ 64 (fun j hj=>?_) ?_ (by rw [Xd0];omega)
 ·show Xh4 XcZ a b ((a/2^(64 - j)*b/2^64:Nat):Int) ((a/2^(64 - j)*b%2^64:Nat):Int) ((63:Int) - (j:Int))=some (.inl (((a/2^(64 - (j+1))*b/2^64:Nat):Int),((a/2^(64 - (j+1))*b%2^64:Nat):Int),(63:Int) - ((j+1:Nat):Int)))
  unfold Xh4
  have e1:((63:Int) - (j:Int)).toNat=63 - j:=by omega
  have e2:min (63 - j) 64=63 - j:=by omega
  have e3:(a:Int)/2^(63 - j)=((a/2^(63 - j):Nat):Int):=by push_cast;rfl
  have e4:a/2^(64 - j)=a/2^(63 - j)/2:=by
   rw [Nat.div_div_eq_div_mul,show 64 - j=(63 - j)+1 by omega,Nat.pow_succ]
  have hA:a/2^(63 - j)<2^64:=Nat.lt_of_le_of_lt (Nat.div_le_self _ _) ha
  rw [show 64 - (j+1)=63 - j by omega,e4,Xbd (by omega),XaH (by omega),e1,e2,XzJ,e3]
  generalize a/2^(63 - j)=A at hA
  simp only []
  rw [show (1:Int)=2^1 - 1 from rfl,XjQ 1 rfl (by decide) (by omega) (by omega)]
  have m1:A/2*b≤(2^63 - 1)*(2^64 - 1):=Nat.mul_le_mul (by omega) (by omega)
  have m2:A*b≤(2^64 - 1)*(2^64 - 1):=Nat.mul_le_mul (by omega) (by omega)
  have hw:wI .i64 ((63:Int) - (j:Int) - (2^1 - 1))=(63:Int) - ((j+1:Nat):Int):=by rw [XfG (by omega) (by omega)];omega
  rcases Nat.mod_two_eq_zero_or_one A with hm|hm
  ·have m3:A*b=2*(A/2*b):=by
    have:A=2*(A/2):=by omega
    conv=>lhs;rw [this]
    rw [Nat.mul_assoc]
   have:((A:Int)%2^1==2^1 - 1)=false:=by
    rw [show (A:Int)%2^1=((A%2:Nat):Int) by omega,hm];rfl
   rw [this,cond_false,m3]
   generalize A/2*b=H at *
   rw [Xwv (by omega) (by omega) (by omega) (by omega),Option.bind_some,hw]
   congr 3<;>(try congr 1)<;>omega
  ·have m3:A*b=2*(A/2*b)+b:=by
    have:A=2*(A/2)+1:=by omega
    conv=>lhs;rw [this]
    rw [Nat.add_mul,Nat.one_mul,Nat.mul_assoc]
   have:((A:Int)%2^1==2^1 - 1)=true:=by
    rw [show (A:Int)%2^1=((A%2:Nat):Int) by omega,hm];rfl
   rw [this,cond_true,m3]
   rw [m3] at m2
   generalize A/2*b=H at *
   rw [Xwv (by omega) (by omega) (by omega) (by omega),Option.bind_some,hw]
   congr 3<;>(try congr 1)<;>omega
 ·show Xh4 XcZ a b _ _ ((63:Int) - ((64:Nat):Int))=_
  unfold Xh4
  rw [Xa7 (by omega),Nat.sub_self,Nat.pow_zero,Nat.div_one]
theorem XER {x:Int} {p:Nat} (hx:0≤x∧x<2^64) (h1:1≤p) (h2:p≤4096):Xfd x (p:Int)=some (scl x p):=by
 obtain ⟨a,rfl⟩:=Int.eq_ofNat_of_zero_le hx.1
 unfold Xfd Xlf
 rw [Xa7 (by omega),Xa7 (by omega),Xn5 (by omega) (by omega),Mul01 (by omega) (by omega),Option.bind_some]
 have:=Xoe hx (n:=p) (by omega)
 have e:((a*p/2^64:Nat):Int)=scl a p:=by unfold scl;rw [Int.natCast_ediv,Int.natCast_mul];rfl
 simp only [e]
 rw [XfG (by omega) (by omega)]
theorem Xjy {k:Xat} {p:Nat} (hp:1≤p∧p≤4096) (i:Nat) {t:List UInt8} (ht:t.length≤20):Xas k (i:Int) (p:Int) t=some (plN k p i t:Int):=by
 unfold Xas Xk6
 rw [XsF (by omega),Option.bind_some]
 have:=Xoe (XmE k i t) (n:=p) (by omega)
 show (Xfd (XGO k i t) (p:Int)).bind _=_
 rw [XER (XmE k i t) hp.1 hp.2,Option.bind_some]
 unfold plN;congr 1;omega
theorem XoE (e:Xay):XaI e=some (Xj8 e):=by
 unfold XaI XnA Xj8
 by_cases h1:e.N≥0
 ·rw [Xbd h1]
  by_cases h2:e.N≤1048576
  ·rw [decide_eq_true h2,decide_eq_true ⟨h1,h2⟩]
  ·rw [decide_eq_false h2,decide_eq_false (fun h=>h2 h.2)]
 ·rw [Xa7 h1,decide_eq_false (fun h=>h1 h.1)]
theorem Xzi (rows places:Int):XaX rows places=some (decide (1≤rows∧rows≤8∧1≤places∧places≤4096)):=by
 unfold XaX Xlh
 by_cases h1:rows≥1
 ·rw [Xbd h1]
  by_cases h2:rows≤8
  ·rw [Xbd h2]
   by_cases h3:places≥1
   ·rw [Xbd h3]
    by_cases h4:places≤4096
    ·rw [decide_eq_true h4,decide_eq_true ⟨h1,h2,h3,h4⟩]
    ·rw [decide_eq_false h4,decide_eq_false (fun h=>h4 h.2.2.2)]
   ·rw [Xa7 h3,decide_eq_false (by omega)]
  ·rw [Xa7 h2,decide_eq_false (by omega)]
 ·rw [Xa7 h1,decide_eq_false (by omega)]
def cnt1 (f:Xay→Bool) (n:Int) (e:Xay):Int:=if (Xj8 e&&f e)=true then cap (n+e.N) else n
def XnD (f:Xay→Bool) (l:List Xay):Int:=l.foldl (cnt1 f) 0
theorem Xur (f:Xay→Bool) {n:Int} (h:0≤n∧n≤1099511627776) (e:Xay):0≤cnt1 f n e∧cnt1 f n e≤1099511627776:=by
 unfold cnt1
 split
 ·rename_i hc
  have hN:0≤e.N∧e.N≤1048576:=of_decide_eq_true (Bool.and_eq_true _ _▸hc).1
  exact XnM (by omega)
 ·exact h
theorem XpH (f:Xay→Bool) (l:List Xay):0≤XnD f l∧XnD f l≤1099511627776:=by
 have:∀ (l:List Xay) (n:Int),(0≤n∧n≤1099511627776)→0≤l.foldl (cnt1 f) n∧l.foldl (cnt1 f) n≤1099511627776:=by
  intro l
  induction l with
  | nil=>exact fun n h=>h
  | cons e l ih=>exact fun n h=>ih _ (Xur f h e)
 exact this l 0 (by decide)
theorem Xri (f:Xay→Bool) {l:List Xay} {j:Nat} (h:j<l.length):XnD f (l.take (j+1))=cnt1 f (XnD f (l.take j)) l[j]:=by
 unfold XnD;rw [List.take_succ_eq_append_getElem h,List.foldl_append];rfl
theorem XnY (f:Xay→Bool) (l m:List Xay):XnD f (l++m)=cap (XnD f l+XnD f m):=by
 have:∀ (m:List Xay) (n c:Int),(0≤n∧n≤1099511627776)→(0≤c∧c≤1099511627776)→m.foldl (cnt1 f) (cap (n+c))=cap (n+m.foldl (cnt1 f) c):=by
  intro m
  induction m with
  | nil=>exact fun n c _ _=>rfl
  | cons e m ih=>
    intro n c hn hc
    rw [List.foldl_cons,List.foldl_cons,←ih n (cnt1 f c e) hn (Xur f hc e)]
    congr 1
    unfold cnt1
    split
    ·rename_i hc2
     have hN:0≤e.N∧e.N≤1048576:=of_decide_eq_true (Bool.and_eq_true _ _▸hc2).1
     unfold cap
     repeat' split
     all_goals omega
    ·rfl
 have h0:=XpH f l
 have key:=this m (XnD f l) 0 h0 (by decide)
 have hc:cap (XnD f l+0)=XnD f l:=by unfold cap;rw [Int.add_zero];split<;>omega
 rw [hc] at key
 show (l++m).foldl (cnt1 f) 0=cap (XnD f l+m.foldl (cnt1 f) 0)
 rw [List.foldl_append,←key];rfl
def atP (k:Xat) (p i:Nat) (t:List UInt8) (e:Xay):Bool:=plN k p i e.Text==plN k p i t
theorem XDy (k:Xat) (p:Nat) (l:List Xay):(SK k p l).tot=XnD (fun _=>true) l:=by
 have:∀ (l:List Xay) (x:SkS) (n:Int),x.tot=n→(l.foldl (stepS k p) x).tot=l.foldl (cnt1 fun _=>true) n:=by
  intro l
  induction l with
  | nil=>exact fun x n h=>h
  | cons e l ih=>
    intro x n h
    refine ih _ _ ?_
    unfold stepS cnt1
    rw [Bool.and_true,←h]
    split<;>rfl
 exact this l _ 0 rfl
theorem Xxf {p:Nat} (hp:1≤p) (k:Xat) (l:List Xay) (t:List UInt8) (i:Nat):((SK k p l).R i).getD (plN k p i t) 0=XnD (atP k p i t) l:=by
 have:∀ (l:List Xay) (x:SkS) (n:Int),(x.R i).length=p→(x.R i).getD (plN k p i t) 0=n→((l.foldl (stepS k p) x).R i).getD (plN k p i t) 0=l.foldl (cnt1 (atP k p i t)) n:=by
  intro l
  induction l with
  | nil=>exact fun x n _ h=>h
  | cons e l ih=>
    intro x n hl h
    refine ih _ _ ?_ ?_
    ·unfold stepS;split
     ·show (Xs1 _ _ _ _ _ _).length=p;unfold Xs1;rw [List.length_set,hl]
     ·exact hl
    ·unfold stepS cnt1 atP
     cases Xj8 e with
     | false=>exact h
     | true=>
       rw [if_pos rfl,Bool.true_and]
       show (Xs1 k p e.Text e.N i (x.R i)).getD _ 0=_
       unfold Xs1
       rw [List.getD_eq_getElem?_getD,List.getElem?_set,hl]
       by_cases he:plN k p i e.Text=plN k p i t
       ·rw [if_pos he,if_pos (XdC hp _ _ _),if_pos (beq_iff_eq.2 he),he,h];rfl
       ·rw [if_neg he,if_neg (fun c=>he (beq_iff_eq.1 c)),←List.getD_eq_getElem?_getD,h]
 refine this l (newS p) 0 List.length_replicate ?_
 rw [show (newS p).R i=List.replicate p 0 from rfl,List.getD_eq_getElem?_getD,List.getElem?_replicate];split<;>rfl
theorem Xjs {p:Nat} (hp:1≤p) (k:Xat) (l m:List Xay) (t:List UInt8) (i:Nat):((Xdt (SK k p l) (SK k p m)).R i).getD (plN k p i t) 0=XnD (atP k p i t) (l++m):=by
 rw [show (Xdt (SK k p l) (SK k p m)).R i=Xbf ((SK k p l).R i) ((SK k p m).R i) from rfl,Xq0 ((Xdk.SK k p l).len i) (XdC hp _ _ _),Xxf hp,Xxf hp,XnY]
theorem XeB (k:Xat) (p:Nat) (l m:List Xay):(Xdt (SK k p l) (SK k p m)).tot=XnD (fun _=>true) (l++m):=by
 rw [XnY,←XDy k p,←XDy k p];rfl
theorem XkC {l:List Xay} (hl:l.length≤1000):Xaw l=some (XnD (fun _=>true) l):=by
 unfold Xaw Xlb
 refine Xd3 (fun j:Nat=>(XnD (fun _=>true) (l.take j),(j:Int))) _ l.length (fun j hj=>?_) ?_ (by rw [Xd0];omega)
 ·show Xgg XaI l (XnD (fun _=>true) (l.take j)) (j:Int)=_
  unfold Xgg
  have hr:=XpH (fun _=>true) (l.take j)
  rw [Xbd (by omega),XaH (by omega),Int.toNat_natCast,List.getElem?_eq_getElem hj,Option.bind_some,XoE,Option.bind_some,Xri _ hj,XfG (n:=(j:Int)+1) (by omega) (by omega)]
  unfold cnt1
  cases hm:Xj8 l[j] with
  | false=>rfl
  | true=>
    have hN:0≤(l[j]).N∧(l[j]).N≤1048576:=of_decide_eq_true hm
    rw [cond_true,XaH (by omega)]
    simp only []
    rw [XfG (by omega) (by omega)];rfl
 ·show Xgg XaI l (XnD (fun _=>true) (l.take l.length)) (l.length:Int)=_
  unfold Xgg
  rw [Xa7 (by omega),List.take_length]
theorem Xkb {k:Xat} {p n:Nat} (hp:1≤p∧p≤4096) (hn:n≤8) {l:List Xay} (hl:l.length≤1000) (ht:∀ e∈l,e.Text.length≤20) {t:List UInt8} (h20:t.length≤20) {x:SkS} (hx:∀ i,(x.R i).getD (plN k p i t) 0=XnD (atP k p i t) l) :
 Xav k (n:Int) (p:Int) l t=some (XnJ k p x t n):=by
 unfold Xav Xlg
 refine Xd3 (fun i:Nat=>(XnJ k p x t i,(i:Int))) _ n (fun i hi=>?_) ?_ (by rw [Xd0];omega)
 ·show Xgh XaI Xas k (n:Int) (p:Int) l t (XnJ k p x t i) (i:Int)=_
  unfold Xgh
  rw [Xbd (by omega)]
  refine Xd3 (fun j:Nat=>(XnD (atP k p i t) (l.take j),(j:Int))) _ l.length (fun j hj=>?_) ?_ (by rw [Xd0];omega)
  ·show Xgf XaI Xas k (n:Int) (p:Int) l t (XnJ k p x t i) (i:Int) (XnD (atP k p i t) (l.take j)) (j:Int)=_
   unfold Xgf
   have hr:=XpH (atP k p i t) (l.take j)
   rw [Xbd (by omega),XaH (by omega),Int.toNat_natCast,List.getElem?_eq_getElem hj,Option.bind_some,XoE,Option.bind_some,Xri _ hj,XfG (n:=(j:Int)+1) (by omega) (by omega)]
   unfold cnt1
   cases hm:Xj8 l[j] with
   | false=>rfl
   | true=>
     have hN:0≤(l[j]).N∧(l[j]).N≤1048576:=of_decide_eq_true hm
     rw [cond_true,XaH (by omega),Xjy hp i (ht _ (List.getElem_mem hj)),Option.bind_some,Xjy hp i h20,Option.bind_some,Bool.true_and]
     rw [show atP k p i t l[j]=(plN k p i (l[j]).Text==plN k p i t) from rfl]
     by_cases he:plN k p i (l[j]).Text=plN k p i t
     ·rw [he,beq_self_eq_true,beq_self_eq_true,cond_true,XaH (by omega)]
      simp only []
      rw [XfG (by omega) (by omega)];rfl
     ·rw [beq_eq_false_iff_ne.2 (fun c=>he (by omega)),beq_eq_false_iff_ne.2 he];rfl
  ·show Xgf XaI Xas k (n:Int) (p:Int) l t (XnJ k p x t i) (i:Int) (XnD (atP k p i t) (l.take l.length)) (l.length:Int)=_
   unfold Xgf
   rw [Xa7 (by omega),List.take_length,XfG (by omega) (by omega),←hx i];rfl
 ·show Xgh XaI Xas k (n:Int) (p:Int) l t (XnJ k p x t n) (n:Int)=_
  unfold Xgh
  rw [Xa7 (by omega)]
end Go.Vm.Code
namespace Go.Vm
open Go
theorem XAq {α:Type} (l:List α) (sz:α→Nat) (K M:Nat) (hK:K<2^40) (step:Int→Option (Sum Int Bool))
 (hs:∀ i:Nat,step (i:Int)=if h:i<l.length then (if i<K then (if M<sz l[i] then some (.inr false) else some (.inl ((i+1:Nat):Int))) else some (.inr (decide (l.length≤K)))) else some (.inr (decide (l.length≤K)))) :
 iter step FUEL 0=some (decide (l.length≤K)&&(l.take K).all fun e=>decide (sz e≤M)):=by
 have key:=iter_eq (step:=step) (fun i:Int=>decide (l.length≤K)&&((l.take K).drop i.toNat).all fun e=>decide (sz e≤M)) (fun i=>0≤i∧i≤K) (fun i=>(K+1 - i.toNat)) ?_ FUEL 0 ⟨by omega,by omega⟩ (by rw [Xd0];omega)
 ·rw [key];simp
 rintro s ⟨h1,h2⟩
 obtain ⟨i,rfl⟩:=Int.eq_ofNat_of_zero_le h1
 rw [hs i]
 simp only [Int.toNat_natCast]
 by_cases c:i<l.length
 ·rw [dif_pos c]
  by_cases c2:i<K
  ·rw [if_pos c2]
   have hd:((l.take K).drop i)=l[i]::((l.take K).drop (i+1)):=by
    rw [List.drop_eq_getElem_cons (by rw [List.length_take];omega),List.getElem_take]
   by_cases c3:M<sz l[i]
   ·rw [if_pos c3,hd]
    refine .inl ?_
    rw [List.all_cons,decide_eq_false (show ¬ sz l[i]≤M by omega)];simp
   ·rw [if_neg c3,hd]
    refine .inr ⟨_,rfl,⟨by omega,by omega⟩,by omega,?_⟩
    rw [List.all_cons,decide_eq_true (show sz l[i]≤M by omega),Bool.true_and];rfl
  ·rw [if_neg c2]
   refine .inl ?_
   rw [List.drop_eq_nil_of_le (by rw [List.length_take];omega)];simp
 ·rw [dif_neg c]
  refine .inl ?_
  rw [List.drop_eq_nil_of_le (by rw [List.length_take];omega)];simp
end Go.Vm
namespace Go.Vm.Code
open Go Go.Vm Go.Proofs
set_option maxRecDepth 100000
set_option maxHeartbeats 4000000
set_option linter.unusedVariables false
def XiB (l:List Xay) (i:Int):Option (Sum Int Bool):=
 cond (decide (i<(l.length:Int)))
  (
  cond (decide (i<30))
   (
   XaQ (decide ((0:Int)≤i∧i<(l.length:Int))) <|
   (l[i.toNat]?).bind fun (e:Xay)=>
   cond (decide ((e.Text.length:Int)>20))
    (
    some (.inr (false)))
    (
    some (.inl (wI .i64 (i+1)))))
   (
   some (.inr (decide ((l.length:Int)≤30)))))
  (
  some (.inr (decide ((l.length:Int)≤30))))
def Xll (l:List Xay):Option Bool:=
 iter (fun st=>XiB l st) FUEL 0
def rx8 (x:Bool):Xdu:=⟨.bool x,[],[none]⟩
abbrev Xbp:=(List Xay)→Option Bool
def r8 (g:Xbp):Dec:=dSl 0 2 (unR 2 Xif) fun (y0:List Xay)=>XeA (ofG (g y0) rx8)
theorem r8_c {g:Xbp} {y0:List Xay} {x:Bool} (hx:g y0=some x):r8 g [.slice (some ⟨0,0,none⟩) y0.length 2] [some (vT Xa5 y0)]=some (rx8 x):=(Xqw (XwY (by first|exact Xkd|exact XaK|exact Xj0|exact Xi6|exact XjL) (by decide) XlS _)).trans (Xbc hx)
def s8 (g:Xbp):XcU:=⟨[.sl 2],r8 g⟩
theorem XIC {g:Xbp} {y0:List Xay} {x:Bool} (hx:g y0=some x):(s8 g).run [.slice (some ⟨0,0,none⟩) y0.length 2] [some (vT Xa5 y0)]=some (rx8 x):=r8_c hx
abbrev XJz:List (Nat×XcU):=[]
def XF3 (l:List Xay) (i:Int):VM:=
 ⟨⟨8,24,[(0,.slice (some ⟨0,0,none⟩) l.length 2),(3,.int .i64 i)],[.code XEQ,.inLoop XEQ,.inBlock 0,.code XIm],[],false,none⟩,[],[(0,.row false (vT Xa5 l))],1⟩
theorem XEc (hS:XaF Try.prog (XaP (XJz))) {l:List Xay} {res:Bool}:∀ {fuel} {st:Int} {o:Bool},iter (fun st=>XiB l st) fuel st=some o→(o=res) →
 XaU Try.prog 8 1 (XF3 l st) (fun v H _=>Res 1 (rx8 res) v H):=by
 apply XaO
 intro i o h hc
 try dsimp -zeta only at h ⊢
 unfold XiB at h
 have LM:=lm [(0,0)]
 refine Xa4 XaM hS true 3000 ?_
 conv=>whnf
 exact W
theorem XIh (hS:XaF Try.prog (XaP (XJz))) (l:List Xay) (res:Bool) (h:Xll l=some res) :
 XaU Try.prog 8 1 ⟨⟨8,24,[(0,.slice (some ⟨0,0,none⟩) l.length 2)],[.code XI3],[],false,none⟩,[],[(0,.row false (vT Xa5 l))],1⟩ (fun v H _=>Res 1 (rx8 res) v H):=by
 unfold Xll at h
 have LP:=@XEc hS;have LQ:=lm [(0,0)]
 refine Xa4 XaM hS true 3000 ?_
 conv=>whnf
 exact W
def Xa0:Xbp:=Xll
theorem lift8:XeG Try.prog 8 (s8 Xa0):=by
 have hL:=XIh (XaF.Xba trivial)
 exact okA ⟨Try.f8,rfl,by decide,rfl⟩
def Xiv (s:Int) (s1:Int) (s2:Int):Option (Sum (Int×Int×Int) Bool):=
 let t:=if (wI .i64 (s2+s2))<1099511627776 then wI .i64 (s2+s2) else 1099511627776
 some (.inr (false))
def Xkt (Xao:XaT) (Xad:XaB) (Xab:Xaj) (Xaf:XaE) (Xae:XaC) (Xac:Xaq):Option Bool:=
 (Xao 2 10 (Xat.mk 1 0)).bind fun n=>
 match n with
 | .v2 n1=>
   (Xaf.v2 n1 [97] 3).bind fun x2=>
   cond (x2.1)
    (
    (Xaf.v2 x2.2 [98] 4).bind fun x21=>
    cond (x21.1)
     (
     (Xaf.v2 x21.2 [97] (-1)).bind fun x22=>
     (Xad.v2 x22.2 [97]).bind fun x23=>
     cond (!x22.1)
      (
      cond (x23==3)
       (
       (Xae.v2 x22.2).bind fun x24=>
       cond (x24==7)
        (
        (Xaf.vn [97] 1).bind fun n2=>
        cond (!n2)
         (
         (Xaf.v0 (Xaz.mk (Xat.mk 0 0) Xbj.mk 0) [97] 1).bind fun x0=>
         cond (!x0.1)
          (
          (Xad.vn [97]).bind fun n3=>
          (Xae.v0 (Xaz.mk x0.2.key Xbj.mk x0.2.total)).bind fun x01=>
          cond ((wI .i64 (n3+x01))==0)
           (
           (Xab.vn 0 [97]).bind fun n4=>
           cond (n4==(-1))
            (
            (Xac.v00 (Xaz.mk x0.2.key Xbj.mk x0.2.total) (Xaz.mk x0.2.key Xbj.mk x0.2.total)).bind fun x02=>
            cond (!x02)
             (
             (Xao 0 1 (Xat.mk 0 0)).bind fun n5=>
             match n5 with
             | .nil=>
               some (true)
             | _=>none)
             (
             iter (fun st=>Xiv st.1 st.2.1 st.2.2) FUEL (x0.2.key.A,x0.2.key.B,x0.2.total)))
            (
            some (false)))
           (
           some (false)))
          (
          some (false)))
         (
         some (false)))
        (
        some (false)))
       (
       cond (x23==7)
        (
        (Xae.v2 x22.2).bind fun x25=>
        cond (x25==7)
         (
         (Xaf.vn [97] 1).bind fun n6=>
         cond (!n6)
          (
          (Xaf.v0 (Xaz.mk (Xat.mk 0 0) Xbj.mk 0) [97] 1).bind fun x03=>
          cond (!x03.1)
           (
           (Xad.vn [97]).bind fun n7=>
           (Xae.v0 (Xaz.mk x03.2.key Xbj.mk x03.2.total)).bind fun x04=>
           cond ((wI .i64 (n7+x04))==0)
            (
            (Xab.vn 0 [97]).bind fun n8=>
            cond (n8==(-1))
             (
             (Xac.v00 (Xaz.mk x03.2.key Xbj.mk x03.2.total) (Xaz.mk x03.2.key Xbj.mk x03.2.total)).bind fun x05=>
             cond (!x05)
              (
              (Xao 0 1 (Xat.mk 0 0)).bind fun n9=>
              match n9 with
              | .nil=>
                some (true)
              | _=>none)
              (
              iter (fun st=>Xiv st.1 st.2.1 st.2.2) FUEL (x03.2.key.A,x03.2.key.B,x03.2.total)))
             (
             some (false)))
            (
            some (false)))
           (
           some (false)))
          (
          some (false)))
         (
         some (false)))
        (
        some (false))))
      (
      some (false)))
     (
     (Xad.v2 x21.2 [97]).bind fun x26=>
     some (false)))
    (
    (Xad.v2 x2.2 [97]).bind fun x27=>
    some (false))
 | _=>none
def rx9 (x:Bool):Xdu:=⟨.bool x,[],[]⟩
abbrev XaS:=Option Bool
def r9 (g:XaS):Dec:=XeA (ofG (g) rx9)
theorem r9_c {g:XaS} {x:Bool} (hx:g=some x):r9 g [] []=some (rx9 x):=Xbc hx
def s9 (g:XaS):XcU:=⟨[],r9 g⟩
theorem Xpi {g:XaS} {x:Bool} (hx:g=some x):(s9 g).run [] []=some (rx9 x):=r9_c hx
abbrev XH8 (Xao:XaT) (Xad:XaB) (Xab:Xaj) (Xaf:XaE) (Xae:XaC) (Xac:Xaq):List (Nat×XcU):=[(10,s10 Xao),(16,s16 Xad),(20,s20 Xab),(12,s12 Xaf),(18,s18 Xae),(42,s42 Xac)]
def Xr2 (s:Int) (s1:Int) (s2:Int):VM:=
 ⟨⟨14,51,[(0,.pointer (some ⟨10,0,none⟩)),(1,.pointer (some ⟨10,0,none⟩)),(16,.slice none 0 0),(17,.int .i64 0),(18,.int .i64 0)],[.code Xdw,.inLoop Xdw,.inBlock 0,.code XdF],[],false,none⟩,[⟨9,71,[(60,.bool true)],[.inReg (opsD k9_6 40),.code .ret],[],false,none⟩],[(10,.cells [.int .u64 s,.int .u64 s1,.slice none 0 0,.int .i64 s2])],11⟩
theorem XyO (Xao:XaT) (Xad:XaB) (Xab:Xaj) (Xaf:XaE) (Xae:XaC) (Xac:Xaq) (hS:XaF Try.prog (XaP (XH8 Xao Xad Xab Xaf Xae Xac))) {res:Bool}:∀ {fuel} {st:Int×Int×Int} {o:Bool},iter (fun st=>Xiv st.1 st.2.1 st.2.2) fuel st=some o→(o=res) →
 XaU Try.prog 9 0 (Xr2 st.1 st.2.1 st.2.2) (fun v H _=>Res 0 (rx9 res) v H):=by
 apply XaO
 intro st o h hc
 obtain ⟨s,s1,s2⟩:=st
 try dsimp -zeta only at h ⊢
 unfold Xiv at h
 refine Xa4 XaM hS true 3000 ?_
 conv=>whnf
 exact W
theorem XIf (Xao:XaT) (Xad:XaB) (Xab:Xaj) (Xaf:XaE) (Xae:XaC) (Xac:Xaq) (hS:XaF Try.prog (XaP (XH8 Xao Xad Xab Xaf Xae Xac))) (res:Bool) (h:Xkt Xao Xad Xab Xaf Xae Xac=some res) :
 XaU Try.prog 9 0 ⟨⟨9,71,[],[.code XIA],[],false,none⟩,[],[],0⟩ (fun v H _=>Res 0 (rx9 res) v H):=by
 unfold Xkt at h
 have R1:=@XpQ Xad
 refine Xa4 XaM hS true 3000 ?_
 conv=>whnf
 replace h:=Xbu.elim h;obtain ⟨n,hy,h⟩:=h
 cases n
 case v2 n1=>
  refine XdH.a (Xfa hy) ?_
  conv=>whnf
  replace h:=Xbu.elim h;obtain ⟨x2,hy,h⟩:=h
  refine XdH.a (Xl1 hy) ?_
  conv=>whnf
  refine br.h2 h (by rfl) ?_ ?_
  ·clear h;intro hb h;conv=>whnf
   exact W
  clear h;intro hb h;conv=>whnf
  replace h:=Xbu.elim h;obtain ⟨x21,hy,h⟩:=h
  refine XdH.a (Xl1 hy) ?_
  conv=>whnf
  refine br.h2 h (by rfl) ?_ ?_
  ·clear h;intro hb h;conv=>whnf
   exact W
  clear h;intro hb h;conv=>whnf
  replace h:=Xbu.elim h;obtain ⟨x22,hy,h⟩:=h
  refine XdH.a (Xl1 hy) ?_
  conv=>whnf
  replace h:=Xbu.elim h;obtain ⟨x23,hy,h⟩:=h
  refine XdH.a (XpQ hy) ?_
  conv=>whnf
  refine br.h2 h (by rfl) ?_ ?_
  ·clear h;intro hb h;conv=>whnf
   exact W
  clear h;intro hb h;conv=>whnf
  refine br.h h (by rfl) ?_ ?_
  ·clear h;intro hb h;conv=>whnf
   replace h:=Xbu.elim h;obtain ⟨x24,hy,h⟩:=h
   refine XdH.a (Xp8 hy) ?_
   conv=>whnf
   refine br.h2 h (by rfl) ?_ ?_
   ·clear h;intro hb h;conv=>whnf
    exact W
   clear h;intro hb h;conv=>whnf
   replace h:=Xbu.elim h;obtain ⟨n2,hy,h⟩:=h
   refine XdH.a (XuL hy) ?_
   conv=>whnf
   refine br.h2 h (by rfl) ?_ ?_
   ·clear h;intro hb h;conv=>whnf
    exact W
   clear h;intro hb h;conv=>whnf
   replace h:=Xbu.elim h;obtain ⟨x0,hy,h⟩:=h
   refine XdH.a (XtR hy) ?_
   conv=>whnf
   refine br.h2 h (by rfl) ?_ ?_
   ·clear h;intro hb h;conv=>whnf
    exact W
   clear h;intro hb h;conv=>whnf
   replace h:=Xbu.elim h;obtain ⟨n3,hy,h⟩:=h
   refine XdH.a (Xt1 hy) ?_
   conv=>whnf
   replace h:=Xbu.elim h;obtain ⟨x01,hy,h⟩:=h
   refine XdH.a (Xul hy) ?_
   conv=>whnf
   refine br.h2 h (by rfl) ?_ ?_
   ·clear h;intro hb h;conv=>whnf
    exact W
   clear h;intro hb h;conv=>whnf
   replace h:=Xbu.elim h;obtain ⟨n4,hy,h⟩:=h
   refine XdH.a (XuD hy) ?_
   conv=>whnf
   refine br.h2 h (by rfl) ?_ ?_
   ·clear h;intro hb h;conv=>whnf
    exact W
   clear h;intro hb h;conv=>whnf
   replace h:=Xbu.elim h;obtain ⟨x02,hy,h⟩:=h
   refine XdH.a (Xog hy) ?_
   conv=>whnf
   refine br.h2 h (by rfl) ?_ ?_
   ·clear h;intro hb h;conv=>whnf
    have hl:=XyO Xao Xad Xab Xaf Xae Xac hS h rfl;simp only [Xr2] at hl
    exact lrA1 hl [(10,10)] rfl
   clear h;intro hb h;conv=>whnf
   replace h:=Xbu.elim h;obtain ⟨n5,hy,h⟩:=h
   cases n5
   case nil=>
    refine XdH.a (Xfa hy) ?_
    conv=>whnf
    exact W
   all_goals cases h
  clear h;intro hb h;conv=>whnf
  refine br.h2 h (by rfl) ?_ ?_
  ·clear h;intro hb h;conv=>whnf
   exact W
  clear h;intro hb h;conv=>whnf
  replace h:=Xbu.elim h;obtain ⟨x25,hy,h⟩:=h
  refine XdH.a (Xp8 hy) ?_
  conv=>whnf
  refine br.h2 h (by rfl) ?_ ?_
  ·clear h;intro hb h;conv=>whnf
   exact W
  clear h;intro hb h;conv=>whnf
  replace h:=Xbu.elim h;obtain ⟨n6,hy,h⟩:=h
  refine XdH.a (XuL hy) ?_
  conv=>whnf
  refine br.h2 h (by rfl) ?_ ?_
  ·clear h;intro hb h;conv=>whnf
   exact W
  clear h;intro hb h;conv=>whnf
  replace h:=Xbu.elim h;obtain ⟨x03,hy,h⟩:=h
  refine XdH.a (XtR hy) ?_
  conv=>whnf
  refine br.h2 h (by rfl) ?_ ?_
  ·clear h;intro hb h;conv=>whnf
   exact W
  clear h;intro hb h;conv=>whnf
  replace h:=Xbu.elim h;obtain ⟨n7,hy,h⟩:=h
  refine XdH.a (Xt1 hy) ?_
  conv=>whnf
  replace h:=Xbu.elim h;obtain ⟨x04,hy,h⟩:=h
  refine XdH.a (Xul hy) ?_
  conv=>whnf
  refine br.h2 h (by rfl) ?_ ?_
  ·clear h;intro hb h;conv=>whnf
   exact W
  clear h;intro hb h;conv=>whnf
  replace h:=Xbu.elim h;obtain ⟨n8,hy,h⟩:=h
  refine XdH.a (XuD hy) ?_
  conv=>whnf
  refine br.h2 h (by rfl) ?_ ?_
  ·clear h;intro hb h;conv=>whnf
   exact W
  clear h;intro hb h;conv=>whnf
  replace h:=Xbu.elim h;obtain ⟨x05,hy,h⟩:=h
  refine XdH.a (Xog hy) ?_
  conv=>whnf
  refine br.h2 h (by rfl) ?_ ?_
  ·clear h;intro hb h;conv=>whnf
   have hl:=XyO Xao Xad Xab Xaf Xae Xac hS h rfl;simp only [Xr2] at hl
   exact lrA1 hl [(10,10)] rfl
  clear h;intro hb h;conv=>whnf
  replace h:=Xbu.elim h;obtain ⟨n9,hy,h⟩:=h
  cases n9
  case nil=>
   refine XdH.a (Xfa hy) ?_
   conv=>whnf
   exact W
  all_goals cases h
 all_goals cases h
def Xam:XaS:=Xkt Xao Xad Xab Xaf Xae Xac
theorem lift9:XeG Try.prog 9 (s9 Xam):=by
 have hL:=XIf Xao Xad Xab Xaf Xae Xac (XaF.Xba ⟨XJf,XJd,XiL,XIU,XG6,Xlu,trivial⟩)
 exact okA ⟨Try.f9,rfl,by decide,rfl⟩
end Go.Vm.Code
namespace Go.Vm.Code
open Go Go.Vm
theorem XHQ (l:List Xay):Xa0 l=some (decide (l.length≤30)&&(l.take 30).all fun e=>decide (e.Text.length≤20)):=by
 unfold Xa0 Xll
 refine XAq l (fun e=>e.Text.length) 30 20 (by decide) _ fun i=>?_
 show XiB l (i:Int)=_
 unfold XiB
 split
 ·rename_i h
  rw [Xbd (by omega)]
  split
  ·rename_i h2
   rw [Xbd (by omega),XaH (by omega),Int.toNat_natCast,List.getElem?_eq_getElem h,Option.bind_some]
   split
   ·rename_i h3;rw [Xbd (by omega)]
   ·rename_i h3;rw [Xa7 (by omega),XfG (by omega) (by omega)];rfl
  ·rename_i h2;rw [Xa7 (by omega)];congr 3;exact propext (by omega)
 ·rename_i h;rw [Xa7 (by omega)];congr 3;exact propext (by omega)
theorem Xt3 {l:List Xay} (h:(decide (l.length≤30)&&(l.take 30).all fun e=>decide (e.Text.length≤20))=true):l.length≤30∧∀ e∈l,e.Text.length≤20:=by
 rw [Bool.and_eq_true,decide_eq_true_eq,List.all_eq_true] at h
 refine ⟨h.1,fun e he=>?_⟩
 rw [List.take_of_length_le h.1] at h
 exact of_decide_eq_true (h.2 e he)
theorem XdN:Xam=some true:=by decide +kernel
end Go.Vm.Code
