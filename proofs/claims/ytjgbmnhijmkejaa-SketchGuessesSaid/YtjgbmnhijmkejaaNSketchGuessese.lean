import Derived.Test.YtjgbmnhijmkejaaNSketchGuessesd
namespace Go.Vm.Code
open Go Go.Vm Go.Proofs
set_option maxRecDepth 100000
set_option maxHeartbeats 4000000
set_option linter.unusedVariables false
def Xgr (s:Xaz) (oa1:Xaz):Option (Sum Unit (Bool×Xaz)):=
 let t:=if (wI .i64 (s.total+oa1.total))<1099511627776 then wI .i64 (s.total+oa1.total) else 1099511627776
 some (.inr ((true,Xaz.mk s.key Xbi.mk t)))
def Xht (Xac:Xaq) (s:Xaz) (oa1:Xaz):Option (Bool×Xaz):=
 (Xac.v00 (Xaz.mk s.key Xbi.mk s.total) (Xaz.mk oa1.key Xbi.mk oa1.total)).bind fun x0=>
 cond (!x0)
  (
  some ((false,Xaz.mk s.key Xbi.mk s.total)))
  (
  iter (fun _=>Xgr s oa1) FUEL ())
def Xts (x:Bool×Xaz):Xdu:=⟨.bool x.1,[],[some [.int .u64 x.2.key.A,.int .u64 x.2.key.B,.slice none 0 0,.int .i64 x.2.total],none,none,none,none,none,none,none,none,none,none,none,none,none,none,none,none,none,none,none]⟩
abbrev Xgu:=Xaz→Xaz→Option (Bool×Xaz)
def XIK (g:Xgu):Dec:=dTr 10 (XcF 0) fun (y0:Xaz)=>dTr 10 (XcF 10) fun (y1:Xaz)=>XeC (ofG (g y0 y1) Xts)
abbrev Xqz (Xac:Xaq):List (Nat×XcS):=[(42,s42 Xac)]
def Xr6 (s:Xaz) (oa1:Xaz):VM:=
 ⟨⟨14,51,[(0,.pointer (some ⟨0,0,none⟩)),(1,.pointer (some ⟨10,0,none⟩)),(16,.slice none 0 0),(17,.int .i64 0),(18,.int .i64 0)],[.code Xdw,.inLoop Xdw,.inBlock 0,.code XdF],[],false,none⟩,[],[(0,.cells [.int .u64 s.key.A,.int .u64 s.key.B,.slice none 0 0,.int .i64 s.total]),(10,.row false [.int .u64 oa1.key.A,.int .u64 oa1.key.B,.slice none 0 0,.int .i64 oa1.total])],20⟩
theorem XrO (Xac:Xaq) (hS:XaF Try.prog (XaP (Xqz Xac))) {s:Xaz} {oa1:Xaz} {res:Bool×Xaz}:∀ {fuel} {st:Unit} {o:Bool×Xaz},iter (fun _=>Xgr s oa1) fuel st=some o→(o=res) →
 XaU Try.prog 14 20 (Xr6 s oa1 ) (fun v H _=>Res 20 (Xts res) v H):=by
 apply XaO
 intro st o h hc
 try dsimp -zeta only at h ⊢
 unfold Xgr at h
 have J:=js []
 refine Xa4 XaM hS true 3000 ?_
 conv=>whnf
 exact W
theorem XvI (Xac:Xaq) (hS:XaF Try.prog (XaP (Xqz Xac))) (s:Xaz) (oa1:Xaz) (res:Bool×Xaz) (h:Xht Xac s oa1=some res) :
 XaU Try.prog 14 20 ⟨⟨14,51,[(0,.pointer (some ⟨0,0,none⟩)),(1,.pointer (some ⟨10,0,none⟩))],[.code Xlr],[],false,none⟩,[],[(0,.cells [.int .u64 s.key.A,.int .u64 s.key.B,.slice none 0 0,.int .i64 s.total]),(10,.row false [.int .u64 oa1.key.A,.int .u64 oa1.key.B,.slice none 0 0,.int .i64 oa1.total])],20⟩ (fun v H _=>Res 20 (Xts res) v H):=by
 unfold Xht at h
 have R1:=@Xn8 Xac
 have J:=js []
 have LP:=@XrO Xac hS;have LQ:=lm XcT
 refine Xa4 XaM hS true 3000 ?_
 conv=>whnf
 exact W
def Xdj (s:XaA) (oa1:XaA) (t25:Int) (c:List Int):Option (Sum (Int×(List Int)) (Bool×XaA)):=
 cond (decide (t25<(oa1.rows.m0:Int)))
  (
  XaQ (decide ((0:Int)≤t25∧t25<(oa1.rows.m0:Int))) <|
  (oa1.rows.e0[t25.toNat]?).bind fun (e:Int)=>
  XaQ (decide ((0:Int)≤t25∧t25<(s.rows.m0:Int))) <|
  (c[t25.toNat]?).bind fun (e1:Int)=>
  let t:=if (wI .i64 (e1+e))<1099511627776 then wI .i64 (e1+e) else 1099511627776
  XaQ (decide (t25.toNat<c.length)) <|
  let row:=c.set t25.toNat t
  some (.inl (wI .i64 (t25+1),row)))
  (
  let t1:=if (wI .i64 (s.total+oa1.total))<1099511627776 then wI .i64 (s.total+oa1.total) else 1099511627776
  some (.inr ((true,XaA.mk s.key (Xd4.mk c s.rows.m0) t1))))
def Xd9 (Xac:Xaq) (s:XaA) (oa1:XaA):Option (Bool×XaA):=
 (Xac.v11 s oa1).bind fun x1=>
 cond (!x1)
  (
  some ((false,s)))
  (
  iter (fun st=>Xdj s oa1 st.1 st.2) FUEL (0,s.rows.e0))
def Xpr (x:Bool×XaA):Xdu:=⟨.bool x.1,[(vI .i64 x.2.rows.e0)],[some [.int .u64 x.2.key.A,.int .u64 x.2.key.B,.slice (some ⟨2,0,none⟩) 1 1,.int .i64 x.2.total],some [.slice (some ⟨0,0,none⟩) x.2.rows.m0 1],none,none,none,none,none,none,none,none,none,none,none,none,none,none,none,none,none,none]⟩
abbrev Xgk:=XaA→XaA→Option (Bool×XaA)
def XIa (g:Xgk):Dec:=dTr 10 (XbE 0) fun (y0:XaA)=>dTr 10 (XbE 10) fun (y1:XaA)=>XeC (ofG (g y0 y1) Xpr)
abbrev XqE (Xac:Xaq):List (Nat×XcS):=[(42,s42 Xac)]
def Xsr (s:XaA) (oa1:XaA) (t25:Int) (c:List Int):VM:=
 ⟨⟨14,51,[(0,.pointer (some ⟨0,0,none⟩)),(1,.pointer (some ⟨10,0,none⟩)),(5,.int .i64 0),(16,.slice (some ⟨11,0,none⟩) 1 1),(17,.int .i64 1),(18,.int .i64 0),(23,.slice (some ⟨12,0,none⟩) oa1.rows.m0 1),(24,.int .i64 (oa1.rows.m0:Int)),(25,.int .i64 t25)],[.code Xbq,.inLoop Xbq,.inBlock 2,.inBlock 1,.code XdU,.inLoop Xdw,.inBlock 0,.code XdF],[],false,none⟩,[],[(0,.cells [.int .u64 s.key.A,.int .u64 s.key.B,.slice (some ⟨1,0,none⟩) 1 1,.int .i64 s.total]),(1,.cells [.slice (some ⟨2,0,none⟩) s.rows.m0 1]),(2,.row true (vI .i64 c)),(10,.row false [.int .u64 oa1.key.A,.int .u64 oa1.key.B,.slice (some ⟨11,0,none⟩) 1 1,.int .i64 oa1.total]),(11,.row false [.slice (some ⟨12,0,none⟩) oa1.rows.m0 1]),(12,.row false (vI .i64 oa1.rows.e0))],20⟩
theorem XsK (Xac:Xaq) (hS:XaF Try.prog (XaP (XqE Xac))) {s:XaA} {oa1:XaA} {res:Bool×XaA}:∀ {fuel} {st:Int×(List Int)} {o:Bool×XaA},iter (fun st=>Xdj s oa1 st.1 st.2) fuel st=some o→(o=res) →
 XaU Try.prog 14 20 (Xsr s oa1 st.1 st.2) (fun v H _=>Res 20 (Xpr res) v H):=by
 apply XaO
 intro st o h hc
 obtain ⟨t25,c⟩:=st
 try dsimp -zeta only at h ⊢
 unfold Xdj at h
 have J:=js [2]
 have LM:=lm XcT
 refine Xa4 XaM hS true 3000 ?_
 conv=>whnf
 exact W
theorem XvS (Xac:Xaq) (hS:XaF Try.prog (XaP (XqE Xac))) (s:XaA) (oa1:XaA) (res:Bool×XaA) (h:Xd9 Xac s oa1=some res) :
 XaU Try.prog 14 20 ⟨⟨14,51,[(0,.pointer (some ⟨0,0,none⟩)),(1,.pointer (some ⟨10,0,none⟩))],[.code Xlr],[],false,none⟩,[],[(0,.cells [.int .u64 s.key.A,.int .u64 s.key.B,.slice (some ⟨1,0,none⟩) 1 1,.int .i64 s.total]),(1,.cells [.slice (some ⟨2,0,none⟩) s.rows.m0 1]),(2,.row true (vI .i64 s.rows.e0)),(10,.row false [.int .u64 oa1.key.A,.int .u64 oa1.key.B,.slice (some ⟨11,0,none⟩) 1 1,.int .i64 oa1.total]),(11,.row false [.slice (some ⟨12,0,none⟩) oa1.rows.m0 1]),(12,.row false (vI .i64 oa1.rows.e0))],20⟩ (fun v H _=>Res 20 (Xpr res) v H):=by
 unfold Xd9 at h
 have R1:=@XwY Xac
 have J:=js [2]
 have LP:=@XsK Xac hS;have LQ:=lm XcT
 refine Xa4 XaM hS true 3000 ?_
 conv=>whnf
 exact W
def Xcs (s:Xax) (oa1:Xax) (c:List Int) (t251:Int) (c1:List Int):Option (Sum (Int×(List Int)) (Bool×Xax)):=
 cond (decide (t251<(oa1.rows.m1:Int)))
  (
  XaQ (decide ((0:Int)≤t251∧t251<(oa1.rows.m1:Int))) <|
  (oa1.rows.e1[t251.toNat]?).bind fun (e2:Int)=>
  XaQ (decide ((0:Int)≤t251∧t251<(s.rows.m1:Int))) <|
  (c1[t251.toNat]?).bind fun (e3:Int)=>
  let t1:=if (wI .i64 (e3+e2))<1099511627776 then wI .i64 (e3+e2) else 1099511627776
  XaQ (decide (t251.toNat<c1.length)) <|
  let row1:=c1.set t251.toNat t1
  some (.inl (wI .i64 (t251+1),row1)))
  (
  let t2:=if (wI .i64 (s.total+oa1.total))<1099511627776 then wI .i64 (s.total+oa1.total) else 1099511627776
  some (.inr ((true,Xax.mk s.key (XdA.mk c c1 s.rows.m0 s.rows.m1) t2))))
def Xda (s:Xax) (oa1:Xax) (t25:Int) (c:List Int):Option (Sum (Int×(List Int)) (Bool×Xax)):=
 cond (decide (t25<(oa1.rows.m0:Int)))
  (
  XaQ (decide ((0:Int)≤t25∧t25<(oa1.rows.m0:Int))) <|
  (oa1.rows.e0[t25.toNat]?).bind fun (e:Int)=>
  XaQ (decide ((0:Int)≤t25∧t25<(s.rows.m0:Int))) <|
  (c[t25.toNat]?).bind fun (e1:Int)=>
  let t:=if (wI .i64 (e1+e))<1099511627776 then wI .i64 (e1+e) else 1099511627776
  XaQ (decide (t25.toNat<c.length)) <|
  let row:=c.set t25.toNat t
  some (.inl (wI .i64 (t25+1),row)))
  (
  (iter (fun st=>Xcs s oa1 c st.1 st.2) FUEL (0,s.rows.e1)).bind fun o=>some (.inr (o)))
def Xeb (Xac:Xaq) (s:Xax) (oa1:Xax):Option (Bool×Xax):=
 (Xac.v22 s oa1).bind fun x2=>
 cond (!x2)
  (
  some ((false,s)))
  (
  iter (fun st=>Xda s oa1 st.1 st.2) FUEL (0,s.rows.e0))
def XnY (x:Bool×Xax):Xdu:=⟨.bool x.1,[(vI .i64 x.2.rows.e0),(vI .i64 x.2.rows.e1)],[some [.int .u64 x.2.key.A,.int .u64 x.2.key.B,.slice (some ⟨3,0,none⟩) 2 1,.int .i64 x.2.total],some [.slice (some ⟨0,0,none⟩) x.2.rows.m0 1,.slice (some ⟨1,0,none⟩) x.2.rows.m1 1],none,none,none,none,none,none,none,none,none,none,none,none,none,none,none,none,none,none]⟩
abbrev Xgt:=Xax→Xax→Option (Bool×Xax)
def XIr (g:Xgt):Dec:=dTr 10 (XbL 0) fun (y0:Xax)=>dTr 10 (XbL 10) fun (y1:Xax)=>XeC (ofG (g y0 y1) XnY)
abbrev Xou (Xac:Xaq):List (Nat×XcS):=[(42,s42 Xac)]
def Xs7 (s:Xax) (oa1:Xax) (c:List Int) (t251:Int) (c1:List Int):VM:=
 ⟨⟨14,51,[(0,.pointer (some ⟨0,0,none⟩)),(1,.pointer (some ⟨10,0,none⟩)),(5,.int .i64 1),(16,.slice (some ⟨11,0,none⟩) 2 1),(17,.int .i64 2),(18,.int .i64 1),(23,.slice (some ⟨13,0,none⟩) oa1.rows.m1 1),(24,.int .i64 (oa1.rows.m1:Int)),(25,.int .i64 t251)],[.code Xbq,.inLoop Xbq,.inBlock 2,.inBlock 1,.code XdU,.inLoop Xdw,.inBlock 0,.code XdF],[],false,none⟩,[],[(0,.cells [.int .u64 s.key.A,.int .u64 s.key.B,.slice (some ⟨1,0,none⟩) 2 1,.int .i64 s.total]),(1,.cells [.slice (some ⟨2,0,none⟩) s.rows.m0 1,.slice (some ⟨3,0,none⟩) s.rows.m1 1]),(2,.row true (vI .i64 c)),(3,.row true (vI .i64 c1)),(10,.row false [.int .u64 oa1.key.A,.int .u64 oa1.key.B,.slice (some ⟨11,0,none⟩) 2 1,.int .i64 oa1.total]),(11,.row false [.slice (some ⟨12,0,none⟩) oa1.rows.m0 1,.slice (some ⟨13,0,none⟩) oa1.rows.m1 1]),(12,.row false (vI .i64 oa1.rows.e0)),(13,.row false (vI .i64 oa1.rows.e1))],20⟩
def XsJ (s:Xax) (oa1:Xax) (t25:Int) (c:List Int):VM:=
 ⟨⟨14,51,[(0,.pointer (some ⟨0,0,none⟩)),(1,.pointer (some ⟨10,0,none⟩)),(5,.int .i64 0),(16,.slice (some ⟨11,0,none⟩) 2 1),(17,.int .i64 2),(18,.int .i64 0),(23,.slice (some ⟨12,0,none⟩) oa1.rows.m0 1),(24,.int .i64 (oa1.rows.m0:Int)),(25,.int .i64 t25)],[.code Xbq,.inLoop Xbq,.inBlock 2,.inBlock 1,.code XdU,.inLoop Xdw,.inBlock 0,.code XdF],[],false,none⟩,[],[(0,.cells [.int .u64 s.key.A,.int .u64 s.key.B,.slice (some ⟨1,0,none⟩) 2 1,.int .i64 s.total]),(1,.cells [.slice (some ⟨2,0,none⟩) s.rows.m0 1,.slice (some ⟨3,0,none⟩) s.rows.m1 1]),(2,.row true (vI .i64 c)),(3,.row true (vI .i64 s.rows.e1)),(10,.row false [.int .u64 oa1.key.A,.int .u64 oa1.key.B,.slice (some ⟨11,0,none⟩) 2 1,.int .i64 oa1.total]),(11,.row false [.slice (some ⟨12,0,none⟩) oa1.rows.m0 1,.slice (some ⟨13,0,none⟩) oa1.rows.m1 1]),(12,.row false (vI .i64 oa1.rows.e0)),(13,.row false (vI .i64 oa1.rows.e1))],20⟩
theorem Xsj (Xac:Xaq) (hS:XaF Try.prog (XaP (Xou Xac))) {s:Xax} {oa1:Xax} {c:List Int} {res:Bool×Xax}:∀ {fuel} {st:Int×(List Int)} {o:Bool×Xax},iter (fun st=>Xcs s oa1 c st.1 st.2) fuel st=some o→(o=res) →
 XaU Try.prog 14 20 (Xs7 s oa1 c st.1 st.2) (fun v H _=>Res 20 (XnY res) v H):=by
 apply XaO
 intro st o h hc
 obtain ⟨t251,c1⟩:=st
 try dsimp -zeta only at h ⊢
 unfold Xcs at h
 have J:=js [2,3]
 have LM:=lm XcT
 refine Xa4 XaM hS true 3000 ?_
 conv=>whnf
 exact W
theorem Xsx (Xac:Xaq) (hS:XaF Try.prog (XaP (Xou Xac))) {s:Xax} {oa1:Xax} {res:Bool×Xax}:∀ {fuel} {st:Int×(List Int)} {o:Bool×Xax},iter (fun st=>Xda s oa1 st.1 st.2) fuel st=some o→(o=res) →
 XaU Try.prog 14 20 (XsJ s oa1 st.1 st.2) (fun v H _=>Res 20 (XnY res) v H):=by
 apply XaO
 intro st o h hc
 obtain ⟨t25,c⟩:=st
 try dsimp -zeta only at h ⊢
 unfold Xda at h
 have J:=js [2,3]
 have LM:=lm XcT
 have LP:=@Xsj Xac hS;have LQ:=lm XcT
 refine Xa4 XaM hS true 3000 ?_
 conv=>whnf
 exact W
theorem Xu6 (Xac:Xaq) (hS:XaF Try.prog (XaP (Xou Xac))) (s:Xax) (oa1:Xax) (res:Bool×Xax) (h:Xeb Xac s oa1=some res) :
 XaU Try.prog 14 20 ⟨⟨14,51,[(0,.pointer (some ⟨0,0,none⟩)),(1,.pointer (some ⟨10,0,none⟩))],[.code Xlr],[],false,none⟩,[],[(0,.cells [.int .u64 s.key.A,.int .u64 s.key.B,.slice (some ⟨1,0,none⟩) 2 1,.int .i64 s.total]),(1,.cells [.slice (some ⟨2,0,none⟩) s.rows.m0 1,.slice (some ⟨3,0,none⟩) s.rows.m1 1]),(2,.row true (vI .i64 s.rows.e0)),(3,.row true (vI .i64 s.rows.e1)),(10,.row false [.int .u64 oa1.key.A,.int .u64 oa1.key.B,.slice (some ⟨11,0,none⟩) 2 1,.int .i64 oa1.total]),(11,.row false [.slice (some ⟨12,0,none⟩) oa1.rows.m0 1,.slice (some ⟨13,0,none⟩) oa1.rows.m1 1]),(12,.row false (vI .i64 oa1.rows.e0)),(13,.row false (vI .i64 oa1.rows.e1))],20⟩ (fun v H _=>Res 20 (XnY res) v H):=by
 unfold Xeb at h
 have R1:=@Xxk Xac
 have J:=js [2,3]
 have LP:=@Xsx Xac hS;have LQ:=lm XcT
 refine Xa4 XaM hS true 3000 ?_
 conv=>whnf
 exact W
def XcD (s:Xav) (oa1:Xav) (c:List Int) (c1:List Int) (t252:Int) (c2:List Int):Option (Sum (Int×(List Int)) (Bool×Xav)):=
 cond (decide (t252<(oa1.rows.m2:Int)))
  (
  XaQ (decide ((0:Int)≤t252∧t252<(oa1.rows.m2:Int))) <|
  (oa1.rows.e2[t252.toNat]?).bind fun (e4:Int)=>
  XaQ (decide ((0:Int)≤t252∧t252<(s.rows.m2:Int))) <|
  (c2[t252.toNat]?).bind fun (e5:Int)=>
  let t2:=if (wI .i64 (e5+e4))<1099511627776 then wI .i64 (e5+e4) else 1099511627776
  XaQ (decide (t252.toNat<c2.length)) <|
  let row2:=c2.set t252.toNat t2
  some (.inl (wI .i64 (t252+1),row2)))
  (
  let t3:=if (wI .i64 (s.total+oa1.total))<1099511627776 then wI .i64 (s.total+oa1.total) else 1099511627776
  some (.inr ((true,Xav.mk s.key (Xdr.mk c c1 c2 s.rows.m0 s.rows.m1 s.rows.m2) t3))))
def Xcd (s:Xav) (oa1:Xav) (c:List Int) (t251:Int) (c1:List Int):Option (Sum (Int×(List Int)) (Bool×Xav)):=
 cond (decide (t251<(oa1.rows.m1:Int)))
  (
  XaQ (decide ((0:Int)≤t251∧t251<(oa1.rows.m1:Int))) <|
  (oa1.rows.e1[t251.toNat]?).bind fun (e2:Int)=>
  XaQ (decide ((0:Int)≤t251∧t251<(s.rows.m1:Int))) <|
  (c1[t251.toNat]?).bind fun (e3:Int)=>
  let t1:=if (wI .i64 (e3+e2))<1099511627776 then wI .i64 (e3+e2) else 1099511627776
  XaQ (decide (t251.toNat<c1.length)) <|
  let row1:=c1.set t251.toNat t1
  some (.inl (wI .i64 (t251+1),row1)))
  (
  (iter (fun st=>XcD s oa1 c c1 st.1 st.2) FUEL (0,s.rows.e2)).bind fun o=>some (.inr (o)))
def Xdi (s:Xav) (oa1:Xav) (t25:Int) (c:List Int):Option (Sum (Int×(List Int)) (Bool×Xav)):=
 cond (decide (t25<(oa1.rows.m0:Int)))
  (
  XaQ (decide ((0:Int)≤t25∧t25<(oa1.rows.m0:Int))) <|
  (oa1.rows.e0[t25.toNat]?).bind fun (e:Int)=>
  XaQ (decide ((0:Int)≤t25∧t25<(s.rows.m0:Int))) <|
  (c[t25.toNat]?).bind fun (e1:Int)=>
  let t:=if (wI .i64 (e1+e))<1099511627776 then wI .i64 (e1+e) else 1099511627776
  XaQ (decide (t25.toNat<c.length)) <|
  let row:=c.set t25.toNat t
  some (.inl (wI .i64 (t25+1),row)))
  (
  (iter (fun st=>Xcd s oa1 c st.1 st.2) FUEL (0,s.rows.e1)).bind fun o=>some (.inr (o)))
def Xd7 (Xac:Xaq) (s:Xav) (oa1:Xav):Option (Bool×Xav):=
 (Xac.v33 s oa1).bind fun x3=>
 cond (!x3)
  (
  some ((false,s)))
  (
  iter (fun st=>Xdi s oa1 st.1 st.2) FUEL (0,s.rows.e0))
def Xm2 (x:Bool×Xav):Xdu:=⟨.bool x.1,[(vI .i64 x.2.rows.e0),(vI .i64 x.2.rows.e1),(vI .i64 x.2.rows.e2)],[some [.int .u64 x.2.key.A,.int .u64 x.2.key.B,.slice (some ⟨4,0,none⟩) 3 1,.int .i64 x.2.total],some [.slice (some ⟨0,0,none⟩) x.2.rows.m0 1,.slice (some ⟨1,0,none⟩) x.2.rows.m1 1,.slice (some ⟨2,0,none⟩) x.2.rows.m2 1],none,none,none,none,none,none,none,none,none,none,none,none,none,none,none,none,none,none]⟩
abbrev Xgm:=Xav→Xav→Option (Bool×Xav)
def XHB (g:Xgm):Dec:=dTr 10 (XbM 0) fun (y0:Xav)=>dTr 10 (XbM 10) fun (y1:Xav)=>XeC (ofG (g y0 y1) Xm2)
abbrev Xmm (Xac:Xaq):List (Nat×XcS):=[(42,s42 Xac)]
def XsE (s:Xav) (oa1:Xav) (c:List Int) (c1:List Int) (t252:Int) (c2:List Int):VM:=
 ⟨⟨14,51,[(0,.pointer (some ⟨0,0,none⟩)),(1,.pointer (some ⟨10,0,none⟩)),(5,.int .i64 2),(16,.slice (some ⟨11,0,none⟩) 3 1),(17,.int .i64 3),(18,.int .i64 2),(23,.slice (some ⟨14,0,none⟩) oa1.rows.m2 1),(24,.int .i64 (oa1.rows.m2:Int)),(25,.int .i64 t252)],[.code Xbq,.inLoop Xbq,.inBlock 2,.inBlock 1,.code XdU,.inLoop Xdw,.inBlock 0,.code XdF],[],false,none⟩,[],[(0,.cells [.int .u64 s.key.A,.int .u64 s.key.B,.slice (some ⟨1,0,none⟩) 3 1,.int .i64 s.total]),(1,.cells [.slice (some ⟨2,0,none⟩) s.rows.m0 1,.slice (some ⟨3,0,none⟩) s.rows.m1 1,.slice (some ⟨4,0,none⟩) s.rows.m2 1]),(2,.row true (vI .i64 c)),(3,.row true (vI .i64 c1)),(4,.row true (vI .i64 c2)),(10,.row false [.int .u64 oa1.key.A,.int .u64 oa1.key.B,.slice (some ⟨11,0,none⟩) 3 1,.int .i64 oa1.total]),(11,.row false [.slice (some ⟨12,0,none⟩) oa1.rows.m0 1,.slice (some ⟨13,0,none⟩) oa1.rows.m1 1,.slice (some ⟨14,0,none⟩) oa1.rows.m2 1]),(12,.row false (vI .i64 oa1.rows.e0)),(13,.row false (vI .i64 oa1.rows.e1)),(14,.row false (vI .i64 oa1.rows.e2))],20⟩
def Xtc (s:Xav) (oa1:Xav) (c:List Int) (t251:Int) (c1:List Int):VM:=
 ⟨⟨14,51,[(0,.pointer (some ⟨0,0,none⟩)),(1,.pointer (some ⟨10,0,none⟩)),(5,.int .i64 1),(16,.slice (some ⟨11,0,none⟩) 3 1),(17,.int .i64 3),(18,.int .i64 1),(23,.slice (some ⟨13,0,none⟩) oa1.rows.m1 1),(24,.int .i64 (oa1.rows.m1:Int)),(25,.int .i64 t251)],[.code Xbq,.inLoop Xbq,.inBlock 2,.inBlock 1,.code XdU,.inLoop Xdw,.inBlock 0,.code XdF],[],false,none⟩,[],[(0,.cells [.int .u64 s.key.A,.int .u64 s.key.B,.slice (some ⟨1,0,none⟩) 3 1,.int .i64 s.total]),(1,.cells [.slice (some ⟨2,0,none⟩) s.rows.m0 1,.slice (some ⟨3,0,none⟩) s.rows.m1 1,.slice (some ⟨4,0,none⟩) s.rows.m2 1]),(2,.row true (vI .i64 c)),(3,.row true (vI .i64 c1)),(4,.row true (vI .i64 s.rows.e2)),(10,.row false [.int .u64 oa1.key.A,.int .u64 oa1.key.B,.slice (some ⟨11,0,none⟩) 3 1,.int .i64 oa1.total]),(11,.row false [.slice (some ⟨12,0,none⟩) oa1.rows.m0 1,.slice (some ⟨13,0,none⟩) oa1.rows.m1 1,.slice (some ⟨14,0,none⟩) oa1.rows.m2 1]),(12,.row false (vI .i64 oa1.rows.e0)),(13,.row false (vI .i64 oa1.rows.e1)),(14,.row false (vI .i64 oa1.rows.e2))],20⟩
def Xrw (s:Xav) (oa1:Xav) (t25:Int) (c:List Int):VM:=
 ⟨⟨14,51,[(0,.pointer (some ⟨0,0,none⟩)),(1,.pointer (some ⟨10,0,none⟩)),(5,.int .i64 0),(16,.slice (some ⟨11,0,none⟩) 3 1),(17,.int .i64 3),(18,.int .i64 0),(23,.slice (some ⟨12,0,none⟩) oa1.rows.m0 1),(24,.int .i64 (oa1.rows.m0:Int)),(25,.int .i64 t25)],[.code Xbq,.inLoop Xbq,.inBlock 2,.inBlock 1,.code XdU,.inLoop Xdw,.inBlock 0,.code XdF],[],false,none⟩,[],[(0,.cells [.int .u64 s.key.A,.int .u64 s.key.B,.slice (some ⟨1,0,none⟩) 3 1,.int .i64 s.total]),(1,.cells [.slice (some ⟨2,0,none⟩) s.rows.m0 1,.slice (some ⟨3,0,none⟩) s.rows.m1 1,.slice (some ⟨4,0,none⟩) s.rows.m2 1]),(2,.row true (vI .i64 c)),(3,.row true (vI .i64 s.rows.e1)),(4,.row true (vI .i64 s.rows.e2)),(10,.row false [.int .u64 oa1.key.A,.int .u64 oa1.key.B,.slice (some ⟨11,0,none⟩) 3 1,.int .i64 oa1.total]),(11,.row false [.slice (some ⟨12,0,none⟩) oa1.rows.m0 1,.slice (some ⟨13,0,none⟩) oa1.rows.m1 1,.slice (some ⟨14,0,none⟩) oa1.rows.m2 1]),(12,.row false (vI .i64 oa1.rows.e0)),(13,.row false (vI .i64 oa1.rows.e1)),(14,.row false (vI .i64 oa1.rows.e2))],20⟩
theorem Xry (Xac:Xaq) (hS:XaF Try.prog (XaP (Xmm Xac))) {s:Xav} {oa1:Xav} {c:List Int} {c1:List Int} {res:Bool×Xav}:∀ {fuel} {st:Int×(List Int)} {o:Bool×Xav},iter (fun st=>XcD s oa1 c c1 st.1 st.2) fuel st=some o→(o=res) →
 XaU Try.prog 14 20 (XsE s oa1 c c1 st.1 st.2) (fun v H _=>Res 20 (Xm2 res) v H):=by
 apply XaO
 intro st o h hc
 obtain ⟨t252,c2⟩:=st
 try dsimp -zeta only at h ⊢
 unfold XcD at h
 have J:=js [2,3,4]
 have LM:=lm XcT
 refine Xa4 XaM hS true 3000 ?_
 conv=>whnf
 exact W
theorem Xti (Xac:Xaq) (hS:XaF Try.prog (XaP (Xmm Xac))) {s:Xav} {oa1:Xav} {c:List Int} {res:Bool×Xav}:∀ {fuel} {st:Int×(List Int)} {o:Bool×Xav},iter (fun st=>Xcd s oa1 c st.1 st.2) fuel st=some o→(o=res) →
 XaU Try.prog 14 20 (Xtc s oa1 c st.1 st.2) (fun v H _=>Res 20 (Xm2 res) v H):=by
 apply XaO
 intro st o h hc
 obtain ⟨t251,c1⟩:=st
 try dsimp -zeta only at h ⊢
 unfold Xcd at h
 have J:=js [2,3,4]
 have LM:=lm XcT
 have LP:=@Xry Xac hS;have LQ:=lm XcT
 refine Xa4 XaM hS true 3000 ?_
 conv=>whnf
 exact W
theorem Xss (Xac:Xaq) (hS:XaF Try.prog (XaP (Xmm Xac))) {s:Xav} {oa1:Xav} {res:Bool×Xav}:∀ {fuel} {st:Int×(List Int)} {o:Bool×Xav},iter (fun st=>Xdi s oa1 st.1 st.2) fuel st=some o→(o=res) →
 XaU Try.prog 14 20 (Xrw s oa1 st.1 st.2) (fun v H _=>Res 20 (Xm2 res) v H):=by
 apply XaO
 intro st o h hc
 obtain ⟨t25,c⟩:=st
 try dsimp -zeta only at h ⊢
 unfold Xdi at h
 have J:=js [2,3,4]
 have LM:=lm XcT
 have LP:=@Xti Xac hS;have LQ:=lm XcT
 refine Xa4 XaM hS true 3000 ?_
 conv=>whnf
 exact W
theorem Xvd (Xac:Xaq) (hS:XaF Try.prog (XaP (Xmm Xac))) (s:Xav) (oa1:Xav) (res:Bool×Xav) (h:Xd7 Xac s oa1=some res) :
 XaU Try.prog 14 20 ⟨⟨14,51,[(0,.pointer (some ⟨0,0,none⟩)),(1,.pointer (some ⟨10,0,none⟩))],[.code Xlr],[],false,none⟩,[],[(0,.cells [.int .u64 s.key.A,.int .u64 s.key.B,.slice (some ⟨1,0,none⟩) 3 1,.int .i64 s.total]),(1,.cells [.slice (some ⟨2,0,none⟩) s.rows.m0 1,.slice (some ⟨3,0,none⟩) s.rows.m1 1,.slice (some ⟨4,0,none⟩) s.rows.m2 1]),(2,.row true (vI .i64 s.rows.e0)),(3,.row true (vI .i64 s.rows.e1)),(4,.row true (vI .i64 s.rows.e2)),(10,.row false [.int .u64 oa1.key.A,.int .u64 oa1.key.B,.slice (some ⟨11,0,none⟩) 3 1,.int .i64 oa1.total]),(11,.row false [.slice (some ⟨12,0,none⟩) oa1.rows.m0 1,.slice (some ⟨13,0,none⟩) oa1.rows.m1 1,.slice (some ⟨14,0,none⟩) oa1.rows.m2 1]),(12,.row false (vI .i64 oa1.rows.e0)),(13,.row false (vI .i64 oa1.rows.e1)),(14,.row false (vI .i64 oa1.rows.e2))],20⟩ (fun v H _=>Res 20 (Xm2 res) v H):=by
 unfold Xd7 at h
 have R1:=@Xxs Xac
 have J:=js [2,3,4]
 have LP:=@Xss Xac hS;have LQ:=lm XcT
 refine Xa4 XaM hS true 3000 ?_
 conv=>whnf
 exact W
def Xce (s:Xar) (oa1:Xar) (c:List Int) (c1:List Int) (c2:List Int) (t253:Int) (c3:List Int):Option (Sum (Int×(List Int)) (Bool×Xar)):=
 cond (decide (t253<(oa1.rows.m3:Int)))
  (
  XaQ (decide ((0:Int)≤t253∧t253<(oa1.rows.m3:Int))) <|
  (oa1.rows.e3[t253.toNat]?).bind fun (e6:Int)=>
  XaQ (decide ((0:Int)≤t253∧t253<(s.rows.m3:Int))) <|
  (c3[t253.toNat]?).bind fun (e7:Int)=>
  let t3:=if (wI .i64 (e7+e6))<1099511627776 then wI .i64 (e7+e6) else 1099511627776
  XaQ (decide (t253.toNat<c3.length)) <|
  let row3:=c3.set t253.toNat t3
  some (.inl (wI .i64 (t253+1),row3)))
  (
  let t4:=if (wI .i64 (s.total+oa1.total))<1099511627776 then wI .i64 (s.total+oa1.total) else 1099511627776
  some (.inr ((true,Xar.mk s.key (Xc7.mk c c1 c2 c3 s.rows.m0 s.rows.m1 s.rows.m2 s.rows.m3) t4))))
def Xcm (s:Xar) (oa1:Xar) (c:List Int) (c1:List Int) (t252:Int) (c2:List Int):Option (Sum (Int×(List Int)) (Bool×Xar)):=
 cond (decide (t252<(oa1.rows.m2:Int)))
  (
  XaQ (decide ((0:Int)≤t252∧t252<(oa1.rows.m2:Int))) <|
  (oa1.rows.e2[t252.toNat]?).bind fun (e4:Int)=>
  XaQ (decide ((0:Int)≤t252∧t252<(s.rows.m2:Int))) <|
  (c2[t252.toNat]?).bind fun (e5:Int)=>
  let t2:=if (wI .i64 (e5+e4))<1099511627776 then wI .i64 (e5+e4) else 1099511627776
  XaQ (decide (t252.toNat<c2.length)) <|
  let row2:=c2.set t252.toNat t2
  some (.inl (wI .i64 (t252+1),row2)))
  (
  (iter (fun st=>Xce s oa1 c c1 c2 st.1 st.2) FUEL (0,s.rows.e3)).bind fun o=>some (.inr (o)))
def Xcc (s:Xar) (oa1:Xar) (c:List Int) (t251:Int) (c1:List Int):Option (Sum (Int×(List Int)) (Bool×Xar)):=
 cond (decide (t251<(oa1.rows.m1:Int)))
  (
  XaQ (decide ((0:Int)≤t251∧t251<(oa1.rows.m1:Int))) <|
  (oa1.rows.e1[t251.toNat]?).bind fun (e2:Int)=>
  XaQ (decide ((0:Int)≤t251∧t251<(s.rows.m1:Int))) <|
  (c1[t251.toNat]?).bind fun (e3:Int)=>
  let t1:=if (wI .i64 (e3+e2))<1099511627776 then wI .i64 (e3+e2) else 1099511627776
  XaQ (decide (t251.toNat<c1.length)) <|
  let row1:=c1.set t251.toNat t1
  some (.inl (wI .i64 (t251+1),row1)))
  (
  (iter (fun st=>Xcm s oa1 c c1 st.1 st.2) FUEL (0,s.rows.e2)).bind fun o=>some (.inr (o)))
def Xdg (s:Xar) (oa1:Xar) (t25:Int) (c:List Int):Option (Sum (Int×(List Int)) (Bool×Xar)):=
 cond (decide (t25<(oa1.rows.m0:Int)))
  (
  XaQ (decide ((0:Int)≤t25∧t25<(oa1.rows.m0:Int))) <|
  (oa1.rows.e0[t25.toNat]?).bind fun (e:Int)=>
  XaQ (decide ((0:Int)≤t25∧t25<(s.rows.m0:Int))) <|
  (c[t25.toNat]?).bind fun (e1:Int)=>
  let t:=if (wI .i64 (e1+e))<1099511627776 then wI .i64 (e1+e) else 1099511627776
  XaQ (decide (t25.toNat<c.length)) <|
  let row:=c.set t25.toNat t
  some (.inl (wI .i64 (t25+1),row)))
  (
  (iter (fun st=>Xcc s oa1 c st.1 st.2) FUEL (0,s.rows.e1)).bind fun o=>some (.inr (o)))
def Xei (Xac:Xaq) (s:Xar) (oa1:Xar):Option (Bool×Xar):=
 (Xac.v44 s oa1).bind fun x4=>
 cond (!x4)
  (
  some ((false,s)))
  (
  iter (fun st=>Xdg s oa1 st.1 st.2) FUEL (0,s.rows.e0))
def XlG (x:Bool×Xar):Xdu:=⟨.bool x.1,[(vI .i64 x.2.rows.e0),(vI .i64 x.2.rows.e1),(vI .i64 x.2.rows.e2),(vI .i64 x.2.rows.e3)],[some [.int .u64 x.2.key.A,.int .u64 x.2.key.B,.slice (some ⟨5,0,none⟩) 4 1,.int .i64 x.2.total],some [.slice (some ⟨0,0,none⟩) x.2.rows.m0 1,.slice (some ⟨1,0,none⟩) x.2.rows.m1 1,.slice (some ⟨2,0,none⟩) x.2.rows.m2 1,.slice (some ⟨3,0,none⟩) x.2.rows.m3 1],none,none,none,none,none,none,none,none,none,none,none,none,none,none,none,none,none,none]⟩
abbrev Xgq:=Xar→Xar→Option (Bool×Xar)
def XIu (g:Xgq):Dec:=dTr 10 (XbG 0) fun (y0:Xar)=>dTr 10 (XbG 10) fun (y1:Xar)=>XeC (ofG (g y0 y1) XlG)
abbrev Xkx (Xac:Xaq):List (Nat×XcS):=[(42,s42 Xac)]
def Xs5 (s:Xar) (oa1:Xar) (c:List Int) (c1:List Int) (c2:List Int) (t253:Int) (c3:List Int):VM:=
 ⟨⟨14,51,[(0,.pointer (some ⟨0,0,none⟩)),(1,.pointer (some ⟨10,0,none⟩)),(5,.int .i64 3),(16,.slice (some ⟨11,0,none⟩) 4 1),(17,.int .i64 4),(18,.int .i64 3),(23,.slice (some ⟨15,0,none⟩) oa1.rows.m3 1),(24,.int .i64 (oa1.rows.m3:Int)),(25,.int .i64 t253)],[.code Xbq,.inLoop Xbq,.inBlock 2,.inBlock 1,.code XdU,.inLoop Xdw,.inBlock 0,.code XdF],[],false,none⟩,[],[(0,.cells [.int .u64 s.key.A,.int .u64 s.key.B,.slice (some ⟨1,0,none⟩) 4 1,.int .i64 s.total]),(1,.cells [.slice (some ⟨2,0,none⟩) s.rows.m0 1,.slice (some ⟨3,0,none⟩) s.rows.m1 1,.slice (some ⟨4,0,none⟩) s.rows.m2 1,.slice (some ⟨5,0,none⟩) s.rows.m3 1]),(2,.row true (vI .i64 c)),(3,.row true (vI .i64 c1)),(4,.row true (vI .i64 c2)),(5,.row true (vI .i64 c3)),(10,.row false [.int .u64 oa1.key.A,.int .u64 oa1.key.B,.slice (some ⟨11,0,none⟩) 4 1,.int .i64 oa1.total]),(11,.row false [.slice (some ⟨12,0,none⟩) oa1.rows.m0 1,.slice (some ⟨13,0,none⟩) oa1.rows.m1 1,.slice (some ⟨14,0,none⟩) oa1.rows.m2 1,.slice (some ⟨15,0,none⟩) oa1.rows.m3 1]),(12,.row false (vI .i64 oa1.rows.e0)),(13,.row false (vI .i64 oa1.rows.e1)),(14,.row false (vI .i64 oa1.rows.e2)),(15,.row false (vI .i64 oa1.rows.e3))],20⟩
def XsR (s:Xar) (oa1:Xar) (c:List Int) (c1:List Int) (t252:Int) (c2:List Int):VM:=
 ⟨⟨14,51,[(0,.pointer (some ⟨0,0,none⟩)),(1,.pointer (some ⟨10,0,none⟩)),(5,.int .i64 2),(16,.slice (some ⟨11,0,none⟩) 4 1),(17,.int .i64 4),(18,.int .i64 2),(23,.slice (some ⟨14,0,none⟩) oa1.rows.m2 1),(24,.int .i64 (oa1.rows.m2:Int)),(25,.int .i64 t252)],[.code Xbq,.inLoop Xbq,.inBlock 2,.inBlock 1,.code XdU,.inLoop Xdw,.inBlock 0,.code XdF],[],false,none⟩,[],[(0,.cells [.int .u64 s.key.A,.int .u64 s.key.B,.slice (some ⟨1,0,none⟩) 4 1,.int .i64 s.total]),(1,.cells [.slice (some ⟨2,0,none⟩) s.rows.m0 1,.slice (some ⟨3,0,none⟩) s.rows.m1 1,.slice (some ⟨4,0,none⟩) s.rows.m2 1,.slice (some ⟨5,0,none⟩) s.rows.m3 1]),(2,.row true (vI .i64 c)),(3,.row true (vI .i64 c1)),(4,.row true (vI .i64 c2)),(5,.row true (vI .i64 s.rows.e3)),(10,.row false [.int .u64 oa1.key.A,.int .u64 oa1.key.B,.slice (some ⟨11,0,none⟩) 4 1,.int .i64 oa1.total]),(11,.row false [.slice (some ⟨12,0,none⟩) oa1.rows.m0 1,.slice (some ⟨13,0,none⟩) oa1.rows.m1 1,.slice (some ⟨14,0,none⟩) oa1.rows.m2 1,.slice (some ⟨15,0,none⟩) oa1.rows.m3 1]),(12,.row false (vI .i64 oa1.rows.e0)),(13,.row false (vI .i64 oa1.rows.e1)),(14,.row false (vI .i64 oa1.rows.e2)),(15,.row false (vI .i64 oa1.rows.e3))],20⟩
def XsV (s:Xar) (oa1:Xar) (c:List Int) (t251:Int) (c1:List Int):VM:=
 ⟨⟨14,51,[(0,.pointer (some ⟨0,0,none⟩)),(1,.pointer (some ⟨10,0,none⟩)),(5,.int .i64 1),(16,.slice (some ⟨11,0,none⟩) 4 1),(17,.int .i64 4),(18,.int .i64 1),(23,.slice (some ⟨13,0,none⟩) oa1.rows.m1 1),(24,.int .i64 (oa1.rows.m1:Int)),(25,.int .i64 t251)],[.code Xbq,.inLoop Xbq,.inBlock 2,.inBlock 1,.code XdU,.inLoop Xdw,.inBlock 0,.code XdF],[],false,none⟩,[],[(0,.cells [.int .u64 s.key.A,.int .u64 s.key.B,.slice (some ⟨1,0,none⟩) 4 1,.int .i64 s.total]),(1,.cells [.slice (some ⟨2,0,none⟩) s.rows.m0 1,.slice (some ⟨3,0,none⟩) s.rows.m1 1,.slice (some ⟨4,0,none⟩) s.rows.m2 1,.slice (some ⟨5,0,none⟩) s.rows.m3 1]),(2,.row true (vI .i64 c)),(3,.row true (vI .i64 c1)),(4,.row true (vI .i64 s.rows.e2)),(5,.row true (vI .i64 s.rows.e3)),(10,.row false [.int .u64 oa1.key.A,.int .u64 oa1.key.B,.slice (some ⟨11,0,none⟩) 4 1,.int .i64 oa1.total]),(11,.row false [.slice (some ⟨12,0,none⟩) oa1.rows.m0 1,.slice (some ⟨13,0,none⟩) oa1.rows.m1 1,.slice (some ⟨14,0,none⟩) oa1.rows.m2 1,.slice (some ⟨15,0,none⟩) oa1.rows.m3 1]),(12,.row false (vI .i64 oa1.rows.e0)),(13,.row false (vI .i64 oa1.rows.e1)),(14,.row false (vI .i64 oa1.rows.e2)),(15,.row false (vI .i64 oa1.rows.e3))],20⟩
def Xr3 (s:Xar) (oa1:Xar) (t25:Int) (c:List Int):VM:=
 ⟨⟨14,51,[(0,.pointer (some ⟨0,0,none⟩)),(1,.pointer (some ⟨10,0,none⟩)),(5,.int .i64 0),(16,.slice (some ⟨11,0,none⟩) 4 1),(17,.int .i64 4),(18,.int .i64 0),(23,.slice (some ⟨12,0,none⟩) oa1.rows.m0 1),(24,.int .i64 (oa1.rows.m0:Int)),(25,.int .i64 t25)],[.code Xbq,.inLoop Xbq,.inBlock 2,.inBlock 1,.code XdU,.inLoop Xdw,.inBlock 0,.code XdF],[],false,none⟩,[],[(0,.cells [.int .u64 s.key.A,.int .u64 s.key.B,.slice (some ⟨1,0,none⟩) 4 1,.int .i64 s.total]),(1,.cells [.slice (some ⟨2,0,none⟩) s.rows.m0 1,.slice (some ⟨3,0,none⟩) s.rows.m1 1,.slice (some ⟨4,0,none⟩) s.rows.m2 1,.slice (some ⟨5,0,none⟩) s.rows.m3 1]),(2,.row true (vI .i64 c)),(3,.row true (vI .i64 s.rows.e1)),(4,.row true (vI .i64 s.rows.e2)),(5,.row true (vI .i64 s.rows.e3)),(10,.row false [.int .u64 oa1.key.A,.int .u64 oa1.key.B,.slice (some ⟨11,0,none⟩) 4 1,.int .i64 oa1.total]),(11,.row false [.slice (some ⟨12,0,none⟩) oa1.rows.m0 1,.slice (some ⟨13,0,none⟩) oa1.rows.m1 1,.slice (some ⟨14,0,none⟩) oa1.rows.m2 1,.slice (some ⟨15,0,none⟩) oa1.rows.m3 1]),(12,.row false (vI .i64 oa1.rows.e0)),(13,.row false (vI .i64 oa1.rows.e1)),(14,.row false (vI .i64 oa1.rows.e2)),(15,.row false (vI .i64 oa1.rows.e3))],20⟩
theorem XrR (Xac:Xaq) (hS:XaF Try.prog (XaP (Xkx Xac))) {s:Xar} {oa1:Xar} {c:List Int} {c1:List Int} {c2:List Int} {res:Bool×Xar}:∀ {fuel} {st:Int×(List Int)} {o:Bool×Xar},iter (fun st=>Xce s oa1 c c1 c2 st.1 st.2) fuel st=some o→(o=res) →
 XaU Try.prog 14 20 (Xs5 s oa1 c c1 c2 st.1 st.2) (fun v H _=>Res 20 (XlG res) v H):=by
 apply XaO
 intro st o h hc
 obtain ⟨t253,c3⟩:=st
 try dsimp -zeta only at h ⊢
 unfold Xce at h
 have J:=js [2,3,4,5]
 have LM:=lm XcT
 refine Xa4 XaM hS true 3000 ?_
 conv=>whnf
 exact W
theorem Xtl (Xac:Xaq) (hS:XaF Try.prog (XaP (Xkx Xac))) {s:Xar} {oa1:Xar} {c:List Int} {c1:List Int} {res:Bool×Xar}:∀ {fuel} {st:Int×(List Int)} {o:Bool×Xar},iter (fun st=>Xcm s oa1 c c1 st.1 st.2) fuel st=some o→(o=res) →
 XaU Try.prog 14 20 (XsR s oa1 c c1 st.1 st.2) (fun v H _=>Res 20 (XlG res) v H):=by
 apply XaO
 intro st o h hc
 obtain ⟨t252,c2⟩:=st
 try dsimp -zeta only at h ⊢
 unfold Xcm at h
 have J:=js [2,3,4,5]
 have LM:=lm XcT
 have LP:=@XrR Xac hS;have LQ:=lm XcT
 refine Xa4 XaM hS true 3000 ?_
 conv=>whnf
 exact W
theorem XrF (Xac:Xaq) (hS:XaF Try.prog (XaP (Xkx Xac))) {s:Xar} {oa1:Xar} {c:List Int} {res:Bool×Xar}:∀ {fuel} {st:Int×(List Int)} {o:Bool×Xar},iter (fun st=>Xcc s oa1 c st.1 st.2) fuel st=some o→(o=res) →
 XaU Try.prog 14 20 (XsV s oa1 c st.1 st.2) (fun v H _=>Res 20 (XlG res) v H):=by
 apply XaO
 intro st o h hc
 obtain ⟨t251,c1⟩:=st
 try dsimp -zeta only at h ⊢
 unfold Xcc at h
 have J:=js [2,3,4,5]
 have LM:=lm XcT
 have LP:=@Xtl Xac hS;have LQ:=lm XcT
 refine Xa4 XaM hS true 3000 ?_
 conv=>whnf
 exact W
theorem Xtr (Xac:Xaq) (hS:XaF Try.prog (XaP (Xkx Xac))) {s:Xar} {oa1:Xar} {res:Bool×Xar}:∀ {fuel} {st:Int×(List Int)} {o:Bool×Xar},iter (fun st=>Xdg s oa1 st.1 st.2) fuel st=some o→(o=res) →
 XaU Try.prog 14 20 (Xr3 s oa1 st.1 st.2) (fun v H _=>Res 20 (XlG res) v H):=by
 apply XaO
 intro st o h hc
 obtain ⟨t25,c⟩:=st
 try dsimp -zeta only at h ⊢
 unfold Xdg at h
 have J:=js [2,3,4,5]
 have LM:=lm XcT
 have LP:=@XrF Xac hS;have LQ:=lm XcT
 refine Xa4 XaM hS true 3000 ?_
 conv=>whnf
 exact W
theorem XvF (Xac:Xaq) (hS:XaF Try.prog (XaP (Xkx Xac))) (s:Xar) (oa1:Xar) (res:Bool×Xar) (h:Xei Xac s oa1=some res) :
 XaU Try.prog 14 20 ⟨⟨14,51,[(0,.pointer (some ⟨0,0,none⟩)),(1,.pointer (some ⟨10,0,none⟩))],[.code Xlr],[],false,none⟩,[],[(0,.cells [.int .u64 s.key.A,.int .u64 s.key.B,.slice (some ⟨1,0,none⟩) 4 1,.int .i64 s.total]),(1,.cells [.slice (some ⟨2,0,none⟩) s.rows.m0 1,.slice (some ⟨3,0,none⟩) s.rows.m1 1,.slice (some ⟨4,0,none⟩) s.rows.m2 1,.slice (some ⟨5,0,none⟩) s.rows.m3 1]),(2,.row true (vI .i64 s.rows.e0)),(3,.row true (vI .i64 s.rows.e1)),(4,.row true (vI .i64 s.rows.e2)),(5,.row true (vI .i64 s.rows.e3)),(10,.row false [.int .u64 oa1.key.A,.int .u64 oa1.key.B,.slice (some ⟨11,0,none⟩) 4 1,.int .i64 oa1.total]),(11,.row false [.slice (some ⟨12,0,none⟩) oa1.rows.m0 1,.slice (some ⟨13,0,none⟩) oa1.rows.m1 1,.slice (some ⟨14,0,none⟩) oa1.rows.m2 1,.slice (some ⟨15,0,none⟩) oa1.rows.m3 1]),(12,.row false (vI .i64 oa1.rows.e0)),(13,.row false (vI .i64 oa1.rows.e1)),(14,.row false (vI .i64 oa1.rows.e2)),(15,.row false (vI .i64 oa1.rows.e3))],20⟩ (fun v H _=>Res 20 (XlG res) v H):=by
 unfold Xei at h
 have R1:=@Xyk Xac
 have J:=js [2,3,4,5]
 have LP:=@Xtr Xac hS;have LQ:=lm XcT
 refine Xa4 XaM hS true 3000 ?_
 conv=>whnf
 exact W
def Xcv (s:Xap) (oa1:Xap) (c:List Int) (c1:List Int) (c2:List Int) (c3:List Int) (t254:Int) (c4:List Int):Option (Sum (Int×(List Int)) (Bool×Xap)):=
 cond (decide (t254<(oa1.rows.m4:Int)))
  (
  XaQ (decide ((0:Int)≤t254∧t254<(oa1.rows.m4:Int))) <|
  (oa1.rows.e4[t254.toNat]?).bind fun (e8:Int)=>
  XaQ (decide ((0:Int)≤t254∧t254<(s.rows.m4:Int))) <|
  (c4[t254.toNat]?).bind fun (e9:Int)=>
  let t4:=if (wI .i64 (e9+e8))<1099511627776 then wI .i64 (e9+e8) else 1099511627776
  XaQ (decide (t254.toNat<c4.length)) <|
  let row4:=c4.set t254.toNat t4
  some (.inl (wI .i64 (t254+1),row4)))
  (
  let t5:=if (wI .i64 (s.total+oa1.total))<1099511627776 then wI .i64 (s.total+oa1.total) else 1099511627776
  some (.inr ((true,Xap.mk s.key (XcH.mk c c1 c2 c3 c4 s.rows.m0 s.rows.m1 s.rows.m2 s.rows.m3 s.rows.m4) t5))))
def Xcf (s:Xap) (oa1:Xap) (c:List Int) (c1:List Int) (c2:List Int) (t253:Int) (c3:List Int):Option (Sum (Int×(List Int)) (Bool×Xap)):=
 cond (decide (t253<(oa1.rows.m3:Int)))
  (
  XaQ (decide ((0:Int)≤t253∧t253<(oa1.rows.m3:Int))) <|
  (oa1.rows.e3[t253.toNat]?).bind fun (e6:Int)=>
  XaQ (decide ((0:Int)≤t253∧t253<(s.rows.m3:Int))) <|
  (c3[t253.toNat]?).bind fun (e7:Int)=>
  let t3:=if (wI .i64 (e7+e6))<1099511627776 then wI .i64 (e7+e6) else 1099511627776
  XaQ (decide (t253.toNat<c3.length)) <|
  let row3:=c3.set t253.toNat t3
  some (.inl (wI .i64 (t253+1),row3)))
  (
  (iter (fun st=>Xcv s oa1 c c1 c2 c3 st.1 st.2) FUEL (0,s.rows.e4)).bind fun o=>some (.inr (o)))
def Xco (s:Xap) (oa1:Xap) (c:List Int) (c1:List Int) (t252:Int) (c2:List Int):Option (Sum (Int×(List Int)) (Bool×Xap)):=
 cond (decide (t252<(oa1.rows.m2:Int)))
  (
  XaQ (decide ((0:Int)≤t252∧t252<(oa1.rows.m2:Int))) <|
  (oa1.rows.e2[t252.toNat]?).bind fun (e4:Int)=>
  XaQ (decide ((0:Int)≤t252∧t252<(s.rows.m2:Int))) <|
  (c2[t252.toNat]?).bind fun (e5:Int)=>
  let t2:=if (wI .i64 (e5+e4))<1099511627776 then wI .i64 (e5+e4) else 1099511627776
  XaQ (decide (t252.toNat<c2.length)) <|
  let row2:=c2.set t252.toNat t2
  some (.inl (wI .i64 (t252+1),row2)))
  (
  (iter (fun st=>Xcf s oa1 c c1 c2 st.1 st.2) FUEL (0,s.rows.e3)).bind fun o=>some (.inr (o)))
def XcC (s:Xap) (oa1:Xap) (c:List Int) (t251:Int) (c1:List Int):Option (Sum (Int×(List Int)) (Bool×Xap)):=
 cond (decide (t251<(oa1.rows.m1:Int)))
  (
  XaQ (decide ((0:Int)≤t251∧t251<(oa1.rows.m1:Int))) <|
  (oa1.rows.e1[t251.toNat]?).bind fun (e2:Int)=>
  XaQ (decide ((0:Int)≤t251∧t251<(s.rows.m1:Int))) <|
  (c1[t251.toNat]?).bind fun (e3:Int)=>
  let t1:=if (wI .i64 (e3+e2))<1099511627776 then wI .i64 (e3+e2) else 1099511627776
  XaQ (decide (t251.toNat<c1.length)) <|
  let row1:=c1.set t251.toNat t1
  some (.inl (wI .i64 (t251+1),row1)))
  (
  (iter (fun st=>Xco s oa1 c c1 st.1 st.2) FUEL (0,s.rows.e2)).bind fun o=>some (.inr (o)))
def Xdc (s:Xap) (oa1:Xap) (t25:Int) (c:List Int):Option (Sum (Int×(List Int)) (Bool×Xap)):=
 cond (decide (t25<(oa1.rows.m0:Int)))
  (
  XaQ (decide ((0:Int)≤t25∧t25<(oa1.rows.m0:Int))) <|
  (oa1.rows.e0[t25.toNat]?).bind fun (e:Int)=>
  XaQ (decide ((0:Int)≤t25∧t25<(s.rows.m0:Int))) <|
  (c[t25.toNat]?).bind fun (e1:Int)=>
  let t:=if (wI .i64 (e1+e))<1099511627776 then wI .i64 (e1+e) else 1099511627776
  XaQ (decide (t25.toNat<c.length)) <|
  let row:=c.set t25.toNat t
  some (.inl (wI .i64 (t25+1),row)))
  (
  (iter (fun st=>XcC s oa1 c st.1 st.2) FUEL (0,s.rows.e1)).bind fun o=>some (.inr (o)))
def Xek (Xac:Xaq) (s:Xap) (oa1:Xap):Option (Bool×Xap):=
 (Xac.v55 s oa1).bind fun x5=>
 cond (!x5)
  (
  some ((false,s)))
  (
  iter (fun st=>Xdc s oa1 st.1 st.2) FUEL (0,s.rows.e0))
def XkR (x:Bool×Xap):Xdu:=⟨.bool x.1,[(vI .i64 x.2.rows.e0),(vI .i64 x.2.rows.e1),(vI .i64 x.2.rows.e2),(vI .i64 x.2.rows.e3),(vI .i64 x.2.rows.e4)],[some [.int .u64 x.2.key.A,.int .u64 x.2.key.B,.slice (some ⟨6,0,none⟩) 5 1,.int .i64 x.2.total],some [.slice (some ⟨0,0,none⟩) x.2.rows.m0 1,.slice (some ⟨1,0,none⟩) x.2.rows.m1 1,.slice (some ⟨2,0,none⟩) x.2.rows.m2 1,.slice (some ⟨3,0,none⟩) x.2.rows.m3 1,.slice (some ⟨4,0,none⟩) x.2.rows.m4 1],none,none,none,none,none,none,none,none,none,none,none,none,none,none,none,none,none,none]⟩
abbrev Xgj:=Xap→Xap→Option (Bool×Xap)
def XJA (g:Xgj):Dec:=dTr 10 (XbK 0) fun (y0:Xap)=>dTr 10 (XbK 10) fun (y1:Xap)=>XeC (ofG (g y0 y1) XkR)
abbrev XjD (Xac:Xaq):List (Nat×XcS):=[(42,s42 Xac)]
def Xrx (s:Xap) (oa1:Xap) (c:List Int) (c1:List Int) (c2:List Int) (c3:List Int) (t254:Int) (c4:List Int):VM:=
 ⟨⟨14,51,[(0,.pointer (some ⟨0,0,none⟩)),(1,.pointer (some ⟨10,0,none⟩)),(5,.int .i64 4),(16,.slice (some ⟨11,0,none⟩) 5 1),(17,.int .i64 5),(18,.int .i64 4),(23,.slice (some ⟨16,0,none⟩) oa1.rows.m4 1),(24,.int .i64 (oa1.rows.m4:Int)),(25,.int .i64 t254)],[.code Xbq,.inLoop Xbq,.inBlock 2,.inBlock 1,.code XdU,.inLoop Xdw,.inBlock 0,.code XdF],[],false,none⟩,[],[(0,.cells [.int .u64 s.key.A,.int .u64 s.key.B,.slice (some ⟨1,0,none⟩) 5 1,.int .i64 s.total]),(1,.cells [.slice (some ⟨2,0,none⟩) s.rows.m0 1,.slice (some ⟨3,0,none⟩) s.rows.m1 1,.slice (some ⟨4,0,none⟩) s.rows.m2 1,.slice (some ⟨5,0,none⟩) s.rows.m3 1,.slice (some ⟨6,0,none⟩) s.rows.m4 1]),(2,.row true (vI .i64 c)),(3,.row true (vI .i64 c1)),(4,.row true (vI .i64 c2)),(5,.row true (vI .i64 c3)),(6,.row true (vI .i64 c4)),(10,.row false [.int .u64 oa1.key.A,.int .u64 oa1.key.B,.slice (some ⟨11,0,none⟩) 5 1,.int .i64 oa1.total]),(11,.row false [.slice (some ⟨12,0,none⟩) oa1.rows.m0 1,.slice (some ⟨13,0,none⟩) oa1.rows.m1 1,.slice (some ⟨14,0,none⟩) oa1.rows.m2 1,.slice (some ⟨15,0,none⟩) oa1.rows.m3 1,.slice (some ⟨16,0,none⟩) oa1.rows.m4 1]),(12,.row false (vI .i64 oa1.rows.e0)),(13,.row false (vI .i64 oa1.rows.e1)),(14,.row false (vI .i64 oa1.rows.e2)),(15,.row false (vI .i64 oa1.rows.e3)),(16,.row false (vI .i64 oa1.rows.e4))],20⟩
def Xst (s:Xap) (oa1:Xap) (c:List Int) (c1:List Int) (c2:List Int) (t253:Int) (c3:List Int):VM:=
 ⟨⟨14,51,[(0,.pointer (some ⟨0,0,none⟩)),(1,.pointer (some ⟨10,0,none⟩)),(5,.int .i64 3),(16,.slice (some ⟨11,0,none⟩) 5 1),(17,.int .i64 5),(18,.int .i64 3),(23,.slice (some ⟨15,0,none⟩) oa1.rows.m3 1),(24,.int .i64 (oa1.rows.m3:Int)),(25,.int .i64 t253)],[.code Xbq,.inLoop Xbq,.inBlock 2,.inBlock 1,.code XdU,.inLoop Xdw,.inBlock 0,.code XdF],[],false,none⟩,[],[(0,.cells [.int .u64 s.key.A,.int .u64 s.key.B,.slice (some ⟨1,0,none⟩) 5 1,.int .i64 s.total]),(1,.cells [.slice (some ⟨2,0,none⟩) s.rows.m0 1,.slice (some ⟨3,0,none⟩) s.rows.m1 1,.slice (some ⟨4,0,none⟩) s.rows.m2 1,.slice (some ⟨5,0,none⟩) s.rows.m3 1,.slice (some ⟨6,0,none⟩) s.rows.m4 1]),(2,.row true (vI .i64 c)),(3,.row true (vI .i64 c1)),(4,.row true (vI .i64 c2)),(5,.row true (vI .i64 c3)),(6,.row true (vI .i64 s.rows.e4)),(10,.row false [.int .u64 oa1.key.A,.int .u64 oa1.key.B,.slice (some ⟨11,0,none⟩) 5 1,.int .i64 oa1.total]),(11,.row false [.slice (some ⟨12,0,none⟩) oa1.rows.m0 1,.slice (some ⟨13,0,none⟩) oa1.rows.m1 1,.slice (some ⟨14,0,none⟩) oa1.rows.m2 1,.slice (some ⟨15,0,none⟩) oa1.rows.m3 1,.slice (some ⟨16,0,none⟩) oa1.rows.m4 1]),(12,.row false (vI .i64 oa1.rows.e0)),(13,.row false (vI .i64 oa1.rows.e1)),(14,.row false (vI .i64 oa1.rows.e2)),(15,.row false (vI .i64 oa1.rows.e3)),(16,.row false (vI .i64 oa1.rows.e4))],20⟩
def XsN (s:Xap) (oa1:Xap) (c:List Int) (c1:List Int) (t252:Int) (c2:List Int):VM:=
 ⟨⟨14,51,[(0,.pointer (some ⟨0,0,none⟩)),(1,.pointer (some ⟨10,0,none⟩)),(5,.int .i64 2),(16,.slice (some ⟨11,0,none⟩) 5 1),(17,.int .i64 5),(18,.int .i64 2),(23,.slice (some ⟨14,0,none⟩) oa1.rows.m2 1),(24,.int .i64 (oa1.rows.m2:Int)),(25,.int .i64 t252)],[.code Xbq,.inLoop Xbq,.inBlock 2,.inBlock 1,.code XdU,.inLoop Xdw,.inBlock 0,.code XdF],[],false,none⟩,[],[(0,.cells [.int .u64 s.key.A,.int .u64 s.key.B,.slice (some ⟨1,0,none⟩) 5 1,.int .i64 s.total]),(1,.cells [.slice (some ⟨2,0,none⟩) s.rows.m0 1,.slice (some ⟨3,0,none⟩) s.rows.m1 1,.slice (some ⟨4,0,none⟩) s.rows.m2 1,.slice (some ⟨5,0,none⟩) s.rows.m3 1,.slice (some ⟨6,0,none⟩) s.rows.m4 1]),(2,.row true (vI .i64 c)),(3,.row true (vI .i64 c1)),(4,.row true (vI .i64 c2)),(5,.row true (vI .i64 s.rows.e3)),(6,.row true (vI .i64 s.rows.e4)),(10,.row false [.int .u64 oa1.key.A,.int .u64 oa1.key.B,.slice (some ⟨11,0,none⟩) 5 1,.int .i64 oa1.total]),(11,.row false [.slice (some ⟨12,0,none⟩) oa1.rows.m0 1,.slice (some ⟨13,0,none⟩) oa1.rows.m1 1,.slice (some ⟨14,0,none⟩) oa1.rows.m2 1,.slice (some ⟨15,0,none⟩) oa1.rows.m3 1,.slice (some ⟨16,0,none⟩) oa1.rows.m4 1]),(12,.row false (vI .i64 oa1.rows.e0)),(13,.row false (vI .i64 oa1.rows.e1)),(14,.row false (vI .i64 oa1.rows.e2)),(15,.row false (vI .i64 oa1.rows.e3)),(16,.row false (vI .i64 oa1.rows.e4))],20⟩
def Xs0 (s:Xap) (oa1:Xap) (c:List Int) (t251:Int) (c1:List Int):VM:=
 ⟨⟨14,51,[(0,.pointer (some ⟨0,0,none⟩)),(1,.pointer (some ⟨10,0,none⟩)),(5,.int .i64 1),(16,.slice (some ⟨11,0,none⟩) 5 1),(17,.int .i64 5),(18,.int .i64 1),(23,.slice (some ⟨13,0,none⟩) oa1.rows.m1 1),(24,.int .i64 (oa1.rows.m1:Int)),(25,.int .i64 t251)],[.code Xbq,.inLoop Xbq,.inBlock 2,.inBlock 1,.code XdU,.inLoop Xdw,.inBlock 0,.code XdF],[],false,none⟩,[],[(0,.cells [.int .u64 s.key.A,.int .u64 s.key.B,.slice (some ⟨1,0,none⟩) 5 1,.int .i64 s.total]),(1,.cells [.slice (some ⟨2,0,none⟩) s.rows.m0 1,.slice (some ⟨3,0,none⟩) s.rows.m1 1,.slice (some ⟨4,0,none⟩) s.rows.m2 1,.slice (some ⟨5,0,none⟩) s.rows.m3 1,.slice (some ⟨6,0,none⟩) s.rows.m4 1]),(2,.row true (vI .i64 c)),(3,.row true (vI .i64 c1)),(4,.row true (vI .i64 s.rows.e2)),(5,.row true (vI .i64 s.rows.e3)),(6,.row true (vI .i64 s.rows.e4)),(10,.row false [.int .u64 oa1.key.A,.int .u64 oa1.key.B,.slice (some ⟨11,0,none⟩) 5 1,.int .i64 oa1.total]),(11,.row false [.slice (some ⟨12,0,none⟩) oa1.rows.m0 1,.slice (some ⟨13,0,none⟩) oa1.rows.m1 1,.slice (some ⟨14,0,none⟩) oa1.rows.m2 1,.slice (some ⟨15,0,none⟩) oa1.rows.m3 1,.slice (some ⟨16,0,none⟩) oa1.rows.m4 1]),(12,.row false (vI .i64 oa1.rows.e0)),(13,.row false (vI .i64 oa1.rows.e1)),(14,.row false (vI .i64 oa1.rows.e2)),(15,.row false (vI .i64 oa1.rows.e3)),(16,.row false (vI .i64 oa1.rows.e4))],20⟩
def XrN (s:Xap) (oa1:Xap) (t25:Int) (c:List Int):VM:=
 ⟨⟨14,51,[(0,.pointer (some ⟨0,0,none⟩)),(1,.pointer (some ⟨10,0,none⟩)),(5,.int .i64 0),(16,.slice (some ⟨11,0,none⟩) 5 1),(17,.int .i64 5),(18,.int .i64 0),(23,.slice (some ⟨12,0,none⟩) oa1.rows.m0 1),(24,.int .i64 (oa1.rows.m0:Int)),(25,.int .i64 t25)],[.code Xbq,.inLoop Xbq,.inBlock 2,.inBlock 1,.code XdU,.inLoop Xdw,.inBlock 0,.code XdF],[],false,none⟩,[],[(0,.cells [.int .u64 s.key.A,.int .u64 s.key.B,.slice (some ⟨1,0,none⟩) 5 1,.int .i64 s.total]),(1,.cells [.slice (some ⟨2,0,none⟩) s.rows.m0 1,.slice (some ⟨3,0,none⟩) s.rows.m1 1,.slice (some ⟨4,0,none⟩) s.rows.m2 1,.slice (some ⟨5,0,none⟩) s.rows.m3 1,.slice (some ⟨6,0,none⟩) s.rows.m4 1]),(2,.row true (vI .i64 c)),(3,.row true (vI .i64 s.rows.e1)),(4,.row true (vI .i64 s.rows.e2)),(5,.row true (vI .i64 s.rows.e3)),(6,.row true (vI .i64 s.rows.e4)),(10,.row false [.int .u64 oa1.key.A,.int .u64 oa1.key.B,.slice (some ⟨11,0,none⟩) 5 1,.int .i64 oa1.total]),(11,.row false [.slice (some ⟨12,0,none⟩) oa1.rows.m0 1,.slice (some ⟨13,0,none⟩) oa1.rows.m1 1,.slice (some ⟨14,0,none⟩) oa1.rows.m2 1,.slice (some ⟨15,0,none⟩) oa1.rows.m3 1,.slice (some ⟨16,0,none⟩) oa1.rows.m4 1]),(12,.row false (vI .i64 oa1.rows.e0)),(13,.row false (vI .i64 oa1.rows.e1)),(14,.row false (vI .i64 oa1.rows.e2)),(15,.row false (vI .i64 oa1.rows.e3)),(16,.row false (vI .i64 oa1.rows.e4))],20⟩
theorem Xr8 (Xac:Xaq) (hS:XaF Try.prog (XaP (XjD Xac))) {s:Xap} {oa1:Xap} {c:List Int} {c1:List Int} {c2:List Int} {c3:List Int} {res:Bool×Xap}:∀ {fuel} {st:Int×(List Int)} {o:Bool×Xap},iter (fun st=>Xcv s oa1 c c1 c2 c3 st.1 st.2) fuel st=some o→(o=res) →
 XaU Try.prog 14 20 (Xrx s oa1 c c1 c2 c3 st.1 st.2) (fun v H _=>Res 20 (XkR res) v H):=by
 apply XaO
 intro st o h hc
 obtain ⟨t254,c4⟩:=st
 try dsimp -zeta only at h ⊢
 unfold Xcv at h
 have J:=js [2,3,4,5,6]
 have LM:=lm XcT
 refine Xa4 XaM hS true 3000 ?_
 conv=>whnf
 exact W
theorem Xsm (Xac:Xaq) (hS:XaF Try.prog (XaP (XjD Xac))) {s:Xap} {oa1:Xap} {c:List Int} {c1:List Int} {c2:List Int} {res:Bool×Xap}:∀ {fuel} {st:Int×(List Int)} {o:Bool×Xap},iter (fun st=>Xcf s oa1 c c1 c2 st.1 st.2) fuel st=some o→(o=res) →
 XaU Try.prog 14 20 (Xst s oa1 c c1 c2 st.1 st.2) (fun v H _=>Res 20 (XkR res) v H):=by
 apply XaO
 intro st o h hc
 obtain ⟨t253,c3⟩:=st
 try dsimp -zeta only at h ⊢
 unfold Xcf at h
 have J:=js [2,3,4,5,6]
 have LM:=lm XcT
 have LP:=@Xr8 Xac hS;have LQ:=lm XcT
 refine Xa4 XaM hS true 3000 ?_
 conv=>whnf
 exact W
theorem Xrq (Xac:Xaq) (hS:XaF Try.prog (XaP (XjD Xac))) {s:Xap} {oa1:Xap} {c:List Int} {c1:List Int} {res:Bool×Xap}:∀ {fuel} {st:Int×(List Int)} {o:Bool×Xap},iter (fun st=>Xco s oa1 c c1 st.1 st.2) fuel st=some o→(o=res) →
 XaU Try.prog 14 20 (XsN s oa1 c c1 st.1 st.2) (fun v H _=>Res 20 (XkR res) v H):=by
 apply XaO
 intro st o h hc
 obtain ⟨t252,c2⟩:=st
 try dsimp -zeta only at h ⊢
 unfold Xco at h
 have J:=js [2,3,4,5,6]
 have LM:=lm XcT
 have LP:=@Xsm Xac hS;have LQ:=lm XcT
 refine Xa4 XaM hS true 3000 ?_
 conv=>whnf
 exact W
theorem Xr7 (Xac:Xaq) (hS:XaF Try.prog (XaP (XjD Xac))) {s:Xap} {oa1:Xap} {c:List Int} {res:Bool×Xap}:∀ {fuel} {st:Int×(List Int)} {o:Bool×Xap},iter (fun st=>XcC s oa1 c st.1 st.2) fuel st=some o→(o=res) →
 XaU Try.prog 14 20 (Xs0 s oa1 c st.1 st.2) (fun v H _=>Res 20 (XkR res) v H):=by
 apply XaO
 intro st o h hc
 obtain ⟨t251,c1⟩:=st
 try dsimp -zeta only at h ⊢
 unfold XcC at h
 have J:=js [2,3,4,5,6]
 have LM:=lm XcT
 have LP:=@Xrq Xac hS;have LQ:=lm XcT
 refine Xa4 XaM hS true 3000 ?_
 conv=>whnf
 exact W
theorem XsW (Xac:Xaq) (hS:XaF Try.prog (XaP (XjD Xac))) {s:Xap} {oa1:Xap} {res:Bool×Xap}:∀ {fuel} {st:Int×(List Int)} {o:Bool×Xap},iter (fun st=>Xdc s oa1 st.1 st.2) fuel st=some o→(o=res) →
 XaU Try.prog 14 20 (XrN s oa1 st.1 st.2) (fun v H _=>Res 20 (XkR res) v H):=by
 apply XaO
 intro st o h hc
 obtain ⟨t25,c⟩:=st
 try dsimp -zeta only at h ⊢
 unfold Xdc at h
 have J:=js [2,3,4,5,6]
 have LM:=lm XcT
 have LP:=@Xr7 Xac hS;have LQ:=lm XcT
 refine Xa4 XaM hS true 3000 ?_
 conv=>whnf
 exact W
theorem Xvx (Xac:Xaq) (hS:XaF Try.prog (XaP (XjD Xac))) (s:Xap) (oa1:Xap) (res:Bool×Xap) (h:Xek Xac s oa1=some res) :
 XaU Try.prog 14 20 ⟨⟨14,51,[(0,.pointer (some ⟨0,0,none⟩)),(1,.pointer (some ⟨10,0,none⟩))],[.code Xlr],[],false,none⟩,[],[(0,.cells [.int .u64 s.key.A,.int .u64 s.key.B,.slice (some ⟨1,0,none⟩) 5 1,.int .i64 s.total]),(1,.cells [.slice (some ⟨2,0,none⟩) s.rows.m0 1,.slice (some ⟨3,0,none⟩) s.rows.m1 1,.slice (some ⟨4,0,none⟩) s.rows.m2 1,.slice (some ⟨5,0,none⟩) s.rows.m3 1,.slice (some ⟨6,0,none⟩) s.rows.m4 1]),(2,.row true (vI .i64 s.rows.e0)),(3,.row true (vI .i64 s.rows.e1)),(4,.row true (vI .i64 s.rows.e2)),(5,.row true (vI .i64 s.rows.e3)),(6,.row true (vI .i64 s.rows.e4)),(10,.row false [.int .u64 oa1.key.A,.int .u64 oa1.key.B,.slice (some ⟨11,0,none⟩) 5 1,.int .i64 oa1.total]),(11,.row false [.slice (some ⟨12,0,none⟩) oa1.rows.m0 1,.slice (some ⟨13,0,none⟩) oa1.rows.m1 1,.slice (some ⟨14,0,none⟩) oa1.rows.m2 1,.slice (some ⟨15,0,none⟩) oa1.rows.m3 1,.slice (some ⟨16,0,none⟩) oa1.rows.m4 1]),(12,.row false (vI .i64 oa1.rows.e0)),(13,.row false (vI .i64 oa1.rows.e1)),(14,.row false (vI .i64 oa1.rows.e2)),(15,.row false (vI .i64 oa1.rows.e3)),(16,.row false (vI .i64 oa1.rows.e4))],20⟩ (fun v H _=>Res 20 (XkR res) v H):=by
 unfold Xek at h
 have R1:=@XzB Xac
 have J:=js [2,3,4,5,6]
 have LP:=@XsW Xac hS;have LQ:=lm XcT
 refine Xa4 XaM hS true 3000 ?_
 conv=>whnf
 exact W
def Xci (s:Xan) (oa1:Xan) (c:List Int) (c1:List Int) (c2:List Int) (c3:List Int) (c4:List Int) (t255:Int) (c5:List Int):Option (Sum (Int×(List Int)) (Bool×Xan)):=
 cond (decide (t255<(oa1.rows.m5:Int)))
  (
  XaQ (decide ((0:Int)≤t255∧t255<(oa1.rows.m5:Int))) <|
  (oa1.rows.e5[t255.toNat]?).bind fun (e10:Int)=>
  XaQ (decide ((0:Int)≤t255∧t255<(s.rows.m5:Int))) <|
  (c5[t255.toNat]?).bind fun (e11:Int)=>
  let t5:=if (wI .i64 (e11+e10))<1099511627776 then wI .i64 (e11+e10) else 1099511627776
  XaQ (decide (t255.toNat<c5.length)) <|
  let row5:=c5.set t255.toNat t5
  some (.inl (wI .i64 (t255+1),row5)))
  (
  let t6:=if (wI .i64 (s.total+oa1.total))<1099511627776 then wI .i64 (s.total+oa1.total) else 1099511627776
  some (.inr ((true,Xan.mk s.key (Xb8.mk c c1 c2 c3 c4 c5 s.rows.m0 s.rows.m1 s.rows.m2 s.rows.m3 s.rows.m4 s.rows.m5) t6))))
def Xcp (s:Xan) (oa1:Xan) (c:List Int) (c1:List Int) (c2:List Int) (c3:List Int) (t254:Int) (c4:List Int):Option (Sum (Int×(List Int)) (Bool×Xan)):=
 cond (decide (t254<(oa1.rows.m4:Int)))
  (
  XaQ (decide ((0:Int)≤t254∧t254<(oa1.rows.m4:Int))) <|
  (oa1.rows.e4[t254.toNat]?).bind fun (e8:Int)=>
  XaQ (decide ((0:Int)≤t254∧t254<(s.rows.m4:Int))) <|
  (c4[t254.toNat]?).bind fun (e9:Int)=>
  let t4:=if (wI .i64 (e9+e8))<1099511627776 then wI .i64 (e9+e8) else 1099511627776
  XaQ (decide (t254.toNat<c4.length)) <|
  let row4:=c4.set t254.toNat t4
  some (.inl (wI .i64 (t254+1),row4)))
  (
  (iter (fun st=>Xci s oa1 c c1 c2 c3 c4 st.1 st.2) FUEL (0,s.rows.e5)).bind fun o=>some (.inr (o)))
def Xcg (s:Xan) (oa1:Xan) (c:List Int) (c1:List Int) (c2:List Int) (t253:Int) (c3:List Int):Option (Sum (Int×(List Int)) (Bool×Xan)):=
 cond (decide (t253<(oa1.rows.m3:Int)))
  (
  XaQ (decide ((0:Int)≤t253∧t253<(oa1.rows.m3:Int))) <|
  (oa1.rows.e3[t253.toNat]?).bind fun (e6:Int)=>
  XaQ (decide ((0:Int)≤t253∧t253<(s.rows.m3:Int))) <|
  (c3[t253.toNat]?).bind fun (e7:Int)=>
  let t3:=if (wI .i64 (e7+e6))<1099511627776 then wI .i64 (e7+e6) else 1099511627776
  XaQ (decide (t253.toNat<c3.length)) <|
  let row3:=c3.set t253.toNat t3
  some (.inl (wI .i64 (t253+1),row3)))
  (
  (iter (fun st=>Xcp s oa1 c c1 c2 c3 st.1 st.2) FUEL (0,s.rows.e4)).bind fun o=>some (.inr (o)))
def Xcq (s:Xan) (oa1:Xan) (c:List Int) (c1:List Int) (t252:Int) (c2:List Int):Option (Sum (Int×(List Int)) (Bool×Xan)):=
 cond (decide (t252<(oa1.rows.m2:Int)))
  (
  XaQ (decide ((0:Int)≤t252∧t252<(oa1.rows.m2:Int))) <|
  (oa1.rows.e2[t252.toNat]?).bind fun (e4:Int)=>
  XaQ (decide ((0:Int)≤t252∧t252<(s.rows.m2:Int))) <|
  (c2[t252.toNat]?).bind fun (e5:Int)=>
  let t2:=if (wI .i64 (e5+e4))<1099511627776 then wI .i64 (e5+e4) else 1099511627776
  XaQ (decide (t252.toNat<c2.length)) <|
  let row2:=c2.set t252.toNat t2
  some (.inl (wI .i64 (t252+1),row2)))
  (
  (iter (fun st=>Xcg s oa1 c c1 c2 st.1 st.2) FUEL (0,s.rows.e3)).bind fun o=>some (.inr (o)))
def XcB (s:Xan) (oa1:Xan) (c:List Int) (t251:Int) (c1:List Int):Option (Sum (Int×(List Int)) (Bool×Xan)):=
 cond (decide (t251<(oa1.rows.m1:Int)))
  (
  XaQ (decide ((0:Int)≤t251∧t251<(oa1.rows.m1:Int))) <|
  (oa1.rows.e1[t251.toNat]?).bind fun (e2:Int)=>
  XaQ (decide ((0:Int)≤t251∧t251<(s.rows.m1:Int))) <|
  (c1[t251.toNat]?).bind fun (e3:Int)=>
  let t1:=if (wI .i64 (e3+e2))<1099511627776 then wI .i64 (e3+e2) else 1099511627776
  XaQ (decide (t251.toNat<c1.length)) <|
  let row1:=c1.set t251.toNat t1
  some (.inl (wI .i64 (t251+1),row1)))
  (
  (iter (fun st=>Xcq s oa1 c c1 st.1 st.2) FUEL (0,s.rows.e2)).bind fun o=>some (.inr (o)))
def Xdd (s:Xan) (oa1:Xan) (t25:Int) (c:List Int):Option (Sum (Int×(List Int)) (Bool×Xan)):=
 cond (decide (t25<(oa1.rows.m0:Int)))
  (
  XaQ (decide ((0:Int)≤t25∧t25<(oa1.rows.m0:Int))) <|
  (oa1.rows.e0[t25.toNat]?).bind fun (e:Int)=>
  XaQ (decide ((0:Int)≤t25∧t25<(s.rows.m0:Int))) <|
  (c[t25.toNat]?).bind fun (e1:Int)=>
  let t:=if (wI .i64 (e1+e))<1099511627776 then wI .i64 (e1+e) else 1099511627776
  XaQ (decide (t25.toNat<c.length)) <|
  let row:=c.set t25.toNat t
  some (.inl (wI .i64 (t25+1),row)))
  (
  (iter (fun st=>XcB s oa1 c st.1 st.2) FUEL (0,s.rows.e1)).bind fun o=>some (.inr (o)))
def Xed (Xac:Xaq) (s:Xan) (oa1:Xan):Option (Bool×Xan):=
 (Xac.v66 s oa1).bind fun x6=>
 cond (!x6)
  (
  some ((false,s)))
  (
  iter (fun st=>Xdd s oa1 st.1 st.2) FUEL (0,s.rows.e0))
def XjR (x:Bool×Xan):Xdu:=⟨.bool x.1,[(vI .i64 x.2.rows.e0),(vI .i64 x.2.rows.e1),(vI .i64 x.2.rows.e2),(vI .i64 x.2.rows.e3),(vI .i64 x.2.rows.e4),(vI .i64 x.2.rows.e5)],[some [.int .u64 x.2.key.A,.int .u64 x.2.key.B,.slice (some ⟨7,0,none⟩) 6 1,.int .i64 x.2.total],some [.slice (some ⟨0,0,none⟩) x.2.rows.m0 1,.slice (some ⟨1,0,none⟩) x.2.rows.m1 1,.slice (some ⟨2,0,none⟩) x.2.rows.m2 1,.slice (some ⟨3,0,none⟩) x.2.rows.m3 1,.slice (some ⟨4,0,none⟩) x.2.rows.m4 1,.slice (some ⟨5,0,none⟩) x.2.rows.m5 1],none,none,none,none,none,none,none,none,none,none,none,none,none,none,none,none,none,none]⟩
abbrev Xgv:=Xan→Xan→Option (Bool×Xan)
def XIp (g:Xgv):Dec:=dTr 10 (XbF 0) fun (y0:Xan)=>dTr 10 (XbF 10) fun (y1:Xan)=>XeC (ofG (g y0 y1) XjR)
abbrev Xi9 (Xac:Xaq):List (Nat×XcS):=[(42,s42 Xac)]
def Xr9 (s:Xan) (oa1:Xan) (c:List Int) (c1:List Int) (c2:List Int) (c3:List Int) (c4:List Int) (t255:Int) (c5:List Int):VM:=
 ⟨⟨14,51,[(0,.pointer (some ⟨0,0,none⟩)),(1,.pointer (some ⟨10,0,none⟩)),(5,.int .i64 5),(16,.slice (some ⟨11,0,none⟩) 6 1),(17,.int .i64 6),(18,.int .i64 5),(23,.slice (some ⟨17,0,none⟩) oa1.rows.m5 1),(24,.int .i64 (oa1.rows.m5:Int)),(25,.int .i64 t255)],[.code Xbq,.inLoop Xbq,.inBlock 2,.inBlock 1,.code XdU,.inLoop Xdw,.inBlock 0,.code XdF],[],false,none⟩,[],[(0,.cells [.int .u64 s.key.A,.int .u64 s.key.B,.slice (some ⟨1,0,none⟩) 6 1,.int .i64 s.total]),(1,.cells [.slice (some ⟨2,0,none⟩) s.rows.m0 1,.slice (some ⟨3,0,none⟩) s.rows.m1 1,.slice (some ⟨4,0,none⟩) s.rows.m2 1,.slice (some ⟨5,0,none⟩) s.rows.m3 1,.slice (some ⟨6,0,none⟩) s.rows.m4 1,.slice (some ⟨7,0,none⟩) s.rows.m5 1]),(2,.row true (vI .i64 c)),(3,.row true (vI .i64 c1)),(4,.row true (vI .i64 c2)),(5,.row true (vI .i64 c3)),(6,.row true (vI .i64 c4)),(7,.row true (vI .i64 c5)),(10,.row false [.int .u64 oa1.key.A,.int .u64 oa1.key.B,.slice (some ⟨11,0,none⟩) 6 1,.int .i64 oa1.total]),(11,.row false [.slice (some ⟨12,0,none⟩) oa1.rows.m0 1,.slice (some ⟨13,0,none⟩) oa1.rows.m1 1,.slice (some ⟨14,0,none⟩) oa1.rows.m2 1,.slice (some ⟨15,0,none⟩) oa1.rows.m3 1,.slice (some ⟨16,0,none⟩) oa1.rows.m4 1,.slice (some ⟨17,0,none⟩) oa1.rows.m5 1]),(12,.row false (vI .i64 oa1.rows.e0)),(13,.row false (vI .i64 oa1.rows.e1)),(14,.row false (vI .i64 oa1.rows.e2)),(15,.row false (vI .i64 oa1.rows.e3)),(16,.row false (vI .i64 oa1.rows.e4)),(17,.row false (vI .i64 oa1.rows.e5))],20⟩
def XsC (s:Xan) (oa1:Xan) (c:List Int) (c1:List Int) (c2:List Int) (c3:List Int) (t254:Int) (c4:List Int):VM:=
 ⟨⟨14,51,[(0,.pointer (some ⟨0,0,none⟩)),(1,.pointer (some ⟨10,0,none⟩)),(5,.int .i64 4),(16,.slice (some ⟨11,0,none⟩) 6 1),(17,.int .i64 6),(18,.int .i64 4),(23,.slice (some ⟨16,0,none⟩) oa1.rows.m4 1),(24,.int .i64 (oa1.rows.m4:Int)),(25,.int .i64 t254)],[.code Xbq,.inLoop Xbq,.inBlock 2,.inBlock 1,.code XdU,.inLoop Xdw,.inBlock 0,.code XdF],[],false,none⟩,[],[(0,.cells [.int .u64 s.key.A,.int .u64 s.key.B,.slice (some ⟨1,0,none⟩) 6 1,.int .i64 s.total]),(1,.cells [.slice (some ⟨2,0,none⟩) s.rows.m0 1,.slice (some ⟨3,0,none⟩) s.rows.m1 1,.slice (some ⟨4,0,none⟩) s.rows.m2 1,.slice (some ⟨5,0,none⟩) s.rows.m3 1,.slice (some ⟨6,0,none⟩) s.rows.m4 1,.slice (some ⟨7,0,none⟩) s.rows.m5 1]),(2,.row true (vI .i64 c)),(3,.row true (vI .i64 c1)),(4,.row true (vI .i64 c2)),(5,.row true (vI .i64 c3)),(6,.row true (vI .i64 c4)),(7,.row true (vI .i64 s.rows.e5)),(10,.row false [.int .u64 oa1.key.A,.int .u64 oa1.key.B,.slice (some ⟨11,0,none⟩) 6 1,.int .i64 oa1.total]),(11,.row false [.slice (some ⟨12,0,none⟩) oa1.rows.m0 1,.slice (some ⟨13,0,none⟩) oa1.rows.m1 1,.slice (some ⟨14,0,none⟩) oa1.rows.m2 1,.slice (some ⟨15,0,none⟩) oa1.rows.m3 1,.slice (some ⟨16,0,none⟩) oa1.rows.m4 1,.slice (some ⟨17,0,none⟩) oa1.rows.m5 1]),(12,.row false (vI .i64 oa1.rows.e0)),(13,.row false (vI .i64 oa1.rows.e1)),(14,.row false (vI .i64 oa1.rows.e2)),(15,.row false (vI .i64 oa1.rows.e3)),(16,.row false (vI .i64 oa1.rows.e4)),(17,.row false (vI .i64 oa1.rows.e5))],20⟩
def Xrt (s:Xan) (oa1:Xan) (c:List Int) (c1:List Int) (c2:List Int) (t253:Int) (c3:List Int):VM:=
 ⟨⟨14,51,[(0,.pointer (some ⟨0,0,none⟩)),(1,.pointer (some ⟨10,0,none⟩)),(5,.int .i64 3),(16,.slice (some ⟨11,0,none⟩) 6 1),(17,.int .i64 6),(18,.int .i64 3),(23,.slice (some ⟨15,0,none⟩) oa1.rows.m3 1),(24,.int .i64 (oa1.rows.m3:Int)),(25,.int .i64 t253)],[.code Xbq,.inLoop Xbq,.inBlock 2,.inBlock 1,.code XdU,.inLoop Xdw,.inBlock 0,.code XdF],[],false,none⟩,[],[(0,.cells [.int .u64 s.key.A,.int .u64 s.key.B,.slice (some ⟨1,0,none⟩) 6 1,.int .i64 s.total]),(1,.cells [.slice (some ⟨2,0,none⟩) s.rows.m0 1,.slice (some ⟨3,0,none⟩) s.rows.m1 1,.slice (some ⟨4,0,none⟩) s.rows.m2 1,.slice (some ⟨5,0,none⟩) s.rows.m3 1,.slice (some ⟨6,0,none⟩) s.rows.m4 1,.slice (some ⟨7,0,none⟩) s.rows.m5 1]),(2,.row true (vI .i64 c)),(3,.row true (vI .i64 c1)),(4,.row true (vI .i64 c2)),(5,.row true (vI .i64 c3)),(6,.row true (vI .i64 s.rows.e4)),(7,.row true (vI .i64 s.rows.e5)),(10,.row false [.int .u64 oa1.key.A,.int .u64 oa1.key.B,.slice (some ⟨11,0,none⟩) 6 1,.int .i64 oa1.total]),(11,.row false [.slice (some ⟨12,0,none⟩) oa1.rows.m0 1,.slice (some ⟨13,0,none⟩) oa1.rows.m1 1,.slice (some ⟨14,0,none⟩) oa1.rows.m2 1,.slice (some ⟨15,0,none⟩) oa1.rows.m3 1,.slice (some ⟨16,0,none⟩) oa1.rows.m4 1,.slice (some ⟨17,0,none⟩) oa1.rows.m5 1]),(12,.row false (vI .i64 oa1.rows.e0)),(13,.row false (vI .i64 oa1.rows.e1)),(14,.row false (vI .i64 oa1.rows.e2)),(15,.row false (vI .i64 oa1.rows.e3)),(16,.row false (vI .i64 oa1.rows.e4)),(17,.row false (vI .i64 oa1.rows.e5))],20⟩
def Xtq (s:Xan) (oa1:Xan) (c:List Int) (c1:List Int) (t252:Int) (c2:List Int):VM:=
 ⟨⟨14,51,[(0,.pointer (some ⟨0,0,none⟩)),(1,.pointer (some ⟨10,0,none⟩)),(5,.int .i64 2),(16,.slice (some ⟨11,0,none⟩) 6 1),(17,.int .i64 6),(18,.int .i64 2),(23,.slice (some ⟨14,0,none⟩) oa1.rows.m2 1),(24,.int .i64 (oa1.rows.m2:Int)),(25,.int .i64 t252)],[.code Xbq,.inLoop Xbq,.inBlock 2,.inBlock 1,.code XdU,.inLoop Xdw,.inBlock 0,.code XdF],[],false,none⟩,[],[(0,.cells [.int .u64 s.key.A,.int .u64 s.key.B,.slice (some ⟨1,0,none⟩) 6 1,.int .i64 s.total]),(1,.cells [.slice (some ⟨2,0,none⟩) s.rows.m0 1,.slice (some ⟨3,0,none⟩) s.rows.m1 1,.slice (some ⟨4,0,none⟩) s.rows.m2 1,.slice (some ⟨5,0,none⟩) s.rows.m3 1,.slice (some ⟨6,0,none⟩) s.rows.m4 1,.slice (some ⟨7,0,none⟩) s.rows.m5 1]),(2,.row true (vI .i64 c)),(3,.row true (vI .i64 c1)),(4,.row true (vI .i64 c2)),(5,.row true (vI .i64 s.rows.e3)),(6,.row true (vI .i64 s.rows.e4)),(7,.row true (vI .i64 s.rows.e5)),(10,.row false [.int .u64 oa1.key.A,.int .u64 oa1.key.B,.slice (some ⟨11,0,none⟩) 6 1,.int .i64 oa1.total]),(11,.row false [.slice (some ⟨12,0,none⟩) oa1.rows.m0 1,.slice (some ⟨13,0,none⟩) oa1.rows.m1 1,.slice (some ⟨14,0,none⟩) oa1.rows.m2 1,.slice (some ⟨15,0,none⟩) oa1.rows.m3 1,.slice (some ⟨16,0,none⟩) oa1.rows.m4 1,.slice (some ⟨17,0,none⟩) oa1.rows.m5 1]),(12,.row false (vI .i64 oa1.rows.e0)),(13,.row false (vI .i64 oa1.rows.e1)),(14,.row false (vI .i64 oa1.rows.e2)),(15,.row false (vI .i64 oa1.rows.e3)),(16,.row false (vI .i64 oa1.rows.e4)),(17,.row false (vI .i64 oa1.rows.e5))],20⟩
def Xs6 (s:Xan) (oa1:Xan) (c:List Int) (t251:Int) (c1:List Int):VM:=
 ⟨⟨14,51,[(0,.pointer (some ⟨0,0,none⟩)),(1,.pointer (some ⟨10,0,none⟩)),(5,.int .i64 1),(16,.slice (some ⟨11,0,none⟩) 6 1),(17,.int .i64 6),(18,.int .i64 1),(23,.slice (some ⟨13,0,none⟩) oa1.rows.m1 1),(24,.int .i64 (oa1.rows.m1:Int)),(25,.int .i64 t251)],[.code Xbq,.inLoop Xbq,.inBlock 2,.inBlock 1,.code XdU,.inLoop Xdw,.inBlock 0,.code XdF],[],false,none⟩,[],[(0,.cells [.int .u64 s.key.A,.int .u64 s.key.B,.slice (some ⟨1,0,none⟩) 6 1,.int .i64 s.total]),(1,.cells [.slice (some ⟨2,0,none⟩) s.rows.m0 1,.slice (some ⟨3,0,none⟩) s.rows.m1 1,.slice (some ⟨4,0,none⟩) s.rows.m2 1,.slice (some ⟨5,0,none⟩) s.rows.m3 1,.slice (some ⟨6,0,none⟩) s.rows.m4 1,.slice (some ⟨7,0,none⟩) s.rows.m5 1]),(2,.row true (vI .i64 c)),(3,.row true (vI .i64 c1)),(4,.row true (vI .i64 s.rows.e2)),(5,.row true (vI .i64 s.rows.e3)),(6,.row true (vI .i64 s.rows.e4)),(7,.row true (vI .i64 s.rows.e5)),(10,.row false [.int .u64 oa1.key.A,.int .u64 oa1.key.B,.slice (some ⟨11,0,none⟩) 6 1,.int .i64 oa1.total]),(11,.row false [.slice (some ⟨12,0,none⟩) oa1.rows.m0 1,.slice (some ⟨13,0,none⟩) oa1.rows.m1 1,.slice (some ⟨14,0,none⟩) oa1.rows.m2 1,.slice (some ⟨15,0,none⟩) oa1.rows.m3 1,.slice (some ⟨16,0,none⟩) oa1.rows.m4 1,.slice (some ⟨17,0,none⟩) oa1.rows.m5 1]),(12,.row false (vI .i64 oa1.rows.e0)),(13,.row false (vI .i64 oa1.rows.e1)),(14,.row false (vI .i64 oa1.rows.e2)),(15,.row false (vI .i64 oa1.rows.e3)),(16,.row false (vI .i64 oa1.rows.e4)),(17,.row false (vI .i64 oa1.rows.e5))],20⟩
def XsQ (s:Xan) (oa1:Xan) (t25:Int) (c:List Int):VM:=
 ⟨⟨14,51,[(0,.pointer (some ⟨0,0,none⟩)),(1,.pointer (some ⟨10,0,none⟩)),(5,.int .i64 0),(16,.slice (some ⟨11,0,none⟩) 6 1),(17,.int .i64 6),(18,.int .i64 0),(23,.slice (some ⟨12,0,none⟩) oa1.rows.m0 1),(24,.int .i64 (oa1.rows.m0:Int)),(25,.int .i64 t25)],[.code Xbq,.inLoop Xbq,.inBlock 2,.inBlock 1,.code XdU,.inLoop Xdw,.inBlock 0,.code XdF],[],false,none⟩,[],[(0,.cells [.int .u64 s.key.A,.int .u64 s.key.B,.slice (some ⟨1,0,none⟩) 6 1,.int .i64 s.total]),(1,.cells [.slice (some ⟨2,0,none⟩) s.rows.m0 1,.slice (some ⟨3,0,none⟩) s.rows.m1 1,.slice (some ⟨4,0,none⟩) s.rows.m2 1,.slice (some ⟨5,0,none⟩) s.rows.m3 1,.slice (some ⟨6,0,none⟩) s.rows.m4 1,.slice (some ⟨7,0,none⟩) s.rows.m5 1]),(2,.row true (vI .i64 c)),(3,.row true (vI .i64 s.rows.e1)),(4,.row true (vI .i64 s.rows.e2)),(5,.row true (vI .i64 s.rows.e3)),(6,.row true (vI .i64 s.rows.e4)),(7,.row true (vI .i64 s.rows.e5)),(10,.row false [.int .u64 oa1.key.A,.int .u64 oa1.key.B,.slice (some ⟨11,0,none⟩) 6 1,.int .i64 oa1.total]),(11,.row false [.slice (some ⟨12,0,none⟩) oa1.rows.m0 1,.slice (some ⟨13,0,none⟩) oa1.rows.m1 1,.slice (some ⟨14,0,none⟩) oa1.rows.m2 1,.slice (some ⟨15,0,none⟩) oa1.rows.m3 1,.slice (some ⟨16,0,none⟩) oa1.rows.m4 1,.slice (some ⟨17,0,none⟩) oa1.rows.m5 1]),(12,.row false (vI .i64 oa1.rows.e0)),(13,.row false (vI .i64 oa1.rows.e1)),(14,.row false (vI .i64 oa1.rows.e2)),(15,.row false (vI .i64 oa1.rows.e3)),(16,.row false (vI .i64 oa1.rows.e4)),(17,.row false (vI .i64 oa1.rows.e5))],20⟩
theorem Xtd (Xac:Xaq) (hS:XaF Try.prog (XaP (Xi9 Xac))) {s:Xan} {oa1:Xan} {c:List Int} {c1:List Int} {c2:List Int} {c3:List Int} {c4:List Int} {res:Bool×Xan}:∀ {fuel} {st:Int×(List Int)} {o:Bool×Xan},iter (fun st=>Xci s oa1 c c1 c2 c3 c4 st.1 st.2) fuel st=some o→(o=res) →
 XaU Try.prog 14 20 (Xr9 s oa1 c c1 c2 c3 c4 st.1 st.2) (fun v H _=>Res 20 (XjR res) v H):=by
 apply XaO
 intro st o h hc
 obtain ⟨t255,c5⟩:=st
 try dsimp -zeta only at h ⊢
 unfold Xci at h
 have J:=js [2,3,4,5,6,7]
 have LM:=lm XcT
 refine Xa4 XaM hS true 3000 ?_
 conv=>whnf
 exact W
theorem Xth (Xac:Xaq) (hS:XaF Try.prog (XaP (Xi9 Xac))) {s:Xan} {oa1:Xan} {c:List Int} {c1:List Int} {c2:List Int} {c3:List Int} {res:Bool×Xan}:∀ {fuel} {st:Int×(List Int)} {o:Bool×Xan},iter (fun st=>Xcp s oa1 c c1 c2 c3 st.1 st.2) fuel st=some o→(o=res) →
 XaU Try.prog 14 20 (XsC s oa1 c c1 c2 c3 st.1 st.2) (fun v H _=>Res 20 (XjR res) v H):=by
 apply XaO
 intro st o h hc
 obtain ⟨t254,c4⟩:=st
 try dsimp -zeta only at h ⊢
 unfold Xcp at h
 have J:=js [2,3,4,5,6,7]
 have LM:=lm XcT
 have LP:=@Xtd Xac hS;have LQ:=lm XcT
 refine Xa4 XaM hS true 3000 ?_
 conv=>whnf
 exact W
theorem XrZ (Xac:Xaq) (hS:XaF Try.prog (XaP (Xi9 Xac))) {s:Xan} {oa1:Xan} {c:List Int} {c1:List Int} {c2:List Int} {res:Bool×Xan}:∀ {fuel} {st:Int×(List Int)} {o:Bool×Xan},iter (fun st=>Xcg s oa1 c c1 c2 st.1 st.2) fuel st=some o→(o=res) →
 XaU Try.prog 14 20 (Xrt s oa1 c c1 c2 st.1 st.2) (fun v H _=>Res 20 (XjR res) v H):=by
 apply XaO
 intro st o h hc
 obtain ⟨t253,c3⟩:=st
 try dsimp -zeta only at h ⊢
 unfold Xcg at h
 have J:=js [2,3,4,5,6,7]
 have LM:=lm XcT
 have LP:=@Xth Xac hS;have LQ:=lm XcT
 refine Xa4 XaM hS true 3000 ?_
 conv=>whnf
 exact W
theorem XsT (Xac:Xaq) (hS:XaF Try.prog (XaP (Xi9 Xac))) {s:Xan} {oa1:Xan} {c:List Int} {c1:List Int} {res:Bool×Xan}:∀ {fuel} {st:Int×(List Int)} {o:Bool×Xan},iter (fun st=>Xcq s oa1 c c1 st.1 st.2) fuel st=some o→(o=res) →
 XaU Try.prog 14 20 (Xtq s oa1 c c1 st.1 st.2) (fun v H _=>Res 20 (XjR res) v H):=by
 apply XaO
 intro st o h hc
 obtain ⟨t252,c2⟩:=st
 try dsimp -zeta only at h ⊢
 unfold Xcq at h
 have J:=js [2,3,4,5,6,7]
 have LM:=lm XcT
 have LP:=@XrZ Xac hS;have LQ:=lm XcT
 refine Xa4 XaM hS true 3000 ?_
 conv=>whnf
 exact W
theorem XsU (Xac:Xaq) (hS:XaF Try.prog (XaP (Xi9 Xac))) {s:Xan} {oa1:Xan} {c:List Int} {res:Bool×Xan}:∀ {fuel} {st:Int×(List Int)} {o:Bool×Xan},iter (fun st=>XcB s oa1 c st.1 st.2) fuel st=some o→(o=res) →
 XaU Try.prog 14 20 (Xs6 s oa1 c st.1 st.2) (fun v H _=>Res 20 (XjR res) v H):=by
 apply XaO
 intro st o h hc
 obtain ⟨t251,c1⟩:=st
 try dsimp -zeta only at h ⊢
 unfold XcB at h
 have J:=js [2,3,4,5,6,7]
 have LM:=lm XcT
 have LP:=@XsT Xac hS;have LQ:=lm XcT
 refine Xa4 XaM hS true 3000 ?_
 conv=>whnf
 exact W
theorem Xs1 (Xac:Xaq) (hS:XaF Try.prog (XaP (Xi9 Xac))) {s:Xan} {oa1:Xan} {res:Bool×Xan}:∀ {fuel} {st:Int×(List Int)} {o:Bool×Xan},iter (fun st=>Xdd s oa1 st.1 st.2) fuel st=some o→(o=res) →
 XaU Try.prog 14 20 (XsQ s oa1 st.1 st.2) (fun v H _=>Res 20 (XjR res) v H):=by
 apply XaO
 intro st o h hc
 obtain ⟨t25,c⟩:=st
 try dsimp -zeta only at h ⊢
 unfold Xdd at h
 have J:=js [2,3,4,5,6,7]
 have LM:=lm XcT
 have LP:=@XsU Xac hS;have LQ:=lm XcT
 refine Xa4 XaM hS true 3000 ?_
 conv=>whnf
 exact W
theorem Xvg (Xac:Xaq) (hS:XaF Try.prog (XaP (Xi9 Xac))) (s:Xan) (oa1:Xan) (res:Bool×Xan) (h:Xed Xac s oa1=some res) :
 XaU Try.prog 14 20 ⟨⟨14,51,[(0,.pointer (some ⟨0,0,none⟩)),(1,.pointer (some ⟨10,0,none⟩))],[.code Xlr],[],false,none⟩,[],[(0,.cells [.int .u64 s.key.A,.int .u64 s.key.B,.slice (some ⟨1,0,none⟩) 6 1,.int .i64 s.total]),(1,.cells [.slice (some ⟨2,0,none⟩) s.rows.m0 1,.slice (some ⟨3,0,none⟩) s.rows.m1 1,.slice (some ⟨4,0,none⟩) s.rows.m2 1,.slice (some ⟨5,0,none⟩) s.rows.m3 1,.slice (some ⟨6,0,none⟩) s.rows.m4 1,.slice (some ⟨7,0,none⟩) s.rows.m5 1]),(2,.row true (vI .i64 s.rows.e0)),(3,.row true (vI .i64 s.rows.e1)),(4,.row true (vI .i64 s.rows.e2)),(5,.row true (vI .i64 s.rows.e3)),(6,.row true (vI .i64 s.rows.e4)),(7,.row true (vI .i64 s.rows.e5)),(10,.row false [.int .u64 oa1.key.A,.int .u64 oa1.key.B,.slice (some ⟨11,0,none⟩) 6 1,.int .i64 oa1.total]),(11,.row false [.slice (some ⟨12,0,none⟩) oa1.rows.m0 1,.slice (some ⟨13,0,none⟩) oa1.rows.m1 1,.slice (some ⟨14,0,none⟩) oa1.rows.m2 1,.slice (some ⟨15,0,none⟩) oa1.rows.m3 1,.slice (some ⟨16,0,none⟩) oa1.rows.m4 1,.slice (some ⟨17,0,none⟩) oa1.rows.m5 1]),(12,.row false (vI .i64 oa1.rows.e0)),(13,.row false (vI .i64 oa1.rows.e1)),(14,.row false (vI .i64 oa1.rows.e2)),(15,.row false (vI .i64 oa1.rows.e3)),(16,.row false (vI .i64 oa1.rows.e4)),(17,.row false (vI .i64 oa1.rows.e5))],20⟩ (fun v H _=>Res 20 (XjR res) v H):=by
 unfold Xed at h
 have R1:=@XzN Xac
 have J:=js [2,3,4,5,6,7]
 have LP:=@Xs1 Xac hS;have LQ:=lm XcT
 refine Xa4 XaM hS true 3000 ?_
 conv=>whnf
 exact W
def Xcw (s:Xal) (oa1:Xal) (c:List Int) (c1:List Int) (c2:List Int) (c3:List Int) (c4:List Int) (c5:List Int) (t256:Int) (c6:List Int):Option (Sum (Int×(List Int)) (Bool×Xal)):=
 cond (decide (t256<(oa1.rows.m6:Int)))
  (
  XaQ (decide ((0:Int)≤t256∧t256<(oa1.rows.m6:Int))) <|
  (oa1.rows.e6[t256.toNat]?).bind fun (e12:Int)=>
  XaQ (decide ((0:Int)≤t256∧t256<(s.rows.m6:Int))) <|
  (c6[t256.toNat]?).bind fun (e13:Int)=>
  let t6:=if (wI .i64 (e13+e12))<1099511627776 then wI .i64 (e13+e12) else 1099511627776
  XaQ (decide (t256.toNat<c6.length)) <|
  let row6:=c6.set t256.toNat t6
  some (.inl (wI .i64 (t256+1),row6)))
  (
  let t7:=if (wI .i64 (s.total+oa1.total))<1099511627776 then wI .i64 (s.total+oa1.total) else 1099511627776
  some (.inr ((true,Xal.mk s.key (XbV.mk c c1 c2 c3 c4 c5 c6 s.rows.m0 s.rows.m1 s.rows.m2 s.rows.m3 s.rows.m4 s.rows.m5 s.rows.m6) t7))))
def Xct (s:Xal) (oa1:Xal) (c:List Int) (c1:List Int) (c2:List Int) (c3:List Int) (c4:List Int) (t255:Int) (c5:List Int):Option (Sum (Int×(List Int)) (Bool×Xal)):=
 cond (decide (t255<(oa1.rows.m5:Int)))
  (
  XaQ (decide ((0:Int)≤t255∧t255<(oa1.rows.m5:Int))) <|
  (oa1.rows.e5[t255.toNat]?).bind fun (e10:Int)=>
  XaQ (decide ((0:Int)≤t255∧t255<(s.rows.m5:Int))) <|
  (c5[t255.toNat]?).bind fun (e11:Int)=>
  let t5:=if (wI .i64 (e11+e10))<1099511627776 then wI .i64 (e11+e10) else 1099511627776
  XaQ (decide (t255.toNat<c5.length)) <|
  let row5:=c5.set t255.toNat t5
  some (.inl (wI .i64 (t255+1),row5)))
  (
  (iter (fun st=>Xcw s oa1 c c1 c2 c3 c4 c5 st.1 st.2) FUEL (0,s.rows.e6)).bind fun o=>some (.inr (o)))
def Xch (s:Xal) (oa1:Xal) (c:List Int) (c1:List Int) (c2:List Int) (c3:List Int) (t254:Int) (c4:List Int):Option (Sum (Int×(List Int)) (Bool×Xal)):=
 cond (decide (t254<(oa1.rows.m4:Int)))
  (
  XaQ (decide ((0:Int)≤t254∧t254<(oa1.rows.m4:Int))) <|
  (oa1.rows.e4[t254.toNat]?).bind fun (e8:Int)=>
  XaQ (decide ((0:Int)≤t254∧t254<(s.rows.m4:Int))) <|
  (c4[t254.toNat]?).bind fun (e9:Int)=>
  let t4:=if (wI .i64 (e9+e8))<1099511627776 then wI .i64 (e9+e8) else 1099511627776
  XaQ (decide (t254.toNat<c4.length)) <|
  let row4:=c4.set t254.toNat t4
  some (.inl (wI .i64 (t254+1),row4)))
  (
  (iter (fun st=>Xct s oa1 c c1 c2 c3 c4 st.1 st.2) FUEL (0,s.rows.e5)).bind fun o=>some (.inr (o)))
def Xcz (s:Xal) (oa1:Xal) (c:List Int) (c1:List Int) (c2:List Int) (t253:Int) (c3:List Int):Option (Sum (Int×(List Int)) (Bool×Xal)):=
 cond (decide (t253<(oa1.rows.m3:Int)))
  (
  XaQ (decide ((0:Int)≤t253∧t253<(oa1.rows.m3:Int))) <|
  (oa1.rows.e3[t253.toNat]?).bind fun (e6:Int)=>
  XaQ (decide ((0:Int)≤t253∧t253<(s.rows.m3:Int))) <|
  (c3[t253.toNat]?).bind fun (e7:Int)=>
  let t3:=if (wI .i64 (e7+e6))<1099511627776 then wI .i64 (e7+e6) else 1099511627776
  XaQ (decide (t253.toNat<c3.length)) <|
  let row3:=c3.set t253.toNat t3
  some (.inl (wI .i64 (t253+1),row3)))
  (
  (iter (fun st=>Xch s oa1 c c1 c2 c3 st.1 st.2) FUEL (0,s.rows.e4)).bind fun o=>some (.inr (o)))
def Xcr (s:Xal) (oa1:Xal) (c:List Int) (c1:List Int) (t252:Int) (c2:List Int):Option (Sum (Int×(List Int)) (Bool×Xal)):=
 cond (decide (t252<(oa1.rows.m2:Int)))
  (
  XaQ (decide ((0:Int)≤t252∧t252<(oa1.rows.m2:Int))) <|
  (oa1.rows.e2[t252.toNat]?).bind fun (e4:Int)=>
  XaQ (decide ((0:Int)≤t252∧t252<(s.rows.m2:Int))) <|
  (c2[t252.toNat]?).bind fun (e5:Int)=>
  let t2:=if (wI .i64 (e5+e4))<1099511627776 then wI .i64 (e5+e4) else 1099511627776
  XaQ (decide (t252.toNat<c2.length)) <|
  let row2:=c2.set t252.toNat t2
  some (.inl (wI .i64 (t252+1),row2)))
  (
  (iter (fun st=>Xcz s oa1 c c1 c2 st.1 st.2) FUEL (0,s.rows.e3)).bind fun o=>some (.inr (o)))
def Xcj (s:Xal) (oa1:Xal) (c:List Int) (t251:Int) (c1:List Int):Option (Sum (Int×(List Int)) (Bool×Xal)):=
 cond (decide (t251<(oa1.rows.m1:Int)))
  (
  XaQ (decide ((0:Int)≤t251∧t251<(oa1.rows.m1:Int))) <|
  (oa1.rows.e1[t251.toNat]?).bind fun (e2:Int)=>
  XaQ (decide ((0:Int)≤t251∧t251<(s.rows.m1:Int))) <|
  (c1[t251.toNat]?).bind fun (e3:Int)=>
  let t1:=if (wI .i64 (e3+e2))<1099511627776 then wI .i64 (e3+e2) else 1099511627776
  XaQ (decide (t251.toNat<c1.length)) <|
  let row1:=c1.set t251.toNat t1
  some (.inl (wI .i64 (t251+1),row1)))
  (
  (iter (fun st=>Xcr s oa1 c c1 st.1 st.2) FUEL (0,s.rows.e2)).bind fun o=>some (.inr (o)))
def Xdb (s:Xal) (oa1:Xal) (t25:Int) (c:List Int):Option (Sum (Int×(List Int)) (Bool×Xal)):=
 cond (decide (t25<(oa1.rows.m0:Int)))
  (
  XaQ (decide ((0:Int)≤t25∧t25<(oa1.rows.m0:Int))) <|
  (oa1.rows.e0[t25.toNat]?).bind fun (e:Int)=>
  XaQ (decide ((0:Int)≤t25∧t25<(s.rows.m0:Int))) <|
  (c[t25.toNat]?).bind fun (e1:Int)=>
  let t:=if (wI .i64 (e1+e))<1099511627776 then wI .i64 (e1+e) else 1099511627776
  XaQ (decide (t25.toNat<c.length)) <|
  let row:=c.set t25.toNat t
  some (.inl (wI .i64 (t25+1),row)))
  (
  (iter (fun st=>Xcj s oa1 c st.1 st.2) FUEL (0,s.rows.e1)).bind fun o=>some (.inr (o)))
def Xef (Xac:Xaq) (s:Xal) (oa1:Xal):Option (Bool×Xal):=
 (Xac.v77 s oa1).bind fun x7=>
 cond (!x7)
  (
  some ((false,s)))
  (
  iter (fun st=>Xdb s oa1 st.1 st.2) FUEL (0,s.rows.e0))
def Xjt (x:Bool×Xal):Xdu:=⟨.bool x.1,[(vI .i64 x.2.rows.e0),(vI .i64 x.2.rows.e1),(vI .i64 x.2.rows.e2),(vI .i64 x.2.rows.e3),(vI .i64 x.2.rows.e4),(vI .i64 x.2.rows.e5),(vI .i64 x.2.rows.e6)],[some [.int .u64 x.2.key.A,.int .u64 x.2.key.B,.slice (some ⟨8,0,none⟩) 7 1,.int .i64 x.2.total],some [.slice (some ⟨0,0,none⟩) x.2.rows.m0 1,.slice (some ⟨1,0,none⟩) x.2.rows.m1 1,.slice (some ⟨2,0,none⟩) x.2.rows.m2 1,.slice (some ⟨3,0,none⟩) x.2.rows.m3 1,.slice (some ⟨4,0,none⟩) x.2.rows.m4 1,.slice (some ⟨5,0,none⟩) x.2.rows.m5 1,.slice (some ⟨6,0,none⟩) x.2.rows.m6 1],none,none,none,none,none,none,none,none,none,none,none,none,none,none,none,none,none,none]⟩
abbrev Xgs:=Xal→Xal→Option (Bool×Xal)
def XIw (g:Xgs):Dec:=dTr 10 (XbJ 0) fun (y0:Xal)=>dTr 10 (XbJ 10) fun (y1:Xal)=>XeC (ofG (g y0 y1) Xjt)
abbrev XiF (Xac:Xaq):List (Nat×XcS):=[(42,s42 Xac)]
def Xrr (s:Xal) (oa1:Xal) (c:List Int) (c1:List Int) (c2:List Int) (c3:List Int) (c4:List Int) (c5:List Int) (t256:Int) (c6:List Int):VM:=
 ⟨⟨14,51,[(0,.pointer (some ⟨0,0,none⟩)),(1,.pointer (some ⟨10,0,none⟩)),(5,.int .i64 6),(16,.slice (some ⟨11,0,none⟩) 7 1),(17,.int .i64 7),(18,.int .i64 6),(23,.slice (some ⟨18,0,none⟩) oa1.rows.m6 1),(24,.int .i64 (oa1.rows.m6:Int)),(25,.int .i64 t256)],[.code Xbq,.inLoop Xbq,.inBlock 2,.inBlock 1,.code XdU,.inLoop Xdw,.inBlock 0,.code XdF],[],false,none⟩,[],[(0,.cells [.int .u64 s.key.A,.int .u64 s.key.B,.slice (some ⟨1,0,none⟩) 7 1,.int .i64 s.total]),(1,.cells [.slice (some ⟨2,0,none⟩) s.rows.m0 1,.slice (some ⟨3,0,none⟩) s.rows.m1 1,.slice (some ⟨4,0,none⟩) s.rows.m2 1,.slice (some ⟨5,0,none⟩) s.rows.m3 1,.slice (some ⟨6,0,none⟩) s.rows.m4 1,.slice (some ⟨7,0,none⟩) s.rows.m5 1,.slice (some ⟨8,0,none⟩) s.rows.m6 1]),(2,.row true (vI .i64 c)),(3,.row true (vI .i64 c1)),(4,.row true (vI .i64 c2)),(5,.row true (vI .i64 c3)),(6,.row true (vI .i64 c4)),(7,.row true (vI .i64 c5)),(8,.row true (vI .i64 c6)),(10,.row false [.int .u64 oa1.key.A,.int .u64 oa1.key.B,.slice (some ⟨11,0,none⟩) 7 1,.int .i64 oa1.total]),(11,.row false [.slice (some ⟨12,0,none⟩) oa1.rows.m0 1,.slice (some ⟨13,0,none⟩) oa1.rows.m1 1,.slice (some ⟨14,0,none⟩) oa1.rows.m2 1,.slice (some ⟨15,0,none⟩) oa1.rows.m3 1,.slice (some ⟨16,0,none⟩) oa1.rows.m4 1,.slice (some ⟨17,0,none⟩) oa1.rows.m5 1,.slice (some ⟨18,0,none⟩) oa1.rows.m6 1]),(12,.row false (vI .i64 oa1.rows.e0)),(13,.row false (vI .i64 oa1.rows.e1)),(14,.row false (vI .i64 oa1.rows.e2)),(15,.row false (vI .i64 oa1.rows.e3)),(16,.row false (vI .i64 oa1.rows.e4)),(17,.row false (vI .i64 oa1.rows.e5)),(18,.row false (vI .i64 oa1.rows.e6))],20⟩
def XsP (s:Xal) (oa1:Xal) (c:List Int) (c1:List Int) (c2:List Int) (c3:List Int) (c4:List Int) (t255:Int) (c5:List Int):VM:=
 ⟨⟨14,51,[(0,.pointer (some ⟨0,0,none⟩)),(1,.pointer (some ⟨10,0,none⟩)),(5,.int .i64 5),(16,.slice (some ⟨11,0,none⟩) 7 1),(17,.int .i64 7),(18,.int .i64 5),(23,.slice (some ⟨17,0,none⟩) oa1.rows.m5 1),(24,.int .i64 (oa1.rows.m5:Int)),(25,.int .i64 t255)],[.code Xbq,.inLoop Xbq,.inBlock 2,.inBlock 1,.code XdU,.inLoop Xdw,.inBlock 0,.code XdF],[],false,none⟩,[],[(0,.cells [.int .u64 s.key.A,.int .u64 s.key.B,.slice (some ⟨1,0,none⟩) 7 1,.int .i64 s.total]),(1,.cells [.slice (some ⟨2,0,none⟩) s.rows.m0 1,.slice (some ⟨3,0,none⟩) s.rows.m1 1,.slice (some ⟨4,0,none⟩) s.rows.m2 1,.slice (some ⟨5,0,none⟩) s.rows.m3 1,.slice (some ⟨6,0,none⟩) s.rows.m4 1,.slice (some ⟨7,0,none⟩) s.rows.m5 1,.slice (some ⟨8,0,none⟩) s.rows.m6 1]),(2,.row true (vI .i64 c)),(3,.row true (vI .i64 c1)),(4,.row true (vI .i64 c2)),(5,.row true (vI .i64 c3)),(6,.row true (vI .i64 c4)),(7,.row true (vI .i64 c5)),(8,.row true (vI .i64 s.rows.e6)),(10,.row false [.int .u64 oa1.key.A,.int .u64 oa1.key.B,.slice (some ⟨11,0,none⟩) 7 1,.int .i64 oa1.total]),(11,.row false [.slice (some ⟨12,0,none⟩) oa1.rows.m0 1,.slice (some ⟨13,0,none⟩) oa1.rows.m1 1,.slice (some ⟨14,0,none⟩) oa1.rows.m2 1,.slice (some ⟨15,0,none⟩) oa1.rows.m3 1,.slice (some ⟨16,0,none⟩) oa1.rows.m4 1,.slice (some ⟨17,0,none⟩) oa1.rows.m5 1,.slice (some ⟨18,0,none⟩) oa1.rows.m6 1]),(12,.row false (vI .i64 oa1.rows.e0)),(13,.row false (vI .i64 oa1.rows.e1)),(14,.row false (vI .i64 oa1.rows.e2)),(15,.row false (vI .i64 oa1.rows.e3)),(16,.row false (vI .i64 oa1.rows.e4)),(17,.row false (vI .i64 oa1.rows.e5)),(18,.row false (vI .i64 oa1.rows.e6))],20⟩
def Xrv (s:Xal) (oa1:Xal) (c:List Int) (c1:List Int) (c2:List Int) (c3:List Int) (t254:Int) (c4:List Int):VM:=
 ⟨⟨14,51,[(0,.pointer (some ⟨0,0,none⟩)),(1,.pointer (some ⟨10,0,none⟩)),(5,.int .i64 4),(16,.slice (some ⟨11,0,none⟩) 7 1),(17,.int .i64 7),(18,.int .i64 4),(23,.slice (some ⟨16,0,none⟩) oa1.rows.m4 1),(24,.int .i64 (oa1.rows.m4:Int)),(25,.int .i64 t254)],[.code Xbq,.inLoop Xbq,.inBlock 2,.inBlock 1,.code XdU,.inLoop Xdw,.inBlock 0,.code XdF],[],false,none⟩,[],[(0,.cells [.int .u64 s.key.A,.int .u64 s.key.B,.slice (some ⟨1,0,none⟩) 7 1,.int .i64 s.total]),(1,.cells [.slice (some ⟨2,0,none⟩) s.rows.m0 1,.slice (some ⟨3,0,none⟩) s.rows.m1 1,.slice (some ⟨4,0,none⟩) s.rows.m2 1,.slice (some ⟨5,0,none⟩) s.rows.m3 1,.slice (some ⟨6,0,none⟩) s.rows.m4 1,.slice (some ⟨7,0,none⟩) s.rows.m5 1,.slice (some ⟨8,0,none⟩) s.rows.m6 1]),(2,.row true (vI .i64 c)),(3,.row true (vI .i64 c1)),(4,.row true (vI .i64 c2)),(5,.row true (vI .i64 c3)),(6,.row true (vI .i64 c4)),(7,.row true (vI .i64 s.rows.e5)),(8,.row true (vI .i64 s.rows.e6)),(10,.row false [.int .u64 oa1.key.A,.int .u64 oa1.key.B,.slice (some ⟨11,0,none⟩) 7 1,.int .i64 oa1.total]),(11,.row false [.slice (some ⟨12,0,none⟩) oa1.rows.m0 1,.slice (some ⟨13,0,none⟩) oa1.rows.m1 1,.slice (some ⟨14,0,none⟩) oa1.rows.m2 1,.slice (some ⟨15,0,none⟩) oa1.rows.m3 1,.slice (some ⟨16,0,none⟩) oa1.rows.m4 1,.slice (some ⟨17,0,none⟩) oa1.rows.m5 1,.slice (some ⟨18,0,none⟩) oa1.rows.m6 1]),(12,.row false (vI .i64 oa1.rows.e0)),(13,.row false (vI .i64 oa1.rows.e1)),(14,.row false (vI .i64 oa1.rows.e2)),(15,.row false (vI .i64 oa1.rows.e3)),(16,.row false (vI .i64 oa1.rows.e4)),(17,.row false (vI .i64 oa1.rows.e5)),(18,.row false (vI .i64 oa1.rows.e6))],20⟩
def Xtb (s:Xal) (oa1:Xal) (c:List Int) (c1:List Int) (c2:List Int) (t253:Int) (c3:List Int):VM:=
 ⟨⟨14,51,[(0,.pointer (some ⟨0,0,none⟩)),(1,.pointer (some ⟨10,0,none⟩)),(5,.int .i64 3),(16,.slice (some ⟨11,0,none⟩) 7 1),(17,.int .i64 7),(18,.int .i64 3),(23,.slice (some ⟨15,0,none⟩) oa1.rows.m3 1),(24,.int .i64 (oa1.rows.m3:Int)),(25,.int .i64 t253)],[.code Xbq,.inLoop Xbq,.inBlock 2,.inBlock 1,.code XdU,.inLoop Xdw,.inBlock 0,.code XdF],[],false,none⟩,[],[(0,.cells [.int .u64 s.key.A,.int .u64 s.key.B,.slice (some ⟨1,0,none⟩) 7 1,.int .i64 s.total]),(1,.cells [.slice (some ⟨2,0,none⟩) s.rows.m0 1,.slice (some ⟨3,0,none⟩) s.rows.m1 1,.slice (some ⟨4,0,none⟩) s.rows.m2 1,.slice (some ⟨5,0,none⟩) s.rows.m3 1,.slice (some ⟨6,0,none⟩) s.rows.m4 1,.slice (some ⟨7,0,none⟩) s.rows.m5 1,.slice (some ⟨8,0,none⟩) s.rows.m6 1]),(2,.row true (vI .i64 c)),(3,.row true (vI .i64 c1)),(4,.row true (vI .i64 c2)),(5,.row true (vI .i64 c3)),(6,.row true (vI .i64 s.rows.e4)),(7,.row true (vI .i64 s.rows.e5)),(8,.row true (vI .i64 s.rows.e6)),(10,.row false [.int .u64 oa1.key.A,.int .u64 oa1.key.B,.slice (some ⟨11,0,none⟩) 7 1,.int .i64 oa1.total]),(11,.row false [.slice (some ⟨12,0,none⟩) oa1.rows.m0 1,.slice (some ⟨13,0,none⟩) oa1.rows.m1 1,.slice (some ⟨14,0,none⟩) oa1.rows.m2 1,.slice (some ⟨15,0,none⟩) oa1.rows.m3 1,.slice (some ⟨16,0,none⟩) oa1.rows.m4 1,.slice (some ⟨17,0,none⟩) oa1.rows.m5 1,.slice (some ⟨18,0,none⟩) oa1.rows.m6 1]),(12,.row false (vI .i64 oa1.rows.e0)),(13,.row false (vI .i64 oa1.rows.e1)),(14,.row false (vI .i64 oa1.rows.e2)),(15,.row false (vI .i64 oa1.rows.e3)),(16,.row false (vI .i64 oa1.rows.e4)),(17,.row false (vI .i64 oa1.rows.e5)),(18,.row false (vI .i64 oa1.rows.e6))],20⟩
def XrJ (s:Xal) (oa1:Xal) (c:List Int) (c1:List Int) (t252:Int) (c2:List Int):VM:=
 ⟨⟨14,51,[(0,.pointer (some ⟨0,0,none⟩)),(1,.pointer (some ⟨10,0,none⟩)),(5,.int .i64 2),(16,.slice (some ⟨11,0,none⟩) 7 1),(17,.int .i64 7),(18,.int .i64 2),(23,.slice (some ⟨14,0,none⟩) oa1.rows.m2 1),(24,.int .i64 (oa1.rows.m2:Int)),(25,.int .i64 t252)],[.code Xbq,.inLoop Xbq,.inBlock 2,.inBlock 1,.code XdU,.inLoop Xdw,.inBlock 0,.code XdF],[],false,none⟩,[],[(0,.cells [.int .u64 s.key.A,.int .u64 s.key.B,.slice (some ⟨1,0,none⟩) 7 1,.int .i64 s.total]),(1,.cells [.slice (some ⟨2,0,none⟩) s.rows.m0 1,.slice (some ⟨3,0,none⟩) s.rows.m1 1,.slice (some ⟨4,0,none⟩) s.rows.m2 1,.slice (some ⟨5,0,none⟩) s.rows.m3 1,.slice (some ⟨6,0,none⟩) s.rows.m4 1,.slice (some ⟨7,0,none⟩) s.rows.m5 1,.slice (some ⟨8,0,none⟩) s.rows.m6 1]),(2,.row true (vI .i64 c)),(3,.row true (vI .i64 c1)),(4,.row true (vI .i64 c2)),(5,.row true (vI .i64 s.rows.e3)),(6,.row true (vI .i64 s.rows.e4)),(7,.row true (vI .i64 s.rows.e5)),(8,.row true (vI .i64 s.rows.e6)),(10,.row false [.int .u64 oa1.key.A,.int .u64 oa1.key.B,.slice (some ⟨11,0,none⟩) 7 1,.int .i64 oa1.total]),(11,.row false [.slice (some ⟨12,0,none⟩) oa1.rows.m0 1,.slice (some ⟨13,0,none⟩) oa1.rows.m1 1,.slice (some ⟨14,0,none⟩) oa1.rows.m2 1,.slice (some ⟨15,0,none⟩) oa1.rows.m3 1,.slice (some ⟨16,0,none⟩) oa1.rows.m4 1,.slice (some ⟨17,0,none⟩) oa1.rows.m5 1,.slice (some ⟨18,0,none⟩) oa1.rows.m6 1]),(12,.row false (vI .i64 oa1.rows.e0)),(13,.row false (vI .i64 oa1.rows.e1)),(14,.row false (vI .i64 oa1.rows.e2)),(15,.row false (vI .i64 oa1.rows.e3)),(16,.row false (vI .i64 oa1.rows.e4)),(17,.row false (vI .i64 oa1.rows.e5)),(18,.row false (vI .i64 oa1.rows.e6))],20⟩
def Xsp (s:Xal) (oa1:Xal) (c:List Int) (t251:Int) (c1:List Int):VM:=
 ⟨⟨14,51,[(0,.pointer (some ⟨0,0,none⟩)),(1,.pointer (some ⟨10,0,none⟩)),(5,.int .i64 1),(16,.slice (some ⟨11,0,none⟩) 7 1),(17,.int .i64 7),(18,.int .i64 1),(23,.slice (some ⟨13,0,none⟩) oa1.rows.m1 1),(24,.int .i64 (oa1.rows.m1:Int)),(25,.int .i64 t251)],[.code Xbq,.inLoop Xbq,.inBlock 2,.inBlock 1,.code XdU,.inLoop Xdw,.inBlock 0,.code XdF],[],false,none⟩,[],[(0,.cells [.int .u64 s.key.A,.int .u64 s.key.B,.slice (some ⟨1,0,none⟩) 7 1,.int .i64 s.total]),(1,.cells [.slice (some ⟨2,0,none⟩) s.rows.m0 1,.slice (some ⟨3,0,none⟩) s.rows.m1 1,.slice (some ⟨4,0,none⟩) s.rows.m2 1,.slice (some ⟨5,0,none⟩) s.rows.m3 1,.slice (some ⟨6,0,none⟩) s.rows.m4 1,.slice (some ⟨7,0,none⟩) s.rows.m5 1,.slice (some ⟨8,0,none⟩) s.rows.m6 1]),(2,.row true (vI .i64 c)),(3,.row true (vI .i64 c1)),(4,.row true (vI .i64 s.rows.e2)),(5,.row true (vI .i64 s.rows.e3)),(6,.row true (vI .i64 s.rows.e4)),(7,.row true (vI .i64 s.rows.e5)),(8,.row true (vI .i64 s.rows.e6)),(10,.row false [.int .u64 oa1.key.A,.int .u64 oa1.key.B,.slice (some ⟨11,0,none⟩) 7 1,.int .i64 oa1.total]),(11,.row false [.slice (some ⟨12,0,none⟩) oa1.rows.m0 1,.slice (some ⟨13,0,none⟩) oa1.rows.m1 1,.slice (some ⟨14,0,none⟩) oa1.rows.m2 1,.slice (some ⟨15,0,none⟩) oa1.rows.m3 1,.slice (some ⟨16,0,none⟩) oa1.rows.m4 1,.slice (some ⟨17,0,none⟩) oa1.rows.m5 1,.slice (some ⟨18,0,none⟩) oa1.rows.m6 1]),(12,.row false (vI .i64 oa1.rows.e0)),(13,.row false (vI .i64 oa1.rows.e1)),(14,.row false (vI .i64 oa1.rows.e2)),(15,.row false (vI .i64 oa1.rows.e3)),(16,.row false (vI .i64 oa1.rows.e4)),(17,.row false (vI .i64 oa1.rows.e5)),(18,.row false (vI .i64 oa1.rows.e6))],20⟩
def XrH (s:Xal) (oa1:Xal) (t25:Int) (c:List Int):VM:=
 ⟨⟨14,51,[(0,.pointer (some ⟨0,0,none⟩)),(1,.pointer (some ⟨10,0,none⟩)),(5,.int .i64 0),(16,.slice (some ⟨11,0,none⟩) 7 1),(17,.int .i64 7),(18,.int .i64 0),(23,.slice (some ⟨12,0,none⟩) oa1.rows.m0 1),(24,.int .i64 (oa1.rows.m0:Int)),(25,.int .i64 t25)],[.code Xbq,.inLoop Xbq,.inBlock 2,.inBlock 1,.code XdU,.inLoop Xdw,.inBlock 0,.code XdF],[],false,none⟩,[],[(0,.cells [.int .u64 s.key.A,.int .u64 s.key.B,.slice (some ⟨1,0,none⟩) 7 1,.int .i64 s.total]),(1,.cells [.slice (some ⟨2,0,none⟩) s.rows.m0 1,.slice (some ⟨3,0,none⟩) s.rows.m1 1,.slice (some ⟨4,0,none⟩) s.rows.m2 1,.slice (some ⟨5,0,none⟩) s.rows.m3 1,.slice (some ⟨6,0,none⟩) s.rows.m4 1,.slice (some ⟨7,0,none⟩) s.rows.m5 1,.slice (some ⟨8,0,none⟩) s.rows.m6 1]),(2,.row true (vI .i64 c)),(3,.row true (vI .i64 s.rows.e1)),(4,.row true (vI .i64 s.rows.e2)),(5,.row true (vI .i64 s.rows.e3)),(6,.row true (vI .i64 s.rows.e4)),(7,.row true (vI .i64 s.rows.e5)),(8,.row true (vI .i64 s.rows.e6)),(10,.row false [.int .u64 oa1.key.A,.int .u64 oa1.key.B,.slice (some ⟨11,0,none⟩) 7 1,.int .i64 oa1.total]),(11,.row false [.slice (some ⟨12,0,none⟩) oa1.rows.m0 1,.slice (some ⟨13,0,none⟩) oa1.rows.m1 1,.slice (some ⟨14,0,none⟩) oa1.rows.m2 1,.slice (some ⟨15,0,none⟩) oa1.rows.m3 1,.slice (some ⟨16,0,none⟩) oa1.rows.m4 1,.slice (some ⟨17,0,none⟩) oa1.rows.m5 1,.slice (some ⟨18,0,none⟩) oa1.rows.m6 1]),(12,.row false (vI .i64 oa1.rows.e0)),(13,.row false (vI .i64 oa1.rows.e1)),(14,.row false (vI .i64 oa1.rows.e2)),(15,.row false (vI .i64 oa1.rows.e3)),(16,.row false (vI .i64 oa1.rows.e4)),(17,.row false (vI .i64 oa1.rows.e5)),(18,.row false (vI .i64 oa1.rows.e6))],20⟩
theorem Xsq (Xac:Xaq) (hS:XaF Try.prog (XaP (XiF Xac))) {s:Xal} {oa1:Xal} {c:List Int} {c1:List Int} {c2:List Int} {c3:List Int} {c4:List Int} {c5:List Int} {res:Bool×Xal}:∀ {fuel} {st:Int×(List Int)} {o:Bool×Xal},iter (fun st=>Xcw s oa1 c c1 c2 c3 c4 c5 st.1 st.2) fuel st=some o→(o=res) →
 XaU Try.prog 14 20 (Xrr s oa1 c c1 c2 c3 c4 c5 st.1 st.2) (fun v H _=>Res 20 (Xjt res) v H):=by
 apply XaO
 intro st o h hc
 obtain ⟨t256,c6⟩:=st
 try dsimp -zeta only at h ⊢
 unfold Xcw at h
 have J:=js [2,3,4,5,6,7,8]
 have LM:=lm XcT
 refine Xa4 XaM hS true 3000 ?_
 conv=>whnf
 exact W
theorem Xr2 (Xac:Xaq) (hS:XaF Try.prog (XaP (XiF Xac))) {s:Xal} {oa1:Xal} {c:List Int} {c1:List Int} {c2:List Int} {c3:List Int} {c4:List Int} {res:Bool×Xal}:∀ {fuel} {st:Int×(List Int)} {o:Bool×Xal},iter (fun st=>Xct s oa1 c c1 c2 c3 c4 st.1 st.2) fuel st=some o→(o=res) →
 XaU Try.prog 14 20 (XsP s oa1 c c1 c2 c3 c4 st.1 st.2) (fun v H _=>Res 20 (Xjt res) v H):=by
 apply XaO
 intro st o h hc
 obtain ⟨t255,c5⟩:=st
 try dsimp -zeta only at h ⊢
 unfold Xct at h
 have J:=js [2,3,4,5,6,7,8]
 have LM:=lm XcT
 have LP:=@Xsq Xac hS;have LQ:=lm XcT
 refine Xa4 XaM hS true 3000 ?_
 conv=>whnf
 exact W
theorem XrP (Xac:Xaq) (hS:XaF Try.prog (XaP (XiF Xac))) {s:Xal} {oa1:Xal} {c:List Int} {c1:List Int} {c2:List Int} {c3:List Int} {res:Bool×Xal}:∀ {fuel} {st:Int×(List Int)} {o:Bool×Xal},iter (fun st=>Xch s oa1 c c1 c2 c3 st.1 st.2) fuel st=some o→(o=res) →
 XaU Try.prog 14 20 (Xrv s oa1 c c1 c2 c3 st.1 st.2) (fun v H _=>Res 20 (Xjt res) v H):=by
 apply XaO
 intro st o h hc
 obtain ⟨t254,c4⟩:=st
 try dsimp -zeta only at h ⊢
 unfold Xch at h
 have J:=js [2,3,4,5,6,7,8]
 have LM:=lm XcT
 have LP:=@Xr2 Xac hS;have LQ:=lm XcT
 refine Xa4 XaM hS true 3000 ?_
 conv=>whnf
 exact W
theorem Xsw (Xac:Xaq) (hS:XaF Try.prog (XaP (XiF Xac))) {s:Xal} {oa1:Xal} {c:List Int} {c1:List Int} {c2:List Int} {res:Bool×Xal}:∀ {fuel} {st:Int×(List Int)} {o:Bool×Xal},iter (fun st=>Xcz s oa1 c c1 c2 st.1 st.2) fuel st=some o→(o=res) →
 XaU Try.prog 14 20 (Xtb s oa1 c c1 c2 st.1 st.2) (fun v H _=>Res 20 (Xjt res) v H):=by
 apply XaO
 intro st o h hc
 obtain ⟨t253,c3⟩:=st
 try dsimp -zeta only at h ⊢
 unfold Xcz at h
 have J:=js [2,3,4,5,6,7,8]
 have LM:=lm XcT
 have LP:=@XrP Xac hS;have LQ:=lm XcT
 refine Xa4 XaM hS true 3000 ?_
 conv=>whnf
 exact W
theorem XsZ (Xac:Xaq) (hS:XaF Try.prog (XaP (XiF Xac))) {s:Xal} {oa1:Xal} {c:List Int} {c1:List Int} {res:Bool×Xal}:∀ {fuel} {st:Int×(List Int)} {o:Bool×Xal},iter (fun st=>Xcr s oa1 c c1 st.1 st.2) fuel st=some o→(o=res) →
 XaU Try.prog 14 20 (XrJ s oa1 c c1 st.1 st.2) (fun v H _=>Res 20 (Xjt res) v H):=by
 apply XaO
 intro st o h hc
 obtain ⟨t252,c2⟩:=st
 try dsimp -zeta only at h ⊢
 unfold Xcr at h
 have J:=js [2,3,4,5,6,7,8]
 have LM:=lm XcT
 have LP:=@Xsw Xac hS;have LQ:=lm XcT
 refine Xa4 XaM hS true 3000 ?_
 conv=>whnf
 exact W
theorem Xr4 (Xac:Xaq) (hS:XaF Try.prog (XaP (XiF Xac))) {s:Xal} {oa1:Xal} {c:List Int} {res:Bool×Xal}:∀ {fuel} {st:Int×(List Int)} {o:Bool×Xal},iter (fun st=>Xcj s oa1 c st.1 st.2) fuel st=some o→(o=res) →
 XaU Try.prog 14 20 (Xsp s oa1 c st.1 st.2) (fun v H _=>Res 20 (Xjt res) v H):=by
 apply XaO
 intro st o h hc
 obtain ⟨t251,c1⟩:=st
 try dsimp -zeta only at h ⊢
 unfold Xcj at h
 have J:=js [2,3,4,5,6,7,8]
 have LM:=lm XcT
 have LP:=@XsZ Xac hS;have LQ:=lm XcT
 refine Xa4 XaM hS true 3000 ?_
 conv=>whnf
 exact W
theorem XrI (Xac:Xaq) (hS:XaF Try.prog (XaP (XiF Xac))) {s:Xal} {oa1:Xal} {res:Bool×Xal}:∀ {fuel} {st:Int×(List Int)} {o:Bool×Xal},iter (fun st=>Xdb s oa1 st.1 st.2) fuel st=some o→(o=res) →
 XaU Try.prog 14 20 (XrH s oa1 st.1 st.2) (fun v H _=>Res 20 (Xjt res) v H):=by
 apply XaO
 intro st o h hc
 obtain ⟨t25,c⟩:=st
 try dsimp -zeta only at h ⊢
 unfold Xdb at h
 have J:=js [2,3,4,5,6,7,8]
 have LM:=lm XcT
 have LP:=@Xr4 Xac hS;have LQ:=lm XcT
 refine Xa4 XaM hS true 3000 ?_
 conv=>whnf
 exact W
theorem XvY (Xac:Xaq) (hS:XaF Try.prog (XaP (XiF Xac))) (s:Xal) (oa1:Xal) (res:Bool×Xal) (h:Xef Xac s oa1=some res) :
 XaU Try.prog 14 20 ⟨⟨14,51,[(0,.pointer (some ⟨0,0,none⟩)),(1,.pointer (some ⟨10,0,none⟩))],[.code Xlr],[],false,none⟩,[],[(0,.cells [.int .u64 s.key.A,.int .u64 s.key.B,.slice (some ⟨1,0,none⟩) 7 1,.int .i64 s.total]),(1,.cells [.slice (some ⟨2,0,none⟩) s.rows.m0 1,.slice (some ⟨3,0,none⟩) s.rows.m1 1,.slice (some ⟨4,0,none⟩) s.rows.m2 1,.slice (some ⟨5,0,none⟩) s.rows.m3 1,.slice (some ⟨6,0,none⟩) s.rows.m4 1,.slice (some ⟨7,0,none⟩) s.rows.m5 1,.slice (some ⟨8,0,none⟩) s.rows.m6 1]),(2,.row true (vI .i64 s.rows.e0)),(3,.row true (vI .i64 s.rows.e1)),(4,.row true (vI .i64 s.rows.e2)),(5,.row true (vI .i64 s.rows.e3)),(6,.row true (vI .i64 s.rows.e4)),(7,.row true (vI .i64 s.rows.e5)),(8,.row true (vI .i64 s.rows.e6)),(10,.row false [.int .u64 oa1.key.A,.int .u64 oa1.key.B,.slice (some ⟨11,0,none⟩) 7 1,.int .i64 oa1.total]),(11,.row false [.slice (some ⟨12,0,none⟩) oa1.rows.m0 1,.slice (some ⟨13,0,none⟩) oa1.rows.m1 1,.slice (some ⟨14,0,none⟩) oa1.rows.m2 1,.slice (some ⟨15,0,none⟩) oa1.rows.m3 1,.slice (some ⟨16,0,none⟩) oa1.rows.m4 1,.slice (some ⟨17,0,none⟩) oa1.rows.m5 1,.slice (some ⟨18,0,none⟩) oa1.rows.m6 1]),(12,.row false (vI .i64 oa1.rows.e0)),(13,.row false (vI .i64 oa1.rows.e1)),(14,.row false (vI .i64 oa1.rows.e2)),(15,.row false (vI .i64 oa1.rows.e3)),(16,.row false (vI .i64 oa1.rows.e4)),(17,.row false (vI .i64 oa1.rows.e5)),(18,.row false (vI .i64 oa1.rows.e6))],20⟩ (fun v H _=>Res 20 (Xjt res) v H):=by
 unfold Xef at h
 have R1:=@Xzx Xac
 have J:=js [2,3,4,5,6,7,8]
 have LP:=@XrI Xac hS;have LQ:=lm XcT
 refine Xa4 XaM hS true 3000 ?_
 conv=>whnf
 exact W
def Xcy (s:Xak) (oa1:Xak) (c:List Int) (c1:List Int) (c2:List Int) (c3:List Int) (c4:List Int) (c5:List Int) (c6:List Int) (t257:Int) (c7:List Int):Option (Sum (Int×(List Int)) (Bool×Xak)):=
 cond (decide (t257<(oa1.rows.m7:Int)))
  (
  XaQ (decide ((0:Int)≤t257∧t257<(oa1.rows.m7:Int))) <|
  (oa1.rows.e7[t257.toNat]?).bind fun (e14:Int)=>
  XaQ (decide ((0:Int)≤t257∧t257<(s.rows.m7:Int))) <|
  (c7[t257.toNat]?).bind fun (e15:Int)=>
  let t7:=if (wI .i64 (e15+e14))<1099511627776 then wI .i64 (e15+e14) else 1099511627776
  XaQ (decide (t257.toNat<c7.length)) <|
  let row7:=c7.set t257.toNat t7
  some (.inl (wI .i64 (t257+1),row7)))
  (
  let t8:=if (wI .i64 (s.total+oa1.total))<1099511627776 then wI .i64 (s.total+oa1.total) else 1099511627776
  some (.inr ((true,Xak.mk s.key (XbC.mk c c1 c2 c3 c4 c5 c6 c7 s.rows.m0 s.rows.m1 s.rows.m2 s.rows.m3 s.rows.m4 s.rows.m5 s.rows.m6 s.rows.m7) t8))))
def Xcl (s:Xak) (oa1:Xak) (c:List Int) (c1:List Int) (c2:List Int) (c3:List Int) (c4:List Int) (c5:List Int) (t256:Int) (c6:List Int):Option (Sum (Int×(List Int)) (Bool×Xak)):=
 cond (decide (t256<(oa1.rows.m6:Int)))
  (
  XaQ (decide ((0:Int)≤t256∧t256<(oa1.rows.m6:Int))) <|
  (oa1.rows.e6[t256.toNat]?).bind fun (e12:Int)=>
  XaQ (decide ((0:Int)≤t256∧t256<(s.rows.m6:Int))) <|
  (c6[t256.toNat]?).bind fun (e13:Int)=>
  let t6:=if (wI .i64 (e13+e12))<1099511627776 then wI .i64 (e13+e12) else 1099511627776
  XaQ (decide (t256.toNat<c6.length)) <|
  let row6:=c6.set t256.toNat t6
  some (.inl (wI .i64 (t256+1),row6)))
  (
  (iter (fun st=>Xcy s oa1 c c1 c2 c3 c4 c5 c6 st.1 st.2) FUEL (0,s.rows.e7)).bind fun o=>some (.inr (o)))
def Xcx (s:Xak) (oa1:Xak) (c:List Int) (c1:List Int) (c2:List Int) (c3:List Int) (c4:List Int) (t255:Int) (c5:List Int):Option (Sum (Int×(List Int)) (Bool×Xak)):=
 cond (decide (t255<(oa1.rows.m5:Int)))
  (
  XaQ (decide ((0:Int)≤t255∧t255<(oa1.rows.m5:Int))) <|
  (oa1.rows.e5[t255.toNat]?).bind fun (e10:Int)=>
  XaQ (decide ((0:Int)≤t255∧t255<(s.rows.m5:Int))) <|
  (c5[t255.toNat]?).bind fun (e11:Int)=>
  let t5:=if (wI .i64 (e11+e10))<1099511627776 then wI .i64 (e11+e10) else 1099511627776
  XaQ (decide (t255.toNat<c5.length)) <|
  let row5:=c5.set t255.toNat t5
  some (.inl (wI .i64 (t255+1),row5)))
  (
  (iter (fun st=>Xcl s oa1 c c1 c2 c3 c4 c5 st.1 st.2) FUEL (0,s.rows.e6)).bind fun o=>some (.inr (o)))
def XcA (s:Xak) (oa1:Xak) (c:List Int) (c1:List Int) (c2:List Int) (c3:List Int) (t254:Int) (c4:List Int):Option (Sum (Int×(List Int)) (Bool×Xak)):=
 cond (decide (t254<(oa1.rows.m4:Int)))
  (
  XaQ (decide ((0:Int)≤t254∧t254<(oa1.rows.m4:Int))) <|
  (oa1.rows.e4[t254.toNat]?).bind fun (e8:Int)=>
  XaQ (decide ((0:Int)≤t254∧t254<(s.rows.m4:Int))) <|
  (c4[t254.toNat]?).bind fun (e9:Int)=>
  let t4:=if (wI .i64 (e9+e8))<1099511627776 then wI .i64 (e9+e8) else 1099511627776
  XaQ (decide (t254.toNat<c4.length)) <|
  let row4:=c4.set t254.toNat t4
  some (.inl (wI .i64 (t254+1),row4)))
  (
  (iter (fun st=>Xcx s oa1 c c1 c2 c3 c4 st.1 st.2) FUEL (0,s.rows.e5)).bind fun o=>some (.inr (o)))
def Xcn (s:Xak) (oa1:Xak) (c:List Int) (c1:List Int) (c2:List Int) (t253:Int) (c3:List Int):Option (Sum (Int×(List Int)) (Bool×Xak)):=
 cond (decide (t253<(oa1.rows.m3:Int)))
  (
  XaQ (decide ((0:Int)≤t253∧t253<(oa1.rows.m3:Int))) <|
  (oa1.rows.e3[t253.toNat]?).bind fun (e6:Int)=>
  XaQ (decide ((0:Int)≤t253∧t253<(s.rows.m3:Int))) <|
  (c3[t253.toNat]?).bind fun (e7:Int)=>
  let t3:=if (wI .i64 (e7+e6))<1099511627776 then wI .i64 (e7+e6) else 1099511627776
  XaQ (decide (t253.toNat<c3.length)) <|
  let row3:=c3.set t253.toNat t3
  some (.inl (wI .i64 (t253+1),row3)))
  (
  (iter (fun st=>XcA s oa1 c c1 c2 c3 st.1 st.2) FUEL (0,s.rows.e4)).bind fun o=>some (.inr (o)))
def Xcu (s:Xak) (oa1:Xak) (c:List Int) (c1:List Int) (t252:Int) (c2:List Int):Option (Sum (Int×(List Int)) (Bool×Xak)):=
 cond (decide (t252<(oa1.rows.m2:Int)))
  (
  XaQ (decide ((0:Int)≤t252∧t252<(oa1.rows.m2:Int))) <|
  (oa1.rows.e2[t252.toNat]?).bind fun (e4:Int)=>
  XaQ (decide ((0:Int)≤t252∧t252<(s.rows.m2:Int))) <|
  (c2[t252.toNat]?).bind fun (e5:Int)=>
  let t2:=if (wI .i64 (e5+e4))<1099511627776 then wI .i64 (e5+e4) else 1099511627776
  XaQ (decide (t252.toNat<c2.length)) <|
  let row2:=c2.set t252.toNat t2
  some (.inl (wI .i64 (t252+1),row2)))
  (
  (iter (fun st=>Xcn s oa1 c c1 c2 st.1 st.2) FUEL (0,s.rows.e3)).bind fun o=>some (.inr (o)))
def Xck (s:Xak) (oa1:Xak) (c:List Int) (t251:Int) (c1:List Int):Option (Sum (Int×(List Int)) (Bool×Xak)):=
 cond (decide (t251<(oa1.rows.m1:Int)))
  (
  XaQ (decide ((0:Int)≤t251∧t251<(oa1.rows.m1:Int))) <|
  (oa1.rows.e1[t251.toNat]?).bind fun (e2:Int)=>
  XaQ (decide ((0:Int)≤t251∧t251<(s.rows.m1:Int))) <|
  (c1[t251.toNat]?).bind fun (e3:Int)=>
  let t1:=if (wI .i64 (e3+e2))<1099511627776 then wI .i64 (e3+e2) else 1099511627776
  XaQ (decide (t251.toNat<c1.length)) <|
  let row1:=c1.set t251.toNat t1
  some (.inl (wI .i64 (t251+1),row1)))
  (
  (iter (fun st=>Xcu s oa1 c c1 st.1 st.2) FUEL (0,s.rows.e2)).bind fun o=>some (.inr (o)))
def Xdh (s:Xak) (oa1:Xak) (t25:Int) (c:List Int):Option (Sum (Int×(List Int)) (Bool×Xak)):=
 cond (decide (t25<(oa1.rows.m0:Int)))
  (
  XaQ (decide ((0:Int)≤t25∧t25<(oa1.rows.m0:Int))) <|
  (oa1.rows.e0[t25.toNat]?).bind fun (e:Int)=>
  XaQ (decide ((0:Int)≤t25∧t25<(s.rows.m0:Int))) <|
  (c[t25.toNat]?).bind fun (e1:Int)=>
  let t:=if (wI .i64 (e1+e))<1099511627776 then wI .i64 (e1+e) else 1099511627776
  XaQ (decide (t25.toNat<c.length)) <|
  let row:=c.set t25.toNat t
  some (.inl (wI .i64 (t25+1),row)))
  (
  (iter (fun st=>Xck s oa1 c st.1 st.2) FUEL (0,s.rows.e1)).bind fun o=>some (.inr (o)))
def Xea (Xac:Xaq) (s:Xak) (oa1:Xak):Option (Bool×Xak):=
 (Xac.v88 s oa1).bind fun x8=>
 cond (!x8)
  (
  some ((false,s)))
  (
  iter (fun st=>Xdh s oa1 st.1 st.2) FUEL (0,s.rows.e0))
def Xja (x:Bool×Xak):Xdu:=⟨.bool x.1,[(vI .i64 x.2.rows.e0),(vI .i64 x.2.rows.e1),(vI .i64 x.2.rows.e2),(vI .i64 x.2.rows.e3),(vI .i64 x.2.rows.e4),(vI .i64 x.2.rows.e5),(vI .i64 x.2.rows.e6),(vI .i64 x.2.rows.e7)],[some [.int .u64 x.2.key.A,.int .u64 x.2.key.B,.slice (some ⟨9,0,none⟩) 8 1,.int .i64 x.2.total],some [.slice (some ⟨0,0,none⟩) x.2.rows.m0 1,.slice (some ⟨1,0,none⟩) x.2.rows.m1 1,.slice (some ⟨2,0,none⟩) x.2.rows.m2 1,.slice (some ⟨3,0,none⟩) x.2.rows.m3 1,.slice (some ⟨4,0,none⟩) x.2.rows.m4 1,.slice (some ⟨5,0,none⟩) x.2.rows.m5 1,.slice (some ⟨6,0,none⟩) x.2.rows.m6 1,.slice (some ⟨7,0,none⟩) x.2.rows.m7 1],none,none,none,none,none,none,none,none,none,none,none,none,none,none,none,none,none,none]⟩
abbrev Xgn:=Xak→Xak→Option (Bool×Xak)
def XHF (g:Xgn):Dec:=dTr 10 (XbI 0) fun (y0:Xak)=>dTr 10 (XbI 10) fun (y1:Xak)=>XeC (ofG (g y0 y1) Xja)
abbrev Xif (Xac:Xaq):List (Nat×XcS):=[(42,s42 Xac)]
def Xsz (s:Xak) (oa1:Xak) (c:List Int) (c1:List Int) (c2:List Int) (c3:List Int) (c4:List Int) (c5:List Int) (c6:List Int) (t257:Int) (c7:List Int):VM:=
 ⟨⟨14,51,[(0,.pointer (some ⟨0,0,none⟩)),(1,.pointer (some ⟨10,0,none⟩)),(5,.int .i64 7),(16,.slice (some ⟨11,0,none⟩) 8 1),(17,.int .i64 8),(18,.int .i64 7),(23,.slice (some ⟨19,0,none⟩) oa1.rows.m7 1),(24,.int .i64 (oa1.rows.m7:Int)),(25,.int .i64 t257)],[.code Xbq,.inLoop Xbq,.inBlock 2,.inBlock 1,.code XdU,.inLoop Xdw,.inBlock 0,.code XdF],[],false,none⟩,[],[(0,.cells [.int .u64 s.key.A,.int .u64 s.key.B,.slice (some ⟨1,0,none⟩) 8 1,.int .i64 s.total]),(1,.cells [.slice (some ⟨2,0,none⟩) s.rows.m0 1,.slice (some ⟨3,0,none⟩) s.rows.m1 1,.slice (some ⟨4,0,none⟩) s.rows.m2 1,.slice (some ⟨5,0,none⟩) s.rows.m3 1,.slice (some ⟨6,0,none⟩) s.rows.m4 1,.slice (some ⟨7,0,none⟩) s.rows.m5 1,.slice (some ⟨8,0,none⟩) s.rows.m6 1,.slice (some ⟨9,0,none⟩) s.rows.m7 1]),(2,.row true (vI .i64 c)),(3,.row true (vI .i64 c1)),(4,.row true (vI .i64 c2)),(5,.row true (vI .i64 c3)),(6,.row true (vI .i64 c4)),(7,.row true (vI .i64 c5)),(8,.row true (vI .i64 c6)),(9,.row true (vI .i64 c7)),(10,.row false [.int .u64 oa1.key.A,.int .u64 oa1.key.B,.slice (some ⟨11,0,none⟩) 8 1,.int .i64 oa1.total]),(11,.row false [.slice (some ⟨12,0,none⟩) oa1.rows.m0 1,.slice (some ⟨13,0,none⟩) oa1.rows.m1 1,.slice (some ⟨14,0,none⟩) oa1.rows.m2 1,.slice (some ⟨15,0,none⟩) oa1.rows.m3 1,.slice (some ⟨16,0,none⟩) oa1.rows.m4 1,.slice (some ⟨17,0,none⟩) oa1.rows.m5 1,.slice (some ⟨18,0,none⟩) oa1.rows.m6 1,.slice (some ⟨19,0,none⟩) oa1.rows.m7 1]),(12,.row false (vI .i64 oa1.rows.e0)),(13,.row false (vI .i64 oa1.rows.e1)),(14,.row false (vI .i64 oa1.rows.e2)),(15,.row false (vI .i64 oa1.rows.e3)),(16,.row false (vI .i64 oa1.rows.e4)),(17,.row false (vI .i64 oa1.rows.e5)),(18,.row false (vI .i64 oa1.rows.e6)),(19,.row false (vI .i64 oa1.rows.e7))],20⟩
def Xtt (s:Xak) (oa1:Xak) (c:List Int) (c1:List Int) (c2:List Int) (c3:List Int) (c4:List Int) (c5:List Int) (t256:Int) (c6:List Int):VM:=
 ⟨⟨14,51,[(0,.pointer (some ⟨0,0,none⟩)),(1,.pointer (some ⟨10,0,none⟩)),(5,.int .i64 6),(16,.slice (some ⟨11,0,none⟩) 8 1),(17,.int .i64 8),(18,.int .i64 6),(23,.slice (some ⟨18,0,none⟩) oa1.rows.m6 1),(24,.int .i64 (oa1.rows.m6:Int)),(25,.int .i64 t256)],[.code Xbq,.inLoop Xbq,.inBlock 2,.inBlock 1,.code XdU,.inLoop Xdw,.inBlock 0,.code XdF],[],false,none⟩,[],[(0,.cells [.int .u64 s.key.A,.int .u64 s.key.B,.slice (some ⟨1,0,none⟩) 8 1,.int .i64 s.total]),(1,.cells [.slice (some ⟨2,0,none⟩) s.rows.m0 1,.slice (some ⟨3,0,none⟩) s.rows.m1 1,.slice (some ⟨4,0,none⟩) s.rows.m2 1,.slice (some ⟨5,0,none⟩) s.rows.m3 1,.slice (some ⟨6,0,none⟩) s.rows.m4 1,.slice (some ⟨7,0,none⟩) s.rows.m5 1,.slice (some ⟨8,0,none⟩) s.rows.m6 1,.slice (some ⟨9,0,none⟩) s.rows.m7 1]),(2,.row true (vI .i64 c)),(3,.row true (vI .i64 c1)),(4,.row true (vI .i64 c2)),(5,.row true (vI .i64 c3)),(6,.row true (vI .i64 c4)),(7,.row true (vI .i64 c5)),(8,.row true (vI .i64 c6)),(9,.row true (vI .i64 s.rows.e7)),(10,.row false [.int .u64 oa1.key.A,.int .u64 oa1.key.B,.slice (some ⟨11,0,none⟩) 8 1,.int .i64 oa1.total]),(11,.row false [.slice (some ⟨12,0,none⟩) oa1.rows.m0 1,.slice (some ⟨13,0,none⟩) oa1.rows.m1 1,.slice (some ⟨14,0,none⟩) oa1.rows.m2 1,.slice (some ⟨15,0,none⟩) oa1.rows.m3 1,.slice (some ⟨16,0,none⟩) oa1.rows.m4 1,.slice (some ⟨17,0,none⟩) oa1.rows.m5 1,.slice (some ⟨18,0,none⟩) oa1.rows.m6 1,.slice (some ⟨19,0,none⟩) oa1.rows.m7 1]),(12,.row false (vI .i64 oa1.rows.e0)),(13,.row false (vI .i64 oa1.rows.e1)),(14,.row false (vI .i64 oa1.rows.e2)),(15,.row false (vI .i64 oa1.rows.e3)),(16,.row false (vI .i64 oa1.rows.e4)),(17,.row false (vI .i64 oa1.rows.e5)),(18,.row false (vI .i64 oa1.rows.e6)),(19,.row false (vI .i64 oa1.rows.e7))],20⟩
def Xsn (s:Xak) (oa1:Xak) (c:List Int) (c1:List Int) (c2:List Int) (c3:List Int) (c4:List Int) (t255:Int) (c5:List Int):VM:=
 ⟨⟨14,51,[(0,.pointer (some ⟨0,0,none⟩)),(1,.pointer (some ⟨10,0,none⟩)),(5,.int .i64 5),(16,.slice (some ⟨11,0,none⟩) 8 1),(17,.int .i64 8),(18,.int .i64 5),(23,.slice (some ⟨17,0,none⟩) oa1.rows.m5 1),(24,.int .i64 (oa1.rows.m5:Int)),(25,.int .i64 t255)],[.code Xbq,.inLoop Xbq,.inBlock 2,.inBlock 1,.code XdU,.inLoop Xdw,.inBlock 0,.code XdF],[],false,none⟩,[],[(0,.cells [.int .u64 s.key.A,.int .u64 s.key.B,.slice (some ⟨1,0,none⟩) 8 1,.int .i64 s.total]),(1,.cells [.slice (some ⟨2,0,none⟩) s.rows.m0 1,.slice (some ⟨3,0,none⟩) s.rows.m1 1,.slice (some ⟨4,0,none⟩) s.rows.m2 1,.slice (some ⟨5,0,none⟩) s.rows.m3 1,.slice (some ⟨6,0,none⟩) s.rows.m4 1,.slice (some ⟨7,0,none⟩) s.rows.m5 1,.slice (some ⟨8,0,none⟩) s.rows.m6 1,.slice (some ⟨9,0,none⟩) s.rows.m7 1]),(2,.row true (vI .i64 c)),(3,.row true (vI .i64 c1)),(4,.row true (vI .i64 c2)),(5,.row true (vI .i64 c3)),(6,.row true (vI .i64 c4)),(7,.row true (vI .i64 c5)),(8,.row true (vI .i64 s.rows.e6)),(9,.row true (vI .i64 s.rows.e7)),(10,.row false [.int .u64 oa1.key.A,.int .u64 oa1.key.B,.slice (some ⟨11,0,none⟩) 8 1,.int .i64 oa1.total]),(11,.row false [.slice (some ⟨12,0,none⟩) oa1.rows.m0 1,.slice (some ⟨13,0,none⟩) oa1.rows.m1 1,.slice (some ⟨14,0,none⟩) oa1.rows.m2 1,.slice (some ⟨15,0,none⟩) oa1.rows.m3 1,.slice (some ⟨16,0,none⟩) oa1.rows.m4 1,.slice (some ⟨17,0,none⟩) oa1.rows.m5 1,.slice (some ⟨18,0,none⟩) oa1.rows.m6 1,.slice (some ⟨19,0,none⟩) oa1.rows.m7 1]),(12,.row false (vI .i64 oa1.rows.e0)),(13,.row false (vI .i64 oa1.rows.e1)),(14,.row false (vI .i64 oa1.rows.e2)),(15,.row false (vI .i64 oa1.rows.e3)),(16,.row false (vI .i64 oa1.rows.e4)),(17,.row false (vI .i64 oa1.rows.e5)),(18,.row false (vI .i64 oa1.rows.e6)),(19,.row false (vI .i64 oa1.rows.e7))],20⟩
def Xsi (s:Xak) (oa1:Xak) (c:List Int) (c1:List Int) (c2:List Int) (c3:List Int) (t254:Int) (c4:List Int):VM:=
 ⟨⟨14,51,[(0,.pointer (some ⟨0,0,none⟩)),(1,.pointer (some ⟨10,0,none⟩)),(5,.int .i64 4),(16,.slice (some ⟨11,0,none⟩) 8 1),(17,.int .i64 8),(18,.int .i64 4),(23,.slice (some ⟨16,0,none⟩) oa1.rows.m4 1),(24,.int .i64 (oa1.rows.m4:Int)),(25,.int .i64 t254)],[.code Xbq,.inLoop Xbq,.inBlock 2,.inBlock 1,.code XdU,.inLoop Xdw,.inBlock 0,.code XdF],[],false,none⟩,[],[(0,.cells [.int .u64 s.key.A,.int .u64 s.key.B,.slice (some ⟨1,0,none⟩) 8 1,.int .i64 s.total]),(1,.cells [.slice (some ⟨2,0,none⟩) s.rows.m0 1,.slice (some ⟨3,0,none⟩) s.rows.m1 1,.slice (some ⟨4,0,none⟩) s.rows.m2 1,.slice (some ⟨5,0,none⟩) s.rows.m3 1,.slice (some ⟨6,0,none⟩) s.rows.m4 1,.slice (some ⟨7,0,none⟩) s.rows.m5 1,.slice (some ⟨8,0,none⟩) s.rows.m6 1,.slice (some ⟨9,0,none⟩) s.rows.m7 1]),(2,.row true (vI .i64 c)),(3,.row true (vI .i64 c1)),(4,.row true (vI .i64 c2)),(5,.row true (vI .i64 c3)),(6,.row true (vI .i64 c4)),(7,.row true (vI .i64 s.rows.e5)),(8,.row true (vI .i64 s.rows.e6)),(9,.row true (vI .i64 s.rows.e7)),(10,.row false [.int .u64 oa1.key.A,.int .u64 oa1.key.B,.slice (some ⟨11,0,none⟩) 8 1,.int .i64 oa1.total]),(11,.row false [.slice (some ⟨12,0,none⟩) oa1.rows.m0 1,.slice (some ⟨13,0,none⟩) oa1.rows.m1 1,.slice (some ⟨14,0,none⟩) oa1.rows.m2 1,.slice (some ⟨15,0,none⟩) oa1.rows.m3 1,.slice (some ⟨16,0,none⟩) oa1.rows.m4 1,.slice (some ⟨17,0,none⟩) oa1.rows.m5 1,.slice (some ⟨18,0,none⟩) oa1.rows.m6 1,.slice (some ⟨19,0,none⟩) oa1.rows.m7 1]),(12,.row false (vI .i64 oa1.rows.e0)),(13,.row false (vI .i64 oa1.rows.e1)),(14,.row false (vI .i64 oa1.rows.e2)),(15,.row false (vI .i64 oa1.rows.e3)),(16,.row false (vI .i64 oa1.rows.e4)),(17,.row false (vI .i64 oa1.rows.e5)),(18,.row false (vI .i64 oa1.rows.e6)),(19,.row false (vI .i64 oa1.rows.e7))],20⟩
def XsL (s:Xak) (oa1:Xak) (c:List Int) (c1:List Int) (c2:List Int) (t253:Int) (c3:List Int):VM:=
 ⟨⟨14,51,[(0,.pointer (some ⟨0,0,none⟩)),(1,.pointer (some ⟨10,0,none⟩)),(5,.int .i64 3),(16,.slice (some ⟨11,0,none⟩) 8 1),(17,.int .i64 8),(18,.int .i64 3),(23,.slice (some ⟨15,0,none⟩) oa1.rows.m3 1),(24,.int .i64 (oa1.rows.m3:Int)),(25,.int .i64 t253)],[.code Xbq,.inLoop Xbq,.inBlock 2,.inBlock 1,.code XdU,.inLoop Xdw,.inBlock 0,.code XdF],[],false,none⟩,[],[(0,.cells [.int .u64 s.key.A,.int .u64 s.key.B,.slice (some ⟨1,0,none⟩) 8 1,.int .i64 s.total]),(1,.cells [.slice (some ⟨2,0,none⟩) s.rows.m0 1,.slice (some ⟨3,0,none⟩) s.rows.m1 1,.slice (some ⟨4,0,none⟩) s.rows.m2 1,.slice (some ⟨5,0,none⟩) s.rows.m3 1,.slice (some ⟨6,0,none⟩) s.rows.m4 1,.slice (some ⟨7,0,none⟩) s.rows.m5 1,.slice (some ⟨8,0,none⟩) s.rows.m6 1,.slice (some ⟨9,0,none⟩) s.rows.m7 1]),(2,.row true (vI .i64 c)),(3,.row true (vI .i64 c1)),(4,.row true (vI .i64 c2)),(5,.row true (vI .i64 c3)),(6,.row true (vI .i64 s.rows.e4)),(7,.row true (vI .i64 s.rows.e5)),(8,.row true (vI .i64 s.rows.e6)),(9,.row true (vI .i64 s.rows.e7)),(10,.row false [.int .u64 oa1.key.A,.int .u64 oa1.key.B,.slice (some ⟨11,0,none⟩) 8 1,.int .i64 oa1.total]),(11,.row false [.slice (some ⟨12,0,none⟩) oa1.rows.m0 1,.slice (some ⟨13,0,none⟩) oa1.rows.m1 1,.slice (some ⟨14,0,none⟩) oa1.rows.m2 1,.slice (some ⟨15,0,none⟩) oa1.rows.m3 1,.slice (some ⟨16,0,none⟩) oa1.rows.m4 1,.slice (some ⟨17,0,none⟩) oa1.rows.m5 1,.slice (some ⟨18,0,none⟩) oa1.rows.m6 1,.slice (some ⟨19,0,none⟩) oa1.rows.m7 1]),(12,.row false (vI .i64 oa1.rows.e0)),(13,.row false (vI .i64 oa1.rows.e1)),(14,.row false (vI .i64 oa1.rows.e2)),(15,.row false (vI .i64 oa1.rows.e3)),(16,.row false (vI .i64 oa1.rows.e4)),(17,.row false (vI .i64 oa1.rows.e5)),(18,.row false (vI .i64 oa1.rows.e6)),(19,.row false (vI .i64 oa1.rows.e7))],20⟩
def XsG (s:Xak) (oa1:Xak) (c:List Int) (c1:List Int) (t252:Int) (c2:List Int):VM:=
 ⟨⟨14,51,[(0,.pointer (some ⟨0,0,none⟩)),(1,.pointer (some ⟨10,0,none⟩)),(5,.int .i64 2),(16,.slice (some ⟨11,0,none⟩) 8 1),(17,.int .i64 8),(18,.int .i64 2),(23,.slice (some ⟨14,0,none⟩) oa1.rows.m2 1),(24,.int .i64 (oa1.rows.m2:Int)),(25,.int .i64 t252)],[.code Xbq,.inLoop Xbq,.inBlock 2,.inBlock 1,.code XdU,.inLoop Xdw,.inBlock 0,.code XdF],[],false,none⟩,[],[(0,.cells [.int .u64 s.key.A,.int .u64 s.key.B,.slice (some ⟨1,0,none⟩) 8 1,.int .i64 s.total]),(1,.cells [.slice (some ⟨2,0,none⟩) s.rows.m0 1,.slice (some ⟨3,0,none⟩) s.rows.m1 1,.slice (some ⟨4,0,none⟩) s.rows.m2 1,.slice (some ⟨5,0,none⟩) s.rows.m3 1,.slice (some ⟨6,0,none⟩) s.rows.m4 1,.slice (some ⟨7,0,none⟩) s.rows.m5 1,.slice (some ⟨8,0,none⟩) s.rows.m6 1,.slice (some ⟨9,0,none⟩) s.rows.m7 1]),(2,.row true (vI .i64 c)),(3,.row true (vI .i64 c1)),(4,.row true (vI .i64 c2)),(5,.row true (vI .i64 s.rows.e3)),(6,.row true (vI .i64 s.rows.e4)),(7,.row true (vI .i64 s.rows.e5)),(8,.row true (vI .i64 s.rows.e6)),(9,.row true (vI .i64 s.rows.e7)),(10,.row false [.int .u64 oa1.key.A,.int .u64 oa1.key.B,.slice (some ⟨11,0,none⟩) 8 1,.int .i64 oa1.total]),(11,.row false [.slice (some ⟨12,0,none⟩) oa1.rows.m0 1,.slice (some ⟨13,0,none⟩) oa1.rows.m1 1,.slice (some ⟨14,0,none⟩) oa1.rows.m2 1,.slice (some ⟨15,0,none⟩) oa1.rows.m3 1,.slice (some ⟨16,0,none⟩) oa1.rows.m4 1,.slice (some ⟨17,0,none⟩) oa1.rows.m5 1,.slice (some ⟨18,0,none⟩) oa1.rows.m6 1,.slice (some ⟨19,0,none⟩) oa1.rows.m7 1]),(12,.row false (vI .i64 oa1.rows.e0)),(13,.row false (vI .i64 oa1.rows.e1)),(14,.row false (vI .i64 oa1.rows.e2)),(15,.row false (vI .i64 oa1.rows.e3)),(16,.row false (vI .i64 oa1.rows.e4)),(17,.row false (vI .i64 oa1.rows.e5)),(18,.row false (vI .i64 oa1.rows.e6)),(19,.row false (vI .i64 oa1.rows.e7))],20⟩
def Xru (s:Xak) (oa1:Xak) (c:List Int) (t251:Int) (c1:List Int):VM:=
 ⟨⟨14,51,[(0,.pointer (some ⟨0,0,none⟩)),(1,.pointer (some ⟨10,0,none⟩)),(5,.int .i64 1),(16,.slice (some ⟨11,0,none⟩) 8 1),(17,.int .i64 8),(18,.int .i64 1),(23,.slice (some ⟨13,0,none⟩) oa1.rows.m1 1),(24,.int .i64 (oa1.rows.m1:Int)),(25,.int .i64 t251)],[.code Xbq,.inLoop Xbq,.inBlock 2,.inBlock 1,.code XdU,.inLoop Xdw,.inBlock 0,.code XdF],[],false,none⟩,[],[(0,.cells [.int .u64 s.key.A,.int .u64 s.key.B,.slice (some ⟨1,0,none⟩) 8 1,.int .i64 s.total]),(1,.cells [.slice (some ⟨2,0,none⟩) s.rows.m0 1,.slice (some ⟨3,0,none⟩) s.rows.m1 1,.slice (some ⟨4,0,none⟩) s.rows.m2 1,.slice (some ⟨5,0,none⟩) s.rows.m3 1,.slice (some ⟨6,0,none⟩) s.rows.m4 1,.slice (some ⟨7,0,none⟩) s.rows.m5 1,.slice (some ⟨8,0,none⟩) s.rows.m6 1,.slice (some ⟨9,0,none⟩) s.rows.m7 1]),(2,.row true (vI .i64 c)),(3,.row true (vI .i64 c1)),(4,.row true (vI .i64 s.rows.e2)),(5,.row true (vI .i64 s.rows.e3)),(6,.row true (vI .i64 s.rows.e4)),(7,.row true (vI .i64 s.rows.e5)),(8,.row true (vI .i64 s.rows.e6)),(9,.row true (vI .i64 s.rows.e7)),(10,.row false [.int .u64 oa1.key.A,.int .u64 oa1.key.B,.slice (some ⟨11,0,none⟩) 8 1,.int .i64 oa1.total]),(11,.row false [.slice (some ⟨12,0,none⟩) oa1.rows.m0 1,.slice (some ⟨13,0,none⟩) oa1.rows.m1 1,.slice (some ⟨14,0,none⟩) oa1.rows.m2 1,.slice (some ⟨15,0,none⟩) oa1.rows.m3 1,.slice (some ⟨16,0,none⟩) oa1.rows.m4 1,.slice (some ⟨17,0,none⟩) oa1.rows.m5 1,.slice (some ⟨18,0,none⟩) oa1.rows.m6 1,.slice (some ⟨19,0,none⟩) oa1.rows.m7 1]),(12,.row false (vI .i64 oa1.rows.e0)),(13,.row false (vI .i64 oa1.rows.e1)),(14,.row false (vI .i64 oa1.rows.e2)),(15,.row false (vI .i64 oa1.rows.e3)),(16,.row false (vI .i64 oa1.rows.e4)),(17,.row false (vI .i64 oa1.rows.e5)),(18,.row false (vI .i64 oa1.rows.e6)),(19,.row false (vI .i64 oa1.rows.e7))],20⟩
def XsS (s:Xak) (oa1:Xak) (t25:Int) (c:List Int):VM:=
 ⟨⟨14,51,[(0,.pointer (some ⟨0,0,none⟩)),(1,.pointer (some ⟨10,0,none⟩)),(5,.int .i64 0),(16,.slice (some ⟨11,0,none⟩) 8 1),(17,.int .i64 8),(18,.int .i64 0),(23,.slice (some ⟨12,0,none⟩) oa1.rows.m0 1),(24,.int .i64 (oa1.rows.m0:Int)),(25,.int .i64 t25)],[.code Xbq,.inLoop Xbq,.inBlock 2,.inBlock 1,.code XdU,.inLoop Xdw,.inBlock 0,.code XdF],[],false,none⟩,[],[(0,.cells [.int .u64 s.key.A,.int .u64 s.key.B,.slice (some ⟨1,0,none⟩) 8 1,.int .i64 s.total]),(1,.cells [.slice (some ⟨2,0,none⟩) s.rows.m0 1,.slice (some ⟨3,0,none⟩) s.rows.m1 1,.slice (some ⟨4,0,none⟩) s.rows.m2 1,.slice (some ⟨5,0,none⟩) s.rows.m3 1,.slice (some ⟨6,0,none⟩) s.rows.m4 1,.slice (some ⟨7,0,none⟩) s.rows.m5 1,.slice (some ⟨8,0,none⟩) s.rows.m6 1,.slice (some ⟨9,0,none⟩) s.rows.m7 1]),(2,.row true (vI .i64 c)),(3,.row true (vI .i64 s.rows.e1)),(4,.row true (vI .i64 s.rows.e2)),(5,.row true (vI .i64 s.rows.e3)),(6,.row true (vI .i64 s.rows.e4)),(7,.row true (vI .i64 s.rows.e5)),(8,.row true (vI .i64 s.rows.e6)),(9,.row true (vI .i64 s.rows.e7)),(10,.row false [.int .u64 oa1.key.A,.int .u64 oa1.key.B,.slice (some ⟨11,0,none⟩) 8 1,.int .i64 oa1.total]),(11,.row false [.slice (some ⟨12,0,none⟩) oa1.rows.m0 1,.slice (some ⟨13,0,none⟩) oa1.rows.m1 1,.slice (some ⟨14,0,none⟩) oa1.rows.m2 1,.slice (some ⟨15,0,none⟩) oa1.rows.m3 1,.slice (some ⟨16,0,none⟩) oa1.rows.m4 1,.slice (some ⟨17,0,none⟩) oa1.rows.m5 1,.slice (some ⟨18,0,none⟩) oa1.rows.m6 1,.slice (some ⟨19,0,none⟩) oa1.rows.m7 1]),(12,.row false (vI .i64 oa1.rows.e0)),(13,.row false (vI .i64 oa1.rows.e1)),(14,.row false (vI .i64 oa1.rows.e2)),(15,.row false (vI .i64 oa1.rows.e3)),(16,.row false (vI .i64 oa1.rows.e4)),(17,.row false (vI .i64 oa1.rows.e5)),(18,.row false (vI .i64 oa1.rows.e6)),(19,.row false (vI .i64 oa1.rows.e7))],20⟩
theorem XrL (Xac:Xaq) (hS:XaF Try.prog (XaP (Xif Xac))) {s:Xak} {oa1:Xak} {c:List Int} {c1:List Int} {c2:List Int} {c3:List Int} {c4:List Int} {c5:List Int} {c6:List Int} {res:Bool×Xak}:∀ {fuel} {st:Int×(List Int)} {o:Bool×Xak},iter (fun st=>Xcy s oa1 c c1 c2 c3 c4 c5 c6 st.1 st.2) fuel st=some o→(o=res) →
 XaU Try.prog 14 20 (Xsz s oa1 c c1 c2 c3 c4 c5 c6 st.1 st.2) (fun v H _=>Res 20 (Xja res) v H):=by
 apply XaO
 intro st o h hc
 obtain ⟨t257,c7⟩:=st
 try dsimp -zeta only at h ⊢
 unfold Xcy at h
 have J:=js [2,3,4,5,6,7,8,9]
 have LM:=lm XcT
 refine Xa4 XaM hS true 3000 ?_
 conv=>whnf
 exact W
theorem XrV (Xac:Xaq) (hS:XaF Try.prog (XaP (Xif Xac))) {s:Xak} {oa1:Xak} {c:List Int} {c1:List Int} {c2:List Int} {c3:List Int} {c4:List Int} {c5:List Int} {res:Bool×Xak}:∀ {fuel} {st:Int×(List Int)} {o:Bool×Xak},iter (fun st=>Xcl s oa1 c c1 c2 c3 c4 c5 st.1 st.2) fuel st=some o→(o=res) →
 XaU Try.prog 14 20 (Xtt s oa1 c c1 c2 c3 c4 c5 st.1 st.2) (fun v H _=>Res 20 (Xja res) v H):=by
 apply XaO
 intro st o h hc
 obtain ⟨t256,c6⟩:=st
 try dsimp -zeta only at h ⊢
 unfold Xcl at h
 have J:=js [2,3,4,5,6,7,8,9]
 have LM:=lm XcT
 have LP:=@XrL Xac hS;have LQ:=lm XcT
 refine Xa4 XaM hS true 3000 ?_
 conv=>whnf
 exact W
theorem Xs9 (Xac:Xaq) (hS:XaF Try.prog (XaP (Xif Xac))) {s:Xak} {oa1:Xak} {c:List Int} {c1:List Int} {c2:List Int} {c3:List Int} {c4:List Int} {res:Bool×Xak}:∀ {fuel} {st:Int×(List Int)} {o:Bool×Xak},iter (fun st=>Xcx s oa1 c c1 c2 c3 c4 st.1 st.2) fuel st=some o→(o=res) →
 XaU Try.prog 14 20 (Xsn s oa1 c c1 c2 c3 c4 st.1 st.2) (fun v H _=>Res 20 (Xja res) v H):=by
 apply XaO
 intro st o h hc
 obtain ⟨t255,c5⟩:=st
 try dsimp -zeta only at h ⊢
 unfold Xcx at h
 have J:=js [2,3,4,5,6,7,8,9]
 have LM:=lm XcT
 have LP:=@XrV Xac hS;have LQ:=lm XcT
 refine Xa4 XaM hS true 3000 ?_
 conv=>whnf
 exact W
theorem Xs2 (Xac:Xaq) (hS:XaF Try.prog (XaP (Xif Xac))) {s:Xak} {oa1:Xak} {c:List Int} {c1:List Int} {c2:List Int} {c3:List Int} {res:Bool×Xak}:∀ {fuel} {st:Int×(List Int)} {o:Bool×Xak},iter (fun st=>XcA s oa1 c c1 c2 c3 st.1 st.2) fuel st=some o→(o=res) →
 XaU Try.prog 14 20 (Xsi s oa1 c c1 c2 c3 st.1 st.2) (fun v H _=>Res 20 (Xja res) v H):=by
 apply XaO
 intro st o h hc
 obtain ⟨t254,c4⟩:=st
 try dsimp -zeta only at h ⊢
 unfold XcA at h
 have J:=js [2,3,4,5,6,7,8,9]
 have LM:=lm XcT
 have LP:=@Xs9 Xac hS;have LQ:=lm XcT
 refine Xa4 XaM hS true 3000 ?_
 conv=>whnf
 exact W
theorem Xsc (Xac:Xaq) (hS:XaF Try.prog (XaP (Xif Xac))) {s:Xak} {oa1:Xak} {c:List Int} {c1:List Int} {c2:List Int} {res:Bool×Xak}:∀ {fuel} {st:Int×(List Int)} {o:Bool×Xak},iter (fun st=>Xcn s oa1 c c1 c2 st.1 st.2) fuel st=some o→(o=res) →
 XaU Try.prog 14 20 (XsL s oa1 c c1 c2 st.1 st.2) (fun v H _=>Res 20 (Xja res) v H):=by
 apply XaO
 intro st o h hc
 obtain ⟨t253,c3⟩:=st
 try dsimp -zeta only at h ⊢
 unfold Xcn at h
 have J:=js [2,3,4,5,6,7,8,9]
 have LM:=lm XcT
 have LP:=@Xs2 Xac hS;have LQ:=lm XcT
 refine Xa4 XaM hS true 3000 ?_
 conv=>whnf
 exact W
theorem XrY (Xac:Xaq) (hS:XaF Try.prog (XaP (Xif Xac))) {s:Xak} {oa1:Xak} {c:List Int} {c1:List Int} {res:Bool×Xak}:∀ {fuel} {st:Int×(List Int)} {o:Bool×Xak},iter (fun st=>Xcu s oa1 c c1 st.1 st.2) fuel st=some o→(o=res) →
 XaU Try.prog 14 20 (XsG s oa1 c c1 st.1 st.2) (fun v H _=>Res 20 (Xja res) v H):=by
 apply XaO
 intro st o h hc
 obtain ⟨t252,c2⟩:=st
 try dsimp -zeta only at h ⊢
 unfold Xcu at h
 have J:=js [2,3,4,5,6,7,8,9]
 have LM:=lm XcT
 have LP:=@Xsc Xac hS;have LQ:=lm XcT
 refine Xa4 XaM hS true 3000 ?_
 conv=>whnf
 exact W
theorem Xtf (Xac:Xaq) (hS:XaF Try.prog (XaP (Xif Xac))) {s:Xak} {oa1:Xak} {c:List Int} {res:Bool×Xak}:∀ {fuel} {st:Int×(List Int)} {o:Bool×Xak},iter (fun st=>Xck s oa1 c st.1 st.2) fuel st=some o→(o=res) →
 XaU Try.prog 14 20 (Xru s oa1 c st.1 st.2) (fun v H _=>Res 20 (Xja res) v H):=by
 apply XaO
 intro st o h hc
 obtain ⟨t251,c1⟩:=st
 try dsimp -zeta only at h ⊢
 unfold Xck at h
 have J:=js [2,3,4,5,6,7,8,9]
 have LM:=lm XcT
 have LP:=@XrY Xac hS;have LQ:=lm XcT
 refine Xa4 XaM hS true 3000 ?_
 conv=>whnf
 exact W
theorem Xsd (Xac:Xaq) (hS:XaF Try.prog (XaP (Xif Xac))) {s:Xak} {oa1:Xak} {res:Bool×Xak}:∀ {fuel} {st:Int×(List Int)} {o:Bool×Xak},iter (fun st=>Xdh s oa1 st.1 st.2) fuel st=some o→(o=res) →
 XaU Try.prog 14 20 (XsS s oa1 st.1 st.2) (fun v H _=>Res 20 (Xja res) v H):=by
 apply XaO
 intro st o h hc
 obtain ⟨t25,c⟩:=st
 try dsimp -zeta only at h ⊢
 unfold Xdh at h
 have J:=js [2,3,4,5,6,7,8,9]
 have LM:=lm XcT
 have LP:=@Xtf Xac hS;have LQ:=lm XcT
 refine Xa4 XaM hS true 3000 ?_
 conv=>whnf
 exact W
theorem Xvu (Xac:Xaq) (hS:XaF Try.prog (XaP (Xif Xac))) (s:Xak) (oa1:Xak) (res:Bool×Xak) (h:Xea Xac s oa1=some res) :
 XaU Try.prog 14 20 ⟨⟨14,51,[(0,.pointer (some ⟨0,0,none⟩)),(1,.pointer (some ⟨10,0,none⟩))],[.code Xlr],[],false,none⟩,[],[(0,.cells [.int .u64 s.key.A,.int .u64 s.key.B,.slice (some ⟨1,0,none⟩) 8 1,.int .i64 s.total]),(1,.cells [.slice (some ⟨2,0,none⟩) s.rows.m0 1,.slice (some ⟨3,0,none⟩) s.rows.m1 1,.slice (some ⟨4,0,none⟩) s.rows.m2 1,.slice (some ⟨5,0,none⟩) s.rows.m3 1,.slice (some ⟨6,0,none⟩) s.rows.m4 1,.slice (some ⟨7,0,none⟩) s.rows.m5 1,.slice (some ⟨8,0,none⟩) s.rows.m6 1,.slice (some ⟨9,0,none⟩) s.rows.m7 1]),(2,.row true (vI .i64 s.rows.e0)),(3,.row true (vI .i64 s.rows.e1)),(4,.row true (vI .i64 s.rows.e2)),(5,.row true (vI .i64 s.rows.e3)),(6,.row true (vI .i64 s.rows.e4)),(7,.row true (vI .i64 s.rows.e5)),(8,.row true (vI .i64 s.rows.e6)),(9,.row true (vI .i64 s.rows.e7)),(10,.row false [.int .u64 oa1.key.A,.int .u64 oa1.key.B,.slice (some ⟨11,0,none⟩) 8 1,.int .i64 oa1.total]),(11,.row false [.slice (some ⟨12,0,none⟩) oa1.rows.m0 1,.slice (some ⟨13,0,none⟩) oa1.rows.m1 1,.slice (some ⟨14,0,none⟩) oa1.rows.m2 1,.slice (some ⟨15,0,none⟩) oa1.rows.m3 1,.slice (some ⟨16,0,none⟩) oa1.rows.m4 1,.slice (some ⟨17,0,none⟩) oa1.rows.m5 1,.slice (some ⟨18,0,none⟩) oa1.rows.m6 1,.slice (some ⟨19,0,none⟩) oa1.rows.m7 1]),(12,.row false (vI .i64 oa1.rows.e0)),(13,.row false (vI .i64 oa1.rows.e1)),(14,.row false (vI .i64 oa1.rows.e2)),(15,.row false (vI .i64 oa1.rows.e3)),(16,.row false (vI .i64 oa1.rows.e4)),(17,.row false (vI .i64 oa1.rows.e5)),(18,.row false (vI .i64 oa1.rows.e6)),(19,.row false (vI .i64 oa1.rows.e7))],20⟩ (fun v H _=>Res 20 (Xja res) v H):=by
 unfold Xea at h
 have R1:=@Xxo Xac
 have J:=js [2,3,4,5,6,7,8,9]
 have LP:=@Xsd Xac hS;have LQ:=lm XcT
 refine Xa4 XaM hS true 3000 ?_
 conv=>whnf
 exact W
structure XaG where
 v00:Xgu
 v11:Xgk
 v22:Xgt
 v33:Xgm
 v44:Xgq
 v55:Xgj
 v66:Xgv
 v77:Xgs
 v88:Xgn
def s14 (g:XaG):XcS:=⟨[.tr [⟨none,0,0,1,none⟩,⟨some 0,2,0,1,none⟩,⟨some 1,0,0,2,none⟩,⟨some 1,1,0,2,none⟩,⟨some 1,2,0,2,none⟩,⟨some 1,3,0,2,none⟩,⟨some 1,4,0,2,none⟩,⟨some 1,5,0,2,none⟩,⟨some 1,6,0,2,none⟩,⟨some 1,7,0,2,none⟩],.tr [⟨none,0,0,0,none⟩,⟨some 0,2,0,0,none⟩,⟨some 1,0,0,0,none⟩,⟨some 1,1,0,0,none⟩,⟨some 1,2,0,0,none⟩,⟨some 1,3,0,0,none⟩,⟨some 1,4,0,0,none⟩,⟨some 1,5,0,0,none⟩,⟨some 1,6,0,0,none⟩,⟨some 1,7,0,0,none⟩]],orD (XIK g.v00) (orD (XIa g.v11) (orD (XIr g.v22) (orD (XHB g.v33) (orD (XIu g.v44) (orD (XJA g.v55) (orD (XIp g.v66) (orD (XIw g.v77) (XHF g.v88))))))))⟩
theorem Xre {g:XaG} {y0:XaA} {y1:XaA} {x:Bool×XaA} (hx:g.v11 y0 y1=some x):(s14 g).run [.pointer (some ⟨0,0,none⟩),.pointer (some ⟨10,0,none⟩)] [some [.int .u64 y0.key.A,.int .u64 y0.key.B,.slice (some ⟨1,0,none⟩) 1 1,.int .i64 y0.total],some [.slice (some ⟨2,0,none⟩) y0.rows.m0 1],some (vI .i64 y0.rows.e0),none,none,none,none,none,none,none,some [.int .u64 y1.key.A,.int .u64 y1.key.B,.slice (some ⟨11,0,none⟩) 1 1,.int .i64 y1.total],some [.slice (some ⟨12,0,none⟩) y1.rows.m0 1],some (vI .i64 y1.rows.e0),none,none,none,none,none,none,none]=some (Xpr x):=by dsimp only [s14];exact (XaL rfl (XdM ((Xbn rfl rfl (XcK 0 _)).trans ((Xbn rfl rfl (XcK 10 _)).trans (Xbc hx)))))
theorem Xrj {g:XaG} {y0:Xax} {y1:Xax} {x:Bool×Xax} (hx:g.v22 y0 y1=some x):(s14 g).run [.pointer (some ⟨0,0,none⟩),.pointer (some ⟨10,0,none⟩)] [some [.int .u64 y0.key.A,.int .u64 y0.key.B,.slice (some ⟨1,0,none⟩) 2 1,.int .i64 y0.total],some [.slice (some ⟨2,0,none⟩) y0.rows.m0 1,.slice (some ⟨3,0,none⟩) y0.rows.m1 1],some (vI .i64 y0.rows.e0),some (vI .i64 y0.rows.e1),none,none,none,none,none,none,some [.int .u64 y1.key.A,.int .u64 y1.key.B,.slice (some ⟨11,0,none⟩) 2 1,.int .i64 y1.total],some [.slice (some ⟨12,0,none⟩) y1.rows.m0 1,.slice (some ⟨13,0,none⟩) y1.rows.m1 1],some (vI .i64 y1.rows.e0),some (vI .i64 y1.rows.e1),none,none,none,none,none,none]=some (XnY x):=by dsimp only [s14];exact (XaL rfl (XaL rfl (XdM ((Xbn rfl rfl (XcM 0 _)).trans ((Xbn rfl rfl (XcM 10 _)).trans (Xbc hx))))))
theorem Xqu {g:XaG} {y0:Xav} {y1:Xav} {x:Bool×Xav} (hx:g.v33 y0 y1=some x):(s14 g).run [.pointer (some ⟨0,0,none⟩),.pointer (some ⟨10,0,none⟩)] [some [.int .u64 y0.key.A,.int .u64 y0.key.B,.slice (some ⟨1,0,none⟩) 3 1,.int .i64 y0.total],some [.slice (some ⟨2,0,none⟩) y0.rows.m0 1,.slice (some ⟨3,0,none⟩) y0.rows.m1 1,.slice (some ⟨4,0,none⟩) y0.rows.m2 1],some (vI .i64 y0.rows.e0),some (vI .i64 y0.rows.e1),some (vI .i64 y0.rows.e2),none,none,none,none,none,some [.int .u64 y1.key.A,.int .u64 y1.key.B,.slice (some ⟨11,0,none⟩) 3 1,.int .i64 y1.total],some [.slice (some ⟨12,0,none⟩) y1.rows.m0 1,.slice (some ⟨13,0,none⟩) y1.rows.m1 1,.slice (some ⟨14,0,none⟩) y1.rows.m2 1],some (vI .i64 y1.rows.e0),some (vI .i64 y1.rows.e1),some (vI .i64 y1.rows.e2),none,none,none,none,none]=some (Xm2 x):=by dsimp only [s14];exact (XaL rfl (XaL rfl (XaL rfl (XdM ((Xbn rfl rfl (XcO 0 _)).trans ((Xbn rfl rfl (XcO 10 _)).trans (Xbc hx)))))))
theorem Xqt {g:XaG} {y0:Xar} {y1:Xar} {x:Bool×Xar} (hx:g.v44 y0 y1=some x):(s14 g).run [.pointer (some ⟨0,0,none⟩),.pointer (some ⟨10,0,none⟩)] [some [.int .u64 y0.key.A,.int .u64 y0.key.B,.slice (some ⟨1,0,none⟩) 4 1,.int .i64 y0.total],some [.slice (some ⟨2,0,none⟩) y0.rows.m0 1,.slice (some ⟨3,0,none⟩) y0.rows.m1 1,.slice (some ⟨4,0,none⟩) y0.rows.m2 1,.slice (some ⟨5,0,none⟩) y0.rows.m3 1],some (vI .i64 y0.rows.e0),some (vI .i64 y0.rows.e1),some (vI .i64 y0.rows.e2),some (vI .i64 y0.rows.e3),none,none,none,none,some [.int .u64 y1.key.A,.int .u64 y1.key.B,.slice (some ⟨11,0,none⟩) 4 1,.int .i64 y1.total],some [.slice (some ⟨12,0,none⟩) y1.rows.m0 1,.slice (some ⟨13,0,none⟩) y1.rows.m1 1,.slice (some ⟨14,0,none⟩) y1.rows.m2 1,.slice (some ⟨15,0,none⟩) y1.rows.m3 1],some (vI .i64 y1.rows.e0),some (vI .i64 y1.rows.e1),some (vI .i64 y1.rows.e2),some (vI .i64 y1.rows.e3),none,none,none,none]=some (XlG x):=by dsimp only [s14];exact (XaL rfl (XaL rfl (XaL rfl (XaL rfl (XdM ((Xbn rfl rfl (XcR 0 _)).trans ((Xbn rfl rfl (XcR 10 _)).trans (Xbc hx))))))))
theorem Xqx {g:XaG} {y0:Xap} {y1:Xap} {x:Bool×Xap} (hx:g.v55 y0 y1=some x):(s14 g).run [.pointer (some ⟨0,0,none⟩),.pointer (some ⟨10,0,none⟩)] [some [.int .u64 y0.key.A,.int .u64 y0.key.B,.slice (some ⟨1,0,none⟩) 5 1,.int .i64 y0.total],some [.slice (some ⟨2,0,none⟩) y0.rows.m0 1,.slice (some ⟨3,0,none⟩) y0.rows.m1 1,.slice (some ⟨4,0,none⟩) y0.rows.m2 1,.slice (some ⟨5,0,none⟩) y0.rows.m3 1,.slice (some ⟨6,0,none⟩) y0.rows.m4 1],some (vI .i64 y0.rows.e0),some (vI .i64 y0.rows.e1),some (vI .i64 y0.rows.e2),some (vI .i64 y0.rows.e3),some (vI .i64 y0.rows.e4),none,none,none,some [.int .u64 y1.key.A,.int .u64 y1.key.B,.slice (some ⟨11,0,none⟩) 5 1,.int .i64 y1.total],some [.slice (some ⟨12,0,none⟩) y1.rows.m0 1,.slice (some ⟨13,0,none⟩) y1.rows.m1 1,.slice (some ⟨14,0,none⟩) y1.rows.m2 1,.slice (some ⟨15,0,none⟩) y1.rows.m3 1,.slice (some ⟨16,0,none⟩) y1.rows.m4 1],some (vI .i64 y1.rows.e0),some (vI .i64 y1.rows.e1),some (vI .i64 y1.rows.e2),some (vI .i64 y1.rows.e3),some (vI .i64 y1.rows.e4),none,none,none]=some (XkR x):=by dsimp only [s14];exact (XaL rfl (XaL rfl (XaL rfl (XaL rfl (XaL rfl (XdM ((Xbn rfl rfl (XcN 0 _)).trans ((Xbn rfl rfl (XcN 10 _)).trans (Xbc hx)))))))))
theorem Xqo {g:XaG} {y0:Xan} {y1:Xan} {x:Bool×Xan} (hx:g.v66 y0 y1=some x):(s14 g).run [.pointer (some ⟨0,0,none⟩),.pointer (some ⟨10,0,none⟩)] [some [.int .u64 y0.key.A,.int .u64 y0.key.B,.slice (some ⟨1,0,none⟩) 6 1,.int .i64 y0.total],some [.slice (some ⟨2,0,none⟩) y0.rows.m0 1,.slice (some ⟨3,0,none⟩) y0.rows.m1 1,.slice (some ⟨4,0,none⟩) y0.rows.m2 1,.slice (some ⟨5,0,none⟩) y0.rows.m3 1,.slice (some ⟨6,0,none⟩) y0.rows.m4 1,.slice (some ⟨7,0,none⟩) y0.rows.m5 1],some (vI .i64 y0.rows.e0),some (vI .i64 y0.rows.e1),some (vI .i64 y0.rows.e2),some (vI .i64 y0.rows.e3),some (vI .i64 y0.rows.e4),some (vI .i64 y0.rows.e5),none,none,some [.int .u64 y1.key.A,.int .u64 y1.key.B,.slice (some ⟨11,0,none⟩) 6 1,.int .i64 y1.total],some [.slice (some ⟨12,0,none⟩) y1.rows.m0 1,.slice (some ⟨13,0,none⟩) y1.rows.m1 1,.slice (some ⟨14,0,none⟩) y1.rows.m2 1,.slice (some ⟨15,0,none⟩) y1.rows.m3 1,.slice (some ⟨16,0,none⟩) y1.rows.m4 1,.slice (some ⟨17,0,none⟩) y1.rows.m5 1],some (vI .i64 y1.rows.e0),some (vI .i64 y1.rows.e1),some (vI .i64 y1.rows.e2),some (vI .i64 y1.rows.e3),some (vI .i64 y1.rows.e4),some (vI .i64 y1.rows.e5),none,none]=some (XjR x):=by dsimp only [s14];exact (XaL rfl (XaL rfl (XaL rfl (XaL rfl (XaL rfl (XaL rfl (XdM ((Xbn rfl rfl (XcQ 0 _)).trans ((Xbn rfl rfl (XcQ 10 _)).trans (Xbc hx))))))))))
theorem Xrc {g:XaG} {y0:Xal} {y1:Xal} {x:Bool×Xal} (hx:g.v77 y0 y1=some x):(s14 g).run [.pointer (some ⟨0,0,none⟩),.pointer (some ⟨10,0,none⟩)] [some [.int .u64 y0.key.A,.int .u64 y0.key.B,.slice (some ⟨1,0,none⟩) 7 1,.int .i64 y0.total],some [.slice (some ⟨2,0,none⟩) y0.rows.m0 1,.slice (some ⟨3,0,none⟩) y0.rows.m1 1,.slice (some ⟨4,0,none⟩) y0.rows.m2 1,.slice (some ⟨5,0,none⟩) y0.rows.m3 1,.slice (some ⟨6,0,none⟩) y0.rows.m4 1,.slice (some ⟨7,0,none⟩) y0.rows.m5 1,.slice (some ⟨8,0,none⟩) y0.rows.m6 1],some (vI .i64 y0.rows.e0),some (vI .i64 y0.rows.e1),some (vI .i64 y0.rows.e2),some (vI .i64 y0.rows.e3),some (vI .i64 y0.rows.e4),some (vI .i64 y0.rows.e5),some (vI .i64 y0.rows.e6),none,some [.int .u64 y1.key.A,.int .u64 y1.key.B,.slice (some ⟨11,0,none⟩) 7 1,.int .i64 y1.total],some [.slice (some ⟨12,0,none⟩) y1.rows.m0 1,.slice (some ⟨13,0,none⟩) y1.rows.m1 1,.slice (some ⟨14,0,none⟩) y1.rows.m2 1,.slice (some ⟨15,0,none⟩) y1.rows.m3 1,.slice (some ⟨16,0,none⟩) y1.rows.m4 1,.slice (some ⟨17,0,none⟩) y1.rows.m5 1,.slice (some ⟨18,0,none⟩) y1.rows.m6 1],some (vI .i64 y1.rows.e0),some (vI .i64 y1.rows.e1),some (vI .i64 y1.rows.e2),some (vI .i64 y1.rows.e3),some (vI .i64 y1.rows.e4),some (vI .i64 y1.rows.e5),some (vI .i64 y1.rows.e6),none]=some (Xjt x):=by dsimp only [s14];exact (XaL rfl (XaL rfl (XaL rfl (XaL rfl (XaL rfl (XaL rfl (XaL rfl (XdM ((Xbn rfl rfl (XcL 0 _)).trans ((Xbn rfl rfl (XcL 10 _)).trans (Xbc hx)))))))))))
theorem Xql {g:XaG} {y0:Xak} {y1:Xak} {x:Bool×Xak} (hx:g.v88 y0 y1=some x):(s14 g).run [.pointer (some ⟨0,0,none⟩),.pointer (some ⟨10,0,none⟩)] [some [.int .u64 y0.key.A,.int .u64 y0.key.B,.slice (some ⟨1,0,none⟩) 8 1,.int .i64 y0.total],some [.slice (some ⟨2,0,none⟩) y0.rows.m0 1,.slice (some ⟨3,0,none⟩) y0.rows.m1 1,.slice (some ⟨4,0,none⟩) y0.rows.m2 1,.slice (some ⟨5,0,none⟩) y0.rows.m3 1,.slice (some ⟨6,0,none⟩) y0.rows.m4 1,.slice (some ⟨7,0,none⟩) y0.rows.m5 1,.slice (some ⟨8,0,none⟩) y0.rows.m6 1,.slice (some ⟨9,0,none⟩) y0.rows.m7 1],some (vI .i64 y0.rows.e0),some (vI .i64 y0.rows.e1),some (vI .i64 y0.rows.e2),some (vI .i64 y0.rows.e3),some (vI .i64 y0.rows.e4),some (vI .i64 y0.rows.e5),some (vI .i64 y0.rows.e6),some (vI .i64 y0.rows.e7),some [.int .u64 y1.key.A,.int .u64 y1.key.B,.slice (some ⟨11,0,none⟩) 8 1,.int .i64 y1.total],some [.slice (some ⟨12,0,none⟩) y1.rows.m0 1,.slice (some ⟨13,0,none⟩) y1.rows.m1 1,.slice (some ⟨14,0,none⟩) y1.rows.m2 1,.slice (some ⟨15,0,none⟩) y1.rows.m3 1,.slice (some ⟨16,0,none⟩) y1.rows.m4 1,.slice (some ⟨17,0,none⟩) y1.rows.m5 1,.slice (some ⟨18,0,none⟩) y1.rows.m6 1,.slice (some ⟨19,0,none⟩) y1.rows.m7 1],some (vI .i64 y1.rows.e0),some (vI .i64 y1.rows.e1),some (vI .i64 y1.rows.e2),some (vI .i64 y1.rows.e3),some (vI .i64 y1.rows.e4),some (vI .i64 y1.rows.e5),some (vI .i64 y1.rows.e6),some (vI .i64 y1.rows.e7)]=some (Xja x):=by dsimp only [s14];exact (XaL rfl (XaL rfl (XaL rfl (XaL rfl (XaL rfl (XaL rfl (XaL rfl (XaL rfl ((Xbn rfl rfl (XcP 0 _)).trans ((Xbn rfl rfl (XcP 10 _)).trans (Xbc hx)))))))))))
def Xlm:Xgu:=Xht Xac
def Xeu:Xgk:=Xd9 Xac
def Xet:Xgt:=Xeb Xac
def Xew:Xgm:=Xd7 Xac
def Xes:Xgq:=Xei Xac
def Xex:Xgj:=Xek Xac
def Xeq:Xgv:=Xed Xac
def Xev:Xgs:=Xef Xac
def Xer:Xgn:=Xea Xac
def Xah:XaG:=⟨Xlm,Xeu,Xet,Xew,Xes,Xex,Xeq,Xev,Xer⟩
theorem lift14:XeH Try.prog 14 (s14 Xah):=by
 have L0:=XvI Xac (XaF.Xba ⟨XlC,trivial⟩)
 have L1:=XvS Xac (XaF.Xba ⟨XlC,trivial⟩)
 have L2:=Xu6 Xac (XaF.Xba ⟨XlC,trivial⟩)
 have L3:=Xvd Xac (XaF.Xba ⟨XlC,trivial⟩)
 have L4:=XvF Xac (XaF.Xba ⟨XlC,trivial⟩)
 have L5:=Xvx Xac (XaF.Xba ⟨XlC,trivial⟩)
 have L6:=Xvg Xac (XaF.Xba ⟨XlC,trivial⟩)
 have L7:=XvY Xac (XaF.Xba ⟨XlC,trivial⟩)
 have L8:=Xvu Xac (XaF.Xba ⟨XlC,trivial⟩)
 refine XeH.Xjm XaM (fun ar os r ha hr=>?_) ⟨Try.f14,rfl,by decide,rfl⟩
 generalize hc:XiR os=C at hr
 replace hr:=orD.elim hr;rcases hr with hr|hr
 ·have LL:=L0;have U1:=@XdZ;exact okB
 replace hr:=orD.elim hr;rcases hr with hr|hr
 ·have LL:=L1;have U1:=@XcW;exact okB
 replace hr:=orD.elim hr;rcases hr with hr|hr
 ·have LL:=L2;have U1:=@XcZ;exact okB
 replace hr:=orD.elim hr;rcases hr with hr|hr
 ·have LL:=L3;have U1:=@Xc2;exact okB
 replace hr:=orD.elim hr;rcases hr with hr|hr
 ·have LL:=L4;have U1:=@Xc0;exact okB
 replace hr:=orD.elim hr;rcases hr with hr|hr
 ·have LL:=L5;have U1:=@XcY;exact okB
 replace hr:=orD.elim hr;rcases hr with hr|hr
 ·have LL:=L6;have U1:=@Xc3;exact okB
 replace hr:=orD.elim hr;rcases hr with hr|hr
 ·have LL:=L7;have U1:=@Xc6;exact okB
 have LL:=L8;have U1:=@Xc1;exact okB
end Go.Vm.Code
namespace Go.Vm.Code
open Go Go.Vm
set_option maxHeartbeats 4000000
def Xdp (k k':Xau):Bool:=(k.A==k'.A)&&((k.B==k'.B)&&true)
theorem XbD {a b:List Int} (h:a.length=b.length):Xai a b=some true:=by
 unfold Xai Xfb
 simp [h]
theorem Xur {k k':Xau} {p:Nat} {x y:SkS} (hx:Xdl p x) (hy:Xdl p y):Xhx (Xjk k p x) (Xjk k' p y)=some (Xdp k k'):=by
 unfold Xhx XeU
 rw [show Xaa.v1 (Xjk k p x)=some true from rfl,show Xaa.v1 (Xjk k' p y)=some true from rfl,Option.bind_some,show (!true)=false from rfl,cond_false,Option.bind_some,show (!true)=false from rfl,cond_false]
 show cond (!(Xdp k k')) _ _=_
 cases Xdp k k' with
 | false=>rfl
 | true=>
   rw [show (!true)=false from rfl,cond_false]
   unfold Xjk;dsimp only
   rw [XaH (show p≤(x.R 0).length by rw [hx.len 0];exact Nat.le_refl _),XaH (show p≤(y.R 0).length by rw [hy.len 0];exact Nat.le_refl _),XbD (by rw [List.length_take,List.length_take,hx.len 0,hy.len 0]),Option.bind_some,show (!true)=false from rfl,cond_false]
theorem XD0 {k k':Xau} {p:Nat} {x y:SkS} (hx:Xdl p x) (hy:Xdl p y) (hk:Xdp k k'=false):Xeu (Xjk k p x) (Xjk k' p y)=some (false,Xjk k p x):=by
 unfold Xeu Xd9
 rw [show Xac.v11 (Xjk k p x) (Xjk k' p y)=some (Xdp k k') from Xur hx hy,hk];rfl
theorem XEi {k:Xau} {p:Nat} (hp:p≤4096) {x y:SkS} (hx:Xdl p x) (hy:Xdl p y):Xeu (Xjk k p x) (Xjk k p y)=some (true,Xjk k p (Xdk x y)):=by
 have hk:Xdp k k=true:=by unfold Xdp;simp
 have ht:(if wI .i64 (x.tot+y.tot)<1099511627776 then wI .i64 (x.tot+y.tot) else 1099511627776)=cap (x.tot+y.tot):=by rw [Xf1 (by have:=hx.tot;have:=hy.tot;omega) (by have:=hx.tot;have:=hy.tot;omega)];rfl
 have h1:iter (fun st=>Xdj (Xjk k p x) (Xjk k p y) st.1 st.2) FUEL (0,x.R 0)=some (true,Xjk k p (Xdk x y)):=XcU (hx.len 0) (hy.len 0) hp (hx.rng 0) (hy.rng 0) (K:=fun c=>some (Sum.inr (true,(⟨k,⟨c,p⟩,if wI .i64 (x.tot+y.tot)<1099511627776 then wI .i64 (x.tot+y.tot) else 1099511627776⟩:XaA)))) (fun t c=>by show Xdj (Xjk k p x) (Xjk k p y) t c=_;unfold Xdj Xjk;rfl) (by show some (Sum.inr (true,_))=_;rw [ht];rfl)
 unfold Xeu Xd9
 rw [show Xac.v11 (Xjk k p x) (Xjk k p y)=some (Xdp k k) from Xur hx hy,hk];exact h1
theorem XtT {k k':Xau} {p:Nat} {x y:SkS} (hx:Xdl p x) (hy:Xdl p y):Xhq (XiQ k p x) (XiQ k' p y)=some (Xdp k k'):=by
 unfold Xhq XeO
 rw [show Xaa.v2 (XiQ k p x)=some true from rfl,show Xaa.v2 (XiQ k' p y)=some true from rfl,Option.bind_some,show (!true)=false from rfl,cond_false,Option.bind_some,show (!true)=false from rfl,cond_false]
 show cond (!(Xdp k k')) _ _=_
 cases Xdp k k' with
 | false=>rfl
 | true=>
   rw [show (!true)=false from rfl,cond_false]
   unfold XiQ;dsimp only
   rw [XaH (show p≤(x.R 0).length by rw [hx.len 0];exact Nat.le_refl _),XaH (show p≤(y.R 0).length by rw [hy.len 0];exact Nat.le_refl _),XbD (by rw [List.length_take,List.length_take,hx.len 0,hy.len 0]),Option.bind_some,show (!true)=false from rfl,cond_false]
   rw [XaH (show p≤(x.R 1).length by rw [hx.len 1];exact Nat.le_refl _),XaH (show p≤(y.R 1).length by rw [hy.len 1];exact Nat.le_refl _),XbD (by rw [List.length_take,List.length_take,hx.len 1,hy.len 1]),Option.bind_some,show (!true)=false from rfl,cond_false]
theorem XEh {k k':Xau} {p:Nat} {x y:SkS} (hx:Xdl p x) (hy:Xdl p y) (hk:Xdp k k'=false):Xet (XiQ k p x) (XiQ k' p y)=some (false,XiQ k p x):=by
 unfold Xet Xeb
 rw [show Xac.v22 (XiQ k p x) (XiQ k' p y)=some (Xdp k k') from XtT hx hy,hk];rfl
theorem XEr {k:Xau} {p:Nat} (hp:p≤4096) {x y:SkS} (hx:Xdl p x) (hy:Xdl p y):Xet (XiQ k p x) (XiQ k p y)=some (true,XiQ k p (Xdk x y)):=by
 have hk:Xdp k k=true:=by unfold Xdp;simp
 have ht:(if wI .i64 (x.tot+y.tot)<1099511627776 then wI .i64 (x.tot+y.tot) else 1099511627776)=cap (x.tot+y.tot):=by rw [Xf1 (by have:=hx.tot;have:=hy.tot;omega) (by have:=hx.tot;have:=hy.tot;omega)];rfl
 have h1:iter (fun st=>Xcs (XiQ k p x) (XiQ k p y) (Xbf (x.R 0) (y.R 0)) st.1 st.2) FUEL (0,x.R 1)=some (true,XiQ k p (Xdk x y)):=XcU (hx.len 1) (hy.len 1) hp (hx.rng 1) (hy.rng 1) (K:=fun c=>some (Sum.inr (true,(⟨k,⟨Xbf (x.R 0) (y.R 0),c,p,p⟩,if wI .i64 (x.tot+y.tot)<1099511627776 then wI .i64 (x.tot+y.tot) else 1099511627776⟩:Xax)))) (fun t c=>by show Xcs (XiQ k p x) (XiQ k p y) (Xbf (x.R 0) (y.R 0)) t c=_;unfold Xcs XiQ;rfl) (by show some (Sum.inr (true,_))=_;rw [ht];rfl)
 have h2:iter (fun st=>Xda (XiQ k p x) (XiQ k p y) st.1 st.2) FUEL (0,x.R 0)=some (true,XiQ k p (Xdk x y)):=XcU (hx.len 0) (hy.len 0) hp (hx.rng 0) (hy.rng 0) (K:=fun c=>(iter (fun st=>Xcs (XiQ k p x) (XiQ k p y) c st.1 st.2) FUEL (0,x.R 1)).bind fun o=>some (Sum.inr o)) (fun t c=>by show Xda (XiQ k p x) (XiQ k p y) t c=_;unfold Xda XiQ;rfl) (by show (iter _ FUEL (0,x.R 1)).bind _=_;rw [h1];rfl)
 unfold Xet Xeb
 rw [show Xac.v22 (XiQ k p x) (XiQ k p y)=some (Xdp k k) from XtT hx hy,hk];exact h2
theorem XuR {k k':Xau} {p:Nat} {x y:SkS} (hx:Xdl p x) (hy:Xdl p y):Xhy (Xh8 k p x) (Xh8 k' p y)=some (Xdp k k'):=by
 unfold Xhy XeV
 rw [show Xaa.v3 (Xh8 k p x)=some true from rfl,show Xaa.v3 (Xh8 k' p y)=some true from rfl,Option.bind_some,show (!true)=false from rfl,cond_false,Option.bind_some,show (!true)=false from rfl,cond_false]
 show cond (!(Xdp k k')) _ _=_
 cases Xdp k k' with
 | false=>rfl
 | true=>
   rw [show (!true)=false from rfl,cond_false]
   unfold Xh8;dsimp only
   rw [XaH (show p≤(x.R 0).length by rw [hx.len 0];exact Nat.le_refl _),XaH (show p≤(y.R 0).length by rw [hy.len 0];exact Nat.le_refl _),XbD (by rw [List.length_take,List.length_take,hx.len 0,hy.len 0]),Option.bind_some,show (!true)=false from rfl,cond_false]
   rw [XaH (show p≤(x.R 1).length by rw [hx.len 1];exact Nat.le_refl _),XaH (show p≤(y.R 1).length by rw [hy.len 1];exact Nat.le_refl _),XbD (by rw [List.length_take,List.length_take,hx.len 1,hy.len 1]),Option.bind_some,show (!true)=false from rfl,cond_false]
   rw [XaH (show p≤(x.R 2).length by rw [hx.len 2];exact Nat.le_refl _),XaH (show p≤(y.R 2).length by rw [hy.len 2];exact Nat.le_refl _),XbD (by rw [List.length_take,List.length_take,hx.len 2,hy.len 2]),Option.bind_some,show (!true)=false from rfl,cond_false]
theorem XD8 {k k':Xau} {p:Nat} {x y:SkS} (hx:Xdl p x) (hy:Xdl p y) (hk:Xdp k k'=false):Xew (Xh8 k p x) (Xh8 k' p y)=some (false,Xh8 k p x):=by
 unfold Xew Xd7
 rw [show Xac.v33 (Xh8 k p x) (Xh8 k' p y)=some (Xdp k k') from XuR hx hy,hk];rfl
theorem XEl {k:Xau} {p:Nat} (hp:p≤4096) {x y:SkS} (hx:Xdl p x) (hy:Xdl p y):Xew (Xh8 k p x) (Xh8 k p y)=some (true,Xh8 k p (Xdk x y)):=by
 have hk:Xdp k k=true:=by unfold Xdp;simp
 have ht:(if wI .i64 (x.tot+y.tot)<1099511627776 then wI .i64 (x.tot+y.tot) else 1099511627776)=cap (x.tot+y.tot):=by rw [Xf1 (by have:=hx.tot;have:=hy.tot;omega) (by have:=hx.tot;have:=hy.tot;omega)];rfl
 have h1:iter (fun st=>XcD (Xh8 k p x) (Xh8 k p y) (Xbf (x.R 0) (y.R 0)) (Xbf (x.R 1) (y.R 1)) st.1 st.2) FUEL (0,x.R 2)=some (true,Xh8 k p (Xdk x y)):=XcU (hx.len 2) (hy.len 2) hp (hx.rng 2) (hy.rng 2) (K:=fun c=>some (Sum.inr (true,(⟨k,⟨Xbf (x.R 0) (y.R 0),Xbf (x.R 1) (y.R 1),c,p,p,p⟩,if wI .i64 (x.tot+y.tot)<1099511627776 then wI .i64 (x.tot+y.tot) else 1099511627776⟩:Xav)))) (fun t c=>by show XcD (Xh8 k p x) (Xh8 k p y) (Xbf (x.R 0) (y.R 0)) (Xbf (x.R 1) (y.R 1)) t c=_;unfold XcD Xh8;rfl) (by show some (Sum.inr (true,_))=_;rw [ht];rfl)
 have h2:iter (fun st=>Xcd (Xh8 k p x) (Xh8 k p y) (Xbf (x.R 0) (y.R 0)) st.1 st.2) FUEL (0,x.R 1)=some (true,Xh8 k p (Xdk x y)):=XcU (hx.len 1) (hy.len 1) hp (hx.rng 1) (hy.rng 1) (K:=fun c=>(iter (fun st=>XcD (Xh8 k p x) (Xh8 k p y) (Xbf (x.R 0) (y.R 0)) c st.1 st.2) FUEL (0,x.R 2)).bind fun o=>some (Sum.inr o)) (fun t c=>by show Xcd (Xh8 k p x) (Xh8 k p y) (Xbf (x.R 0) (y.R 0)) t c=_;unfold Xcd Xh8;rfl) (by show (iter _ FUEL (0,x.R 2)).bind _=_;rw [h1];rfl)
 have h3:iter (fun st=>Xdi (Xh8 k p x) (Xh8 k p y) st.1 st.2) FUEL (0,x.R 0)=some (true,Xh8 k p (Xdk x y)):=XcU (hx.len 0) (hy.len 0) hp (hx.rng 0) (hy.rng 0) (K:=fun c=>(iter (fun st=>Xcd (Xh8 k p x) (Xh8 k p y) c st.1 st.2) FUEL (0,x.R 1)).bind fun o=>some (Sum.inr o)) (fun t c=>by show Xdi (Xh8 k p x) (Xh8 k p y) t c=_;unfold Xdi Xh8;rfl) (by show (iter _ FUEL (0,x.R 1)).bind _=_;rw [h2];rfl)
 unfold Xew Xd7
 rw [show Xac.v33 (Xh8 k p x) (Xh8 k p y)=some (Xdp k k) from XuR hx hy,hk];exact h3
theorem XtY {k k':Xau} {p:Nat} {x y:SkS} (hx:Xdl p x) (hy:Xdl p y):Xhw (XhE k p x) (XhE k' p y)=some (Xdp k k'):=by
 unfold Xhw XeZ
 rw [show Xaa.v4 (XhE k p x)=some true from rfl,show Xaa.v4 (XhE k' p y)=some true from rfl,Option.bind_some,show (!true)=false from rfl,cond_false,Option.bind_some,show (!true)=false from rfl,cond_false]
 show cond (!(Xdp k k')) _ _=_
 cases Xdp k k' with
 | false=>rfl
 | true=>
   rw [show (!true)=false from rfl,cond_false]
   unfold XhE;dsimp only
   rw [XaH (show p≤(x.R 0).length by rw [hx.len 0];exact Nat.le_refl _),XaH (show p≤(y.R 0).length by rw [hy.len 0];exact Nat.le_refl _),XbD (by rw [List.length_take,List.length_take,hx.len 0,hy.len 0]),Option.bind_some,show (!true)=false from rfl,cond_false]
   rw [XaH (show p≤(x.R 1).length by rw [hx.len 1];exact Nat.le_refl _),XaH (show p≤(y.R 1).length by rw [hy.len 1];exact Nat.le_refl _),XbD (by rw [List.length_take,List.length_take,hx.len 1,hy.len 1]),Option.bind_some,show (!true)=false from rfl,cond_false]
   rw [XaH (show p≤(x.R 2).length by rw [hx.len 2];exact Nat.le_refl _),XaH (show p≤(y.R 2).length by rw [hy.len 2];exact Nat.le_refl _),XbD (by rw [List.length_take,List.length_take,hx.len 2,hy.len 2]),Option.bind_some,show (!true)=false from rfl,cond_false]
   rw [XaH (show p≤(x.R 3).length by rw [hx.len 3];exact Nat.le_refl _),XaH (show p≤(y.R 3).length by rw [hy.len 3];exact Nat.le_refl _),XbD (by rw [List.length_take,List.length_take,hx.len 3,hy.len 3]),Option.bind_some,show (!true)=false from rfl,cond_false]
theorem XEz {k k':Xau} {p:Nat} {x y:SkS} (hx:Xdl p x) (hy:Xdl p y) (hk:Xdp k k'=false):Xes (XhE k p x) (XhE k' p y)=some (false,XhE k p x):=by
 unfold Xes Xei
 rw [show Xac.v44 (XhE k p x) (XhE k' p y)=some (Xdp k k') from XtY hx hy,hk];rfl
theorem XFC {k:Xau} {p:Nat} (hp:p≤4096) {x y:SkS} (hx:Xdl p x) (hy:Xdl p y):Xes (XhE k p x) (XhE k p y)=some (true,XhE k p (Xdk x y)):=by
 have hk:Xdp k k=true:=by unfold Xdp;simp
 have ht:(if wI .i64 (x.tot+y.tot)<1099511627776 then wI .i64 (x.tot+y.tot) else 1099511627776)=cap (x.tot+y.tot):=by rw [Xf1 (by have:=hx.tot;have:=hy.tot;omega) (by have:=hx.tot;have:=hy.tot;omega)];rfl
 have h1:iter (fun st=>Xce (XhE k p x) (XhE k p y) (Xbf (x.R 0) (y.R 0)) (Xbf (x.R 1) (y.R 1)) (Xbf (x.R 2) (y.R 2)) st.1 st.2) FUEL (0,x.R 3)=some (true,XhE k p (Xdk x y)):=XcU (hx.len 3) (hy.len 3) hp (hx.rng 3) (hy.rng 3) (K:=fun c=>some (Sum.inr (true,(⟨k,⟨Xbf (x.R 0) (y.R 0),Xbf (x.R 1) (y.R 1),Xbf (x.R 2) (y.R 2),c,p,p,p,p⟩,if wI .i64 (x.tot+y.tot)<1099511627776 then wI .i64 (x.tot+y.tot) else 1099511627776⟩:Xar)))) (fun t c=>by show Xce (XhE k p x) (XhE k p y) (Xbf (x.R 0) (y.R 0)) (Xbf (x.R 1) (y.R 1)) (Xbf (x.R 2) (y.R 2)) t c=_;unfold Xce XhE;rfl) (by show some (Sum.inr (true,_))=_;rw [ht];rfl)
 have h2:iter (fun st=>Xcm (XhE k p x) (XhE k p y) (Xbf (x.R 0) (y.R 0)) (Xbf (x.R 1) (y.R 1)) st.1 st.2) FUEL (0,x.R 2)=some (true,XhE k p (Xdk x y)):=XcU (hx.len 2) (hy.len 2) hp (hx.rng 2) (hy.rng 2) (K:=fun c=>(iter (fun st=>Xce (XhE k p x) (XhE k p y) (Xbf (x.R 0) (y.R 0)) (Xbf (x.R 1) (y.R 1)) c st.1 st.2) FUEL (0,x.R 3)).bind fun o=>some (Sum.inr o)) (fun t c=>by show Xcm (XhE k p x) (XhE k p y) (Xbf (x.R 0) (y.R 0)) (Xbf (x.R 1) (y.R 1)) t c=_;unfold Xcm XhE;rfl) (by show (iter _ FUEL (0,x.R 3)).bind _=_;rw [h1];rfl)
 have h3:iter (fun st=>Xcc (XhE k p x) (XhE k p y) (Xbf (x.R 0) (y.R 0)) st.1 st.2) FUEL (0,x.R 1)=some (true,XhE k p (Xdk x y)):=XcU (hx.len 1) (hy.len 1) hp (hx.rng 1) (hy.rng 1) (K:=fun c=>(iter (fun st=>Xcm (XhE k p x) (XhE k p y) (Xbf (x.R 0) (y.R 0)) c st.1 st.2) FUEL (0,x.R 2)).bind fun o=>some (Sum.inr o)) (fun t c=>by show Xcc (XhE k p x) (XhE k p y) (Xbf (x.R 0) (y.R 0)) t c=_;unfold Xcc XhE;rfl) (by show (iter _ FUEL (0,x.R 2)).bind _=_;rw [h2];rfl)
 have h4:iter (fun st=>Xdg (XhE k p x) (XhE k p y) st.1 st.2) FUEL (0,x.R 0)=some (true,XhE k p (Xdk x y)):=XcU (hx.len 0) (hy.len 0) hp (hx.rng 0) (hy.rng 0) (K:=fun c=>(iter (fun st=>Xcc (XhE k p x) (XhE k p y) c st.1 st.2) FUEL (0,x.R 1)).bind fun o=>some (Sum.inr o)) (fun t c=>by show Xdg (XhE k p x) (XhE k p y) t c=_;unfold Xdg XhE;rfl) (by show (iter _ FUEL (0,x.R 1)).bind _=_;rw [h3];rfl)
 unfold Xes Xei
 rw [show Xac.v44 (XhE k p x) (XhE k p y)=some (Xdp k k) from XtY hx hy,hk];exact h4
theorem Xt6 {k k':Xau} {p:Nat} {x y:SkS} (hx:Xdl p x) (hy:Xdl p y):Xhv (XgC k p x) (XgC k' p y)=some (Xdp k k'):=by
 unfold Xhv XeQ
 rw [show Xaa.v5 (XgC k p x)=some true from rfl,show Xaa.v5 (XgC k' p y)=some true from rfl,Option.bind_some,show (!true)=false from rfl,cond_false,Option.bind_some,show (!true)=false from rfl,cond_false]
 show cond (!(Xdp k k')) _ _=_
 cases Xdp k k' with
 | false=>rfl
 | true=>
   rw [show (!true)=false from rfl,cond_false]
   unfold XgC;dsimp only
   rw [XaH (show p≤(x.R 0).length by rw [hx.len 0];exact Nat.le_refl _),XaH (show p≤(y.R 0).length by rw [hy.len 0];exact Nat.le_refl _),XbD (by rw [List.length_take,List.length_take,hx.len 0,hy.len 0]),Option.bind_some,show (!true)=false from rfl,cond_false]
   rw [XaH (show p≤(x.R 1).length by rw [hx.len 1];exact Nat.le_refl _),XaH (show p≤(y.R 1).length by rw [hy.len 1];exact Nat.le_refl _),XbD (by rw [List.length_take,List.length_take,hx.len 1,hy.len 1]),Option.bind_some,show (!true)=false from rfl,cond_false]
   rw [XaH (show p≤(x.R 2).length by rw [hx.len 2];exact Nat.le_refl _),XaH (show p≤(y.R 2).length by rw [hy.len 2];exact Nat.le_refl _),XbD (by rw [List.length_take,List.length_take,hx.len 2,hy.len 2]),Option.bind_some,show (!true)=false from rfl,cond_false]
   rw [XaH (show p≤(x.R 3).length by rw [hx.len 3];exact Nat.le_refl _),XaH (show p≤(y.R 3).length by rw [hy.len 3];exact Nat.le_refl _),XbD (by rw [List.length_take,List.length_take,hx.len 3,hy.len 3]),Option.bind_some,show (!true)=false from rfl,cond_false]
   rw [XaH (show p≤(x.R 4).length by rw [hx.len 4];exact Nat.le_refl _),XaH (show p≤(y.R 4).length by rw [hy.len 4];exact Nat.le_refl _),XbD (by rw [List.length_take,List.length_take,hx.len 4,hy.len 4]),Option.bind_some,show (!true)=false from rfl,cond_false]
theorem XEp {k k':Xau} {p:Nat} {x y:SkS} (hx:Xdl p x) (hy:Xdl p y) (hk:Xdp k k'=false):Xex (XgC k p x) (XgC k' p y)=some (false,XgC k p x):=by
 unfold Xex Xek
 rw [show Xac.v55 (XgC k p x) (XgC k' p y)=some (Xdp k k') from Xt6 hx hy,hk];rfl
theorem XGo {k:Xau} {p:Nat} (hp:p≤4096) {x y:SkS} (hx:Xdl p x) (hy:Xdl p y):Xex (XgC k p x) (XgC k p y)=some (true,XgC k p (Xdk x y)):=by
 have hk:Xdp k k=true:=by unfold Xdp;simp
 have ht:(if wI .i64 (x.tot+y.tot)<1099511627776 then wI .i64 (x.tot+y.tot) else 1099511627776)=cap (x.tot+y.tot):=by rw [Xf1 (by have:=hx.tot;have:=hy.tot;omega) (by have:=hx.tot;have:=hy.tot;omega)];rfl
 have h1:iter (fun st=>Xcv (XgC k p x) (XgC k p y) (Xbf (x.R 0) (y.R 0)) (Xbf (x.R 1) (y.R 1)) (Xbf (x.R 2) (y.R 2)) (Xbf (x.R 3) (y.R 3)) st.1 st.2) FUEL (0,x.R 4)=some (true,XgC k p (Xdk x y)):=XcU (hx.len 4) (hy.len 4) hp (hx.rng 4) (hy.rng 4) (K:=fun c=>some (Sum.inr (true,(⟨k,⟨Xbf (x.R 0) (y.R 0),Xbf (x.R 1) (y.R 1),Xbf (x.R 2) (y.R 2),Xbf (x.R 3) (y.R 3),c,p,p,p,p,p⟩,if wI .i64 (x.tot+y.tot)<1099511627776 then wI .i64 (x.tot+y.tot) else 1099511627776⟩:Xap)))) (fun t c=>by show Xcv (XgC k p x) (XgC k p y) (Xbf (x.R 0) (y.R 0)) (Xbf (x.R 1) (y.R 1)) (Xbf (x.R 2) (y.R 2)) (Xbf (x.R 3) (y.R 3)) t c=_;unfold Xcv XgC;rfl) (by show some (Sum.inr (true,_))=_;rw [ht];rfl)
 have h2:iter (fun st=>Xcf (XgC k p x) (XgC k p y) (Xbf (x.R 0) (y.R 0)) (Xbf (x.R 1) (y.R 1)) (Xbf (x.R 2) (y.R 2)) st.1 st.2) FUEL (0,x.R 3)=some (true,XgC k p (Xdk x y)):=XcU (hx.len 3) (hy.len 3) hp (hx.rng 3) (hy.rng 3) (K:=fun c=>(iter (fun st=>Xcv (XgC k p x) (XgC k p y) (Xbf (x.R 0) (y.R 0)) (Xbf (x.R 1) (y.R 1)) (Xbf (x.R 2) (y.R 2)) c st.1 st.2) FUEL (0,x.R 4)).bind fun o=>some (Sum.inr o)) (fun t c=>by show Xcf (XgC k p x) (XgC k p y) (Xbf (x.R 0) (y.R 0)) (Xbf (x.R 1) (y.R 1)) (Xbf (x.R 2) (y.R 2)) t c=_;unfold Xcf XgC;rfl) (by show (iter _ FUEL (0,x.R 4)).bind _=_;rw [h1];rfl)
 have h3:iter (fun st=>Xco (XgC k p x) (XgC k p y) (Xbf (x.R 0) (y.R 0)) (Xbf (x.R 1) (y.R 1)) st.1 st.2) FUEL (0,x.R 2)=some (true,XgC k p (Xdk x y)):=XcU (hx.len 2) (hy.len 2) hp (hx.rng 2) (hy.rng 2) (K:=fun c=>(iter (fun st=>Xcf (XgC k p x) (XgC k p y) (Xbf (x.R 0) (y.R 0)) (Xbf (x.R 1) (y.R 1)) c st.1 st.2) FUEL (0,x.R 3)).bind fun o=>some (Sum.inr o)) (fun t c=>by show Xco (XgC k p x) (XgC k p y) (Xbf (x.R 0) (y.R 0)) (Xbf (x.R 1) (y.R 1)) t c=_;unfold Xco XgC;rfl) (by show (iter _ FUEL (0,x.R 3)).bind _=_;rw [h2];rfl)
 have h4:iter (fun st=>XcC (XgC k p x) (XgC k p y) (Xbf (x.R 0) (y.R 0)) st.1 st.2) FUEL (0,x.R 1)=some (true,XgC k p (Xdk x y)):=XcU (hx.len 1) (hy.len 1) hp (hx.rng 1) (hy.rng 1) (K:=fun c=>(iter (fun st=>Xco (XgC k p x) (XgC k p y) (Xbf (x.R 0) (y.R 0)) c st.1 st.2) FUEL (0,x.R 2)).bind fun o=>some (Sum.inr o)) (fun t c=>by show XcC (XgC k p x) (XgC k p y) (Xbf (x.R 0) (y.R 0)) t c=_;unfold XcC XgC;rfl) (by show (iter _ FUEL (0,x.R 2)).bind _=_;rw [h3];rfl)
 have h5:iter (fun st=>Xdc (XgC k p x) (XgC k p y) st.1 st.2) FUEL (0,x.R 0)=some (true,XgC k p (Xdk x y)):=XcU (hx.len 0) (hy.len 0) hp (hx.rng 0) (hy.rng 0) (K:=fun c=>(iter (fun st=>XcC (XgC k p x) (XgC k p y) c st.1 st.2) FUEL (0,x.R 1)).bind fun o=>some (Sum.inr o)) (fun t c=>by show Xdc (XgC k p x) (XgC k p y) t c=_;unfold Xdc XgC;rfl) (by show (iter _ FUEL (0,x.R 1)).bind _=_;rw [h4];rfl)
 unfold Xex Xek
 rw [show Xac.v55 (XgC k p x) (XgC k p y)=some (Xdp k k) from Xt6 hx hy,hk];exact h5
theorem XuB {k k':Xau} {p:Nat} {x y:SkS} (hx:Xdl p x) (hy:Xdl p y):Xhh (Xfk k p x) (Xfk k' p y)=some (Xdp k k'):=by
 unfold Xhh XeT
 rw [show Xaa.v6 (Xfk k p x)=some true from rfl,show Xaa.v6 (Xfk k' p y)=some true from rfl,Option.bind_some,show (!true)=false from rfl,cond_false,Option.bind_some,show (!true)=false from rfl,cond_false]
 show cond (!(Xdp k k')) _ _=_
 cases Xdp k k' with
 | false=>rfl
 | true=>
   rw [show (!true)=false from rfl,cond_false]
   unfold Xfk;dsimp only
   rw [XaH (show p≤(x.R 0).length by rw [hx.len 0];exact Nat.le_refl _),XaH (show p≤(y.R 0).length by rw [hy.len 0];exact Nat.le_refl _),XbD (by rw [List.length_take,List.length_take,hx.len 0,hy.len 0]),Option.bind_some,show (!true)=false from rfl,cond_false]
   rw [XaH (show p≤(x.R 1).length by rw [hx.len 1];exact Nat.le_refl _),XaH (show p≤(y.R 1).length by rw [hy.len 1];exact Nat.le_refl _),XbD (by rw [List.length_take,List.length_take,hx.len 1,hy.len 1]),Option.bind_some,show (!true)=false from rfl,cond_false]
   rw [XaH (show p≤(x.R 2).length by rw [hx.len 2];exact Nat.le_refl _),XaH (show p≤(y.R 2).length by rw [hy.len 2];exact Nat.le_refl _),XbD (by rw [List.length_take,List.length_take,hx.len 2,hy.len 2]),Option.bind_some,show (!true)=false from rfl,cond_false]
   rw [XaH (show p≤(x.R 3).length by rw [hx.len 3];exact Nat.le_refl _),XaH (show p≤(y.R 3).length by rw [hy.len 3];exact Nat.le_refl _),XbD (by rw [List.length_take,List.length_take,hx.len 3,hy.len 3]),Option.bind_some,show (!true)=false from rfl,cond_false]
   rw [XaH (show p≤(x.R 4).length by rw [hx.len 4];exact Nat.le_refl _),XaH (show p≤(y.R 4).length by rw [hy.len 4];exact Nat.le_refl _),XbD (by rw [List.length_take,List.length_take,hx.len 4,hy.len 4]),Option.bind_some,show (!true)=false from rfl,cond_false]
   rw [XaH (show p≤(x.R 5).length by rw [hx.len 5];exact Nat.le_refl _),XaH (show p≤(y.R 5).length by rw [hy.len 5];exact Nat.le_refl _),XbD (by rw [List.length_take,List.length_take,hx.len 5,hy.len 5]),Option.bind_some,show (!true)=false from rfl,cond_false]
theorem XEA {k k':Xau} {p:Nat} {x y:SkS} (hx:Xdl p x) (hy:Xdl p y) (hk:Xdp k k'=false):Xeq (Xfk k p x) (Xfk k' p y)=some (false,Xfk k p x):=by
 unfold Xeq Xed
 rw [show Xac.v66 (Xfk k p x) (Xfk k' p y)=some (Xdp k k') from XuB hx hy,hk];rfl
theorem XFP {k:Xau} {p:Nat} (hp:p≤4096) {x y:SkS} (hx:Xdl p x) (hy:Xdl p y):Xeq (Xfk k p x) (Xfk k p y)=some (true,Xfk k p (Xdk x y)):=by
 have hk:Xdp k k=true:=by unfold Xdp;simp
 have ht:(if wI .i64 (x.tot+y.tot)<1099511627776 then wI .i64 (x.tot+y.tot) else 1099511627776)=cap (x.tot+y.tot):=by rw [Xf1 (by have:=hx.tot;have:=hy.tot;omega) (by have:=hx.tot;have:=hy.tot;omega)];rfl
 have h1:iter (fun st=>Xci (Xfk k p x) (Xfk k p y) (Xbf (x.R 0) (y.R 0)) (Xbf (x.R 1) (y.R 1)) (Xbf (x.R 2) (y.R 2)) (Xbf (x.R 3) (y.R 3)) (Xbf (x.R 4) (y.R 4)) st.1 st.2) FUEL (0,x.R 5)=some (true,Xfk k p (Xdk x y)):=XcU (hx.len 5) (hy.len 5) hp (hx.rng 5) (hy.rng 5) (K:=fun c=>some (Sum.inr (true,(⟨k,⟨Xbf (x.R 0) (y.R 0),Xbf (x.R 1) (y.R 1),Xbf (x.R 2) (y.R 2),Xbf (x.R 3) (y.R 3),Xbf (x.R 4) (y.R 4),c,p,p,p,p,p,p⟩,if wI .i64 (x.tot+y.tot)<1099511627776 then wI .i64 (x.tot+y.tot) else 1099511627776⟩:Xan)))) (fun t c=>by show Xci (Xfk k p x) (Xfk k p y) (Xbf (x.R 0) (y.R 0)) (Xbf (x.R 1) (y.R 1)) (Xbf (x.R 2) (y.R 2)) (Xbf (x.R 3) (y.R 3)) (Xbf (x.R 4) (y.R 4)) t c=_;unfold Xci Xfk;rfl) (by show some (Sum.inr (true,_))=_;rw [ht];rfl)
 have h2:iter (fun st=>Xcp (Xfk k p x) (Xfk k p y) (Xbf (x.R 0) (y.R 0)) (Xbf (x.R 1) (y.R 1)) (Xbf (x.R 2) (y.R 2)) (Xbf (x.R 3) (y.R 3)) st.1 st.2) FUEL (0,x.R 4)=some (true,Xfk k p (Xdk x y)):=XcU (hx.len 4) (hy.len 4) hp (hx.rng 4) (hy.rng 4) (K:=fun c=>(iter (fun st=>Xci (Xfk k p x) (Xfk k p y) (Xbf (x.R 0) (y.R 0)) (Xbf (x.R 1) (y.R 1)) (Xbf (x.R 2) (y.R 2)) (Xbf (x.R 3) (y.R 3)) c st.1 st.2) FUEL (0,x.R 5)).bind fun o=>some (Sum.inr o)) (fun t c=>by show Xcp (Xfk k p x) (Xfk k p y) (Xbf (x.R 0) (y.R 0)) (Xbf (x.R 1) (y.R 1)) (Xbf (x.R 2) (y.R 2)) (Xbf (x.R 3) (y.R 3)) t c=_;unfold Xcp Xfk;rfl) (by show (iter _ FUEL (0,x.R 5)).bind _=_;rw [h1];rfl)
 have h3:iter (fun st=>Xcg (Xfk k p x) (Xfk k p y) (Xbf (x.R 0) (y.R 0)) (Xbf (x.R 1) (y.R 1)) (Xbf (x.R 2) (y.R 2)) st.1 st.2) FUEL (0,x.R 3)=some (true,Xfk k p (Xdk x y)):=XcU (hx.len 3) (hy.len 3) hp (hx.rng 3) (hy.rng 3) (K:=fun c=>(iter (fun st=>Xcp (Xfk k p x) (Xfk k p y) (Xbf (x.R 0) (y.R 0)) (Xbf (x.R 1) (y.R 1)) (Xbf (x.R 2) (y.R 2)) c st.1 st.2) FUEL (0,x.R 4)).bind fun o=>some (Sum.inr o)) (fun t c=>by show Xcg (Xfk k p x) (Xfk k p y) (Xbf (x.R 0) (y.R 0)) (Xbf (x.R 1) (y.R 1)) (Xbf (x.R 2) (y.R 2)) t c=_;unfold Xcg Xfk;rfl) (by show (iter _ FUEL (0,x.R 4)).bind _=_;rw [h2];rfl)
 have h4:iter (fun st=>Xcq (Xfk k p x) (Xfk k p y) (Xbf (x.R 0) (y.R 0)) (Xbf (x.R 1) (y.R 1)) st.1 st.2) FUEL (0,x.R 2)=some (true,Xfk k p (Xdk x y)):=XcU (hx.len 2) (hy.len 2) hp (hx.rng 2) (hy.rng 2) (K:=fun c=>(iter (fun st=>Xcg (Xfk k p x) (Xfk k p y) (Xbf (x.R 0) (y.R 0)) (Xbf (x.R 1) (y.R 1)) c st.1 st.2) FUEL (0,x.R 3)).bind fun o=>some (Sum.inr o)) (fun t c=>by show Xcq (Xfk k p x) (Xfk k p y) (Xbf (x.R 0) (y.R 0)) (Xbf (x.R 1) (y.R 1)) t c=_;unfold Xcq Xfk;rfl) (by show (iter _ FUEL (0,x.R 3)).bind _=_;rw [h3];rfl)
 have h5:iter (fun st=>XcB (Xfk k p x) (Xfk k p y) (Xbf (x.R 0) (y.R 0)) st.1 st.2) FUEL (0,x.R 1)=some (true,Xfk k p (Xdk x y)):=XcU (hx.len 1) (hy.len 1) hp (hx.rng 1) (hy.rng 1) (K:=fun c=>(iter (fun st=>Xcq (Xfk k p x) (Xfk k p y) (Xbf (x.R 0) (y.R 0)) c st.1 st.2) FUEL (0,x.R 2)).bind fun o=>some (Sum.inr o)) (fun t c=>by show XcB (Xfk k p x) (Xfk k p y) (Xbf (x.R 0) (y.R 0)) t c=_;unfold XcB Xfk;rfl) (by show (iter _ FUEL (0,x.R 2)).bind _=_;rw [h4];rfl)
 have h6:iter (fun st=>Xdd (Xfk k p x) (Xfk k p y) st.1 st.2) FUEL (0,x.R 0)=some (true,Xfk k p (Xdk x y)):=XcU (hx.len 0) (hy.len 0) hp (hx.rng 0) (hy.rng 0) (K:=fun c=>(iter (fun st=>XcB (Xfk k p x) (Xfk k p y) c st.1 st.2) FUEL (0,x.R 1)).bind fun o=>some (Sum.inr o)) (fun t c=>by show Xdd (Xfk k p x) (Xfk k p y) t c=_;unfold Xdd Xfk;rfl) (by show (iter _ FUEL (0,x.R 1)).bind _=_;rw [h5];rfl)
 unfold Xeq Xed
 rw [show Xac.v66 (Xfk k p x) (Xfk k p y)=some (Xdp k k) from XuB hx hy,hk];exact h6
theorem XuT {k k':Xau} {p:Nat} {x y:SkS} (hx:Xdl p x) (hy:Xdl p y):Xhk (Xe4 k p x) (Xe4 k' p y)=some (Xdp k k'):=by
 unfold Xhk Xe3
 rw [show Xaa.v7 (Xe4 k p x)=some true from rfl,show Xaa.v7 (Xe4 k' p y)=some true from rfl,Option.bind_some,show (!true)=false from rfl,cond_false,Option.bind_some,show (!true)=false from rfl,cond_false]
 show cond (!(Xdp k k')) _ _=_
 cases Xdp k k' with
 | false=>rfl
 | true=>
   rw [show (!true)=false from rfl,cond_false]
   unfold Xe4;dsimp only
   rw [XaH (show p≤(x.R 0).length by rw [hx.len 0];exact Nat.le_refl _),XaH (show p≤(y.R 0).length by rw [hy.len 0];exact Nat.le_refl _),XbD (by rw [List.length_take,List.length_take,hx.len 0,hy.len 0]),Option.bind_some,show (!true)=false from rfl,cond_false]
   rw [XaH (show p≤(x.R 1).length by rw [hx.len 1];exact Nat.le_refl _),XaH (show p≤(y.R 1).length by rw [hy.len 1];exact Nat.le_refl _),XbD (by rw [List.length_take,List.length_take,hx.len 1,hy.len 1]),Option.bind_some,show (!true)=false from rfl,cond_false]
   rw [XaH (show p≤(x.R 2).length by rw [hx.len 2];exact Nat.le_refl _),XaH (show p≤(y.R 2).length by rw [hy.len 2];exact Nat.le_refl _),XbD (by rw [List.length_take,List.length_take,hx.len 2,hy.len 2]),Option.bind_some,show (!true)=false from rfl,cond_false]
   rw [XaH (show p≤(x.R 3).length by rw [hx.len 3];exact Nat.le_refl _),XaH (show p≤(y.R 3).length by rw [hy.len 3];exact Nat.le_refl _),XbD (by rw [List.length_take,List.length_take,hx.len 3,hy.len 3]),Option.bind_some,show (!true)=false from rfl,cond_false]
   rw [XaH (show p≤(x.R 4).length by rw [hx.len 4];exact Nat.le_refl _),XaH (show p≤(y.R 4).length by rw [hy.len 4];exact Nat.le_refl _),XbD (by rw [List.length_take,List.length_take,hx.len 4,hy.len 4]),Option.bind_some,show (!true)=false from rfl,cond_false]
   rw [XaH (show p≤(x.R 5).length by rw [hx.len 5];exact Nat.le_refl _),XaH (show p≤(y.R 5).length by rw [hy.len 5];exact Nat.le_refl _),XbD (by rw [List.length_take,List.length_take,hx.len 5,hy.len 5]),Option.bind_some,show (!true)=false from rfl,cond_false]
   rw [XaH (show p≤(x.R 6).length by rw [hx.len 6];exact Nat.le_refl _),XaH (show p≤(y.R 6).length by rw [hy.len 6];exact Nat.le_refl _),XbD (by rw [List.length_take,List.length_take,hx.len 6,hy.len 6]),Option.bind_some,show (!true)=false from rfl,cond_false]
theorem XET {k k':Xau} {p:Nat} {x y:SkS} (hx:Xdl p x) (hy:Xdl p y) (hk:Xdp k k'=false):Xev (Xe4 k p x) (Xe4 k' p y)=some (false,Xe4 k p x):=by
 unfold Xev Xef
 rw [show Xac.v77 (Xe4 k p x) (Xe4 k' p y)=some (Xdp k k') from XuT hx hy,hk];rfl
theorem XEZ {k:Xau} {p:Nat} (hp:p≤4096) {x y:SkS} (hx:Xdl p x) (hy:Xdl p y):Xev (Xe4 k p x) (Xe4 k p y)=some (true,Xe4 k p (Xdk x y)):=by
 have hk:Xdp k k=true:=by unfold Xdp;simp
 have ht:(if wI .i64 (x.tot+y.tot)<1099511627776 then wI .i64 (x.tot+y.tot) else 1099511627776)=cap (x.tot+y.tot):=by rw [Xf1 (by have:=hx.tot;have:=hy.tot;omega) (by have:=hx.tot;have:=hy.tot;omega)];rfl
 have h1:iter (fun st=>Xcw (Xe4 k p x) (Xe4 k p y) (Xbf (x.R 0) (y.R 0)) (Xbf (x.R 1) (y.R 1)) (Xbf (x.R 2) (y.R 2)) (Xbf (x.R 3) (y.R 3)) (Xbf (x.R 4) (y.R 4)) (Xbf (x.R 5) (y.R 5)) st.1 st.2) FUEL (0,x.R 6)=some (true,Xe4 k p (Xdk x y)):=XcU (hx.len 6) (hy.len 6) hp (hx.rng 6) (hy.rng 6) (K:=fun c=>some (Sum.inr (true,(⟨k,⟨Xbf (x.R 0) (y.R 0),Xbf (x.R 1) (y.R 1),Xbf (x.R 2) (y.R 2),Xbf (x.R 3) (y.R 3),Xbf (x.R 4) (y.R 4),Xbf (x.R 5) (y.R 5),c,p,p,p,p,p,p,p⟩,if wI .i64 (x.tot+y.tot)<1099511627776 then wI .i64 (x.tot+y.tot) else 1099511627776⟩:Xal)))) (fun t c=>by show Xcw (Xe4 k p x) (Xe4 k p y) (Xbf (x.R 0) (y.R 0)) (Xbf (x.R 1) (y.R 1)) (Xbf (x.R 2) (y.R 2)) (Xbf (x.R 3) (y.R 3)) (Xbf (x.R 4) (y.R 4)) (Xbf (x.R 5) (y.R 5)) t c=_;unfold Xcw Xe4;rfl) (by show some (Sum.inr (true,_))=_;rw [ht];rfl)
 have h2:iter (fun st=>Xct (Xe4 k p x) (Xe4 k p y) (Xbf (x.R 0) (y.R 0)) (Xbf (x.R 1) (y.R 1)) (Xbf (x.R 2) (y.R 2)) (Xbf (x.R 3) (y.R 3)) (Xbf (x.R 4) (y.R 4)) st.1 st.2) FUEL (0,x.R 5)=some (true,Xe4 k p (Xdk x y)):=XcU (hx.len 5) (hy.len 5) hp (hx.rng 5) (hy.rng 5) (K:=fun c=>(iter (fun st=>Xcw (Xe4 k p x) (Xe4 k p y) (Xbf (x.R 0) (y.R 0)) (Xbf (x.R 1) (y.R 1)) (Xbf (x.R 2) (y.R 2)) (Xbf (x.R 3) (y.R 3)) (Xbf (x.R 4) (y.R 4)) c st.1 st.2) FUEL (0,x.R 6)).bind fun o=>some (Sum.inr o)) (fun t c=>by show Xct (Xe4 k p x) (Xe4 k p y) (Xbf (x.R 0) (y.R 0)) (Xbf (x.R 1) (y.R 1)) (Xbf (x.R 2) (y.R 2)) (Xbf (x.R 3) (y.R 3)) (Xbf (x.R 4) (y.R 4)) t c=_;unfold Xct Xe4;rfl) (by show (iter _ FUEL (0,x.R 6)).bind _=_;rw [h1];rfl)
 have h3:iter (fun st=>Xch (Xe4 k p x) (Xe4 k p y) (Xbf (x.R 0) (y.R 0)) (Xbf (x.R 1) (y.R 1)) (Xbf (x.R 2) (y.R 2)) (Xbf (x.R 3) (y.R 3)) st.1 st.2) FUEL (0,x.R 4)=some (true,Xe4 k p (Xdk x y)):=XcU (hx.len 4) (hy.len 4) hp (hx.rng 4) (hy.rng 4) (K:=fun c=>(iter (fun st=>Xct (Xe4 k p x) (Xe4 k p y) (Xbf (x.R 0) (y.R 0)) (Xbf (x.R 1) (y.R 1)) (Xbf (x.R 2) (y.R 2)) (Xbf (x.R 3) (y.R 3)) c st.1 st.2) FUEL (0,x.R 5)).bind fun o=>some (Sum.inr o)) (fun t c=>by show Xch (Xe4 k p x) (Xe4 k p y) (Xbf (x.R 0) (y.R 0)) (Xbf (x.R 1) (y.R 1)) (Xbf (x.R 2) (y.R 2)) (Xbf (x.R 3) (y.R 3)) t c=_;unfold Xch Xe4;rfl) (by show (iter _ FUEL (0,x.R 5)).bind _=_;rw [h2];rfl)
 have h4:iter (fun st=>Xcz (Xe4 k p x) (Xe4 k p y) (Xbf (x.R 0) (y.R 0)) (Xbf (x.R 1) (y.R 1)) (Xbf (x.R 2) (y.R 2)) st.1 st.2) FUEL (0,x.R 3)=some (true,Xe4 k p (Xdk x y)):=XcU (hx.len 3) (hy.len 3) hp (hx.rng 3) (hy.rng 3) (K:=fun c=>(iter (fun st=>Xch (Xe4 k p x) (Xe4 k p y) (Xbf (x.R 0) (y.R 0)) (Xbf (x.R 1) (y.R 1)) (Xbf (x.R 2) (y.R 2)) c st.1 st.2) FUEL (0,x.R 4)).bind fun o=>some (Sum.inr o)) (fun t c=>by show Xcz (Xe4 k p x) (Xe4 k p y) (Xbf (x.R 0) (y.R 0)) (Xbf (x.R 1) (y.R 1)) (Xbf (x.R 2) (y.R 2)) t c=_;unfold Xcz Xe4;rfl) (by show (iter _ FUEL (0,x.R 4)).bind _=_;rw [h3];rfl)
 have h5:iter (fun st=>Xcr (Xe4 k p x) (Xe4 k p y) (Xbf (x.R 0) (y.R 0)) (Xbf (x.R 1) (y.R 1)) st.1 st.2) FUEL (0,x.R 2)=some (true,Xe4 k p (Xdk x y)):=XcU (hx.len 2) (hy.len 2) hp (hx.rng 2) (hy.rng 2) (K:=fun c=>(iter (fun st=>Xcz (Xe4 k p x) (Xe4 k p y) (Xbf (x.R 0) (y.R 0)) (Xbf (x.R 1) (y.R 1)) c st.1 st.2) FUEL (0,x.R 3)).bind fun o=>some (Sum.inr o)) (fun t c=>by show Xcr (Xe4 k p x) (Xe4 k p y) (Xbf (x.R 0) (y.R 0)) (Xbf (x.R 1) (y.R 1)) t c=_;unfold Xcr Xe4;rfl) (by show (iter _ FUEL (0,x.R 3)).bind _=_;rw [h4];rfl)
 have h6:iter (fun st=>Xcj (Xe4 k p x) (Xe4 k p y) (Xbf (x.R 0) (y.R 0)) st.1 st.2) FUEL (0,x.R 1)=some (true,Xe4 k p (Xdk x y)):=XcU (hx.len 1) (hy.len 1) hp (hx.rng 1) (hy.rng 1) (K:=fun c=>(iter (fun st=>Xcr (Xe4 k p x) (Xe4 k p y) (Xbf (x.R 0) (y.R 0)) c st.1 st.2) FUEL (0,x.R 2)).bind fun o=>some (Sum.inr o)) (fun t c=>by show Xcj (Xe4 k p x) (Xe4 k p y) (Xbf (x.R 0) (y.R 0)) t c=_;unfold Xcj Xe4;rfl) (by show (iter _ FUEL (0,x.R 2)).bind _=_;rw [h5];rfl)
 have h7:iter (fun st=>Xdb (Xe4 k p x) (Xe4 k p y) st.1 st.2) FUEL (0,x.R 0)=some (true,Xe4 k p (Xdk x y)):=XcU (hx.len 0) (hy.len 0) hp (hx.rng 0) (hy.rng 0) (K:=fun c=>(iter (fun st=>Xcj (Xe4 k p x) (Xe4 k p y) c st.1 st.2) FUEL (0,x.R 1)).bind fun o=>some (Sum.inr o)) (fun t c=>by show Xdb (Xe4 k p x) (Xe4 k p y) t c=_;unfold Xdb Xe4;rfl) (by show (iter _ FUEL (0,x.R 1)).bind _=_;rw [h6];rfl)
 unfold Xev Xef
 rw [show Xac.v77 (Xe4 k p x) (Xe4 k p y)=some (Xdp k k) from XuT hx hy,hk];exact h7
theorem XuX {k k':Xau} {p:Nat} {x y:SkS} (hx:Xdl p x) (hy:Xdl p y):Xho (Xey k p x) (Xey k' p y)=some (Xdp k k'):=by
 unfold Xho XeP
 rw [show Xaa.v8 (Xey k p x)=some true from rfl,show Xaa.v8 (Xey k' p y)=some true from rfl,Option.bind_some,show (!true)=false from rfl,cond_false,Option.bind_some,show (!true)=false from rfl,cond_false]
 show cond (!(Xdp k k')) _ _=_
 cases Xdp k k' with
 | false=>rfl
 | true=>
   rw [show (!true)=false from rfl,cond_false]
   unfold Xey;dsimp only
   rw [XaH (show p≤(x.R 0).length by rw [hx.len 0];exact Nat.le_refl _),XaH (show p≤(y.R 0).length by rw [hy.len 0];exact Nat.le_refl _),XbD (by rw [List.length_take,List.length_take,hx.len 0,hy.len 0]),Option.bind_some,show (!true)=false from rfl,cond_false]
   rw [XaH (show p≤(x.R 1).length by rw [hx.len 1];exact Nat.le_refl _),XaH (show p≤(y.R 1).length by rw [hy.len 1];exact Nat.le_refl _),XbD (by rw [List.length_take,List.length_take,hx.len 1,hy.len 1]),Option.bind_some,show (!true)=false from rfl,cond_false]
   rw [XaH (show p≤(x.R 2).length by rw [hx.len 2];exact Nat.le_refl _),XaH (show p≤(y.R 2).length by rw [hy.len 2];exact Nat.le_refl _),XbD (by rw [List.length_take,List.length_take,hx.len 2,hy.len 2]),Option.bind_some,show (!true)=false from rfl,cond_false]
   rw [XaH (show p≤(x.R 3).length by rw [hx.len 3];exact Nat.le_refl _),XaH (show p≤(y.R 3).length by rw [hy.len 3];exact Nat.le_refl _),XbD (by rw [List.length_take,List.length_take,hx.len 3,hy.len 3]),Option.bind_some,show (!true)=false from rfl,cond_false]
   rw [XaH (show p≤(x.R 4).length by rw [hx.len 4];exact Nat.le_refl _),XaH (show p≤(y.R 4).length by rw [hy.len 4];exact Nat.le_refl _),XbD (by rw [List.length_take,List.length_take,hx.len 4,hy.len 4]),Option.bind_some,show (!true)=false from rfl,cond_false]
   rw [XaH (show p≤(x.R 5).length by rw [hx.len 5];exact Nat.le_refl _),XaH (show p≤(y.R 5).length by rw [hy.len 5];exact Nat.le_refl _),XbD (by rw [List.length_take,List.length_take,hx.len 5,hy.len 5]),Option.bind_some,show (!true)=false from rfl,cond_false]
   rw [XaH (show p≤(x.R 6).length by rw [hx.len 6];exact Nat.le_refl _),XaH (show p≤(y.R 6).length by rw [hy.len 6];exact Nat.le_refl _),XbD (by rw [List.length_take,List.length_take,hx.len 6,hy.len 6]),Option.bind_some,show (!true)=false from rfl,cond_false]
   rw [XaH (show p≤(x.R 7).length by rw [hx.len 7];exact Nat.le_refl _),XaH (show p≤(y.R 7).length by rw [hy.len 7];exact Nat.le_refl _),XbD (by rw [List.length_take,List.length_take,hx.len 7,hy.len 7]),Option.bind_some,show (!true)=false from rfl,cond_false]
theorem XGf {k k':Xau} {p:Nat} {x y:SkS} (hx:Xdl p x) (hy:Xdl p y) (hk:Xdp k k'=false):Xer (Xey k p x) (Xey k' p y)=some (false,Xey k p x):=by
 unfold Xer Xea
 rw [show Xac.v88 (Xey k p x) (Xey k' p y)=some (Xdp k k') from XuX hx hy,hk];rfl
theorem XFk {k:Xau} {p:Nat} (hp:p≤4096) {x y:SkS} (hx:Xdl p x) (hy:Xdl p y):Xer (Xey k p x) (Xey k p y)=some (true,Xey k p (Xdk x y)):=by
 have hk:Xdp k k=true:=by unfold Xdp;simp
 have ht:(if wI .i64 (x.tot+y.tot)<1099511627776 then wI .i64 (x.tot+y.tot) else 1099511627776)=cap (x.tot+y.tot):=by rw [Xf1 (by have:=hx.tot;have:=hy.tot;omega) (by have:=hx.tot;have:=hy.tot;omega)];rfl
 have h1:iter (fun st=>Xcy (Xey k p x) (Xey k p y) (Xbf (x.R 0) (y.R 0)) (Xbf (x.R 1) (y.R 1)) (Xbf (x.R 2) (y.R 2)) (Xbf (x.R 3) (y.R 3)) (Xbf (x.R 4) (y.R 4)) (Xbf (x.R 5) (y.R 5)) (Xbf (x.R 6) (y.R 6)) st.1 st.2) FUEL (0,x.R 7)=some (true,Xey k p (Xdk x y)):=XcU (hx.len 7) (hy.len 7) hp (hx.rng 7) (hy.rng 7) (K:=fun c=>some (Sum.inr (true,(⟨k,⟨Xbf (x.R 0) (y.R 0),Xbf (x.R 1) (y.R 1),Xbf (x.R 2) (y.R 2),Xbf (x.R 3) (y.R 3),Xbf (x.R 4) (y.R 4),Xbf (x.R 5) (y.R 5),Xbf (x.R 6) (y.R 6),c,p,p,p,p,p,p,p,p⟩,if wI .i64 (x.tot+y.tot)<1099511627776 then wI .i64 (x.tot+y.tot) else 1099511627776⟩:Xak)))) (fun t c=>by show Xcy (Xey k p x) (Xey k p y) (Xbf (x.R 0) (y.R 0)) (Xbf (x.R 1) (y.R 1)) (Xbf (x.R 2) (y.R 2)) (Xbf (x.R 3) (y.R 3)) (Xbf (x.R 4) (y.R 4)) (Xbf (x.R 5) (y.R 5)) (Xbf (x.R 6) (y.R 6)) t c=_;unfold Xcy Xey;rfl) (by show some (Sum.inr (true,_))=_;rw [ht];rfl)
 have h2:iter (fun st=>Xcl (Xey k p x) (Xey k p y) (Xbf (x.R 0) (y.R 0)) (Xbf (x.R 1) (y.R 1)) (Xbf (x.R 2) (y.R 2)) (Xbf (x.R 3) (y.R 3)) (Xbf (x.R 4) (y.R 4)) (Xbf (x.R 5) (y.R 5)) st.1 st.2) FUEL (0,x.R 6)=some (true,Xey k p (Xdk x y)):=XcU (hx.len 6) (hy.len 6) hp (hx.rng 6) (hy.rng 6) (K:=fun c=>(iter (fun st=>Xcy (Xey k p x) (Xey k p y) (Xbf (x.R 0) (y.R 0)) (Xbf (x.R 1) (y.R 1)) (Xbf (x.R 2) (y.R 2)) (Xbf (x.R 3) (y.R 3)) (Xbf (x.R 4) (y.R 4)) (Xbf (x.R 5) (y.R 5)) c st.1 st.2) FUEL (0,x.R 7)).bind fun o=>some (Sum.inr o)) (fun t c=>by show Xcl (Xey k p x) (Xey k p y) (Xbf (x.R 0) (y.R 0)) (Xbf (x.R 1) (y.R 1)) (Xbf (x.R 2) (y.R 2)) (Xbf (x.R 3) (y.R 3)) (Xbf (x.R 4) (y.R 4)) (Xbf (x.R 5) (y.R 5)) t c=_;unfold Xcl Xey;rfl) (by show (iter _ FUEL (0,x.R 7)).bind _=_;rw [h1];rfl)
 have h3:iter (fun st=>Xcx (Xey k p x) (Xey k p y) (Xbf (x.R 0) (y.R 0)) (Xbf (x.R 1) (y.R 1)) (Xbf (x.R 2) (y.R 2)) (Xbf (x.R 3) (y.R 3)) (Xbf (x.R 4) (y.R 4)) st.1 st.2) FUEL (0,x.R 5)=some (true,Xey k p (Xdk x y)):=XcU (hx.len 5) (hy.len 5) hp (hx.rng 5) (hy.rng 5) (K:=fun c=>(iter (fun st=>Xcl (Xey k p x) (Xey k p y) (Xbf (x.R 0) (y.R 0)) (Xbf (x.R 1) (y.R 1)) (Xbf (x.R 2) (y.R 2)) (Xbf (x.R 3) (y.R 3)) (Xbf (x.R 4) (y.R 4)) c st.1 st.2) FUEL (0,x.R 6)).bind fun o=>some (Sum.inr o)) (fun t c=>by show Xcx (Xey k p x) (Xey k p y) (Xbf (x.R 0) (y.R 0)) (Xbf (x.R 1) (y.R 1)) (Xbf (x.R 2) (y.R 2)) (Xbf (x.R 3) (y.R 3)) (Xbf (x.R 4) (y.R 4)) t c=_;unfold Xcx Xey;rfl) (by show (iter _ FUEL (0,x.R 6)).bind _=_;rw [h2];rfl)
 have h4:iter (fun st=>XcA (Xey k p x) (Xey k p y) (Xbf (x.R 0) (y.R 0)) (Xbf (x.R 1) (y.R 1)) (Xbf (x.R 2) (y.R 2)) (Xbf (x.R 3) (y.R 3)) st.1 st.2) FUEL (0,x.R 4)=some (true,Xey k p (Xdk x y)):=XcU (hx.len 4) (hy.len 4) hp (hx.rng 4) (hy.rng 4) (K:=fun c=>(iter (fun st=>Xcx (Xey k p x) (Xey k p y) (Xbf (x.R 0) (y.R 0)) (Xbf (x.R 1) (y.R 1)) (Xbf (x.R 2) (y.R 2)) (Xbf (x.R 3) (y.R 3)) c st.1 st.2) FUEL (0,x.R 5)).bind fun o=>some (Sum.inr o)) (fun t c=>by show XcA (Xey k p x) (Xey k p y) (Xbf (x.R 0) (y.R 0)) (Xbf (x.R 1) (y.R 1)) (Xbf (x.R 2) (y.R 2)) (Xbf (x.R 3) (y.R 3)) t c=_;unfold XcA Xey;rfl) (by show (iter _ FUEL (0,x.R 5)).bind _=_;rw [h3];rfl)
 have h5:iter (fun st=>Xcn (Xey k p x) (Xey k p y) (Xbf (x.R 0) (y.R 0)) (Xbf (x.R 1) (y.R 1)) (Xbf (x.R 2) (y.R 2)) st.1 st.2) FUEL (0,x.R 3)=some (true,Xey k p (Xdk x y)):=XcU (hx.len 3) (hy.len 3) hp (hx.rng 3) (hy.rng 3) (K:=fun c=>(iter (fun st=>XcA (Xey k p x) (Xey k p y) (Xbf (x.R 0) (y.R 0)) (Xbf (x.R 1) (y.R 1)) (Xbf (x.R 2) (y.R 2)) c st.1 st.2) FUEL (0,x.R 4)).bind fun o=>some (Sum.inr o)) (fun t c=>by show Xcn (Xey k p x) (Xey k p y) (Xbf (x.R 0) (y.R 0)) (Xbf (x.R 1) (y.R 1)) (Xbf (x.R 2) (y.R 2)) t c=_;unfold Xcn Xey;rfl) (by show (iter _ FUEL (0,x.R 4)).bind _=_;rw [h4];rfl)
 have h6:iter (fun st=>Xcu (Xey k p x) (Xey k p y) (Xbf (x.R 0) (y.R 0)) (Xbf (x.R 1) (y.R 1)) st.1 st.2) FUEL (0,x.R 2)=some (true,Xey k p (Xdk x y)):=XcU (hx.len 2) (hy.len 2) hp (hx.rng 2) (hy.rng 2) (K:=fun c=>(iter (fun st=>Xcn (Xey k p x) (Xey k p y) (Xbf (x.R 0) (y.R 0)) (Xbf (x.R 1) (y.R 1)) c st.1 st.2) FUEL (0,x.R 3)).bind fun o=>some (Sum.inr o)) (fun t c=>by show Xcu (Xey k p x) (Xey k p y) (Xbf (x.R 0) (y.R 0)) (Xbf (x.R 1) (y.R 1)) t c=_;unfold Xcu Xey;rfl) (by show (iter _ FUEL (0,x.R 3)).bind _=_;rw [h5];rfl)
 have h7:iter (fun st=>Xck (Xey k p x) (Xey k p y) (Xbf (x.R 0) (y.R 0)) st.1 st.2) FUEL (0,x.R 1)=some (true,Xey k p (Xdk x y)):=XcU (hx.len 1) (hy.len 1) hp (hx.rng 1) (hy.rng 1) (K:=fun c=>(iter (fun st=>Xcu (Xey k p x) (Xey k p y) (Xbf (x.R 0) (y.R 0)) c st.1 st.2) FUEL (0,x.R 2)).bind fun o=>some (Sum.inr o)) (fun t c=>by show Xck (Xey k p x) (Xey k p y) (Xbf (x.R 0) (y.R 0)) t c=_;unfold Xck Xey;rfl) (by show (iter _ FUEL (0,x.R 2)).bind _=_;rw [h6];rfl)
 have h8:iter (fun st=>Xdh (Xey k p x) (Xey k p y) st.1 st.2) FUEL (0,x.R 0)=some (true,Xey k p (Xdk x y)):=XcU (hx.len 0) (hy.len 0) hp (hx.rng 0) (hy.rng 0) (K:=fun c=>(iter (fun st=>Xck (Xey k p x) (Xey k p y) c st.1 st.2) FUEL (0,x.R 1)).bind fun o=>some (Sum.inr o)) (fun t c=>by show Xdh (Xey k p x) (Xey k p y) t c=_;unfold Xdh Xey;rfl) (by show (iter _ FUEL (0,x.R 1)).bind _=_;rw [h7];rfl)
 unfold Xer Xea
 rw [show Xac.v88 (Xey k p x) (Xey k p y)=some (Xdp k k) from XuX hx hy,hk];exact h8
end Go.Vm.Code
namespace Go.Vm.Code
open Go Go.Vm Go.Proofs
set_option maxRecDepth 100000
set_option maxHeartbeats 4000000
set_option linter.unusedVariables false
def Xlg (hi:Int) (lo:Int) (add:Int):Option (Int×Int):=
 let t:=Xrn .u64 (wI .u64 (hi*2^1)) (lo.fdiv (2^63))
 let t1:=decide ((wI .u64 ((wI .u64 (lo*2^1))+add))<(wI .u64 (lo*2^1)))
 cond (t1)
  (
  some ((wI .u64 (t+1),wI .u64 ((wI .u64 (lo*2^1))+add))))
  (
  some ((t,wI .u64 ((wI .u64 (lo*2^1))+add))))
def rx69 (x:Int×Int):Xdu:=⟨.tuple ⟨[.int .u64 x.1,.int .u64 x.2]⟩,[],[]⟩
abbrev XeD:=Int→Int→Int→Option (Int×Int)
def r69 (g:XeD):Dec:=dV (asI .u64) fun (y0:Int)=>dV (asI .u64) fun (y1:Int)=>dV (asI .u64) fun (y2:Int)=>XeC (ofG (g y0 y1 y2) rx69)
theorem r69_c {g:XeD} {y0:Int} {y1:Int} {y2:Int} {x:Int×Int} (hx:g y0 y1 y2=some x):r69 g [.int .u64 y0,.int .u64 y1,.int .u64 y2] []=some (rx69 x):=(Xbz (Xd1 _)).trans ((Xbz (Xd1 _)).trans ((Xbz (Xd1 _)).trans (Xbc hx)))
def s69 (g:XeD):XcS:=⟨[.v,.v,.v],r69 g⟩
theorem XJc {g:XeD} {y0:Int} {y1:Int} {y2:Int} {x:Int×Int} (hx:g y0 y1 y2=some x):(s69 g).run [.int .u64 y0,.int .u64 y1,.int .u64 y2] []=some (rx69 x):=r69_c hx
abbrev XG7:List (Nat×XcS):=[]
theorem XFp (hS:XaF Try.prog (XaP (XG7))) (hi:Int) (lo:Int) (add:Int) (res:Int×Int) (h:Xlg hi lo add=some res) :
 XaU Try.prog 69 0 ⟨⟨69,28,[(0,.int .u64 hi),(1,.int .u64 lo),(2,.int .u64 add)],[.code XC2],[],false,none⟩,[],[],0⟩ (fun v H _=>Res 0 (rx69 res) v H):=by
 unfold Xlg at h
 refine Xa4 XaM hS true 3000 ?_
 conv=>whnf
 exact W
def Xc5:XeD:=Xlg
theorem XHk:XeH Try.prog 69 (s69 Xc5):=by
 have hL:=XFp (XaF.Xba trivial)
 exact okA ⟨Try.f69,rfl,by decide,rfl⟩
def Xh2 (Xc5:XeD) (a:Int) (b:Int) (hi:Int) (lo:Int) (i:Int):Option (Sum (Int×Int×Int) (Int×Int)):=
 cond (decide (i≥0))
  (
  XaQ (decide (0≤i)) <|
  let t:=Xwb .u64 (a.fdiv (2^(min i.toNat 64))) 1
  cond (t==1)
   (
   (Xc5 hi lo b).bind fun t1=>
   some (.inl (t1.1,t1.2,wI .i64 (i - 1))))
   (
   (Xc5 hi lo 0).bind fun t2=>
   some (.inl (t2.1,t2.2,wI .i64 (i - 1)))))
  (
  some (.inr ((hi,lo))))
def XnL (Xc5:XeD) (a:Int) (b:Int):Option (Int×Int):=
 iter (fun st=>Xh2 Xc5 a b st.1 st.2.1 st.2.2) FUEL (0,0,63)
def XGZ (x:Int×Int):Xdu:=⟨.tuple ⟨[.int .u64 x.1,.int .u64 x.2]⟩,[],[]⟩
abbrev Xh7:=Int→Int→Option (Int×Int)
def r56 (g:Xh7):Dec:=dV (asI .u64) fun (y0:Int)=>dV (asI .u64) fun (y1:Int)=>XeC (ofG (g y0 y1) XGZ)
theorem r56_c {g:Xh7} {y0:Int} {y1:Int} {x:Int×Int} (hx:g y0 y1=some x):r56 g [.int .u64 y0,.int .u64 y1] []=some (XGZ x):=(Xbz (Xd1 _)).trans ((Xbz (Xd1 _)).trans (Xbc hx))
def s56 (g:Xh7):XcS:=⟨[.v,.v],r56 g⟩
theorem XJi {g:Xh7} {y0:Int} {y1:Int} {x:Int×Int} (hx:g y0 y1=some x):(s56 g).run [.int .u64 y0,.int .u64 y1] []=some (XGZ x):=r56_c hx
abbrev XDi (Xc5:XeD):List (Nat×XcS):=[(69,s69 Xc5)]
def Xu0 (a:Int) (b:Int) (hi:Int) (lo:Int) (i:Int):VM:=
 ⟨⟨56,29,[(0,.int .u64 a),(1,.int .u64 b),(6,.int .u64 hi),(7,.int .u64 lo),(8,.int .i64 i)],[.code Xzm,.inLoop Xzm,.inBlock 0,.code XDs],[],false,none⟩,[],[],0⟩
theorem XCu (Xc5:XeD) (hS:XaF Try.prog (XaP (XDi Xc5))) {a:Int} {b:Int} {res:Int×Int}:∀ {fuel} {st:Int×Int×Int} {o:Int×Int},iter (fun st=>Xh2 Xc5 a b st.1 st.2.1 st.2.2) fuel st=some o→(o=res) →
 XaU Try.prog 56 0 (Xu0 a b st.1 st.2.1 st.2.2) (fun v H _=>Res 0 (XGZ res) v H):=by
 apply XaO
 intro st o h hc
 obtain ⟨hi,lo,i⟩:=st
 replace h:Xh2 Xc5 a b hi lo i=some o:=h
 show XaU Try.prog 56 0 (Xu0 a b hi lo i) (fun v H _=>Res 0 (XGZ res) v H)
 unfold Xh2 at h
 have R1:=@XJc Xc5
 have LM:=lm []
 refine Xa4 XaM hS true 3000 ?_
 conv=>whnf
 exact W
theorem XEM (Xc5:XeD) (hS:XaF Try.prog (XaP (XDi Xc5))) (a:Int) (b:Int) (res:Int×Int) (h:XnL Xc5 a b=some res) :
 XaU Try.prog 56 0 ⟨⟨56,29,[(0,.int .u64 a),(1,.int .u64 b)],[.code XDn],[],false,none⟩,[],[],0⟩ (fun v H _=>Res 0 (XGZ res) v H):=by
 unfold XnL at h
 have LP:=@XCu Xc5 hS;have LQ:=lm []
 refine Xa4 XaM hS true 3000 ?_
 conv=>whnf
 exact W
def Xir:Xh7:=XnL Xc5
theorem XJo:XeH Try.prog 56 (s56 Xir):=by
 have hL:=XEM Xc5 (XaF.Xba ⟨XHk,trivial⟩)
 exact okA ⟨Try.f56,rfl,by decide,rfl⟩
def Xk6 (Xir:Xh7) (x:Int) (n:Int):Option Int:=
 cond (decide (n<1))
  (
  some (0))
  (
  cond (decide (n>2147483648))
   (
   some (0))
   (
   (Xir x (wI .u64 n)).bind fun m=>
   some (wI .i64 m.1)))
def rx43 (x:Int):Xdu:=⟨.int .i64 x,[],[]⟩
abbrev Xgg:=Int→Int→Option Int
def r43 (g:Xgg):Dec:=dV (asI .u64) fun (y0:Int)=>dV (asI .i64) fun (y1:Int)=>XeC (ofG (g y0 y1) rx43)
theorem r43_c {g:Xgg} {y0:Int} {y1:Int} {x:Int} (hx:g y0 y1=some x):r43 g [.int .u64 y0,.int .i64 y1] []=some (rx43 x):=(Xbz (Xd1 _)).trans ((Xbz (Xd1 _)).trans (Xbc hx))
def s43 (g:Xgg):XcS:=⟨[.v,.v],r43 g⟩
theorem XHN {g:Xgg} {y0:Int} {y1:Int} {x:Int} (hx:g y0 y1=some x):(s43 g).run [.int .u64 y0,.int .i64 y1] []=some (rx43 x):=r43_c hx
abbrev XJm (Xir:Xh7):List (Nat×XcS):=[(56,s56 Xir)]
theorem XGb (Xir:Xh7) (hS:XaF Try.prog (XaP (XJm Xir))) (x:Int) (n:Int) (res:Int) (h:Xk6 Xir x n=some res) :
 XaU Try.prog 43 0 ⟨⟨43,22,[(0,.int .u64 x),(1,.int .i64 n)],[.code XC7],[],false,none⟩,[],[],0⟩ (fun v H _=>Res 0 (rx43 res) v H):=by
 unfold Xk6 at h
 have R1:=@XJi Xir
 refine Xa4 XaM hS true 3000 ?_
 conv=>whnf
 exact W
def Xfd:Xgg:=Xk6 Xir
theorem XIP:XeH Try.prog 43 (s43 Xfd):=by
 have hL:=XGb Xir (XaF.Xba ⟨XJo,trivial⟩)
 exact okA ⟨Try.f43,rfl,by decide,rfl⟩
def Xlh (Xfd:Xgg) (XhD:Xhi) (k:Xau) (i:Int) (places:Int) (text:List UInt8):Option Int:=
 (XhD (Xau.mk (wI .u64 (k.A+(wI .u64 i))) k.B) text).bind fun xh=>
 (Xfd xh places).bind fun s=>
 some (s)
def rx15 (x:Int):Xdu:=⟨.int .i64 x,[],[]⟩
abbrev XaV:=Xau→Int→Int→(List UInt8)→Option Int
def r15 (g:XaV):Dec:=dV XhK fun (y0:Xau)=>dV (asI .i64) fun (y1:Int)=>dV (asI .i64) fun (y2:Int)=>dV asS fun (y3:List UInt8)=>XeC (ofG (g y0 y1 y2 y3) rx15)
theorem r15_c {g:XaV} {y0:Xau} {y1:Int} {y2:Int} {y3:List UInt8} {x:Int} (hx:g y0 y1 y2 y3=some x):r15 g [.agg ⟨[.int .u64 y0.A,.int .u64 y0.B]⟩,.int .i64 y1,.int .i64 y2,.string ⟨⟨y3⟩⟩] []=some (rx15 x):=(Xbz (Xiq _)).trans ((Xbz (Xd1 _)).trans ((Xbz (Xd1 _)).trans ((Xbz (XhC)).trans (Xbc hx))))
def s15 (g:XaV):XcS:=⟨[.v,.v,.v,.v],r15 g⟩
theorem Xlz {g:XaV} {y0:Xau} {y1:Int} {y2:Int} {y3:List UInt8} {x:Int} (hx:g y0 y1 y2 y3=some x):(s15 g).run [.agg ⟨[.int .u64 y0.A,.int .u64 y0.B]⟩,.int .i64 y1,.int .i64 y2,.string ⟨⟨y3⟩⟩] []=some (rx15 x):=r15_c hx
abbrev XHI (Xfd:Xgg) (XhD:Xhi):List (Nat×XcS):=[(43,s43 Xfd),(44,s44 XhD)]
theorem XF8 (Xfd:Xgg) (XhD:Xhi) (hS:XaF Try.prog (XaP (XHI Xfd XhD))) (k:Xau) (i:Int) (places:Int) (text:List UInt8) (res:Int) (h:Xlh Xfd XhD k i places text=some res) :
 XaU Try.prog 15 0 ⟨⟨15,21,[(0,.agg ⟨[.int .u64 k.A,.int .u64 k.B]⟩),(1,.int .i64 i),(2,.int .i64 places),(3,.string ⟨⟨text⟩⟩)],[.code XJF],[],false,none⟩,[],[],0⟩ (fun v H _=>Res 0 (rx15 res) v H):=by
 unfold Xlh at h
 have R1:=@XIT XhD
 have R2:=@XHN Xfd
 refine Xa4 XaM hS true 3000 ?_
 conv=>whnf
 exact W
def Xas:XaV:=Xlh Xfd XhD
theorem XHh:XeH Try.prog 15 (s15 Xas):=by
 have hL:=XF8 Xfd XhD (XaF.Xba ⟨XIP,XHv,trivial⟩)
 exact okA ⟨Try.f15,rfl,by decide,rfl⟩
def XnH (p:Xay):Option Bool:=
 cond (decide (p.N≥0))
  (
  some (decide (p.N≤1048576)))
  (
  some (false))
def rx13 (x:Bool):Xdu:=⟨.bool x,[],[]⟩
abbrev Xa6:=Xay→Option Bool
def r13 (g:Xa6):Dec:=dV Xmq fun (y0:Xay)=>XeC (ofG (g y0) rx13)
theorem r13_c {g:Xa6} {y0:Xay} {x:Bool} (hx:g y0=some x):r13 g [.agg ⟨[.string ⟨⟨y0.Text⟩⟩,.int .i64 y0.N]⟩] []=some (rx13 x):=(Xbz (Xsb _)).trans (Xbc hx)
def s13 (g:Xa6):XcS:=⟨[.v],r13 g⟩
theorem Xlt {g:Xa6} {y0:Xay} {x:Bool} (hx:g y0=some x):(s13 g).run [.agg ⟨[.string ⟨⟨y0.Text⟩⟩,.int .i64 y0.N]⟩] []=some (rx13 x):=r13_c hx
abbrev XJt:List (Nat×XcS):=[]
theorem XE9 (hS:XaF Try.prog (XaP (XJt))) (p:Xay) (res:Bool) (h:XnH p=some res) :
 XaU Try.prog 13 0 ⟨⟨13,11,[(0,.agg ⟨[.string ⟨⟨p.Text⟩⟩,.int .i64 p.N]⟩)],[.code XIz],[],false,none⟩,[],[],0⟩ (fun v H _=>Res 0 (rx13 res) v H):=by
 unfold XnH at h
 refine Xa4 XaM hS true 3000 ?_
 conv=>whnf
 exact W
def XaI:Xa6:=XnH
theorem XCW:XeH Try.prog 13 (s13 XaI):=by
 have hL:=XE9 (XaF.Xba trivial)
 exact okA ⟨Try.f13,rfl,by decide,rfl⟩
def Xgf (XaI:Xa6) (Xas:XaV) (k:Xau) (rows:Int) (places:Int) (l:List Xay) (text:List UInt8) (best:Int) (i:Int) (n:Int) (xj:Int):Option (Sum (Int×Int) (Sum (Int×Int) Int)):=
 cond (decide (xj<(l.length:Int)))
  (
  XaQ (decide ((0:Int)≤xj∧xj<(l.length:Int))) <|
  (l[xj.toNat]?).bind fun (e:Xay)=>
  (XaI e).bind fun m=>
  cond (m)
   (
   XaQ (decide ((0:Int)≤xj∧xj<(l.length:Int))) <|
   (Xas k i places e.Text).bind fun p=>
   (Xas k i places text).bind fun p1=>
   cond (p==p1)
    (
    XaQ (decide ((0:Int)≤xj∧xj<(l.length:Int))) <|
    let t:=if (wI .i64 (n+e.N))<1099511627776 then wI .i64 (n+e.N) else 1099511627776
    some (.inl (t,wI .i64 (xj+1))))
    (
    some (.inl (n,wI .i64 (xj+1)))))
   (
   some (.inl (n,wI .i64 (xj+1)))))
  (
  some (.inr (.inl (if n<best then n else best,wI .i64 (i+1)))))
def Xgh (XaI:Xa6) (Xas:XaV) (k:Xau) (rows:Int) (places:Int) (l:List Xay) (text:List UInt8) (best:Int) (i:Int):Option (Sum (Int×Int) Int):=
 cond (decide (i<rows))
  (
  iter (fun st=>Xgf XaI Xas k rows places l text best i st.1 st.2) FUEL (0,0))
  (
  some (.inr (best)))
def Xk7 (XaI:Xa6) (Xas:XaV) (k:Xau) (rows:Int) (places:Int) (l:List Xay) (text:List UInt8):Option Int:=
 iter (fun st=>Xgh XaI Xas k rows places l text st.1 st.2) FUEL (1099511627776,0)
def XAJ (x:Int):Xdu:=⟨.int .i64 x,[],[none]⟩
abbrev XaY:=Xau→Int→Int→(List Xay)→(List UInt8)→Option Int
def r17 (g:XaY):Dec:=dV XhK fun (y0:Xau)=>dV (asI .i64) fun (y1:Int)=>dV (asI .i64) fun (y2:Int)=>dSl 0 2 (unR 2 Xig) fun (y3:List Xay)=>dV asS fun (y4:List UInt8)=>XeC (ofG (g y0 y1 y2 y3 y4) XAJ)
theorem r17_c {g:XaY} {y0:Xau} {y1:Int} {y2:Int} {y3:List Xay} {y4:List UInt8} {x:Int} (hx:g y0 y1 y2 y3 y4=some x):r17 g [.agg ⟨[.int .u64 y0.A,.int .u64 y0.B]⟩,.int .i64 y1,.int .i64 y2,.slice (some ⟨0,0,none⟩) y3.length 2,.string ⟨⟨y4⟩⟩] [some (vT Xa5 y3)]=some (XAJ x):=(Xbz (Xiq _)).trans ((Xbz (Xd1 _)).trans ((Xbz (Xd1 _)).trans ((XqO (Xw7 (by first|exact Xkn|exact XaK|exact Xj2|exact Xi8|exact XjS) (by decide) XlH _)).trans ((Xbz (XhC)).trans (Xbc hx)))))
def s17 (g:XaY):XcS:=⟨[.v,.v,.v,.sl 2,.v],r17 g⟩
theorem Xm5 {g:XaY} {y0:Xau} {y1:Int} {y2:Int} {y3:List Xay} {y4:List UInt8} {x:Int} (hx:g y0 y1 y2 y3 y4=some x):(s17 g).run [.agg ⟨[.int .u64 y0.A,.int .u64 y0.B]⟩,.int .i64 y1,.int .i64 y2,.slice (some ⟨0,0,none⟩) y3.length 2,.string ⟨⟨y4⟩⟩] [some (vT Xa5 y3)]=some (XAJ x):=r17_c hx
abbrev XwO (XaI:Xa6) (Xas:XaV):List (Nat×XcS):=[(13,s13 XaI),(15,s15 Xas)]
def XtX (k:Xau) (rows:Int) (places:Int) (l:List Xay) (text:List UInt8) (best:Int) (i:Int) (n:Int) (xj:Int):VM:=
 ⟨⟨17,60,[(1,.int .i64 rows),(2,.int .i64 places),(3,.slice (some ⟨0,0,none⟩) l.length 2),(4,.string ⟨⟨text⟩⟩),(5,.pointer (some ⟨1,0,none⟩)),(11,.int .i64 best),(12,.int .i64 i),(13,.int .i64 n),(14,.int .i64 xj)],[.code Xzq,.inLoop Xzq,.inBlock 2,.code XCR,.inBlock 1,.code XCT,.inLoop XtP,.inBlock 0,.code Xyv],[],false,none⟩,[],[(0,.row false (vT Xa5 l)),(1,.cells [.int .u64 k.A,.int .u64 k.B])],2⟩
def XpT (k:Xau) (rows:Int) (places:Int) (l:List Xay) (text:List UInt8) (best:Int) (i:Int):VM:=
 ⟨⟨17,60,[(1,.int .i64 rows),(2,.int .i64 places),(3,.slice (some ⟨0,0,none⟩) l.length 2),(4,.string ⟨⟨text⟩⟩),(5,.pointer (some ⟨1,0,none⟩)),(11,.int .i64 best),(12,.int .i64 i)],[.code XtP,.inLoop XtP,.inBlock 0,.code Xyv],[],false,none⟩,[],[(0,.row false (vT Xa5 l)),(1,.cells [.int .u64 k.A,.int .u64 k.B])],2⟩
theorem XBU (XaI:Xa6) (Xas:XaV) (hS:XaF Try.prog (XaP (XwO XaI Xas))) {k:Xau} {rows:Int} {places:Int} {l:List Xay} {text:List UInt8} {best:Int} {i:Int} {res:Int}:∀ {fuel} {st:Int×Int} {o:Sum (Int×Int) Int},iter (fun st=>Xgf XaI Xas k rows places l text best i st.1 st.2) fuel st=some o→(Sum.elim (fun s0=>XaU Try.prog 17 1 (XpT k rows places l text s0.1 s0.2) (fun v H _=>Res 1 (XAJ res) v H)) (fun r0=>r0=res) o) →
 XaU Try.prog 17 1 (XtX k rows places l text best i st.1 st.2) (fun v H _=>Res 1 (XAJ res) v H):=by
 apply XaO
 intro st o h hc
 obtain ⟨n,xj⟩:=st
 replace h:Xgf XaI Xas k rows places l text best i n xj=some o:=h
 show XaU Try.prog 17 1 (XtX k rows places l text best i n xj) (fun v H _=>Res 1 (XAJ res) v H)
 unfold Xgf at h
 have LM:=lm [(0,0),(1,1)]
 refine Xa4 XaM hS true 3000 ?_
 conv=>whnf
 refine br.h2 h (by rfl) ?_ ?_
 ·clear h;intro hb h;conv=>whnf
  exact W
 clear h;intro hb h;conv=>whnf
 replace h:=XaQ.elim h;obtain ⟨hb,h⟩:=h
 try (refine req.intro hb ?_;conv=>whnf)
 replace h:=Xbu.elim h;obtain ⟨e,hy,h⟩:=h
 refine XAi XaK hy (by first|omega|exact Nat.zero_add _|exact congrArg (·+_) (Nat.zero_add _)) rfl ?_
 conv=>whnf
 replace h:=Xbu.elim h;obtain ⟨m,hy,h⟩:=h
 refine XdI.a (Xlt hy) ?_
 conv=>whnf
 refine br.h2 h (by rfl) ?_ ?_
 ·clear h;intro hb h;conv=>whnf
  exact W
 clear h;intro hb h;conv=>whnf
 replace h:=XaQ.elim h;obtain ⟨hb,h⟩:=h
 try (refine req.intro hb ?_;conv=>whnf)
 refine rd.T (i:=xj.toNat) (x:=e) (j:=0) XaK (by assumption) (by first|omega|exact Nat.zero_add _|exact congrArg (·+_) (Nat.zero_add _)) (by decide) rfl ?_
 conv=>whnf
 replace h:=Xbu.elim h;obtain ⟨p,hy,h⟩:=h
 refine XdI.a (Xlz hy) ?_
 conv=>whnf
 replace h:=Xbu.elim h;obtain ⟨p1,hy,h⟩:=h
 refine XdI.a (Xlz hy) ?_
 conv=>whnf
 refine br.h2 h (by rfl) ?_ ?_
 ·clear h;intro hb h;conv=>whnf
  exact W
 clear h;intro hb h;conv=>whnf
 replace h:=XaQ.elim h;obtain ⟨hb,h⟩:=h
 try (refine req.intro hb ?_;conv=>whnf)
 refine rd.T (i:=xj.toNat) (x:=e) (j:=1) XaK (by assumption) (by first|omega|exact Nat.zero_add _|exact congrArg (·+_) (Nat.zero_add _)) (by decide) rfl ?_
 conv=>whnf
 exact W
theorem XBf (XaI:Xa6) (Xas:XaV) (hS:XaF Try.prog (XaP (XwO XaI Xas))) {k:Xau} {rows:Int} {places:Int} {l:List Xay} {text:List UInt8} {res:Int}:∀ {fuel} {st:Int×Int} {o:Int},iter (fun st=>Xgh XaI Xas k rows places l text st.1 st.2) fuel st=some o→(o=res) →
 XaU Try.prog 17 1 (XpT k rows places l text st.1 st.2) (fun v H _=>Res 1 (XAJ res) v H):=by
 apply XaO
 intro st o h hc
 obtain ⟨best,i⟩:=st
 replace h:Xgh XaI Xas k rows places l text best i=some o:=h
 show XaU Try.prog 17 1 (XpT k rows places l text best i) (fun v H _=>Res 1 (XAJ res) v H)
 unfold Xgh at h
 have LP:=@XBU XaI Xas hS;have LQ:=lm [(0,0),(1,1)]
 refine Xa4 XaM hS true 3000 ?_
 conv=>whnf
 exact W
theorem XF6 (XaI:Xa6) (Xas:XaV) (hS:XaF Try.prog (XaP (XwO XaI Xas))) (k:Xau) (rows:Int) (places:Int) (l:List Xay) (text:List UInt8) (res:Int) (h:Xk7 XaI Xas k rows places l text=some res) :
 XaU Try.prog 17 1 ⟨⟨17,60,[(0,.agg ⟨[.int .u64 k.A,.int .u64 k.B]⟩),(1,.int .i64 rows),(2,.int .i64 places),(3,.slice (some ⟨0,0,none⟩) l.length 2),(4,.string ⟨⟨text⟩⟩)],[.code XDP],[],false,none⟩,[],[(0,.row false (vT Xa5 l))],1⟩ (fun v H _=>Res 1 (XAJ res) v H):=by
 unfold Xk7 at h
 have LP:=@XBf XaI Xas hS;have LQ:=lm [(0,0),(1,1)]
 refine Xa4 XaM hS true 3000 ?_
 conv=>whnf
 exact W
def Xat:XaY:=Xk7 XaI Xas
theorem lift17:XeH Try.prog 17 (s17 Xat):=by
 have hL:=XF6 XaI Xas (XaF.Xba ⟨XCW,XHh,trivial⟩)
 exact okA ⟨Try.f17,rfl,by decide,rfl⟩
def Xgi (XaI:Xa6) (l:List Xay) (n:Int) (xj:Int):Option (Sum (Int×Int) Int):=
 cond (decide (xj<(l.length:Int)))
  (
  XaQ (decide ((0:Int)≤xj∧xj<(l.length:Int))) <|
  (l[xj.toNat]?).bind fun (e:Xay)=>
  (XaI e).bind fun m=>
  cond (m)
   (
   XaQ (decide ((0:Int)≤xj∧xj<(l.length:Int))) <|
   let t:=if (wI .i64 (n+e.N))<1099511627776 then wI .i64 (n+e.N) else 1099511627776
   some (.inl (t,wI .i64 (xj+1))))
   (
   some (.inl (n,wI .i64 (xj+1)))))
  (
  some (.inr (n)))
def Xlb (XaI:Xa6) (l:List Xay):Option Int:=
 iter (fun st=>Xgi XaI l st.1 st.2) FUEL (0,0)
def XGN (x:Int):Xdu:=⟨.int .i64 x,[],[none]⟩
abbrev XaZ:=(List Xay)→Option Int
def r19 (g:XaZ):Dec:=dSl 0 2 (unR 2 Xig) fun (y0:List Xay)=>XeC (ofG (g y0) XGN)
theorem r19_c {g:XaZ} {y0:List Xay} {x:Int} (hx:g y0=some x):r19 g [.slice (some ⟨0,0,none⟩) y0.length 2] [some (vT Xa5 y0)]=some (XGN x):=(XqO (Xw7 (by first|exact Xkn|exact XaK|exact Xj2|exact Xi8|exact XjS) (by decide) XlH _)).trans (Xbc hx)
def s19 (g:XaZ):XcS:=⟨[.sl 2],r19 g⟩
theorem Xm9 {g:XaZ} {y0:List Xay} {x:Int} (hx:g y0=some x):(s19 g).run [.slice (some ⟨0,0,none⟩) y0.length 2] [some (vT Xa5 y0)]=some (XGN x):=r19_c hx
abbrev XDV (XaI:Xa6):List (Nat×XcS):=[(13,s13 XaI)]
def Xux (l:List Xay) (n:Int) (xj:Int):VM:=
 ⟨⟨19,25,[(0,.slice (some ⟨0,0,none⟩) l.length 2),(3,.int .i64 n),(4,.int .i64 xj)],[.code Xz7,.inLoop Xz7,.inBlock 0,.code XDL],[],false,none⟩,[],[(0,.row false (vT Xa5 l))],1⟩
theorem XA5 (XaI:Xa6) (hS:XaF Try.prog (XaP (XDV XaI))) {l:List Xay} {res:Int}:∀ {fuel} {st:Int×Int} {o:Int},iter (fun st=>Xgi XaI l st.1 st.2) fuel st=some o→(o=res) →
 XaU Try.prog 19 1 (Xux l st.1 st.2) (fun v H _=>Res 1 (XGN res) v H):=by
 apply XaO
 intro st o h hc
 obtain ⟨n,xj⟩:=st
 replace h:Xgi XaI l n xj=some o:=h
 show XaU Try.prog 19 1 (Xux l n xj) (fun v H _=>Res 1 (XGN res) v H)
 unfold Xgi at h
 have LM:=lm [(0,0)]
 refine Xa4 XaM hS true 3000 ?_
 conv=>whnf
 refine br.h2 h (by rfl) ?_ ?_
 ·clear h;intro hb h;conv=>whnf
  exact W
 clear h;intro hb h;conv=>whnf
 replace h:=XaQ.elim h;obtain ⟨hb,h⟩:=h
 try (refine req.intro hb ?_;conv=>whnf)
 replace h:=Xbu.elim h;obtain ⟨e,hy,h⟩:=h
 refine XAi XaK hy (by first|omega|exact Nat.zero_add _|exact congrArg (·+_) (Nat.zero_add _)) rfl ?_
 conv=>whnf
 replace h:=Xbu.elim h;obtain ⟨m,hy,h⟩:=h
 refine XdI.a (Xlt hy) ?_
 conv=>whnf
 refine br.h2 h (by rfl) ?_ ?_
 ·clear h;intro hb h;conv=>whnf
  exact W
 clear h;intro hb h;conv=>whnf
 replace h:=XaQ.elim h;obtain ⟨hb,h⟩:=h
 try (refine req.intro hb ?_;conv=>whnf)
 refine rd.T (i:=xj.toNat) (x:=e) (j:=1) XaK (by assumption) (by first|omega|exact Nat.zero_add _|exact congrArg (·+_) (Nat.zero_add _)) (by decide) rfl ?_
 conv=>whnf
 exact W
theorem XEW (XaI:Xa6) (hS:XaF Try.prog (XaP (XDV XaI))) (l:List Xay) (res:Int) (h:Xlb XaI l=some res) :
 XaU Try.prog 19 1 ⟨⟨19,25,[(0,.slice (some ⟨0,0,none⟩) l.length 2)],[.code XC1],[],false,none⟩,[],[(0,.row false (vT Xa5 l))],1⟩ (fun v H _=>Res 1 (XGN res) v H):=by
 unfold Xlb at h
 have LP:=@XA5 XaI hS;have LQ:=lm [(0,0)]
 refine Xa4 XaM hS true 3000 ?_
 conv=>whnf
 exact W
def Xaw:XaZ:=Xlb XaI
theorem lift19:XeH Try.prog 19 (s19 Xaw):=by
 have hL:=XEW XaI (XaF.Xba ⟨XCW,trivial⟩)
 exact okA ⟨Try.f19,rfl,by decide,rfl⟩
def Xk9 (rows:Int) (places:Int):Option Bool:=
 cond (decide (rows≥1))
  (
  cond (decide (rows≤8))
   (
   cond (decide (places≥1))
    (
    some (decide (places≤4096)))
    (
    some (false)))
   (
   some (false)))
  (
  some (false))
def rx11 (x:Bool):Xdu:=⟨.bool x,[],[]⟩
abbrev Xbo:=Int→Int→Option Bool
def r11 (g:Xbo):Dec:=dV (asI .i64) fun (y0:Int)=>dV (asI .i64) fun (y1:Int)=>XeC (ofG (g y0 y1) rx11)
theorem r11_c {g:Xbo} {y0:Int} {y1:Int} {x:Bool} (hx:g y0 y1=some x):r11 g [.int .i64 y0,.int .i64 y1] []=some (rx11 x):=(Xbz (Xd1 _)).trans ((Xbz (Xd1 _)).trans (Xbc hx))
def s11 (g:Xbo):XcS:=⟨[.v,.v],r11 g⟩
theorem Xmi {g:Xbo} {y0:Int} {y1:Int} {x:Bool} (hx:g y0 y1=some x):(s11 g).run [.int .i64 y0,.int .i64 y1] []=some (rx11 x):=r11_c hx
abbrev XJp:List (Nat×XcS):=[]
theorem XEs (hS:XaF Try.prog (XaP (XJp))) (rows:Int) (places:Int) (res:Bool) (h:Xk9 rows places=some res) :
 XaU Try.prog 11 0 ⟨⟨11,19,[(0,.int .i64 rows),(1,.int .i64 places)],[.code XIH],[],false,none⟩,[],[],0⟩ (fun v H _=>Res 0 (rx11 res) v H):=by
 unfold Xk9 at h
 refine Xa4 XaM hS true 3000 ?_
 conv=>whnf
 exact W
def XaX:Xbo:=Xk9
theorem lift11:XeH Try.prog 11 (s11 XaX):=by
 have hL:=XEs (XaF.Xba trivial)
 exact okA ⟨Try.f11,rfl,by decide,rfl⟩
end Go.Vm.Code
namespace Go.Vm.Code
open Go Go.Vm
theorem XwI {hi lo add:Int} (h1:0≤hi∧hi<2^63) (h2:0≤lo∧lo<2^64) (h3:0≤add∧add<2^64) (h4:2*(hi*2^64+lo)+add<2^128) :
 Xc5 hi lo add=some ((2*(hi*2^64+lo)+add)/2^64,(2*(hi*2^64+lo)+add)%2^64):=by
 unfold Xc5 Xlg
 rw [Xwo,Xoo (n:=hi*2^1) (by omega) (by omega),Xvm 1 h1.1 (by omega) (by omega) (by omega) (by omega),XqL (lo*2^1),XqL (lo*2^1%18446744073709551616+add)]
 simp only []
 by_cases hc:(lo*2^1%18446744073709551616+add)%18446744073709551616<lo*2^1%18446744073709551616
 ·rw [Xbd hc,Xoo (by omega) (by omega)]
  congr 2<;>omega
 ·rw [Xa7 hc]
  congr 2<;>omega
theorem Mul01 {a b:Nat} (ha:a<2^64) (hb:b<2^64):Xir (a:Int) (b:Int)=some (((a*b/2^64:Nat):Int),((a*b%2^64:Nat):Int)):=by
 unfold Xir XnL
 rw [show ((0:Int),(0:Int),(63:Int))=(fun j:Nat=>(((a/2^(64 - j)*b/2^64:Nat):Int),((a/2^(64 - j)*b%2^64:Nat):Int),(63:Int) - (j:Int))) 0 by
  simp only [Nat.sub_zero,Nat.div_eq_of_lt ha,Nat.zero_mul];rfl]
 refine Xd3 (fun j:Nat=>(((a/2^(64 - j)*b/2^64:Nat):Int),((a/2^(64 - j)*b%2^64:Nat):Int),(63:Int) - (j:Int))) _ 64 (fun j hj=>?_) ?_ (by rw [Xd0];omega)
 ·show Xh2 Xc5 a b ((a/2^(64 - j)*b/2^64:Nat):Int) ((a/2^(64 - j)*b%2^64:Nat):Int) ((63:Int) - (j:Int))=some (.inl (((a/2^(64 - (j+1))*b/2^64:Nat):Int),((a/2^(64 - (j+1))*b%2^64:Nat):Int),(63:Int) - ((j+1:Nat):Int)))
  unfold Xh2
  have e1:((63:Int) - (j:Int)).toNat=63 - j:=by omega
  have e2:min (63 - j) 64=63 - j:=by omega
  have e3:(a:Int)/2^(63 - j)=((a/2^(63 - j):Nat):Int):=by push_cast;rfl
  have e4:a/2^(64 - j)=a/2^(63 - j)/2:=by
   rw [Nat.div_div_eq_div_mul,show 64 - j=(63 - j)+1 by omega,Nat.pow_succ]
  have hA:a/2^(63 - j)<2^64:=Nat.lt_of_le_of_lt (Nat.div_le_self _ _) ha
  rw [show 64 - (j+1)=63 - j by omega,e4,Xbd (by omega),XaH (by omega),e1,e2,Xwo,e3]
  generalize a/2^(63 - j)=A at hA
  simp only []
  rw [show (1:Int)=2^1 - 1 from rfl,Xj5 1 rfl (by decide) (by omega) (by omega)]
  have m1:A/2*b≤(2^63 - 1)*(2^64 - 1):=Nat.mul_le_mul (by omega) (by omega)
  have m2:A*b≤(2^64 - 1)*(2^64 - 1):=Nat.mul_le_mul (by omega) (by omega)
  have hw:wI .i64 ((63:Int) - (j:Int) - (2^1 - 1))=(63:Int) - ((j+1:Nat):Int):=by rw [Xf1 (by omega) (by omega)];omega
  rcases Nat.mod_two_eq_zero_or_one A with hm|hm
  ·have m3:A*b=2*(A/2*b):=by
    have:A=2*(A/2):=by omega
    conv=>lhs;rw [this]
    rw [Nat.mul_assoc]
   have:((A:Int)%2^1==2^1 - 1)=false:=by
    rw [show (A:Int)%2^1=((A%2:Nat):Int) by omega,hm];rfl
   rw [this,cond_false,m3]
   generalize A/2*b=H at *
   rw [XwI (by omega) (by omega) (by omega) (by omega),Option.bind_some,hw]
   congr 3<;>(try congr 1)<;>omega
  ·have m3:A*b=2*(A/2*b)+b:=by
    have:A=2*(A/2)+1:=by omega
    conv=>lhs;rw [this]
    rw [Nat.add_mul,Nat.one_mul,Nat.mul_assoc]
   have:((A:Int)%2^1==2^1 - 1)=true:=by
    rw [show (A:Int)%2^1=((A%2:Nat):Int) by omega,hm];rfl
   rw [this,cond_true,m3]
   rw [m3] at m2
   generalize A/2*b=H at *
   rw [XwI (by omega) (by omega) (by omega) (by omega),Option.bind_some,hw]
   congr 3<;>(try congr 1)<;>omega
 ·show Xh2 Xc5 a b _ _ ((63:Int) - ((64:Nat):Int))=_
  unfold Xh2
  rw [Xa7 (by omega),Nat.sub_self,Nat.pow_zero,Nat.div_one]
theorem XEE {x:Int} {p:Nat} (hx:0≤x∧x<2^64) (h1:1≤p) (h2:p≤4096):Xfd x (p:Int)=some (scl x p):=by
 obtain ⟨a,rfl⟩:=Int.eq_ofNat_of_zero_le hx.1
 unfold Xfd Xk6
 rw [Xa7 (by omega),Xa7 (by omega),Xoo (by omega) (by omega),Mul01 (by omega) (by omega),Option.bind_some]
 have:=XnU hx (n:=p) (by omega)
 have e:((a*p/2^64:Nat):Int)=scl a p:=by unfold scl;rw [Int.natCast_ediv,Int.natCast_mul];rfl
 simp only [e]
 rw [Xf1 (by omega) (by omega)]
theorem Xjy {k:Xau} {p:Nat} (hp:1≤p∧p≤4096) (i:Nat) {t:List UInt8} (ht:t.length≤20):Xas k (i:Int) (p:Int) t=some (plN k p i t:Int):=by
 unfold Xas Xlh
 rw [XrC (by omega),Option.bind_some]
 have:=XnU (XlZ k i t) (n:=p) (by omega)
 show (Xfd (XGW k i t) (p:Int)).bind _=_
 rw [XEE (XlZ k i t) hp.1 hp.2,Option.bind_some]
 unfold plN;congr 1;omega
theorem XoE (e:Xay):XaI e=some (Xj8 e):=by
 unfold XaI XnH Xj8
 by_cases h1:e.N≥0
 ·rw [Xbd h1]
  by_cases h2:e.N≤1048576
  ·rw [decide_eq_true h2,decide_eq_true ⟨h1,h2⟩]
  ·rw [decide_eq_false h2,decide_eq_false (fun h=>h2 h.2)]
 ·rw [Xa7 h1,decide_eq_false (fun h=>h1 h.1)]
theorem XzW (rows places:Int):XaX rows places=some (decide (1≤rows∧rows≤8∧1≤places∧places≤4096)):=by
 unfold XaX Xk9
 by_cases h1:rows≥1
 ·rw [Xbd h1]
  by_cases h2:rows≤8
  ·rw [Xbd h2]
   by_cases h3:places≥1
   ·rw [Xbd h3]
    by_cases h4:places≤4096
    ·rw [decide_eq_true h4,decide_eq_true ⟨h1,h2,h3,h4⟩]
    ·rw [decide_eq_false h4,decide_eq_false (fun h=>h4 h.2.2.2)]
   ·rw [Xa7 h3,decide_eq_false (by omega)]
  ·rw [Xa7 h2,decide_eq_false (by omega)]
 ·rw [Xa7 h1,decide_eq_false (by omega)]
def cnt1 (f:Xay→Bool) (n:Int) (e:Xay):Int:=if (Xj8 e&&f e)=true then cap (n+e.N) else n
def Xnx (f:Xay→Bool) (l:List Xay):Int:=l.foldl (cnt1 f) 0
theorem Xtz (f:Xay→Bool) {n:Int} (h:0≤n∧n≤1099511627776) (e:Xay):0≤cnt1 f n e∧cnt1 f n e≤1099511627776:=by
 unfold cnt1
 split
 ·rename_i hc
  have hN:0≤e.N∧e.N≤1048576:=of_decide_eq_true (Bool.and_eq_true _ _▸hc).1
  exact Xov (by omega)
 ·exact h
theorem Xpy (f:Xay→Bool) (l:List Xay):0≤Xnx f l∧Xnx f l≤1099511627776:=by
 have:∀ (l:List Xay) (n:Int),(0≤n∧n≤1099511627776)→0≤l.foldl (cnt1 f) n∧l.foldl (cnt1 f) n≤1099511627776:=by
  intro l
  induction l with
  | nil=>exact fun n h=>h
  | cons e l ih=>exact fun n h=>ih _ (Xtz f h e)
 exact this l 0 (by decide)
theorem Xqk (f:Xay→Bool) {l:List Xay} {j:Nat} (h:j<l.length):Xnx f (l.take (j+1))=cnt1 f (Xnx f (l.take j)) l[j]:=by
 unfold Xnx;rw [List.take_succ_eq_append_getElem h,List.foldl_append];rfl
theorem Xof (f:Xay→Bool) (l m:List Xay):Xnx f (l++m)=cap (Xnx f l+Xnx f m):=by
 have:∀ (m:List Xay) (n c:Int),(0≤n∧n≤1099511627776)→(0≤c∧c≤1099511627776)→m.foldl (cnt1 f) (cap (n+c))=cap (n+m.foldl (cnt1 f) c):=by
  intro m
  induction m with
  | nil=>exact fun n c _ _=>rfl
  | cons e m ih=>
    intro n c hn hc
    rw [List.foldl_cons,List.foldl_cons,←ih n (cnt1 f c e) hn (Xtz f hc e)]
    congr 1
    unfold cnt1
    split
    ·rename_i hc2
     have hN:0≤e.N∧e.N≤1048576:=of_decide_eq_true (Bool.and_eq_true _ _▸hc2).1
     unfold cap
     repeat' split
     all_goals omega
    ·rfl
 have h0:=Xpy f l
 have key:=this m (Xnx f l) 0 h0 (by decide)
 have hc:cap (Xnx f l+0)=Xnx f l:=by unfold cap;rw [Int.add_zero];split<;>omega
 rw [hc] at key
 show (l++m).foldl (cnt1 f) 0=cap (Xnx f l+m.foldl (cnt1 f) 0)
 rw [List.foldl_append,←key];rfl
def atP (k:Xau) (p i:Nat) (t:List UInt8) (e:Xay):Bool:=plN k p i e.Text==plN k p i t
theorem XDq (k:Xau) (p:Nat) (l:List Xay):(SK k p l).tot=Xnx (fun _=>true) l:=by
 have:∀ (l:List Xay) (x:SkS) (n:Int),x.tot=n→(l.foldl (stepS k p) x).tot=l.foldl (cnt1 fun _=>true) n:=by
  intro l
  induction l with
  | nil=>exact fun x n h=>h
  | cons e l ih=>
    intro x n h
    refine ih _ _ ?_
    unfold stepS cnt1
    rw [Bool.and_true,←h]
    split<;>rfl
 exact this l _ 0 rfl
theorem Xzo {p:Nat} (hp:1≤p) (k:Xau) (l:List Xay) (t:List UInt8) (i:Nat):((SK k p l).R i).getD (plN k p i t) 0=Xnx (atP k p i t) l:=by
 have:∀ (l:List Xay) (x:SkS) (n:Int),(x.R i).length=p→(x.R i).getD (plN k p i t) 0=n→((l.foldl (stepS k p) x).R i).getD (plN k p i t) 0=l.foldl (cnt1 (atP k p i t)) n:=by
  intro l
  induction l with
  | nil=>exact fun x n _ h=>h
  | cons e l ih=>
    intro x n hl h
    refine ih _ _ ?_ ?_
    ·unfold stepS;split
     ·show (Xsf _ _ _ _ _ _).length=p;unfold Xsf;rw [List.length_set,hl]
     ·exact hl
    ·unfold stepS cnt1 atP
     cases Xj8 e with
     | false=>exact h
     | true=>
       rw [if_pos rfl,Bool.true_and]
       show (Xsf k p e.Text e.N i (x.R i)).getD _ 0=_
       unfold Xsf
       rw [List.getD_eq_getElem?_getD,List.getElem?_set,hl]
       by_cases he:plN k p i e.Text=plN k p i t
       ·rw [if_pos he,if_pos (XdC hp _ _ _),if_pos (beq_iff_eq.2 he),he,h];rfl
       ·rw [if_neg he,if_neg (fun c=>he (beq_iff_eq.1 c)),←List.getD_eq_getElem?_getD,h]
 refine this l (newS p) 0 List.length_replicate ?_
 rw [show (newS p).R i=List.replicate p 0 from rfl,List.getD_eq_getElem?_getD,List.getElem?_replicate];split<;>rfl
theorem Xji {p:Nat} (hp:1≤p) (k:Xau) (l m:List Xay) (t:List UInt8) (i:Nat):((Xdk (SK k p l) (SK k p m)).R i).getD (plN k p i t) 0=Xnx (atP k p i t) (l++m):=by
 rw [show (Xdk (SK k p l) (SK k p m)).R i=Xbf ((SK k p l).R i) ((SK k p m).R i) from rfl,Xq4 ((Xdl.SK k p l).len i) (XdC hp _ _ _),Xzo hp,Xzo hp,Xof]
theorem Xez (k:Xau) (p:Nat) (l m:List Xay):(Xdk (SK k p l) (SK k p m)).tot=Xnx (fun _=>true) (l++m):=by
 rw [Xof,←XDq k p,←XDq k p];rfl
theorem Xkb {l:List Xay} (hl:l.length≤1000):Xaw l=some (Xnx (fun _=>true) l):=by
 unfold Xaw Xlb
 refine Xd3 (fun j:Nat=>(Xnx (fun _=>true) (l.take j),(j:Int))) _ l.length (fun j hj=>?_) ?_ (by rw [Xd0];omega)
 ·show Xgi XaI l (Xnx (fun _=>true) (l.take j)) (j:Int)=_
  unfold Xgi
  have hr:=Xpy (fun _=>true) (l.take j)
  rw [Xbd (by omega),XaH (by omega),Int.toNat_natCast,List.getElem?_eq_getElem hj,Option.bind_some,XoE,Option.bind_some,Xqk _ hj,Xf1 (n:=(j:Int)+1) (by omega) (by omega)]
  unfold cnt1
  cases hm:Xj8 l[j] with
  | false=>rfl
  | true=>
    have hN:0≤(l[j]).N∧(l[j]).N≤1048576:=of_decide_eq_true hm
    rw [cond_true,XaH (by omega)]
    simp only []
    rw [Xf1 (by omega) (by omega)];rfl
 ·show Xgi XaI l (Xnx (fun _=>true) (l.take l.length)) (l.length:Int)=_
  unfold Xgi
  rw [Xa7 (by omega),List.take_length]
theorem XkQ {k:Xau} {p n:Nat} (hp:1≤p∧p≤4096) (hn:n≤8) {l:List Xay} (hl:l.length≤1000) (ht:∀ e∈l,e.Text.length≤20) {t:List UInt8} (h20:t.length≤20) {x:SkS} (hx:∀ i,(x.R i).getD (plN k p i t) 0=Xnx (atP k p i t) l) :
 Xat k (n:Int) (p:Int) l t=some (Xly k p x t n):=by
 unfold Xat Xk7
 refine Xd3 (fun i:Nat=>(Xly k p x t i,(i:Int))) _ n (fun i hi=>?_) ?_ (by rw [Xd0];omega)
 ·show Xgh XaI Xas k (n:Int) (p:Int) l t (Xly k p x t i) (i:Int)=_
  unfold Xgh
  rw [Xbd (by omega)]
  refine Xd3 (fun j:Nat=>(Xnx (atP k p i t) (l.take j),(j:Int))) _ l.length (fun j hj=>?_) ?_ (by rw [Xd0];omega)
  ·show Xgf XaI Xas k (n:Int) (p:Int) l t (Xly k p x t i) (i:Int) (Xnx (atP k p i t) (l.take j)) (j:Int)=_
   unfold Xgf
   have hr:=Xpy (atP k p i t) (l.take j)
   rw [Xbd (by omega),XaH (by omega),Int.toNat_natCast,List.getElem?_eq_getElem hj,Option.bind_some,XoE,Option.bind_some,Xqk _ hj,Xf1 (n:=(j:Int)+1) (by omega) (by omega)]
   unfold cnt1
   cases hm:Xj8 l[j] with
   | false=>rfl
   | true=>
     have hN:0≤(l[j]).N∧(l[j]).N≤1048576:=of_decide_eq_true hm
     rw [cond_true,XaH (by omega),Xjy hp i (ht _ (List.getElem_mem hj)),Option.bind_some,Xjy hp i h20,Option.bind_some,Bool.true_and]
     rw [show atP k p i t l[j]=(plN k p i (l[j]).Text==plN k p i t) from rfl]
     by_cases he:plN k p i (l[j]).Text=plN k p i t
     ·rw [he,beq_self_eq_true,beq_self_eq_true,cond_true,XaH (by omega)]
      simp only []
      rw [Xf1 (by omega) (by omega)];rfl
     ·rw [beq_eq_false_iff_ne.2 (fun c=>he (by omega)),beq_eq_false_iff_ne.2 he];rfl
  ·show Xgf XaI Xas k (n:Int) (p:Int) l t (Xly k p x t i) (i:Int) (Xnx (atP k p i t) (l.take l.length)) (l.length:Int)=_
   unfold Xgf
   rw [Xa7 (by omega),List.take_length,Xf1 (by omega) (by omega),←hx i];rfl
 ·show Xgh XaI Xas k (n:Int) (p:Int) l t (Xly k p x t n) (n:Int)=_
  unfold Xgh
  rw [Xa7 (by omega)]
end Go.Vm.Code
namespace Go.Vm
open Go
theorem XB0 {α:Type} (l:List α) (sz:α→Nat) (K M:Nat) (hK:K<2^40) (step:Int→Option (Sum Int Bool))
 (hs:∀ i:Nat,step (i:Int)=if h:i<l.length then (if i<K then (if M<sz l[i] then some (.inr false) else some (.inl ((i+1:Nat):Int))) else some (.inr (decide (l.length≤K)))) else some (.inr (decide (l.length≤K)))) :
 iter step FUEL 0=some (decide (l.length≤K)&&(l.take K).all fun e=>decide (sz e≤M)):=by
 have key:=iter_eq (step:=step) (fun i:Int=>decide (l.length≤K)&&((l.take K).drop i.toNat).all fun e=>decide (sz e≤M)) (fun i=>0≤i∧i≤K) (fun i=>(K+1 - i.toNat)) ?_ FUEL 0 ⟨by omega,by omega⟩ (by rw [Xd0];omega)
 ·rw [key];simp
 rintro s ⟨h1,h2⟩
 obtain ⟨i,rfl⟩:=Int.eq_ofNat_of_zero_le h1
 rw [hs i]
 simp only [Int.toNat_natCast]
 by_cases c:i<l.length
 ·rw [dif_pos c]
  by_cases c2:i<K
  ·rw [if_pos c2]
   have hd:((l.take K).drop i)=l[i]::((l.take K).drop (i+1)):=by
    rw [List.drop_eq_getElem_cons (by rw [List.length_take];omega),List.getElem_take]
   by_cases c3:M<sz l[i]
   ·rw [if_pos c3,hd]
    refine .inl ?_
    rw [List.all_cons,decide_eq_false (show ¬ sz l[i]≤M by omega)];simp
   ·rw [if_neg c3,hd]
    refine .inr ⟨_,rfl,⟨by omega,by omega⟩,by omega,?_⟩
    rw [List.all_cons,decide_eq_true (show sz l[i]≤M by omega),Bool.true_and];rfl
  ·rw [if_neg c2]
   refine .inl ?_
   rw [List.drop_eq_nil_of_le (by rw [List.length_take];omega)];simp
 ·rw [dif_neg c]
  refine .inl ?_
  rw [List.drop_eq_nil_of_le (by rw [List.length_take];omega)];simp
end Go.Vm
namespace Go.Vm.Code
open Go Go.Vm Go.Proofs
set_option maxRecDepth 100000
set_option maxHeartbeats 4000000
set_option linter.unusedVariables false
def XiE (l:List Xay) (i:Int):Option (Sum Int Bool):=
 cond (decide (i<(l.length:Int)))
  (
  cond (decide (i<30))
   (
   XaQ (decide ((0:Int)≤i∧i<(l.length:Int))) <|
   (l[i.toNat]?).bind fun (e:Xay)=>
   cond (decide ((e.Text.length:Int)>20))
    (
    some (.inr (false)))
    (
    some (.inl (wI .i64 (i+1)))))
   (
   some (.inr (decide ((l.length:Int)≤30)))))
  (
  some (.inr (decide ((l.length:Int)≤30))))
def Xlj (l:List Xay):Option Bool:=
 iter (fun st=>XiE l st) FUEL 0
def rx8 (x:Bool):Xdu:=⟨.bool x,[],[none]⟩
abbrev Xbp:=(List Xay)→Option Bool
def r8 (g:Xbp):Dec:=dSl 0 2 (unR 2 Xig) fun (y0:List Xay)=>XeC (ofG (g y0) rx8)
theorem r8_c {g:Xbp} {y0:List Xay} {x:Bool} (hx:g y0=some x):r8 g [.slice (some ⟨0,0,none⟩) y0.length 2] [some (vT Xa5 y0)]=some (rx8 x):=(XqO (Xw7 (by first|exact Xkn|exact XaK|exact Xj2|exact Xi8|exact XjS) (by decide) XlH _)).trans (Xbc hx)
def s8 (g:Xbp):XcS:=⟨[.sl 2],r8 g⟩
theorem XHC {g:Xbp} {y0:List Xay} {x:Bool} (hx:g y0=some x):(s8 g).run [.slice (some ⟨0,0,none⟩) y0.length 2] [some (vT Xa5 y0)]=some (rx8 x):=r8_c hx
abbrev XIZ:List (Nat×XcS):=[]
def XFX (l:List Xay) (i:Int):VM:=
 ⟨⟨8,24,[(0,.slice (some ⟨0,0,none⟩) l.length 2),(3,.int .i64 i)],[.code XD9,.inLoop XD9,.inBlock 0,.code XJe],[],false,none⟩,[],[(0,.row false (vT Xa5 l))],1⟩
theorem XEX (hS:XaF Try.prog (XaP (XIZ))) {l:List Xay} {res:Bool}:∀ {fuel} {st:Int} {o:Bool},iter (fun st=>XiE l st) fuel st=some o→(o=res) →
 XaU Try.prog 8 1 (XFX l st) (fun v H _=>Res 1 (rx8 res) v H):=by
 apply XaO
 intro i o h hc
 try dsimp -zeta only at h ⊢
 unfold XiE at h
 have LM:=lm [(0,0)]
 refine Xa4 XaM hS true 3000 ?_
 conv=>whnf
 exact W
theorem XJf (hS:XaF Try.prog (XaP (XIZ))) (l:List Xay) (res:Bool) (h:Xlj l=some res) :
 XaU Try.prog 8 1 ⟨⟨8,24,[(0,.slice (some ⟨0,0,none⟩) l.length 2)],[.code XG1],[],false,none⟩,[],[(0,.row false (vT Xa5 l))],1⟩ (fun v H _=>Res 1 (rx8 res) v H):=by
 unfold Xlj at h
 have LP:=@XEX hS;have LQ:=lm [(0,0)]
 refine Xa4 XaM hS true 3000 ?_
 conv=>whnf
 exact W
def Xa0:Xbp:=Xlj
theorem lift8:XeH Try.prog 8 (s8 Xa0):=by
 have hL:=XJf (XaF.Xba trivial)
 exact okA ⟨Try.f8,rfl,by decide,rfl⟩
def Xiy (s:Int) (s1:Int) (s2:Int):Option (Sum (Int×Int×Int) Bool):=
 let t:=if (wI .i64 (s2+s2))<1099511627776 then wI .i64 (s2+s2) else 1099511627776
 some (.inr (false))
def Xkq (Xao:XaT) (Xad:XaC) (Xab:Xaj) (Xaf:XaE) (Xae:XaB) (Xac:Xaq):Option Bool:=
 (Xao 2 10 (Xau.mk 1 0)).bind fun n=>
 match n with
 | .v2 n1=>
   (Xaf.v2 n1 [97] 3).bind fun x2=>
   cond (x2.1)
    (
    (Xaf.v2 x2.2 [98] 4).bind fun x21=>
    cond (x21.1)
     (
     (Xaf.v2 x21.2 [97] (-1)).bind fun x22=>
     (Xad.v2 x22.2 [97]).bind fun x23=>
     cond (!x22.1)
      (
      cond (x23==3)
       (
       (Xae.v2 x22.2).bind fun x24=>
       cond (x24==7)
        (
        (Xaf.vn [97] 1).bind fun n2=>
        cond (!n2)
         (
         (Xaf.v0 (Xaz.mk (Xau.mk 0 0) Xbi.mk 0) [97] 1).bind fun x0=>
         cond (!x0.1)
          (
          (Xad.vn [97]).bind fun n3=>
          (Xae.v0 (Xaz.mk x0.2.key Xbi.mk x0.2.total)).bind fun x01=>
          cond ((wI .i64 (n3+x01))==0)
           (
           (Xab.vn 0 [97]).bind fun n4=>
           cond (n4==(-1))
            (
            (Xac.v00 (Xaz.mk x0.2.key Xbi.mk x0.2.total) (Xaz.mk x0.2.key Xbi.mk x0.2.total)).bind fun x02=>
            cond (!x02)
             (
             (Xao 0 1 (Xau.mk 0 0)).bind fun n5=>
             match n5 with
             | .nil=>
               some (true)
             | _=>none)
             (
             iter (fun st=>Xiy st.1 st.2.1 st.2.2) FUEL (x0.2.key.A,x0.2.key.B,x0.2.total)))
            (
            some (false)))
           (
           some (false)))
          (
          some (false)))
         (
         some (false)))
        (
        some (false)))
       (
       cond (x23==7)
        (
        (Xae.v2 x22.2).bind fun x25=>
        cond (x25==7)
         (
         (Xaf.vn [97] 1).bind fun n6=>
         cond (!n6)
          (
          (Xaf.v0 (Xaz.mk (Xau.mk 0 0) Xbi.mk 0) [97] 1).bind fun x03=>
          cond (!x03.1)
           (
           (Xad.vn [97]).bind fun n7=>
           (Xae.v0 (Xaz.mk x03.2.key Xbi.mk x03.2.total)).bind fun x04=>
           cond ((wI .i64 (n7+x04))==0)
            (
            (Xab.vn 0 [97]).bind fun n8=>
            cond (n8==(-1))
             (
             (Xac.v00 (Xaz.mk x03.2.key Xbi.mk x03.2.total) (Xaz.mk x03.2.key Xbi.mk x03.2.total)).bind fun x05=>
             cond (!x05)
              (
              (Xao 0 1 (Xau.mk 0 0)).bind fun n9=>
              match n9 with
              | .nil=>
                some (true)
              | _=>none)
              (
              iter (fun st=>Xiy st.1 st.2.1 st.2.2) FUEL (x03.2.key.A,x03.2.key.B,x03.2.total)))
             (
             some (false)))
            (
            some (false)))
           (
           some (false)))
          (
          some (false)))
         (
         some (false)))
        (
        some (false))))
      (
      some (false)))
     (
     (Xad.v2 x21.2 [97]).bind fun x26=>
     some (false)))
    (
    (Xad.v2 x2.2 [97]).bind fun x27=>
    some (false))
 | _=>none
def rx9 (x:Bool):Xdu:=⟨.bool x,[],[]⟩
abbrev XaS:=Option Bool
def r9 (g:XaS):Dec:=XeC (ofG (g) rx9)
theorem r9_c {g:XaS} {x:Bool} (hx:g=some x):r9 g [] []=some (rx9 x):=Xbc hx
def s9 (g:XaS):XcS:=⟨[],r9 g⟩
theorem Xpk {g:XaS} {x:Bool} (hx:g=some x):(s9 g).run [] []=some (rx9 x):=r9_c hx
abbrev XHl (Xao:XaT) (Xad:XaC) (Xab:Xaj) (Xaf:XaE) (Xae:XaB) (Xac:Xaq):List (Nat×XcS):=[(10,s10 Xao),(16,s16 Xad),(20,s20 Xab),(12,s12 Xaf),(18,s18 Xae),(42,s42 Xac)]
def Xsh (s:Int) (s1:Int) (s2:Int):VM:=
 ⟨⟨14,51,[(0,.pointer (some ⟨10,0,none⟩)),(1,.pointer (some ⟨10,0,none⟩)),(16,.slice none 0 0),(17,.int .i64 0),(18,.int .i64 0)],[.code Xdw,.inLoop Xdw,.inBlock 0,.code XdF],[],false,none⟩,[⟨9,71,[(60,.bool true)],[.inReg (opsD k9_6 40),.code .ret],[],false,none⟩],[(10,.cells [.int .u64 s,.int .u64 s1,.slice none 0 0,.int .i64 s2])],11⟩
theorem XyY (Xao:XaT) (Xad:XaC) (Xab:Xaj) (Xaf:XaE) (Xae:XaB) (Xac:Xaq) (hS:XaF Try.prog (XaP (XHl Xao Xad Xab Xaf Xae Xac))) {res:Bool}:∀ {fuel} {st:Int×Int×Int} {o:Bool},iter (fun st=>Xiy st.1 st.2.1 st.2.2) fuel st=some o→(o=res) →
 XaU Try.prog 9 0 (Xsh st.1 st.2.1 st.2.2) (fun v H _=>Res 0 (rx9 res) v H):=by
 apply XaO
 intro st o h hc
 obtain ⟨s,s1,s2⟩:=st
 try dsimp -zeta only at h ⊢
 unfold Xiy at h
 refine Xa4 XaM hS true 3000 ?_
 conv=>whnf
 exact W
theorem XHt (Xao:XaT) (Xad:XaC) (Xab:Xaj) (Xaf:XaE) (Xae:XaB) (Xac:Xaq) (hS:XaF Try.prog (XaP (XHl Xao Xad Xab Xaf Xae Xac))) (res:Bool) (h:Xkq Xao Xad Xab Xaf Xae Xac=some res) :
 XaU Try.prog 9 0 ⟨⟨9,71,[],[.code XHH],[],false,none⟩,[],[],0⟩ (fun v H _=>Res 0 (rx9 res) v H):=by
 unfold Xkq at h
 have R1:=@XpA Xad
 refine Xa4 XaM hS true 3000 ?_
 conv=>whnf
 replace h:=Xbu.elim h;obtain ⟨n,hy,h⟩:=h
 cases n
 case v2 n1=>
  refine XdI.a (Xe9 hy) ?_
  conv=>whnf
  replace h:=Xbu.elim h;obtain ⟨x2,hy,h⟩:=h
  refine XdI.a (Xmv hy) ?_
  conv=>whnf
  refine br.h2 h (by rfl) ?_ ?_
  ·clear h;intro hb h;conv=>whnf
   exact W
  clear h;intro hb h;conv=>whnf
  replace h:=Xbu.elim h;obtain ⟨x21,hy,h⟩:=h
  refine XdI.a (Xmv hy) ?_
  conv=>whnf
  refine br.h2 h (by rfl) ?_ ?_
  ·clear h;intro hb h;conv=>whnf
   exact W
  clear h;intro hb h;conv=>whnf
  replace h:=Xbu.elim h;obtain ⟨x22,hy,h⟩:=h
  refine XdI.a (Xmv hy) ?_
  conv=>whnf
  replace h:=Xbu.elim h;obtain ⟨x23,hy,h⟩:=h
  refine XdI.a (XpA hy) ?_
  conv=>whnf
  refine br.h2 h (by rfl) ?_ ?_
  ·clear h;intro hb h;conv=>whnf
   exact W
  clear h;intro hb h;conv=>whnf
  refine br.h h (by rfl) ?_ ?_
  ·clear h;intro hb h;conv=>whnf
   replace h:=Xbu.elim h;obtain ⟨x24,hy,h⟩:=h
   refine XdI.a (Xqa hy) ?_
   conv=>whnf
   refine br.h2 h (by rfl) ?_ ?_
   ·clear h;intro hb h;conv=>whnf
    exact W
   clear h;intro hb h;conv=>whnf
   replace h:=Xbu.elim h;obtain ⟨n2,hy,h⟩:=h
   refine XdI.a (XuA hy) ?_
   conv=>whnf
   refine br.h2 h (by rfl) ?_ ?_
   ·clear h;intro hb h;conv=>whnf
    exact W
   clear h;intro hb h;conv=>whnf
   replace h:=Xbu.elim h;obtain ⟨x0,hy,h⟩:=h
   refine XdI.a (Xub hy) ?_
   conv=>whnf
   refine br.h2 h (by rfl) ?_ ?_
   ·clear h;intro hb h;conv=>whnf
    exact W
   clear h;intro hb h;conv=>whnf
   replace h:=Xbu.elim h;obtain ⟨n3,hy,h⟩:=h
   refine XdI.a (XtZ hy) ?_
   conv=>whnf
   replace h:=Xbu.elim h;obtain ⟨x01,hy,h⟩:=h
   refine XdI.a (XuJ hy) ?_
   conv=>whnf
   refine br.h2 h (by rfl) ?_ ?_
   ·clear h;intro hb h;conv=>whnf
    exact W
   clear h;intro hb h;conv=>whnf
   replace h:=Xbu.elim h;obtain ⟨n4,hy,h⟩:=h
   refine XdI.a (Xu2 hy) ?_
   conv=>whnf
   refine br.h2 h (by rfl) ?_ ?_
   ·clear h;intro hb h;conv=>whnf
    exact W
   clear h;intro hb h;conv=>whnf
   replace h:=Xbu.elim h;obtain ⟨x02,hy,h⟩:=h
   refine XdI.a (Xn8 hy) ?_
   conv=>whnf
   refine br.h2 h (by rfl) ?_ ?_
   ·clear h;intro hb h;conv=>whnf
    have hl:=XyY Xao Xad Xab Xaf Xae Xac hS h rfl;simp only [Xsh] at hl
    exact lrA1 hl [(10,10)] rfl
   clear h;intro hb h;conv=>whnf
   replace h:=Xbu.elim h;obtain ⟨n5,hy,h⟩:=h
   cases n5
   case nil=>
    refine XdI.a (Xe9 hy) ?_
    conv=>whnf
    exact W
   all_goals cases h
  clear h;intro hb h;conv=>whnf
  refine br.h2 h (by rfl) ?_ ?_
  ·clear h;intro hb h;conv=>whnf
   exact W
  clear h;intro hb h;conv=>whnf
  replace h:=Xbu.elim h;obtain ⟨x25,hy,h⟩:=h
  refine XdI.a (Xqa hy) ?_
  conv=>whnf
  refine br.h2 h (by rfl) ?_ ?_
  ·clear h;intro hb h;conv=>whnf
   exact W
  clear h;intro hb h;conv=>whnf
  replace h:=Xbu.elim h;obtain ⟨n6,hy,h⟩:=h
  refine XdI.a (XuA hy) ?_
  conv=>whnf
  refine br.h2 h (by rfl) ?_ ?_
  ·clear h;intro hb h;conv=>whnf
   exact W
  clear h;intro hb h;conv=>whnf
  replace h:=Xbu.elim h;obtain ⟨x03,hy,h⟩:=h
  refine XdI.a (Xub hy) ?_
  conv=>whnf
  refine br.h2 h (by rfl) ?_ ?_
  ·clear h;intro hb h;conv=>whnf
   exact W
  clear h;intro hb h;conv=>whnf
  replace h:=Xbu.elim h;obtain ⟨n7,hy,h⟩:=h
  refine XdI.a (XtZ hy) ?_
  conv=>whnf
  replace h:=Xbu.elim h;obtain ⟨x04,hy,h⟩:=h
  refine XdI.a (XuJ hy) ?_
  conv=>whnf
  refine br.h2 h (by rfl) ?_ ?_
  ·clear h;intro hb h;conv=>whnf
   exact W
  clear h;intro hb h;conv=>whnf
  replace h:=Xbu.elim h;obtain ⟨n8,hy,h⟩:=h
  refine XdI.a (Xu2 hy) ?_
  conv=>whnf
  refine br.h2 h (by rfl) ?_ ?_
  ·clear h;intro hb h;conv=>whnf
   exact W
  clear h;intro hb h;conv=>whnf
  replace h:=Xbu.elim h;obtain ⟨x05,hy,h⟩:=h
  refine XdI.a (Xn8 hy) ?_
  conv=>whnf
  refine br.h2 h (by rfl) ?_ ?_
  ·clear h;intro hb h;conv=>whnf
   have hl:=XyY Xao Xad Xab Xaf Xae Xac hS h rfl;simp only [Xsh] at hl
   exact lrA1 hl [(10,10)] rfl
  clear h;intro hb h;conv=>whnf
  replace h:=Xbu.elim h;obtain ⟨n9,hy,h⟩:=h
  cases n9
  case nil=>
   refine XdI.a (Xe9 hy) ?_
   conv=>whnf
   exact W
  all_goals cases h
 all_goals cases h
def Xam:XaS:=Xkq Xao Xad Xab Xaf Xae Xac
theorem lift9:XeH Try.prog 9 (s9 Xam):=by
 have hL:=XHt Xao Xad Xab Xaf Xae Xac (XaF.Xba ⟨XHp,XI9,XiN,XII,XJb,XlC,trivial⟩)
 exact okA ⟨Try.f9,rfl,by decide,rfl⟩
end Go.Vm.Code
namespace Go.Vm.Code
open Go Go.Vm
theorem XIh (l:List Xay):Xa0 l=some (decide (l.length≤30)&&(l.take 30).all fun e=>decide (e.Text.length≤20)):=by
 unfold Xa0 Xlj
 refine XB0 l (fun e=>e.Text.length) 30 20 (by decide) _ fun i=>?_
 show XiE l (i:Int)=_
 unfold XiE
 split
 ·rename_i h
  rw [Xbd (by omega)]
  split
  ·rename_i h2
   rw [Xbd (by omega),XaH (by omega),Int.toNat_natCast,List.getElem?_eq_getElem h,Option.bind_some]
   split
   ·rename_i h3;rw [Xbd (by omega)]
   ·rename_i h3;rw [Xa7 (by omega),Xf1 (by omega) (by omega)];rfl
  ·rename_i h2;rw [Xa7 (by omega)];congr 3;exact propext (by omega)
 ·rename_i h;rw [Xa7 (by omega)];congr 3;exact propext (by omega)
theorem XuV {l:List Xay} (h:(decide (l.length≤30)&&(l.take 30).all fun e=>decide (e.Text.length≤20))=true):l.length≤30∧∀ e∈l,e.Text.length≤20:=by
 rw [Bool.and_eq_true,decide_eq_true_eq,List.all_eq_true] at h
 refine ⟨h.1,fun e he=>?_⟩
 rw [List.take_of_length_le h.1] at h
 exact of_decide_eq_true (h.2 e he)
theorem XdN:Xam=some true:=by decide +kernel
end Go.Vm.Code
