import Derived.Test.YtjgbmnhijmkejaaNSketchBoundsc
namespace Go.Vm.Code
open Go Go.Vm Go.Proofs
set_option maxRecDepth 100000
set_option maxHeartbeats 4000000
set_option linter.unusedVariables false
def Xhy (rows:Int) (places:Int) (k:Xap):Option Xa8:=
 cond (decide (rows<1))
  (
  some (Xa8.nil))
  (
  cond (decide (rows>8))
   (
   some (Xa8.nil))
   (
   cond (decide (places<1))
    (
    some (Xa8.nil))
    (
    cond (decide (places>4096))
     (
     some (Xa8.nil))
     (
     cond (decide (0<rows))
      (
      XaL (decide (0≤places∧places≤places∧places<2^63∧(8:Int)*places≤2^48)) <|
      cond (decide (1<rows))
       (
       XaL (decide (0≤places∧places≤places∧places<2^63∧(8:Int)*places≤2^48)) <|
       cond (decide (2<rows))
        (
        XaL (decide (0≤places∧places≤places∧places<2^63∧(8:Int)*places≤2^48)) <|
        cond (decide (3<rows))
         (
         XaL (decide (0≤places∧places≤places∧places<2^63∧(8:Int)*places≤2^48)) <|
         cond (decide (4<rows))
          (
          XaL (decide (0≤places∧places≤places∧places<2^63∧(8:Int)*places≤2^48)) <|
          cond (decide (5<rows))
           (
           XaL (decide (0≤places∧places≤places∧places<2^63∧(8:Int)*places≤2^48)) <|
           cond (decide (6<rows))
            (
            XaL (decide (0≤places∧places≤places∧places<2^63∧(8:Int)*places≤2^48)) <|
            cond (decide (7<rows))
             (
             XaL (decide (0≤places∧places≤places∧places<2^63∧(8:Int)*places≤2^48)) <|
             cond (decide (8<rows))
              (
              XaL (decide (0≤places∧places≤places∧places<2^63∧(8:Int)*places≤2^48)) <|
              none)
              (
              some (Xa8.v8 (Xas.mk k (Xbj.mk (List.replicate places.toNat (0)) (List.replicate places.toNat (0)) (List.replicate places.toNat (0)) (List.replicate places.toNat (0)) (List.replicate places.toNat (0)) (List.replicate places.toNat (0)) (List.replicate places.toNat (0)) (List.replicate places.toNat (0)) places.toNat places.toNat places.toNat places.toNat places.toNat places.toNat places.toNat places.toNat) 0))))
             (
             some (Xa8.v7 (Xat.mk k (Xbv.mk (List.replicate places.toNat (0)) (List.replicate places.toNat (0)) (List.replicate places.toNat (0)) (List.replicate places.toNat (0)) (List.replicate places.toNat (0)) (List.replicate places.toNat (0)) (List.replicate places.toNat (0)) places.toNat places.toNat places.toNat places.toNat places.toNat places.toNat places.toNat) 0))))
            (
            some (Xa8.v6 (Xau.mk k (XbN.mk (List.replicate places.toNat (0)) (List.replicate places.toNat (0)) (List.replicate places.toNat (0)) (List.replicate places.toNat (0)) (List.replicate places.toNat (0)) (List.replicate places.toNat (0)) places.toNat places.toNat places.toNat places.toNat places.toNat places.toNat) 0))))
           (
           some (Xa8.v5 (Xav.mk k (XbU.mk (List.replicate places.toNat (0)) (List.replicate places.toNat (0)) (List.replicate places.toNat (0)) (List.replicate places.toNat (0)) (List.replicate places.toNat (0)) places.toNat places.toNat places.toNat places.toNat places.toNat) 0))))
          (
          some (Xa8.v4 (Xaw.mk k (Xca.mk (List.replicate places.toNat (0)) (List.replicate places.toNat (0)) (List.replicate places.toNat (0)) (List.replicate places.toNat (0)) places.toNat places.toNat places.toNat places.toNat) 0))))
         (
         some (Xa8.v3 (Xay.mk k (Xcu.mk (List.replicate places.toNat (0)) (List.replicate places.toNat (0)) (List.replicate places.toNat (0)) places.toNat places.toNat places.toNat) 0))))
        (
        some (Xa8.v2 (Xaz.mk k (XcI.mk (List.replicate places.toNat (0)) (List.replicate places.toNat (0)) places.toNat places.toNat) 0))))
       (
       some (Xa8.v1 (XaA.mk k (XcR.mk (List.replicate places.toNat (0)) places.toNat) 0))))
      (
      none)))))
def rx10 (x:Xa8):XcJ:=match x with
 | .nil=>⟨.pointer none,[],[]⟩
 | .v1 x=>⟨.pointer (some ⟨0,0,none⟩),[[.int .u64 x.key.A,.int .u64 x.key.B,.slice (some ⟨1,0,none⟩) 1 1,.int .i64 x.total],[.slice (some ⟨2,0,none⟩) x.rows.m0 1],(vI .i64 x.rows.e0)],[]⟩
 | .v2 x=>⟨.pointer (some ⟨0,0,none⟩),[[.int .u64 x.key.A,.int .u64 x.key.B,.slice (some ⟨1,0,none⟩) 2 1,.int .i64 x.total],[.slice (some ⟨2,0,none⟩) x.rows.m0 1,.slice (some ⟨3,0,none⟩) x.rows.m1 1],(vI .i64 x.rows.e0),(vI .i64 x.rows.e1)],[]⟩
 | .v3 x=>⟨.pointer (some ⟨0,0,none⟩),[[.int .u64 x.key.A,.int .u64 x.key.B,.slice (some ⟨1,0,none⟩) 3 1,.int .i64 x.total],[.slice (some ⟨2,0,none⟩) x.rows.m0 1,.slice (some ⟨3,0,none⟩) x.rows.m1 1,.slice (some ⟨4,0,none⟩) x.rows.m2 1],(vI .i64 x.rows.e0),(vI .i64 x.rows.e1),(vI .i64 x.rows.e2)],[]⟩
 | .v4 x=>⟨.pointer (some ⟨0,0,none⟩),[[.int .u64 x.key.A,.int .u64 x.key.B,.slice (some ⟨1,0,none⟩) 4 1,.int .i64 x.total],[.slice (some ⟨2,0,none⟩) x.rows.m0 1,.slice (some ⟨3,0,none⟩) x.rows.m1 1,.slice (some ⟨4,0,none⟩) x.rows.m2 1,.slice (some ⟨5,0,none⟩) x.rows.m3 1],(vI .i64 x.rows.e0),(vI .i64 x.rows.e1),(vI .i64 x.rows.e2),(vI .i64 x.rows.e3)],[]⟩
 | .v5 x=>⟨.pointer (some ⟨0,0,none⟩),[[.int .u64 x.key.A,.int .u64 x.key.B,.slice (some ⟨1,0,none⟩) 5 1,.int .i64 x.total],[.slice (some ⟨2,0,none⟩) x.rows.m0 1,.slice (some ⟨3,0,none⟩) x.rows.m1 1,.slice (some ⟨4,0,none⟩) x.rows.m2 1,.slice (some ⟨5,0,none⟩) x.rows.m3 1,.slice (some ⟨6,0,none⟩) x.rows.m4 1],(vI .i64 x.rows.e0),(vI .i64 x.rows.e1),(vI .i64 x.rows.e2),(vI .i64 x.rows.e3),(vI .i64 x.rows.e4)],[]⟩
 | .v6 x=>⟨.pointer (some ⟨0,0,none⟩),[[.int .u64 x.key.A,.int .u64 x.key.B,.slice (some ⟨1,0,none⟩) 6 1,.int .i64 x.total],[.slice (some ⟨2,0,none⟩) x.rows.m0 1,.slice (some ⟨3,0,none⟩) x.rows.m1 1,.slice (some ⟨4,0,none⟩) x.rows.m2 1,.slice (some ⟨5,0,none⟩) x.rows.m3 1,.slice (some ⟨6,0,none⟩) x.rows.m4 1,.slice (some ⟨7,0,none⟩) x.rows.m5 1],(vI .i64 x.rows.e0),(vI .i64 x.rows.e1),(vI .i64 x.rows.e2),(vI .i64 x.rows.e3),(vI .i64 x.rows.e4),(vI .i64 x.rows.e5)],[]⟩
 | .v7 x=>⟨.pointer (some ⟨0,0,none⟩),[[.int .u64 x.key.A,.int .u64 x.key.B,.slice (some ⟨1,0,none⟩) 7 1,.int .i64 x.total],[.slice (some ⟨2,0,none⟩) x.rows.m0 1,.slice (some ⟨3,0,none⟩) x.rows.m1 1,.slice (some ⟨4,0,none⟩) x.rows.m2 1,.slice (some ⟨5,0,none⟩) x.rows.m3 1,.slice (some ⟨6,0,none⟩) x.rows.m4 1,.slice (some ⟨7,0,none⟩) x.rows.m5 1,.slice (some ⟨8,0,none⟩) x.rows.m6 1],(vI .i64 x.rows.e0),(vI .i64 x.rows.e1),(vI .i64 x.rows.e2),(vI .i64 x.rows.e3),(vI .i64 x.rows.e4),(vI .i64 x.rows.e5),(vI .i64 x.rows.e6)],[]⟩
 | .v8 x=>⟨.pointer (some ⟨0,0,none⟩),[[.int .u64 x.key.A,.int .u64 x.key.B,.slice (some ⟨1,0,none⟩) 8 1,.int .i64 x.total],[.slice (some ⟨2,0,none⟩) x.rows.m0 1,.slice (some ⟨3,0,none⟩) x.rows.m1 1,.slice (some ⟨4,0,none⟩) x.rows.m2 1,.slice (some ⟨5,0,none⟩) x.rows.m3 1,.slice (some ⟨6,0,none⟩) x.rows.m4 1,.slice (some ⟨7,0,none⟩) x.rows.m5 1,.slice (some ⟨8,0,none⟩) x.rows.m6 1,.slice (some ⟨9,0,none⟩) x.rows.m7 1],(vI .i64 x.rows.e0),(vI .i64 x.rows.e1),(vI .i64 x.rows.e2),(vI .i64 x.rows.e3),(vI .i64 x.rows.e4),(vI .i64 x.rows.e5),(vI .i64 x.rows.e6),(vI .i64 x.rows.e7)],[]⟩
abbrev XaK:=Int→Int→Xap→Option Xa8
def r10 (g:XaK):Dec:=dV (asI .i64) fun (y0:Int)=>dV (asI .i64) fun (y1:Int)=>dV XgP fun (y2:Xap)=>Xev (ofG (g y0 y1 y2) rx10)
theorem r10_c {g:XaK} {y0:Int} {y1:Int} {y2:Xap} {x:Xa8} (hx:g y0 y1 y2=some x):r10 g [.int .i64 y0,.int .i64 y1,.agg ⟨[.int .u64 y2.A,.int .u64 y2.B]⟩] []=some (rx10 x):=(Xcd (XfX _)).trans ((Xcd (XfX _)).trans ((Xcd (Xjf _)).trans (Xbe hx)))
def s10 (g:XaK):XcE:=⟨[.v,.v,.v],r10 g⟩
theorem XhD {g:XaK} {y0:Int} {y1:Int} {y2:Xap} {x:Xa8} (hx:g y0 y1 y2=some x):(s10 g).run [.int .i64 y0,.int .i64 y1,.agg ⟨[.int .u64 y2.A,.int .u64 y2.B]⟩] []=some (rx10 x):=r10_c hx
abbrev XA8:List (Nat×XcE):=[]
theorem XzH (hS:XaB Try.prog (XaI (XA8))) (rows:Int) (places:Int) (k:Xap) (res:Xa8) (h:Xhy rows places k=some res) :
 XaQ Try.prog 10 0 ⟨⟨10,41,[(0,.int .i64 rows),(1,.int .i64 places),(2,.agg ⟨[.int .u64 k.A,.int .u64 k.B]⟩)],[.code XxR],[],false,none⟩,[],[],0⟩ (fun v H _=>Res 0 (rx10 res) v H):=by
 unfold Xhy at h
 refine Xa3 XaN hS true 3000 ?_
 conv=>whnf
 refine br.h h (by rfl) ?_ ?_
 ·clear h;intro hb h;conv=>whnf
  all_goals (cases h;exact Res.y)
 clear h;intro hb h;conv=>whnf
 refine br.h h (by rfl) ?_ ?_
 ·clear h;intro hb h;conv=>whnf
  all_goals (cases h;exact Res.y)
 clear h;intro hb h;conv=>whnf
 refine br.h h (by rfl) ?_ ?_
 ·clear h;intro hb h;conv=>whnf
  all_goals (cases h;exact Res.y)
 clear h;intro hb h;conv=>whnf
 refine br.h h (by rfl) ?_ ?_
 ·clear h;intro hb h;conv=>whnf
  all_goals (cases h;exact Res.y)
 clear h;intro hb h;conv=>whnf
 refine Xa3 XaN hS true 3000 ?_
 conv=>whnf
 refine br.h2 h (by rfl) ?_ ?_
 ·clear h;intro hb h;conv=>whnf
  exact W
 clear h;intro hb h;conv=>whnf
 replace h:=XaL.elim h;obtain ⟨hb,h⟩:=h
 try (refine req.intro hb ?_;conv=>whnf)
 refine Xjt ?_
 conv=>whnf
 refine ⟨[.slice (some ⟨8,0,none⟩) places.toNat 1],1,rfl,rfl,?_⟩
 conv=>whnf
 refine Xa3 XaN hS true 3000 ?_
 conv=>whnf
 refine br.h2 h (by rfl) ?_ ?_
 ·clear h;intro hb h;conv=>whnf
  all_goals (cases h)
  all_goals exact Res.of [1,12,8] rfl (Xgp (rfl) (Xfi rfl) (Xgp (rfl) (XbP rfl) (Xgp (XgS) (XbP rfl) Xqo))) (by decide) (Xgs (by decide) (Xgs (by decide) (Xgs (by decide) XpT))) Xpj
 clear h;intro hb h;conv=>whnf
 replace h:=XaL.elim h;obtain ⟨hb,h⟩:=h
 try (refine req.intro hb ?_;conv=>whnf)
 refine Xjt ?_
 conv=>whnf
 refine ⟨[.slice (some ⟨8,0,none⟩) places.toNat 1,.slice (some ⟨20,0,none⟩) places.toNat 1],2,rfl,rfl,?_⟩
 conv=>whnf
 refine Xa3 XaN hS true 3000 ?_
 conv=>whnf
 refine br.h2 h (by rfl) ?_ ?_
 ·clear h;intro hb h;conv=>whnf
  all_goals (cases h)
  all_goals exact Res.of [1,24,8,20] rfl (Xgp (rfl) (Xfi rfl) (Xgp (rfl) (XbP rfl) (Xgp (XgS) (XbP rfl) (Xgp (XgS) (XbP rfl) Xqo)))) (by decide) (Xgs (by decide) (Xgs (by decide) (Xgs (by decide) (Xgs (by decide) XpT)))) Xpj
 clear h;intro hb h;conv=>whnf
 replace h:=XaL.elim h;obtain ⟨hb,h⟩:=h
 try (refine req.intro hb ?_;conv=>whnf)
 refine Xjt ?_
 conv=>whnf
 refine ⟨[.slice (some ⟨8,0,none⟩) places.toNat 1,.slice (some ⟨20,0,none⟩) places.toNat 1,.slice (some ⟨32,0,none⟩) places.toNat 1],3,rfl,rfl,?_⟩
 conv=>whnf
 refine Xa3 XaN hS true 3000 ?_
 conv=>whnf
 refine br.h2 h (by rfl) ?_ ?_
 ·clear h;intro hb h;conv=>whnf
  all_goals (cases h)
  all_goals exact Res.of [1,36,8,20,32] rfl (Xgp (rfl) (Xfi rfl) (Xgp (rfl) (XbP rfl) (Xgp (XgS) (XbP rfl) (Xgp (XgS) (XbP rfl) (Xgp (XgS) (XbP rfl) Xqo))))) (by decide) (Xgs (by decide) (Xgs (by decide) (Xgs (by decide) (Xgs (by decide) (Xgs (by decide) XpT))))) Xpj
 clear h;intro hb h;conv=>whnf
 replace h:=XaL.elim h;obtain ⟨hb,h⟩:=h
 try (refine req.intro hb ?_;conv=>whnf)
 refine Xjt ?_
 conv=>whnf
 refine ⟨[.slice (some ⟨8,0,none⟩) places.toNat 1,.slice (some ⟨20,0,none⟩) places.toNat 1,.slice (some ⟨32,0,none⟩) places.toNat 1,.slice (some ⟨44,0,none⟩) places.toNat 1],4,rfl,rfl,?_⟩
 conv=>whnf
 refine Xa3 XaN hS true 3000 ?_
 conv=>whnf
 refine br.h2 h (by rfl) ?_ ?_
 ·clear h;intro hb h;conv=>whnf
  all_goals (cases h)
  all_goals exact Res.of [1,48,8,20,32,44] rfl (Xgp (rfl) (Xfi rfl) (Xgp (rfl) (XbP rfl) (Xgp (XgS) (XbP rfl) (Xgp (XgS) (XbP rfl) (Xgp (XgS) (XbP rfl) (Xgp (XgS) (XbP rfl) Xqo)))))) (by decide) (Xgs (by decide) (Xgs (by decide) (Xgs (by decide) (Xgs (by decide) (Xgs (by decide) (Xgs (by decide) XpT)))))) Xpj
 clear h;intro hb h;conv=>whnf
 replace h:=XaL.elim h;obtain ⟨hb,h⟩:=h
 try (refine req.intro hb ?_;conv=>whnf)
 refine Xjt ?_
 conv=>whnf
 refine ⟨[.slice (some ⟨8,0,none⟩) places.toNat 1,.slice (some ⟨20,0,none⟩) places.toNat 1,.slice (some ⟨32,0,none⟩) places.toNat 1,.slice (some ⟨44,0,none⟩) places.toNat 1,.slice (some ⟨56,0,none⟩) places.toNat 1],5,rfl,rfl,?_⟩
 conv=>whnf
 refine Xa3 XaN hS true 3000 ?_
 conv=>whnf
 refine br.h2 h (by rfl) ?_ ?_
 ·clear h;intro hb h;conv=>whnf
  all_goals (cases h)
  all_goals exact Res.of [1,60,8,20,32,44,56] rfl (Xgp (rfl) (Xfi rfl) (Xgp (rfl) (XbP rfl) (Xgp (XgS) (XbP rfl) (Xgp (XgS) (XbP rfl) (Xgp (XgS) (XbP rfl) (Xgp (XgS) (XbP rfl) (Xgp (XgS) (XbP rfl) Xqo))))))) (by decide) (Xgs (by decide) (Xgs (by decide) (Xgs (by decide) (Xgs (by decide) (Xgs (by decide) (Xgs (by decide) (Xgs (by decide) XpT))))))) Xpj
 clear h;intro hb h;conv=>whnf
 replace h:=XaL.elim h;obtain ⟨hb,h⟩:=h
 try (refine req.intro hb ?_;conv=>whnf)
 refine Xjt ?_
 conv=>whnf
 refine ⟨[.slice (some ⟨8,0,none⟩) places.toNat 1,.slice (some ⟨20,0,none⟩) places.toNat 1,.slice (some ⟨32,0,none⟩) places.toNat 1,.slice (some ⟨44,0,none⟩) places.toNat 1,.slice (some ⟨56,0,none⟩) places.toNat 1,.slice (some ⟨68,0,none⟩) places.toNat 1],6,rfl,rfl,?_⟩
 conv=>whnf
 refine Xa3 XaN hS true 3000 ?_
 conv=>whnf
 refine br.h2 h (by rfl) ?_ ?_
 ·clear h;intro hb h;conv=>whnf
  all_goals (cases h)
  all_goals exact Res.of [1,72,8,20,32,44,56,68] rfl (Xgp (rfl) (Xfi rfl) (Xgp (rfl) (XbP rfl) (Xgp (XgS) (XbP rfl) (Xgp (XgS) (XbP rfl) (Xgp (XgS) (XbP rfl) (Xgp (XgS) (XbP rfl) (Xgp (XgS) (XbP rfl) (Xgp (XgS) (XbP rfl) Xqo)))))))) (by decide) (Xgs (by decide) (Xgs (by decide) (Xgs (by decide) (Xgs (by decide) (Xgs (by decide) (Xgs (by decide) (Xgs (by decide) (Xgs (by decide) XpT)))))))) Xpj
 clear h;intro hb h;conv=>whnf
 replace h:=XaL.elim h;obtain ⟨hb,h⟩:=h
 try (refine req.intro hb ?_;conv=>whnf)
 refine Xjt ?_
 conv=>whnf
 refine ⟨[.slice (some ⟨8,0,none⟩) places.toNat 1,.slice (some ⟨20,0,none⟩) places.toNat 1,.slice (some ⟨32,0,none⟩) places.toNat 1,.slice (some ⟨44,0,none⟩) places.toNat 1,.slice (some ⟨56,0,none⟩) places.toNat 1,.slice (some ⟨68,0,none⟩) places.toNat 1,.slice (some ⟨80,0,none⟩) places.toNat 1],7,rfl,rfl,?_⟩
 conv=>whnf
 refine Xa3 XaN hS true 3000 ?_
 conv=>whnf
 refine br.h2 h (by rfl) ?_ ?_
 ·clear h;intro hb h;conv=>whnf
  all_goals (cases h)
  all_goals exact Res.of [1,84,8,20,32,44,56,68,80] rfl (Xgp (rfl) (Xfi rfl) (Xgp (rfl) (XbP rfl) (Xgp (XgS) (XbP rfl) (Xgp (XgS) (XbP rfl) (Xgp (XgS) (XbP rfl) (Xgp (XgS) (XbP rfl) (Xgp (XgS) (XbP rfl) (Xgp (XgS) (XbP rfl) (Xgp (XgS) (XbP rfl) Xqo))))))))) (by decide) (Xgs (by decide) (Xgs (by decide) (Xgs (by decide) (Xgs (by decide) (Xgs (by decide) (Xgs (by decide) (Xgs (by decide) (Xgs (by decide) (Xgs (by decide) XpT))))))))) Xpj
 clear h;intro hb h;conv=>whnf
 replace h:=XaL.elim h;obtain ⟨hb,h⟩:=h
 try (refine req.intro hb ?_;conv=>whnf)
 refine Xjt ?_
 conv=>whnf
 refine ⟨[.slice (some ⟨8,0,none⟩) places.toNat 1,.slice (some ⟨20,0,none⟩) places.toNat 1,.slice (some ⟨32,0,none⟩) places.toNat 1,.slice (some ⟨44,0,none⟩) places.toNat 1,.slice (some ⟨56,0,none⟩) places.toNat 1,.slice (some ⟨68,0,none⟩) places.toNat 1,.slice (some ⟨80,0,none⟩) places.toNat 1,.slice (some ⟨92,0,none⟩) places.toNat 1],8,rfl,rfl,?_⟩
 conv=>whnf
 refine Xa3 XaN hS true 3000 ?_
 conv=>whnf
 refine br.h2 h (by rfl) ?_ ?_
 ·clear h;intro hb h;conv=>whnf
  all_goals (cases h)
  all_goals exact Res.of [1,96,8,20,32,44,56,68,80,92] rfl (Xgp (rfl) (Xfi rfl) (Xgp (rfl) (XbP rfl) (Xgp (XgS) (XbP rfl) (Xgp (XgS) (XbP rfl) (Xgp (XgS) (XbP rfl) (Xgp (XgS) (XbP rfl) (Xgp (XgS) (XbP rfl) (Xgp (XgS) (XbP rfl) (Xgp (XgS) (XbP rfl) (Xgp (XgS) (XbP rfl) Xqo)))))))))) (by decide) (Xgs (by decide) (Xgs (by decide) (Xgs (by decide) (Xgs (by decide) (Xgs (by decide) (Xgs (by decide) (Xgs (by decide) (Xgs (by decide) (Xgs (by decide) (Xgs (by decide) XpT)))))))))) Xpj
 clear h;intro hb h;conv=>whnf
 replace h:=XaL.elim h;obtain ⟨hb,h⟩:=h
 try (refine req.intro hb ?_;conv=>whnf)
 refine Xjt ?_
 conv=>whnf
 refine ⟨[.slice (some ⟨8,0,none⟩) places.toNat 1,.slice (some ⟨20,0,none⟩) places.toNat 1,.slice (some ⟨32,0,none⟩) places.toNat 1,.slice (some ⟨44,0,none⟩) places.toNat 1,.slice (some ⟨56,0,none⟩) places.toNat 1,.slice (some ⟨68,0,none⟩) places.toNat 1,.slice (some ⟨80,0,none⟩) places.toNat 1,.slice (some ⟨92,0,none⟩) places.toNat 1,.slice (some ⟨104,0,none⟩) places.toNat 1],9,rfl,rfl,?_⟩
 conv=>whnf
 exact W
def Xaq:XaK:=Xhy
theorem XDf:XfJ Try.prog 10 (s10 Xaq):=by
 have hL:=XzH (XaB.Xa4 trivial)
 exact okA ⟨Try.f10,rfl,by decide,rfl⟩
def XeF:Option Bool:=
 some (false)
def Xsx (x:Bool):XcJ:=⟨.bool x,[],[none,none,none,none,none,none,none,none,none,none]⟩
abbrev XdK:=Option Bool
def r38vn (g:XdK):Dec:=dNl 10<|Xev (ofG (g) Xsx)
abbrev Xu2:List (Nat×XcE):=[]
theorem XtN (hS:XaB Try.prog (XaI (Xu2))) (res:Bool) (h:XeF=some res) :
 XaQ Try.prog 38 10 ⟨⟨38,13,[(0,.pointer none)],[.code XlC],[],false,none⟩,[],[],10⟩ (fun v H _=>Res 10 (Xsx res) v H):=by
 unfold XeF at h
 refine Xa3 XaN hS true 3000 ?_
 conv=>whnf
 exact W
def XeV (s:Xar):Option Bool:=
 some (false)
def Xup (x:Bool):XcJ:=⟨.bool x,[],[none,none,none,none,none,none,none,none,none,none]⟩
abbrev Xd9:=Xar→Option Bool
def r38v0 (g:Xd9):Dec:=dTr 10 (Xcc 0) fun (y0:Xar)=>Xev (ofG (g y0) Xup)
abbrev XwS:List (Nat×XcE):=[]
theorem Xso (hS:XaB Try.prog (XaI (XwS))) (s:Xar) (res:Bool) (h:XeV s=some res) :
 XaQ Try.prog 38 10 ⟨⟨38,13,[(0,.pointer (some ⟨0,0,none⟩))],[.code XlC],[],false,none⟩,[],[(0,.row false [.int .u64 s.key.A,.int .u64 s.key.B,.slice none 0 0,.int .i64 s.total])],10⟩ (fun v H _=>Res 10 (Xup res) v H):=by
 unfold XeV at h
 have J:=js []
 refine Xa3 XaN hS true 3000 ?_
 conv=>whnf
 exact W
def XeO (s:XaA):Option Bool:=
 some (true)
def Xs3 (x:Bool):XcJ:=⟨.bool x,[],[none,none,none,none,none,none,none,none,none,none]⟩
abbrev Xem:=XaA→Option Bool
def r38v1 (g:Xem):Dec:=dTr 10 (XbF 0) fun (y0:XaA)=>Xev (ofG (g y0) Xs3)
abbrev XwD:List (Nat×XcE):=[]
theorem XtE (hS:XaB Try.prog (XaI (XwD))) (s:XaA) (res:Bool) (h:XeO s=some res) :
 XaQ Try.prog 38 10 ⟨⟨38,13,[(0,.pointer (some ⟨0,0,none⟩))],[.code XlC],[],false,none⟩,[],[(0,.row false [.int .u64 s.key.A,.int .u64 s.key.B,.slice (some ⟨1,0,none⟩) 1 1,.int .i64 s.total]),(1,.row false [.slice (some ⟨2,0,none⟩) s.rows.m0 1]),(2,.row false (vI .i64 s.rows.e0))],10⟩ (fun v H _=>Res 10 (Xs3 res) v H):=by
 unfold XeO at h
 have J:=js []
 refine Xa3 XaN hS true 3000 ?_
 conv=>whnf
 exact W
def XeK (s:Xaz):Option Bool:=
 some (true)
def Xrn (x:Bool):XcJ:=⟨.bool x,[],[none,none,none,none,none,none,none,none,none,none]⟩
abbrev XdE:=Xaz→Option Bool
def r38v2 (g:XdE):Dec:=dTr 10 (XbK 0) fun (y0:Xaz)=>Xev (ofG (g y0) Xrn)
abbrev Xu8:List (Nat×XcE):=[]
theorem XtQ (hS:XaB Try.prog (XaI (Xu8))) (s:Xaz) (res:Bool) (h:XeK s=some res) :
 XaQ Try.prog 38 10 ⟨⟨38,13,[(0,.pointer (some ⟨0,0,none⟩))],[.code XlC],[],false,none⟩,[],[(0,.row false [.int .u64 s.key.A,.int .u64 s.key.B,.slice (some ⟨1,0,none⟩) 2 1,.int .i64 s.total]),(1,.row false [.slice (some ⟨2,0,none⟩) s.rows.m0 1,.slice (some ⟨3,0,none⟩) s.rows.m1 1]),(2,.row false (vI .i64 s.rows.e0)),(3,.row false (vI .i64 s.rows.e1))],10⟩ (fun v H _=>Res 10 (Xrn res) v H):=by
 unfold XeK at h
 have J:=js []
 refine Xa3 XaN hS true 3000 ?_
 conv=>whnf
 exact W
def Xe3 (s:Xay):Option Bool:=
 some (true)
def Xst (x:Bool):XcJ:=⟨.bool x,[],[none,none,none,none,none,none,none,none,none,none]⟩
abbrev XdY:=Xay→Option Bool
def r38v3 (g:XdY):Dec:=dTr 10 (XbJ 0) fun (y0:Xay)=>Xev (ofG (g y0) Xst)
abbrev Xvz:List (Nat×XcE):=[]
theorem XrW (hS:XaB Try.prog (XaI (Xvz))) (s:Xay) (res:Bool) (h:Xe3 s=some res) :
 XaQ Try.prog 38 10 ⟨⟨38,13,[(0,.pointer (some ⟨0,0,none⟩))],[.code XlC],[],false,none⟩,[],[(0,.row false [.int .u64 s.key.A,.int .u64 s.key.B,.slice (some ⟨1,0,none⟩) 3 1,.int .i64 s.total]),(1,.row false [.slice (some ⟨2,0,none⟩) s.rows.m0 1,.slice (some ⟨3,0,none⟩) s.rows.m1 1,.slice (some ⟨4,0,none⟩) s.rows.m2 1]),(2,.row false (vI .i64 s.rows.e0)),(3,.row false (vI .i64 s.rows.e1)),(4,.row false (vI .i64 s.rows.e2))],10⟩ (fun v H _=>Res 10 (Xst res) v H):=by
 unfold Xe3 at h
 have J:=js []
 refine Xa3 XaN hS true 3000 ?_
 conv=>whnf
 exact W
def Xfa (s:Xaw):Option Bool:=
 some (true)
def Xtq (x:Bool):XcJ:=⟨.bool x,[],[none,none,none,none,none,none,none,none,none,none]⟩
abbrev XdO:=Xaw→Option Bool
def r38v4 (g:XdO):Dec:=dTr 10 (XbG 0) fun (y0:Xaw)=>Xev (ofG (g y0) Xtq)
abbrev Xu4:List (Nat×XcE):=[]
theorem XrA (hS:XaB Try.prog (XaI (Xu4))) (s:Xaw) (res:Bool) (h:Xfa s=some res) :
 XaQ Try.prog 38 10 ⟨⟨38,13,[(0,.pointer (some ⟨0,0,none⟩))],[.code XlC],[],false,none⟩,[],[(0,.row false [.int .u64 s.key.A,.int .u64 s.key.B,.slice (some ⟨1,0,none⟩) 4 1,.int .i64 s.total]),(1,.row false [.slice (some ⟨2,0,none⟩) s.rows.m0 1,.slice (some ⟨3,0,none⟩) s.rows.m1 1,.slice (some ⟨4,0,none⟩) s.rows.m2 1,.slice (some ⟨5,0,none⟩) s.rows.m3 1]),(2,.row false (vI .i64 s.rows.e0)),(3,.row false (vI .i64 s.rows.e1)),(4,.row false (vI .i64 s.rows.e2)),(5,.row false (vI .i64 s.rows.e3))],10⟩ (fun v H _=>Res 10 (Xtq res) v H):=by
 unfold Xfa at h
 have J:=js []
 refine Xa3 XaN hS true 3000 ?_
 conv=>whnf
 exact W
def XeG (s:Xav):Option Bool:=
 some (true)
def Xr6 (x:Bool):XcJ:=⟨.bool x,[],[none,none,none,none,none,none,none,none,none,none]⟩
abbrev XdD:=Xav→Option Bool
def r38v5 (g:XdD):Dec:=dTr 10 (XbE 0) fun (y0:Xav)=>Xev (ofG (g y0) Xr6)
abbrev Xu1:List (Nat×XcE):=[]
theorem Xrk (hS:XaB Try.prog (XaI (Xu1))) (s:Xav) (res:Bool) (h:XeG s=some res) :
 XaQ Try.prog 38 10 ⟨⟨38,13,[(0,.pointer (some ⟨0,0,none⟩))],[.code XlC],[],false,none⟩,[],[(0,.row false [.int .u64 s.key.A,.int .u64 s.key.B,.slice (some ⟨1,0,none⟩) 5 1,.int .i64 s.total]),(1,.row false [.slice (some ⟨2,0,none⟩) s.rows.m0 1,.slice (some ⟨3,0,none⟩) s.rows.m1 1,.slice (some ⟨4,0,none⟩) s.rows.m2 1,.slice (some ⟨5,0,none⟩) s.rows.m3 1,.slice (some ⟨6,0,none⟩) s.rows.m4 1]),(2,.row false (vI .i64 s.rows.e0)),(3,.row false (vI .i64 s.rows.e1)),(4,.row false (vI .i64 s.rows.e2)),(5,.row false (vI .i64 s.rows.e3)),(6,.row false (vI .i64 s.rows.e4))],10⟩ (fun v H _=>Res 10 (Xr6 res) v H):=by
 unfold XeG at h
 have J:=js []
 refine Xa3 XaN hS true 3000 ?_
 conv=>whnf
 exact W
def XeP (s:Xau):Option Bool:=
 some (true)
def Xuw (x:Bool):XcJ:=⟨.bool x,[],[none,none,none,none,none,none,none,none,none,none]⟩
abbrev Xd7:=Xau→Option Bool
def r38v6 (g:Xd7):Dec:=dTr 10 (XbI 0) fun (y0:Xau)=>Xev (ofG (g y0) Xuw)
abbrev XvH:List (Nat×XcE):=[]
theorem Xsb (hS:XaB Try.prog (XaI (XvH))) (s:Xau) (res:Bool) (h:XeP s=some res) :
 XaQ Try.prog 38 10 ⟨⟨38,13,[(0,.pointer (some ⟨0,0,none⟩))],[.code XlC],[],false,none⟩,[],[(0,.row false [.int .u64 s.key.A,.int .u64 s.key.B,.slice (some ⟨1,0,none⟩) 6 1,.int .i64 s.total]),(1,.row false [.slice (some ⟨2,0,none⟩) s.rows.m0 1,.slice (some ⟨3,0,none⟩) s.rows.m1 1,.slice (some ⟨4,0,none⟩) s.rows.m2 1,.slice (some ⟨5,0,none⟩) s.rows.m3 1,.slice (some ⟨6,0,none⟩) s.rows.m4 1,.slice (some ⟨7,0,none⟩) s.rows.m5 1]),(2,.row false (vI .i64 s.rows.e0)),(3,.row false (vI .i64 s.rows.e1)),(4,.row false (vI .i64 s.rows.e2)),(5,.row false (vI .i64 s.rows.e3)),(6,.row false (vI .i64 s.rows.e4)),(7,.row false (vI .i64 s.rows.e5))],10⟩ (fun v H _=>Res 10 (Xuw res) v H):=by
 unfold XeP at h
 have J:=js []
 refine Xa3 XaN hS true 3000 ?_
 conv=>whnf
 exact W
def Xe6 (s:Xat):Option Bool:=
 some (true)
def XtZ (x:Bool):XcJ:=⟨.bool x,[],[none,none,none,none,none,none,none,none,none,none]⟩
abbrev Xeg:=Xat→Option Bool
def r38v7 (g:Xeg):Dec:=dTr 10 (XbM 0) fun (y0:Xat)=>Xev (ofG (g y0) XtZ)
abbrev Xwd:List (Nat×XcE):=[]
theorem XsK (hS:XaB Try.prog (XaI (Xwd))) (s:Xat) (res:Bool) (h:Xe6 s=some res) :
 XaQ Try.prog 38 10 ⟨⟨38,13,[(0,.pointer (some ⟨0,0,none⟩))],[.code XlC],[],false,none⟩,[],[(0,.row false [.int .u64 s.key.A,.int .u64 s.key.B,.slice (some ⟨1,0,none⟩) 7 1,.int .i64 s.total]),(1,.row false [.slice (some ⟨2,0,none⟩) s.rows.m0 1,.slice (some ⟨3,0,none⟩) s.rows.m1 1,.slice (some ⟨4,0,none⟩) s.rows.m2 1,.slice (some ⟨5,0,none⟩) s.rows.m3 1,.slice (some ⟨6,0,none⟩) s.rows.m4 1,.slice (some ⟨7,0,none⟩) s.rows.m5 1,.slice (some ⟨8,0,none⟩) s.rows.m6 1]),(2,.row false (vI .i64 s.rows.e0)),(3,.row false (vI .i64 s.rows.e1)),(4,.row false (vI .i64 s.rows.e2)),(5,.row false (vI .i64 s.rows.e3)),(6,.row false (vI .i64 s.rows.e4)),(7,.row false (vI .i64 s.rows.e5)),(8,.row false (vI .i64 s.rows.e6))],10⟩ (fun v H _=>Res 10 (XtZ res) v H):=by
 unfold Xe6 at h
 have J:=js []
 refine Xa3 XaN hS true 3000 ?_
 conv=>whnf
 exact W
def XeA (s:Xas):Option Bool:=
 some (true)
def XsE (x:Bool):XcJ:=⟨.bool x,[],[none,none,none,none,none,none,none,none,none,none]⟩
abbrev XdT:=Xas→Option Bool
def r38v8 (g:XdT):Dec:=dTr 10 (XbH 0) fun (y0:Xas)=>Xev (ofG (g y0) XsE)
abbrev Xxd:List (Nat×XcE):=[]
theorem Xsd (hS:XaB Try.prog (XaI (Xxd))) (s:Xas) (res:Bool) (h:XeA s=some res) :
 XaQ Try.prog 38 10 ⟨⟨38,13,[(0,.pointer (some ⟨0,0,none⟩))],[.code XlC],[],false,none⟩,[],[(0,.row false [.int .u64 s.key.A,.int .u64 s.key.B,.slice (some ⟨1,0,none⟩) 8 1,.int .i64 s.total]),(1,.row false [.slice (some ⟨2,0,none⟩) s.rows.m0 1,.slice (some ⟨3,0,none⟩) s.rows.m1 1,.slice (some ⟨4,0,none⟩) s.rows.m2 1,.slice (some ⟨5,0,none⟩) s.rows.m3 1,.slice (some ⟨6,0,none⟩) s.rows.m4 1,.slice (some ⟨7,0,none⟩) s.rows.m5 1,.slice (some ⟨8,0,none⟩) s.rows.m6 1,.slice (some ⟨9,0,none⟩) s.rows.m7 1]),(2,.row false (vI .i64 s.rows.e0)),(3,.row false (vI .i64 s.rows.e1)),(4,.row false (vI .i64 s.rows.e2)),(5,.row false (vI .i64 s.rows.e3)),(6,.row false (vI .i64 s.rows.e4)),(7,.row false (vI .i64 s.rows.e5)),(8,.row false (vI .i64 s.rows.e6)),(9,.row false (vI .i64 s.rows.e7))],10⟩ (fun v H _=>Res 10 (XsE res) v H):=by
 unfold XeA at h
 have J:=js []
 refine Xa3 XaN hS true 3000 ?_
 conv=>whnf
 exact W
structure Xae where
 vn:XdK
 v0:Xd9
 v1:Xem
 v2:XdE
 v3:XdY
 v4:XdO
 v5:XdD
 v6:Xd7
 v7:Xeg
 v8:XdT
def s38 (g:Xae):XcE:=⟨[.tr [⟨none,0,0,0,none⟩,⟨some 0,2,0,0,none⟩,⟨some 1,0,0,0,none⟩,⟨some 1,1,0,0,none⟩,⟨some 1,2,0,0,none⟩,⟨some 1,3,0,0,none⟩,⟨some 1,4,0,0,none⟩,⟨some 1,5,0,0,none⟩,⟨some 1,6,0,0,none⟩,⟨some 1,7,0,0,none⟩]],orD (r38vn g.vn) (orD (r38v0 g.v0) (orD (r38v1 g.v1) (orD (r38v2 g.v2) (orD (r38v3 g.v3) (orD (r38v4 g.v4) (orD (r38v5 g.v5) (orD (r38v6 g.v6) (orD (r38v7 g.v7) (r38v8 g.v8)))))))))⟩
theorem XmH {g:Xae} {x:Bool} (hx:g.vn=some x):(s38 g).run [.pointer none] [none,none,none,none,none,none,none,none,none,none]=some (Xsx x):=by dsimp only [s38];exact (Xdt ((XpM).trans (Xbe hx)))
theorem XkK {g:Xae} {y0:Xar} {x:Bool} (hx:g.v0 y0=some x):(s38 g).run [.pointer (some ⟨0,0,none⟩)] [some [.int .u64 y0.key.A,.int .u64 y0.key.B,.slice none 0 0,.int .i64 y0.total],none,none,none,none,none,none,none,none,none]=some (Xup x):=by dsimp only [s38];exact (XaJ rfl (Xdt ((XbZ rfl rfl (Xdj 0 _)).trans (Xbe hx))))
theorem XjE {g:Xae} {y0:XaA} {x:Bool} (hx:g.v1 y0=some x):(s38 g).run [.pointer (some ⟨0,0,none⟩)] [some [.int .u64 y0.key.A,.int .u64 y0.key.B,.slice (some ⟨1,0,none⟩) 1 1,.int .i64 y0.total],some [.slice (some ⟨2,0,none⟩) y0.rows.m0 1],some (vI .i64 y0.rows.e0),none,none,none,none,none,none,none]=some (Xs3 x):=by dsimp only [s38];exact (XaJ rfl (XaJ rfl (Xdt ((XbZ rfl rfl (Xdi 0 _)).trans (Xbe hx)))))
theorem XjD {g:Xae} {y0:Xaz} {x:Bool} (hx:g.v2 y0=some x):(s38 g).run [.pointer (some ⟨0,0,none⟩)] [some [.int .u64 y0.key.A,.int .u64 y0.key.B,.slice (some ⟨1,0,none⟩) 2 1,.int .i64 y0.total],some [.slice (some ⟨2,0,none⟩) y0.rows.m0 1,.slice (some ⟨3,0,none⟩) y0.rows.m1 1],some (vI .i64 y0.rows.e0),some (vI .i64 y0.rows.e1),none,none,none,none,none,none]=some (Xrn x):=by dsimp only [s38];exact (XaJ rfl (XaJ rfl (XaJ rfl (Xdt ((XbZ rfl rfl (Xdn 0 _)).trans (Xbe hx))))))
theorem XjI {g:Xae} {y0:Xay} {x:Bool} (hx:g.v3 y0=some x):(s38 g).run [.pointer (some ⟨0,0,none⟩)] [some [.int .u64 y0.key.A,.int .u64 y0.key.B,.slice (some ⟨1,0,none⟩) 3 1,.int .i64 y0.total],some [.slice (some ⟨2,0,none⟩) y0.rows.m0 1,.slice (some ⟨3,0,none⟩) y0.rows.m1 1,.slice (some ⟨4,0,none⟩) y0.rows.m2 1],some (vI .i64 y0.rows.e0),some (vI .i64 y0.rows.e1),some (vI .i64 y0.rows.e2),none,none,none,none,none]=some (Xst x):=by dsimp only [s38];exact (XaJ rfl (XaJ rfl (XaJ rfl (XaJ rfl (Xdt ((XbZ rfl rfl (Xdh 0 _)).trans (Xbe hx)))))))
theorem Xjr {g:Xae} {y0:Xaw} {x:Bool} (hx:g.v4 y0=some x):(s38 g).run [.pointer (some ⟨0,0,none⟩)] [some [.int .u64 y0.key.A,.int .u64 y0.key.B,.slice (some ⟨1,0,none⟩) 4 1,.int .i64 y0.total],some [.slice (some ⟨2,0,none⟩) y0.rows.m0 1,.slice (some ⟨3,0,none⟩) y0.rows.m1 1,.slice (some ⟨4,0,none⟩) y0.rows.m2 1,.slice (some ⟨5,0,none⟩) y0.rows.m3 1],some (vI .i64 y0.rows.e0),some (vI .i64 y0.rows.e1),some (vI .i64 y0.rows.e2),some (vI .i64 y0.rows.e3),none,none,none,none]=some (Xtq x):=by dsimp only [s38];exact (XaJ rfl (XaJ rfl (XaJ rfl (XaJ rfl (XaJ rfl (Xdt ((XbZ rfl rfl (Xdg 0 _)).trans (Xbe hx))))))))
theorem XjW {g:Xae} {y0:Xav} {x:Bool} (hx:g.v5 y0=some x):(s38 g).run [.pointer (some ⟨0,0,none⟩)] [some [.int .u64 y0.key.A,.int .u64 y0.key.B,.slice (some ⟨1,0,none⟩) 5 1,.int .i64 y0.total],some [.slice (some ⟨2,0,none⟩) y0.rows.m0 1,.slice (some ⟨3,0,none⟩) y0.rows.m1 1,.slice (some ⟨4,0,none⟩) y0.rows.m2 1,.slice (some ⟨5,0,none⟩) y0.rows.m3 1,.slice (some ⟨6,0,none⟩) y0.rows.m4 1],some (vI .i64 y0.rows.e0),some (vI .i64 y0.rows.e1),some (vI .i64 y0.rows.e2),some (vI .i64 y0.rows.e3),some (vI .i64 y0.rows.e4),none,none,none]=some (Xr6 x):=by dsimp only [s38];exact (XaJ rfl (XaJ rfl (XaJ rfl (XaJ rfl (XaJ rfl (XaJ rfl (Xdt ((XbZ rfl rfl (Xdl 0 _)).trans (Xbe hx)))))))))
theorem XjL {g:Xae} {y0:Xau} {x:Bool} (hx:g.v6 y0=some x):(s38 g).run [.pointer (some ⟨0,0,none⟩)] [some [.int .u64 y0.key.A,.int .u64 y0.key.B,.slice (some ⟨1,0,none⟩) 6 1,.int .i64 y0.total],some [.slice (some ⟨2,0,none⟩) y0.rows.m0 1,.slice (some ⟨3,0,none⟩) y0.rows.m1 1,.slice (some ⟨4,0,none⟩) y0.rows.m2 1,.slice (some ⟨5,0,none⟩) y0.rows.m3 1,.slice (some ⟨6,0,none⟩) y0.rows.m4 1,.slice (some ⟨7,0,none⟩) y0.rows.m5 1],some (vI .i64 y0.rows.e0),some (vI .i64 y0.rows.e1),some (vI .i64 y0.rows.e2),some (vI .i64 y0.rows.e3),some (vI .i64 y0.rows.e4),some (vI .i64 y0.rows.e5),none,none]=some (Xuw x):=by dsimp only [s38];exact (XaJ rfl (XaJ rfl (XaJ rfl (XaJ rfl (XaJ rfl (XaJ rfl (XaJ rfl (Xdt ((XbZ rfl rfl (Xdk 0 _)).trans (Xbe hx))))))))))
theorem Xju {g:Xae} {y0:Xat} {x:Bool} (hx:g.v7 y0=some x):(s38 g).run [.pointer (some ⟨0,0,none⟩)] [some [.int .u64 y0.key.A,.int .u64 y0.key.B,.slice (some ⟨1,0,none⟩) 7 1,.int .i64 y0.total],some [.slice (some ⟨2,0,none⟩) y0.rows.m0 1,.slice (some ⟨3,0,none⟩) y0.rows.m1 1,.slice (some ⟨4,0,none⟩) y0.rows.m2 1,.slice (some ⟨5,0,none⟩) y0.rows.m3 1,.slice (some ⟨6,0,none⟩) y0.rows.m4 1,.slice (some ⟨7,0,none⟩) y0.rows.m5 1,.slice (some ⟨8,0,none⟩) y0.rows.m6 1],some (vI .i64 y0.rows.e0),some (vI .i64 y0.rows.e1),some (vI .i64 y0.rows.e2),some (vI .i64 y0.rows.e3),some (vI .i64 y0.rows.e4),some (vI .i64 y0.rows.e5),some (vI .i64 y0.rows.e6),none]=some (XtZ x):=by dsimp only [s38];exact (XaJ rfl (XaJ rfl (XaJ rfl (XaJ rfl (XaJ rfl (XaJ rfl (XaJ rfl (XaJ rfl (Xdt ((XbZ rfl rfl (Xds 0 _)).trans (Xbe hx)))))))))))
theorem XjB {g:Xae} {y0:Xas} {x:Bool} (hx:g.v8 y0=some x):(s38 g).run [.pointer (some ⟨0,0,none⟩)] [some [.int .u64 y0.key.A,.int .u64 y0.key.B,.slice (some ⟨1,0,none⟩) 8 1,.int .i64 y0.total],some [.slice (some ⟨2,0,none⟩) y0.rows.m0 1,.slice (some ⟨3,0,none⟩) y0.rows.m1 1,.slice (some ⟨4,0,none⟩) y0.rows.m2 1,.slice (some ⟨5,0,none⟩) y0.rows.m3 1,.slice (some ⟨6,0,none⟩) y0.rows.m4 1,.slice (some ⟨7,0,none⟩) y0.rows.m5 1,.slice (some ⟨8,0,none⟩) y0.rows.m6 1,.slice (some ⟨9,0,none⟩) y0.rows.m7 1],some (vI .i64 y0.rows.e0),some (vI .i64 y0.rows.e1),some (vI .i64 y0.rows.e2),some (vI .i64 y0.rows.e3),some (vI .i64 y0.rows.e4),some (vI .i64 y0.rows.e5),some (vI .i64 y0.rows.e6),some (vI .i64 y0.rows.e7)]=some (XsE x):=by dsimp only [s38];exact (XaJ rfl (XaJ rfl (XaJ rfl (XaJ rfl (XaJ rfl (XaJ rfl (XaJ rfl (XaJ rfl (XaJ rfl ((XbZ rfl rfl (Xdr 0 _)).trans (Xbe hx)))))))))))
def Xil:XdK:=XeF
def XiD:Xd9:=XeV
def XhY:Xem:=XeO
def XiF:XdE:=XeK
def Xis:XdY:=Xe3
def Xh8:XdO:=Xfa
def Xic:XdD:=XeG
def XhI:Xd7:=XeP
def XhL:Xeg:=Xe6
def Xh4:XdT:=XeA
def Xaa:Xae:=⟨Xil,XiD,XhY,XiF,Xis,Xh8,Xic,XhI,XhL,Xh4⟩
theorem XbW:XfJ Try.prog 38 (s38 Xaa):=by
 have L0:=XtN (XaB.Xa4 trivial)
 have L1:=Xso (XaB.Xa4 trivial)
 have L2:=XtE (XaB.Xa4 trivial)
 have L3:=XtQ (XaB.Xa4 trivial)
 have L4:=XrW (XaB.Xa4 trivial)
 have L5:=XrA (XaB.Xa4 trivial)
 have L6:=Xrk (XaB.Xa4 trivial)
 have L7:=Xsb (XaB.Xa4 trivial)
 have L8:=XsK (XaB.Xa4 trivial)
 have L9:=Xsd (XaB.Xa4 trivial)
 refine XfJ.Xhq XaN (fun ar os r ha hr=>?_) ⟨Try.f38,rfl,by decide,rfl⟩
 generalize hc:XgD os=C at hr
 replace hr:=orD.elim hr;rcases hr with hr|hr
 ·have LL:=L0;exact okB
 replace hr:=orD.elim hr;rcases hr with hr|hr
 ·have LL:=L1;have U1:=@XcW;exact okB
 replace hr:=orD.elim hr;rcases hr with hr|hr
 ·have LL:=L2;have U1:=@Xcj;exact okB
 replace hr:=orD.elim hr;rcases hr with hr|hr
 ·have LL:=L3;have U1:=@Xcl;exact okB
 replace hr:=orD.elim hr;rcases hr with hr|hr
 ·have LL:=L4;have U1:=@Xci;exact okB
 replace hr:=orD.elim hr;rcases hr with hr|hr
 ·have LL:=L5;have U1:=@Xck;exact okB
 replace hr:=orD.elim hr;rcases hr with hr|hr
 ·have LL:=L6;have U1:=@Xce;exact okB
 replace hr:=orD.elim hr;rcases hr with hr|hr
 ·have LL:=L7;have U1:=@Xcm;exact okB
 replace hr:=orD.elim hr;rcases hr with hr|hr
 ·have LL:=L8;have U1:=@Xcg;exact okB
 have LL:=L9;have U1:=@Xch;exact okB
def XeM (Xaa:Xae) (i:Int) (text:List UInt8):Option Int:=
 (Xaa.vn).bind fun n=>
 cond (!n)
  (
  some ((-1)))
  (
  cond (decide (i<0))
   (
   some ((-1)))
   (
   none))
def Xss (x:Int):XcJ:=⟨.int .i64 x,[],[none,none,none,none,none,none,none,none,none,none]⟩
abbrev XdI:=Int→(List UInt8)→Option Int
def r20vn (g:XdI):Dec:=dNl 10<|dV (asI .i64) fun (y1:Int)=>dV asS fun (y2:List UInt8)=>Xev (ofG (g y1 y2) Xss)
abbrev Xvq (Xaa:Xae):List (Nat×XcE):=[(38,s38 Xaa)]
theorem Xta (Xaa:Xae) (hS:XaB Try.prog (XaI (Xvq Xaa))) (i:Int) (text:List UInt8) (res:Int) (h:XeM Xaa i text=some res) :
 XaQ Try.prog 20 10 ⟨⟨20,50,[(0,.pointer none),(1,.int .i64 i),(2,.string ⟨⟨text⟩⟩)],[.code Xi0],[],false,none⟩,[],[],10⟩ (fun v H _=>Res 10 (Xss res) v H):=by
 unfold XeM at h
 have R1:=@XmH Xaa
 refine Xa3 XaN hS true 3000 ?_
 conv=>whnf
 exact W
def Xdb (Xal:XaU) (XaG:Xa2) (Xaa:Xae) (s:XaA) (i:Int) (text:List UInt8):Option Int:=
 (Xaa.v1 s).bind fun x1=>
 cond (!x1)
  (
  some ((-1)))
  (
  cond (decide (i<0))
   (
   some ((-1)))
   (
   cond (decide (i≥1))
    (
    some ((-1)))
    (
    (XaG (Xap.mk (wI .u64 (s.key.A+(wI .u64 i))) s.key.B) text).bind fun xh=>
    XaL (decide ((0:Int)≤i∧i<(1:Int))) <|
    cond (i.toNat==0)
     (
     (Xal xh (s.rows.m0:Int)).bind fun s1=>
     some (s1))
     (
     none))))
def Xro (x:Int):XcJ:=⟨.int .i64 x,[],[none,none,none,none,none,none,none,none,none,none]⟩
abbrev XdV:=XaA→Int→(List UInt8)→Option Int
def r20v1 (g:XdV):Dec:=dTr 10 (XbF 0) fun (y0:XaA)=>dV (asI .i64) fun (y1:Int)=>dV asS fun (y2:List UInt8)=>Xev (ofG (g y0 y1 y2) Xro)
abbrev Xwv (Xal:XaU) (XaG:Xa2) (Xaa:Xae):List (Nat×XcE):=[(46,s46 Xal),(47,s47 XaG),(38,s38 Xaa)]
theorem Xs4 (Xal:XaU) (XaG:Xa2) (Xaa:Xae) (hS:XaB Try.prog (XaI (Xwv Xal XaG Xaa))) (s:XaA) (i:Int) (text:List UInt8) (res:Int) (h:Xdb Xal XaG Xaa s i text=some res) :
 XaQ Try.prog 20 10 ⟨⟨20,50,[(0,.pointer (some ⟨0,0,none⟩)),(1,.int .i64 i),(2,.string ⟨⟨text⟩⟩)],[.code Xi0],[],false,none⟩,[],[(0,.row false [.int .u64 s.key.A,.int .u64 s.key.B,.slice (some ⟨1,0,none⟩) 1 1,.int .i64 s.total]),(1,.row false [.slice (some ⟨2,0,none⟩) s.rows.m0 1]),(2,.row false (vI .i64 s.rows.e0))],10⟩ (fun v H _=>Res 10 (Xro res) v H):=by
 unfold Xdb at h
 have R1:=@XjE Xaa
 have R2:=@Xkz XaG
 have R3:=@Xky Xal
 have J:=js []
 refine Xa3 XaN hS true 3000 ?_
 conv=>whnf
 exact W
def XcZ (Xal:XaU) (XaG:Xa2) (Xaa:Xae) (s:Xaz) (i:Int) (text:List UInt8):Option Int:=
 (Xaa.v2 s).bind fun x2=>
 cond (!x2)
  (
  some ((-1)))
  (
  cond (decide (i<0))
   (
   some ((-1)))
   (
   cond (decide (i≥2))
    (
    some ((-1)))
    (
    (XaG (Xap.mk (wI .u64 (s.key.A+(wI .u64 i))) s.key.B) text).bind fun xh=>
    XaL (decide ((0:Int)≤i∧i<(2:Int))) <|
    cond (i.toNat==0)
     (
     (Xal xh (s.rows.m0:Int)).bind fun s1=>
     some (s1))
     (
     cond (i.toNat==1)
      (
      (Xal xh (s.rows.m1:Int)).bind fun s2=>
      some (s2))
      (
      none)))))
def XtD (x:Int):XcJ:=⟨.int .i64 x,[],[none,none,none,none,none,none,none,none,none,none]⟩
abbrev Xen:=Xaz→Int→(List UInt8)→Option Int
def r20v2 (g:Xen):Dec:=dTr 10 (XbK 0) fun (y0:Xaz)=>dV (asI .i64) fun (y1:Int)=>dV asS fun (y2:List UInt8)=>Xev (ofG (g y0 y1 y2) XtD)
abbrev Xvr (Xal:XaU) (XaG:Xa2) (Xaa:Xae):List (Nat×XcE):=[(46,s46 Xal),(47,s47 XaG),(38,s38 Xaa)]
theorem XrI (Xal:XaU) (XaG:Xa2) (Xaa:Xae) (hS:XaB Try.prog (XaI (Xvr Xal XaG Xaa))) (s:Xaz) (i:Int) (text:List UInt8) (res:Int) (h:XcZ Xal XaG Xaa s i text=some res) :
 XaQ Try.prog 20 10 ⟨⟨20,50,[(0,.pointer (some ⟨0,0,none⟩)),(1,.int .i64 i),(2,.string ⟨⟨text⟩⟩)],[.code Xi0],[],false,none⟩,[],[(0,.row false [.int .u64 s.key.A,.int .u64 s.key.B,.slice (some ⟨1,0,none⟩) 2 1,.int .i64 s.total]),(1,.row false [.slice (some ⟨2,0,none⟩) s.rows.m0 1,.slice (some ⟨3,0,none⟩) s.rows.m1 1]),(2,.row false (vI .i64 s.rows.e0)),(3,.row false (vI .i64 s.rows.e1))],10⟩ (fun v H _=>Res 10 (XtD res) v H):=by
 unfold XcZ at h
 have R1:=@XjD Xaa
 have R2:=@Xkz XaG
 have R3:=@Xky Xal
 have J:=js []
 refine Xa3 XaN hS true 3000 ?_
 conv=>whnf
 exact W
def XcY (Xal:XaU) (XaG:Xa2) (Xaa:Xae) (s:Xay) (i:Int) (text:List UInt8):Option Int:=
 (Xaa.v3 s).bind fun x3=>
 cond (!x3)
  (
  some ((-1)))
  (
  cond (decide (i<0))
   (
   some ((-1)))
   (
   cond (decide (i≥3))
    (
    some ((-1)))
    (
    (XaG (Xap.mk (wI .u64 (s.key.A+(wI .u64 i))) s.key.B) text).bind fun xh=>
    XaL (decide ((0:Int)≤i∧i<(3:Int))) <|
    cond (i.toNat==0)
     (
     (Xal xh (s.rows.m0:Int)).bind fun s1=>
     some (s1))
     (
     cond (i.toNat==1)
      (
      (Xal xh (s.rows.m1:Int)).bind fun s2=>
      some (s2))
      (
      cond (i.toNat==2)
       (
       (Xal xh (s.rows.m2:Int)).bind fun s3=>
       some (s3))
       (
       none))))))
def XrG (x:Int):XcJ:=⟨.int .i64 x,[],[none,none,none,none,none,none,none,none,none,none]⟩
abbrev Xed:=Xay→Int→(List UInt8)→Option Int
def r20v3 (g:Xed):Dec:=dTr 10 (XbJ 0) fun (y0:Xay)=>dV (asI .i64) fun (y1:Int)=>dV asS fun (y2:List UInt8)=>Xev (ofG (g y0 y1 y2) XrG)
abbrev Xwr (Xal:XaU) (XaG:Xa2) (Xaa:Xae):List (Nat×XcE):=[(46,s46 Xal),(47,s47 XaG),(38,s38 Xaa)]
theorem Xs7 (Xal:XaU) (XaG:Xa2) (Xaa:Xae) (hS:XaB Try.prog (XaI (Xwr Xal XaG Xaa))) (s:Xay) (i:Int) (text:List UInt8) (res:Int) (h:XcY Xal XaG Xaa s i text=some res) :
 XaQ Try.prog 20 10 ⟨⟨20,50,[(0,.pointer (some ⟨0,0,none⟩)),(1,.int .i64 i),(2,.string ⟨⟨text⟩⟩)],[.code Xi0],[],false,none⟩,[],[(0,.row false [.int .u64 s.key.A,.int .u64 s.key.B,.slice (some ⟨1,0,none⟩) 3 1,.int .i64 s.total]),(1,.row false [.slice (some ⟨2,0,none⟩) s.rows.m0 1,.slice (some ⟨3,0,none⟩) s.rows.m1 1,.slice (some ⟨4,0,none⟩) s.rows.m2 1]),(2,.row false (vI .i64 s.rows.e0)),(3,.row false (vI .i64 s.rows.e1)),(4,.row false (vI .i64 s.rows.e2))],10⟩ (fun v H _=>Res 10 (XrG res) v H):=by
 unfold XcY at h
 have R1:=@XjI Xaa
 have R2:=@Xkz XaG
 have R3:=@Xky Xal
 have J:=js []
 refine Xa3 XaN hS true 3000 ?_
 conv=>whnf
 exact W
def Xc3 (Xal:XaU) (XaG:Xa2) (Xaa:Xae) (s:Xaw) (i:Int) (text:List UInt8):Option Int:=
 (Xaa.v4 s).bind fun x4=>
 cond (!x4)
  (
  some ((-1)))
  (
  cond (decide (i<0))
   (
   some ((-1)))
   (
   cond (decide (i≥4))
    (
    some ((-1)))
    (
    (XaG (Xap.mk (wI .u64 (s.key.A+(wI .u64 i))) s.key.B) text).bind fun xh=>
    XaL (decide ((0:Int)≤i∧i<(4:Int))) <|
    cond (i.toNat==0)
     (
     (Xal xh (s.rows.m0:Int)).bind fun s1=>
     some (s1))
     (
     cond (i.toNat==1)
      (
      (Xal xh (s.rows.m1:Int)).bind fun s2=>
      some (s2))
      (
      cond (i.toNat==2)
       (
       (Xal xh (s.rows.m2:Int)).bind fun s3=>
       some (s3))
       (
       cond (i.toNat==3)
        (
        (Xal xh (s.rows.m3:Int)).bind fun s4=>
        some (s4))
        (
        none)))))))
def Xs9 (x:Int):XcJ:=⟨.int .i64 x,[],[none,none,none,none,none,none,none,none,none,none]⟩
abbrev Xef:=Xaw→Int→(List UInt8)→Option Int
def r20v4 (g:Xef):Dec:=dTr 10 (XbG 0) fun (y0:Xaw)=>dV (asI .i64) fun (y1:Int)=>dV asS fun (y2:List UInt8)=>Xev (ofG (g y0 y1 y2) Xs9)
abbrev Xwc (Xal:XaU) (XaG:Xa2) (Xaa:Xae):List (Nat×XcE):=[(46,s46 Xal),(47,s47 XaG),(38,s38 Xaa)]
theorem XtM (Xal:XaU) (XaG:Xa2) (Xaa:Xae) (hS:XaB Try.prog (XaI (Xwc Xal XaG Xaa))) (s:Xaw) (i:Int) (text:List UInt8) (res:Int) (h:Xc3 Xal XaG Xaa s i text=some res) :
 XaQ Try.prog 20 10 ⟨⟨20,50,[(0,.pointer (some ⟨0,0,none⟩)),(1,.int .i64 i),(2,.string ⟨⟨text⟩⟩)],[.code Xi0],[],false,none⟩,[],[(0,.row false [.int .u64 s.key.A,.int .u64 s.key.B,.slice (some ⟨1,0,none⟩) 4 1,.int .i64 s.total]),(1,.row false [.slice (some ⟨2,0,none⟩) s.rows.m0 1,.slice (some ⟨3,0,none⟩) s.rows.m1 1,.slice (some ⟨4,0,none⟩) s.rows.m2 1,.slice (some ⟨5,0,none⟩) s.rows.m3 1]),(2,.row false (vI .i64 s.rows.e0)),(3,.row false (vI .i64 s.rows.e1)),(4,.row false (vI .i64 s.rows.e2)),(5,.row false (vI .i64 s.rows.e3))],10⟩ (fun v H _=>Res 10 (Xs9 res) v H):=by
 unfold Xc3 at h
 have R1:=@Xjr Xaa
 have R2:=@Xkz XaG
 have R3:=@Xky Xal
 have J:=js []
 refine Xa3 XaN hS true 3000 ?_
 conv=>whnf
 exact W
def Xda (Xal:XaU) (XaG:Xa2) (Xaa:Xae) (s:Xav) (i:Int) (text:List UInt8):Option Int:=
 (Xaa.v5 s).bind fun x5=>
 cond (!x5)
  (
  some ((-1)))
  (
  cond (decide (i<0))
   (
   some ((-1)))
   (
   cond (decide (i≥5))
    (
    some ((-1)))
    (
    (XaG (Xap.mk (wI .u64 (s.key.A+(wI .u64 i))) s.key.B) text).bind fun xh=>
    XaL (decide ((0:Int)≤i∧i<(5:Int))) <|
    cond (i.toNat==0)
     (
     (Xal xh (s.rows.m0:Int)).bind fun s1=>
     some (s1))
     (
     cond (i.toNat==1)
      (
      (Xal xh (s.rows.m1:Int)).bind fun s2=>
      some (s2))
      (
      cond (i.toNat==2)
       (
       (Xal xh (s.rows.m2:Int)).bind fun s3=>
       some (s3))
       (
       cond (i.toNat==3)
        (
        (Xal xh (s.rows.m3:Int)).bind fun s4=>
        some (s4))
        (
        cond (i.toNat==4)
         (
         (Xal xh (s.rows.m4:Int)).bind fun s5=>
         some (s5))
         (
         none))))))))
def Xsa (x:Int):XcJ:=⟨.int .i64 x,[],[none,none,none,none,none,none,none,none,none,none]⟩
abbrev Xd5:=Xav→Int→(List UInt8)→Option Int
def r20v5 (g:Xd5):Dec:=dTr 10 (XbE 0) fun (y0:Xav)=>dV (asI .i64) fun (y1:Int)=>dV asS fun (y2:List UInt8)=>Xev (ofG (g y0 y1 y2) Xsa)
abbrev Xvn (Xal:XaU) (XaG:Xa2) (Xaa:Xae):List (Nat×XcE):=[(46,s46 Xal),(47,s47 XaG),(38,s38 Xaa)]
theorem XuH (Xal:XaU) (XaG:Xa2) (Xaa:Xae) (hS:XaB Try.prog (XaI (Xvn Xal XaG Xaa))) (s:Xav) (i:Int) (text:List UInt8) (res:Int) (h:Xda Xal XaG Xaa s i text=some res) :
 XaQ Try.prog 20 10 ⟨⟨20,50,[(0,.pointer (some ⟨0,0,none⟩)),(1,.int .i64 i),(2,.string ⟨⟨text⟩⟩)],[.code Xi0],[],false,none⟩,[],[(0,.row false [.int .u64 s.key.A,.int .u64 s.key.B,.slice (some ⟨1,0,none⟩) 5 1,.int .i64 s.total]),(1,.row false [.slice (some ⟨2,0,none⟩) s.rows.m0 1,.slice (some ⟨3,0,none⟩) s.rows.m1 1,.slice (some ⟨4,0,none⟩) s.rows.m2 1,.slice (some ⟨5,0,none⟩) s.rows.m3 1,.slice (some ⟨6,0,none⟩) s.rows.m4 1]),(2,.row false (vI .i64 s.rows.e0)),(3,.row false (vI .i64 s.rows.e1)),(4,.row false (vI .i64 s.rows.e2)),(5,.row false (vI .i64 s.rows.e3)),(6,.row false (vI .i64 s.rows.e4))],10⟩ (fun v H _=>Res 10 (Xsa res) v H):=by
 unfold Xda at h
 have R1:=@XjW Xaa
 have R2:=@Xkz XaG
 have R3:=@Xky Xal
 have J:=js []
 refine Xa3 XaN hS true 3000 ?_
 conv=>whnf
 exact W
def Xc4 (Xal:XaU) (XaG:Xa2) (Xaa:Xae) (s:Xau) (i:Int) (text:List UInt8):Option Int:=
 (Xaa.v6 s).bind fun x6=>
 cond (!x6)
  (
  some ((-1)))
  (
  cond (decide (i<0))
   (
   some ((-1)))
   (
   cond (decide (i≥6))
    (
    some ((-1)))
    (
    (XaG (Xap.mk (wI .u64 (s.key.A+(wI .u64 i))) s.key.B) text).bind fun xh=>
    XaL (decide ((0:Int)≤i∧i<(6:Int))) <|
    cond (i.toNat==0)
     (
     (Xal xh (s.rows.m0:Int)).bind fun s1=>
     some (s1))
     (
     cond (i.toNat==1)
      (
      (Xal xh (s.rows.m1:Int)).bind fun s2=>
      some (s2))
      (
      cond (i.toNat==2)
       (
       (Xal xh (s.rows.m2:Int)).bind fun s3=>
       some (s3))
       (
       cond (i.toNat==3)
        (
        (Xal xh (s.rows.m3:Int)).bind fun s4=>
        some (s4))
        (
        cond (i.toNat==4)
         (
         (Xal xh (s.rows.m4:Int)).bind fun s5=>
         some (s5))
         (
         cond (i.toNat==5)
          (
          (Xal xh (s.rows.m5:Int)).bind fun s6=>
          some (s6))
          (
          none)))))))))
def Xt1 (x:Int):XcJ:=⟨.int .i64 x,[],[none,none,none,none,none,none,none,none,none,none]⟩
abbrev Xek:=Xau→Int→(List UInt8)→Option Int
def r20v6 (g:Xek):Dec:=dTr 10 (XbI 0) fun (y0:Xau)=>dV (asI .i64) fun (y1:Int)=>dV asS fun (y2:List UInt8)=>Xev (ofG (g y0 y1 y2) Xt1)
abbrev XuY (Xal:XaU) (XaG:Xa2) (Xaa:Xae):List (Nat×XcE):=[(46,s46 Xal),(47,s47 XaG),(38,s38 Xaa)]
theorem XrY (Xal:XaU) (XaG:Xa2) (Xaa:Xae) (hS:XaB Try.prog (XaI (XuY Xal XaG Xaa))) (s:Xau) (i:Int) (text:List UInt8) (res:Int) (h:Xc4 Xal XaG Xaa s i text=some res) :
 XaQ Try.prog 20 10 ⟨⟨20,50,[(0,.pointer (some ⟨0,0,none⟩)),(1,.int .i64 i),(2,.string ⟨⟨text⟩⟩)],[.code Xi0],[],false,none⟩,[],[(0,.row false [.int .u64 s.key.A,.int .u64 s.key.B,.slice (some ⟨1,0,none⟩) 6 1,.int .i64 s.total]),(1,.row false [.slice (some ⟨2,0,none⟩) s.rows.m0 1,.slice (some ⟨3,0,none⟩) s.rows.m1 1,.slice (some ⟨4,0,none⟩) s.rows.m2 1,.slice (some ⟨5,0,none⟩) s.rows.m3 1,.slice (some ⟨6,0,none⟩) s.rows.m4 1,.slice (some ⟨7,0,none⟩) s.rows.m5 1]),(2,.row false (vI .i64 s.rows.e0)),(3,.row false (vI .i64 s.rows.e1)),(4,.row false (vI .i64 s.rows.e2)),(5,.row false (vI .i64 s.rows.e3)),(6,.row false (vI .i64 s.rows.e4)),(7,.row false (vI .i64 s.rows.e5))],10⟩ (fun v H _=>Res 10 (Xt1 res) v H):=by
 unfold Xc4 at h
 have R1:=@XjL Xaa
 have R2:=@Xkz XaG
 have R3:=@Xky Xal
 have J:=js []
 refine Xa3 XaN hS true 3000 ?_
 conv=>whnf
 exact W
def Xc8 (Xal:XaU) (XaG:Xa2) (Xaa:Xae) (s:Xat) (i:Int) (text:List UInt8):Option Int:=
 (Xaa.v7 s).bind fun x7=>
 cond (!x7)
  (
  some ((-1)))
  (
  cond (decide (i<0))
   (
   some ((-1)))
   (
   cond (decide (i≥7))
    (
    some ((-1)))
    (
    (XaG (Xap.mk (wI .u64 (s.key.A+(wI .u64 i))) s.key.B) text).bind fun xh=>
    XaL (decide ((0:Int)≤i∧i<(7:Int))) <|
    cond (i.toNat==0)
     (
     (Xal xh (s.rows.m0:Int)).bind fun s1=>
     some (s1))
     (
     cond (i.toNat==1)
      (
      (Xal xh (s.rows.m1:Int)).bind fun s2=>
      some (s2))
      (
      cond (i.toNat==2)
       (
       (Xal xh (s.rows.m2:Int)).bind fun s3=>
       some (s3))
       (
       cond (i.toNat==3)
        (
        (Xal xh (s.rows.m3:Int)).bind fun s4=>
        some (s4))
        (
        cond (i.toNat==4)
         (
         (Xal xh (s.rows.m4:Int)).bind fun s5=>
         some (s5))
         (
         cond (i.toNat==5)
          (
          (Xal xh (s.rows.m5:Int)).bind fun s6=>
          some (s6))
          (
          cond (i.toNat==6)
           (
           (Xal xh (s.rows.m6:Int)).bind fun s7=>
           some (s7))
           (
           none))))))))))
def Xsp (x:Int):XcJ:=⟨.int .i64 x,[],[none,none,none,none,none,none,none,none,none,none]⟩
abbrev Xee:=Xat→Int→(List UInt8)→Option Int
def r20v7 (g:Xee):Dec:=dTr 10 (XbM 0) fun (y0:Xat)=>dV (asI .i64) fun (y1:Int)=>dV asS fun (y2:List UInt8)=>Xev (ofG (g y0 y1 y2) Xsp)
abbrev Xvb (Xal:XaU) (XaG:Xa2) (Xaa:Xae):List (Nat×XcE):=[(46,s46 Xal),(47,s47 XaG),(38,s38 Xaa)]
theorem XrR (Xal:XaU) (XaG:Xa2) (Xaa:Xae) (hS:XaB Try.prog (XaI (Xvb Xal XaG Xaa))) (s:Xat) (i:Int) (text:List UInt8) (res:Int) (h:Xc8 Xal XaG Xaa s i text=some res) :
 XaQ Try.prog 20 10 ⟨⟨20,50,[(0,.pointer (some ⟨0,0,none⟩)),(1,.int .i64 i),(2,.string ⟨⟨text⟩⟩)],[.code Xi0],[],false,none⟩,[],[(0,.row false [.int .u64 s.key.A,.int .u64 s.key.B,.slice (some ⟨1,0,none⟩) 7 1,.int .i64 s.total]),(1,.row false [.slice (some ⟨2,0,none⟩) s.rows.m0 1,.slice (some ⟨3,0,none⟩) s.rows.m1 1,.slice (some ⟨4,0,none⟩) s.rows.m2 1,.slice (some ⟨5,0,none⟩) s.rows.m3 1,.slice (some ⟨6,0,none⟩) s.rows.m4 1,.slice (some ⟨7,0,none⟩) s.rows.m5 1,.slice (some ⟨8,0,none⟩) s.rows.m6 1]),(2,.row false (vI .i64 s.rows.e0)),(3,.row false (vI .i64 s.rows.e1)),(4,.row false (vI .i64 s.rows.e2)),(5,.row false (vI .i64 s.rows.e3)),(6,.row false (vI .i64 s.rows.e4)),(7,.row false (vI .i64 s.rows.e5)),(8,.row false (vI .i64 s.rows.e6))],10⟩ (fun v H _=>Res 10 (Xsp res) v H):=by
 unfold Xc8 at h
 have R1:=@Xju Xaa
 have R2:=@Xkz XaG
 have R3:=@Xky Xal
 have J:=js []
 refine Xa3 XaN hS true 3000 ?_
 conv=>whnf
 exact W
def Xc0 (Xal:XaU) (XaG:Xa2) (Xaa:Xae) (s:Xas) (i:Int) (text:List UInt8):Option Int:=
 (Xaa.v8 s).bind fun x8=>
 cond (!x8)
  (
  some ((-1)))
  (
  cond (decide (i<0))
   (
   some ((-1)))
   (
   cond (decide (i≥8))
    (
    some ((-1)))
    (
    (XaG (Xap.mk (wI .u64 (s.key.A+(wI .u64 i))) s.key.B) text).bind fun xh=>
    XaL (decide ((0:Int)≤i∧i<(8:Int))) <|
    cond (i.toNat==0)
     (
     (Xal xh (s.rows.m0:Int)).bind fun s1=>
     some (s1))
     (
     cond (i.toNat==1)
      (
      (Xal xh (s.rows.m1:Int)).bind fun s2=>
      some (s2))
      (
      cond (i.toNat==2)
       (
       (Xal xh (s.rows.m2:Int)).bind fun s3=>
       some (s3))
       (
       cond (i.toNat==3)
        (
        (Xal xh (s.rows.m3:Int)).bind fun s4=>
        some (s4))
        (
        cond (i.toNat==4)
         (
         (Xal xh (s.rows.m4:Int)).bind fun s5=>
         some (s5))
         (
         cond (i.toNat==5)
          (
          (Xal xh (s.rows.m5:Int)).bind fun s6=>
          some (s6))
          (
          cond (i.toNat==6)
           (
           (Xal xh (s.rows.m6:Int)).bind fun s7=>
           some (s7))
           (
           cond (i.toNat==7)
            (
            (Xal xh (s.rows.m7:Int)).bind fun s8=>
            some (s8))
            (
            none)))))))))))
def XrJ (x:Int):XcJ:=⟨.int .i64 x,[],[none,none,none,none,none,none,none,none,none,none]⟩
abbrev Xel:=Xas→Int→(List UInt8)→Option Int
def r20v8 (g:Xel):Dec:=dTr 10 (XbH 0) fun (y0:Xas)=>dV (asI .i64) fun (y1:Int)=>dV asS fun (y2:List UInt8)=>Xev (ofG (g y0 y1 y2) XrJ)
abbrev Xw8 (Xal:XaU) (XaG:Xa2) (Xaa:Xae):List (Nat×XcE):=[(46,s46 Xal),(47,s47 XaG),(38,s38 Xaa)]
theorem XuL (Xal:XaU) (XaG:Xa2) (Xaa:Xae) (hS:XaB Try.prog (XaI (Xw8 Xal XaG Xaa))) (s:Xas) (i:Int) (text:List UInt8) (res:Int) (h:Xc0 Xal XaG Xaa s i text=some res) :
 XaQ Try.prog 20 10 ⟨⟨20,50,[(0,.pointer (some ⟨0,0,none⟩)),(1,.int .i64 i),(2,.string ⟨⟨text⟩⟩)],[.code Xi0],[],false,none⟩,[],[(0,.row false [.int .u64 s.key.A,.int .u64 s.key.B,.slice (some ⟨1,0,none⟩) 8 1,.int .i64 s.total]),(1,.row false [.slice (some ⟨2,0,none⟩) s.rows.m0 1,.slice (some ⟨3,0,none⟩) s.rows.m1 1,.slice (some ⟨4,0,none⟩) s.rows.m2 1,.slice (some ⟨5,0,none⟩) s.rows.m3 1,.slice (some ⟨6,0,none⟩) s.rows.m4 1,.slice (some ⟨7,0,none⟩) s.rows.m5 1,.slice (some ⟨8,0,none⟩) s.rows.m6 1,.slice (some ⟨9,0,none⟩) s.rows.m7 1]),(2,.row false (vI .i64 s.rows.e0)),(3,.row false (vI .i64 s.rows.e1)),(4,.row false (vI .i64 s.rows.e2)),(5,.row false (vI .i64 s.rows.e3)),(6,.row false (vI .i64 s.rows.e4)),(7,.row false (vI .i64 s.rows.e5)),(8,.row false (vI .i64 s.rows.e6)),(9,.row false (vI .i64 s.rows.e7))],10⟩ (fun v H _=>Res 10 (XrJ res) v H):=by
 unfold Xc0 at h
 have R1:=@XjB Xaa
 have R2:=@Xkz XaG
 have R3:=@Xky Xal
 have J:=js []
 refine Xa3 XaN hS true 3000 ?_
 conv=>whnf
 exact W
structure Xak where
 vn:XdI
 v1:XdV
 v2:Xen
 v3:Xed
 v4:Xef
 v5:Xd5
 v6:Xek
 v7:Xee
 v8:Xel
def s20 (g:Xak):XcE:=⟨[.tr [⟨none,0,0,0,none⟩,⟨some 0,2,0,0,none⟩,⟨some 1,0,0,0,none⟩,⟨some 1,1,0,0,none⟩,⟨some 1,2,0,0,none⟩,⟨some 1,3,0,0,none⟩,⟨some 1,4,0,0,none⟩,⟨some 1,5,0,0,none⟩,⟨some 1,6,0,0,none⟩,⟨some 1,7,0,0,none⟩],.v,.v],orD (r20vn g.vn) (orD (r20v1 g.v1) (orD (r20v2 g.v2) (orD (r20v3 g.v3) (orD (r20v4 g.v4) (orD (r20v5 g.v5) (orD (r20v6 g.v6) (orD (r20v7 g.v7) (r20v8 g.v8))))))))⟩
theorem XpI {g:Xak} {y1:Int} {y2:List UInt8} {x:Int} (hx:g.vn y1 y2=some x):(s20 g).run [.pointer none,.int .i64 y1,.string ⟨⟨y2⟩⟩] [none,none,none,none,none,none,none,none,none,none]=some (Xss x):=by dsimp only [s20];exact (Xdt ((XpM).trans ((Xcd (XfX _)).trans ((Xcd (Xf7)).trans (Xbe hx)))))
theorem XpL {g:Xak} {y0:XaA} {y1:Int} {y2:List UInt8} {x:Int} (hx:g.v1 y0 y1 y2=some x):(s20 g).run [.pointer (some ⟨0,0,none⟩),.int .i64 y1,.string ⟨⟨y2⟩⟩] [some [.int .u64 y0.key.A,.int .u64 y0.key.B,.slice (some ⟨1,0,none⟩) 1 1,.int .i64 y0.total],some [.slice (some ⟨2,0,none⟩) y0.rows.m0 1],some (vI .i64 y0.rows.e0),none,none,none,none,none,none,none]=some (Xro x):=by dsimp only [s20];exact (XaJ rfl (Xdt ((XbZ rfl rfl (Xdi 0 _)).trans ((Xcd (XfX _)).trans ((Xcd (Xf7)).trans (Xbe hx))))))
theorem Xpw {g:Xak} {y0:Xaz} {y1:Int} {y2:List UInt8} {x:Int} (hx:g.v2 y0 y1 y2=some x):(s20 g).run [.pointer (some ⟨0,0,none⟩),.int .i64 y1,.string ⟨⟨y2⟩⟩] [some [.int .u64 y0.key.A,.int .u64 y0.key.B,.slice (some ⟨1,0,none⟩) 2 1,.int .i64 y0.total],some [.slice (some ⟨2,0,none⟩) y0.rows.m0 1,.slice (some ⟨3,0,none⟩) y0.rows.m1 1],some (vI .i64 y0.rows.e0),some (vI .i64 y0.rows.e1),none,none,none,none,none,none]=some (XtD x):=by dsimp only [s20];exact (XaJ rfl (XaJ rfl (Xdt ((XbZ rfl rfl (Xdn 0 _)).trans ((Xcd (XfX _)).trans ((Xcd (Xf7)).trans (Xbe hx)))))))
theorem Xo1 {g:Xak} {y0:Xay} {y1:Int} {y2:List UInt8} {x:Int} (hx:g.v3 y0 y1 y2=some x):(s20 g).run [.pointer (some ⟨0,0,none⟩),.int .i64 y1,.string ⟨⟨y2⟩⟩] [some [.int .u64 y0.key.A,.int .u64 y0.key.B,.slice (some ⟨1,0,none⟩) 3 1,.int .i64 y0.total],some [.slice (some ⟨2,0,none⟩) y0.rows.m0 1,.slice (some ⟨3,0,none⟩) y0.rows.m1 1,.slice (some ⟨4,0,none⟩) y0.rows.m2 1],some (vI .i64 y0.rows.e0),some (vI .i64 y0.rows.e1),some (vI .i64 y0.rows.e2),none,none,none,none,none]=some (XrG x):=by dsimp only [s20];exact (XaJ rfl (XaJ rfl (XaJ rfl (Xdt ((XbZ rfl rfl (Xdh 0 _)).trans ((Xcd (XfX _)).trans ((Xcd (Xf7)).trans (Xbe hx))))))))
theorem Xo2 {g:Xak} {y0:Xaw} {y1:Int} {y2:List UInt8} {x:Int} (hx:g.v4 y0 y1 y2=some x):(s20 g).run [.pointer (some ⟨0,0,none⟩),.int .i64 y1,.string ⟨⟨y2⟩⟩] [some [.int .u64 y0.key.A,.int .u64 y0.key.B,.slice (some ⟨1,0,none⟩) 4 1,.int .i64 y0.total],some [.slice (some ⟨2,0,none⟩) y0.rows.m0 1,.slice (some ⟨3,0,none⟩) y0.rows.m1 1,.slice (some ⟨4,0,none⟩) y0.rows.m2 1,.slice (some ⟨5,0,none⟩) y0.rows.m3 1],some (vI .i64 y0.rows.e0),some (vI .i64 y0.rows.e1),some (vI .i64 y0.rows.e2),some (vI .i64 y0.rows.e3),none,none,none,none]=some (Xs9 x):=by dsimp only [s20];exact (XaJ rfl (XaJ rfl (XaJ rfl (XaJ rfl (Xdt ((XbZ rfl rfl (Xdg 0 _)).trans ((Xcd (XfX _)).trans ((Xcd (Xf7)).trans (Xbe hx)))))))))
theorem Xpd {g:Xak} {y0:Xav} {y1:Int} {y2:List UInt8} {x:Int} (hx:g.v5 y0 y1 y2=some x):(s20 g).run [.pointer (some ⟨0,0,none⟩),.int .i64 y1,.string ⟨⟨y2⟩⟩] [some [.int .u64 y0.key.A,.int .u64 y0.key.B,.slice (some ⟨1,0,none⟩) 5 1,.int .i64 y0.total],some [.slice (some ⟨2,0,none⟩) y0.rows.m0 1,.slice (some ⟨3,0,none⟩) y0.rows.m1 1,.slice (some ⟨4,0,none⟩) y0.rows.m2 1,.slice (some ⟨5,0,none⟩) y0.rows.m3 1,.slice (some ⟨6,0,none⟩) y0.rows.m4 1],some (vI .i64 y0.rows.e0),some (vI .i64 y0.rows.e1),some (vI .i64 y0.rows.e2),some (vI .i64 y0.rows.e3),some (vI .i64 y0.rows.e4),none,none,none]=some (Xsa x):=by dsimp only [s20];exact (XaJ rfl (XaJ rfl (XaJ rfl (XaJ rfl (XaJ rfl (Xdt ((XbZ rfl rfl (Xdl 0 _)).trans ((Xcd (XfX _)).trans ((Xcd (Xf7)).trans (Xbe hx))))))))))
theorem Xpf {g:Xak} {y0:Xau} {y1:Int} {y2:List UInt8} {x:Int} (hx:g.v6 y0 y1 y2=some x):(s20 g).run [.pointer (some ⟨0,0,none⟩),.int .i64 y1,.string ⟨⟨y2⟩⟩] [some [.int .u64 y0.key.A,.int .u64 y0.key.B,.slice (some ⟨1,0,none⟩) 6 1,.int .i64 y0.total],some [.slice (some ⟨2,0,none⟩) y0.rows.m0 1,.slice (some ⟨3,0,none⟩) y0.rows.m1 1,.slice (some ⟨4,0,none⟩) y0.rows.m2 1,.slice (some ⟨5,0,none⟩) y0.rows.m3 1,.slice (some ⟨6,0,none⟩) y0.rows.m4 1,.slice (some ⟨7,0,none⟩) y0.rows.m5 1],some (vI .i64 y0.rows.e0),some (vI .i64 y0.rows.e1),some (vI .i64 y0.rows.e2),some (vI .i64 y0.rows.e3),some (vI .i64 y0.rows.e4),some (vI .i64 y0.rows.e5),none,none]=some (Xt1 x):=by dsimp only [s20];exact (XaJ rfl (XaJ rfl (XaJ rfl (XaJ rfl (XaJ rfl (XaJ rfl (Xdt ((XbZ rfl rfl (Xdk 0 _)).trans ((Xcd (XfX _)).trans ((Xcd (Xf7)).trans (Xbe hx)))))))))))
theorem Xpv {g:Xak} {y0:Xat} {y1:Int} {y2:List UInt8} {x:Int} (hx:g.v7 y0 y1 y2=some x):(s20 g).run [.pointer (some ⟨0,0,none⟩),.int .i64 y1,.string ⟨⟨y2⟩⟩] [some [.int .u64 y0.key.A,.int .u64 y0.key.B,.slice (some ⟨1,0,none⟩) 7 1,.int .i64 y0.total],some [.slice (some ⟨2,0,none⟩) y0.rows.m0 1,.slice (some ⟨3,0,none⟩) y0.rows.m1 1,.slice (some ⟨4,0,none⟩) y0.rows.m2 1,.slice (some ⟨5,0,none⟩) y0.rows.m3 1,.slice (some ⟨6,0,none⟩) y0.rows.m4 1,.slice (some ⟨7,0,none⟩) y0.rows.m5 1,.slice (some ⟨8,0,none⟩) y0.rows.m6 1],some (vI .i64 y0.rows.e0),some (vI .i64 y0.rows.e1),some (vI .i64 y0.rows.e2),some (vI .i64 y0.rows.e3),some (vI .i64 y0.rows.e4),some (vI .i64 y0.rows.e5),some (vI .i64 y0.rows.e6),none]=some (Xsp x):=by dsimp only [s20];exact (XaJ rfl (XaJ rfl (XaJ rfl (XaJ rfl (XaJ rfl (XaJ rfl (XaJ rfl (Xdt ((XbZ rfl rfl (Xds 0 _)).trans ((Xcd (XfX _)).trans ((Xcd (Xf7)).trans (Xbe hx))))))))))))
theorem XpX {g:Xak} {y0:Xas} {y1:Int} {y2:List UInt8} {x:Int} (hx:g.v8 y0 y1 y2=some x):(s20 g).run [.pointer (some ⟨0,0,none⟩),.int .i64 y1,.string ⟨⟨y2⟩⟩] [some [.int .u64 y0.key.A,.int .u64 y0.key.B,.slice (some ⟨1,0,none⟩) 8 1,.int .i64 y0.total],some [.slice (some ⟨2,0,none⟩) y0.rows.m0 1,.slice (some ⟨3,0,none⟩) y0.rows.m1 1,.slice (some ⟨4,0,none⟩) y0.rows.m2 1,.slice (some ⟨5,0,none⟩) y0.rows.m3 1,.slice (some ⟨6,0,none⟩) y0.rows.m4 1,.slice (some ⟨7,0,none⟩) y0.rows.m5 1,.slice (some ⟨8,0,none⟩) y0.rows.m6 1,.slice (some ⟨9,0,none⟩) y0.rows.m7 1],some (vI .i64 y0.rows.e0),some (vI .i64 y0.rows.e1),some (vI .i64 y0.rows.e2),some (vI .i64 y0.rows.e3),some (vI .i64 y0.rows.e4),some (vI .i64 y0.rows.e5),some (vI .i64 y0.rows.e6),some (vI .i64 y0.rows.e7)]=some (XrJ x):=by dsimp only [s20];exact (XaJ rfl (XaJ rfl (XaJ rfl (XaJ rfl (XaJ rfl (XaJ rfl (XaJ rfl (XaJ rfl ((XbZ rfl rfl (Xdr 0 _)).trans ((Xcd (XfX _)).trans ((Xcd (Xf7)).trans (Xbe hx))))))))))))
def Xiz:XdI:=XeM Xaa
def XfD:XdV:=Xdb Xal XaG Xaa
def Xft:Xen:=XcZ Xal XaG Xaa
def Xfm:Xed:=XcY Xal XaG Xaa
def Xfq:Xef:=Xc3 Xal XaG Xaa
def Xfs:Xd5:=Xda Xal XaG Xaa
def Xfn:Xek:=Xc4 Xal XaG Xaa
def Xfu:Xee:=Xc8 Xal XaG Xaa
def Xfy:Xel:=Xc0 Xal XaG Xaa
def Xab:Xak:=⟨Xiz,XfD,Xft,Xfm,Xfq,Xfs,Xfn,Xfu,Xfy⟩
theorem Xgx:XfJ Try.prog 20 (s20 Xab):=by
 have L0:=Xta Xaa (XaB.Xa4 ⟨XbW,trivial⟩)
 have L1:=Xs4 Xal XaG Xaa (XaB.Xa4 ⟨Xkr,XkE,XbW,trivial⟩)
 have L2:=XrI Xal XaG Xaa (XaB.Xa4 ⟨Xkr,XkE,XbW,trivial⟩)
 have L3:=Xs7 Xal XaG Xaa (XaB.Xa4 ⟨Xkr,XkE,XbW,trivial⟩)
 have L4:=XtM Xal XaG Xaa (XaB.Xa4 ⟨Xkr,XkE,XbW,trivial⟩)
 have L5:=XuH Xal XaG Xaa (XaB.Xa4 ⟨Xkr,XkE,XbW,trivial⟩)
 have L6:=XrY Xal XaG Xaa (XaB.Xa4 ⟨Xkr,XkE,XbW,trivial⟩)
 have L7:=XrR Xal XaG Xaa (XaB.Xa4 ⟨Xkr,XkE,XbW,trivial⟩)
 have L8:=XuL Xal XaG Xaa (XaB.Xa4 ⟨Xkr,XkE,XbW,trivial⟩)
 refine XfJ.Xhq XaN (fun ar os r ha hr=>?_) ⟨Try.f20,rfl,by decide,rfl⟩
 generalize hc:XgD os=C at hr
 replace hr:=orD.elim hr;rcases hr with hr|hr
 ·have LL:=L0;exact okB
 replace hr:=orD.elim hr;rcases hr with hr|hr
 ·have LL:=L1;have U1:=@Xcj;exact okB
 replace hr:=orD.elim hr;rcases hr with hr|hr
 ·have LL:=L2;have U1:=@Xcl;exact okB
 replace hr:=orD.elim hr;rcases hr with hr|hr
 ·have LL:=L3;have U1:=@Xci;exact okB
 replace hr:=orD.elim hr;rcases hr with hr|hr
 ·have LL:=L4;have U1:=@Xck;exact okB
 replace hr:=orD.elim hr;rcases hr with hr|hr
 ·have LL:=L5;have U1:=@Xce;exact okB
 replace hr:=orD.elim hr;rcases hr with hr|hr
 ·have LL:=L6;have U1:=@Xcm;exact okB
 replace hr:=orD.elim hr;rcases hr with hr|hr
 ·have LL:=L7;have U1:=@Xcg;exact okB
 have LL:=L8;have U1:=@Xch;exact okB
def XfH (Xaa:Xae) (text:List UInt8) (n:Int):Option Bool:=
 (Xaa.vn).bind fun n1=>
 cond (!n1)
  (
  some (false))
  (
  cond (decide (n<0))
   (
   some (false))
   (
   cond (decide (n>1048576))
    (
    some (false))
    (
    none)))
def Xth (x:Bool):XcJ:=⟨.bool x,[],[none,none,none,none,none,none,none,none,none,none]⟩
abbrev XeY:=(List UInt8)→Int→Option Bool
def r12vn (g:XeY):Dec:=dNl 10<|dV asS fun (y1:List UInt8)=>dV (asI .i64) fun (y2:Int)=>Xev (ofG (g y1 y2) Xth)
abbrev Xw0 (Xaa:Xae):List (Nat×XcE):=[(38,s38 Xaa)]
theorem Xud (Xaa:Xae) (hS:XaB Try.prog (XaI (Xw0 Xaa))) (text:List UInt8) (n:Int) (res:Bool) (h:XfH Xaa text n=some res) :
 XaQ Try.prog 12 10 ⟨⟨12,27,[(0,.pointer none),(1,.string ⟨⟨text⟩⟩),(2,.int .i64 n)],[.code XhQ],[],false,none⟩,[],[],10⟩ (fun v H _=>Res 10 (Xth res) v H):=by
 unfold XfH at h
 have R1:=@XmH Xaa
 refine Xa3 XaN hS true 3000 ?_
 conv=>whnf
 exact W
def XeD (s:Xar) (text:List UInt8) (n:Int):Option (Sum Unit (Bool×Xar)):=
 let t:=if (wI .i64 (s.total+n))<1099511627776 then wI .i64 (s.total+n) else 1099511627776
 some (.inr ((true,Xar.mk s.key Xa9.mk t)))
def XfK (Xaa:Xae) (s:Xar) (text:List UInt8) (n:Int):Option (Bool×Xar):=
 (Xaa.v0 (Xar.mk s.key Xa9.mk s.total)).bind fun x0=>
 cond (!x0)
  (
  some ((false,Xar.mk s.key Xa9.mk s.total)))
  (
  cond (decide (n<0))
   (
   some ((false,Xar.mk s.key Xa9.mk s.total)))
   (
   cond (decide (n>1048576))
    (
    some ((false,Xar.mk s.key Xa9.mk s.total)))
    (
    iter (fun _=>XeD s text n) FUEL ())))
def XpK (x:Bool×Xar):XcJ:=⟨.bool x.1,[],[some [.int .u64 x.2.key.A,.int .u64 x.2.key.B,.slice none 0 0,.int .i64 x.2.total],none,none,none,none,none,none,none,none,none]⟩
abbrev XeL:=Xar→(List UInt8)→Int→Option (Bool×Xar)
def r12v0 (g:XeL):Dec:=dTr 10 (Xcc 0) fun (y0:Xar)=>dV asS fun (y1:List UInt8)=>dV (asI .i64) fun (y2:Int)=>Xev (ofG (g y0 y1 y2) XpK)
abbrev Xpr (Xaa:Xae):List (Nat×XcE):=[(38,s38 Xaa)]
def Xl9 (s:Xar) (text:List UInt8) (n:Int):VM:=
 ⟨⟨39,30,[(0,.pointer (some ⟨0,0,none⟩)),(1,.string ⟨⟨text⟩⟩),(2,.func (.func 40) ⟨[]⟩ ⟨[.pointer (some ⟨10,0,none⟩)]⟩),(11,.int .i64 0),(12,.int .i64 0)],[.code Xul,.inLoop Xul,.inBlock 0],[],false,none⟩,[⟨12,27,[(0,.pointer (some ⟨0,0,none⟩)),(5,.pointer (some ⟨10,0,none⟩))],[.inReg (opsD XAZ 3),.code Xx5],[],false,none⟩],[(0,.cells [.int .u64 s.key.A,.int .u64 s.key.B,.slice none 0 0,.int .i64 s.total]),(10,.cells [.int .i64 n])],11⟩
theorem Xqt (Xaa:Xae) (hS:XaB Try.prog (XaI (Xpr Xaa))) {s:Xar} {text:List UInt8} {n:Int} {res:Bool×Xar}:∀ {fuel} {st:Unit} {o:Bool×Xar},iter (fun _=>XeD s text n) fuel st=some o→(o=res) →
 XaQ Try.prog 12 10 (Xl9 s text n ) (fun v H _=>Res 10 (XpK res) v H):=by
 apply Xa6
 intro st o h hc
 try dsimp -zeta only at h ⊢
 unfold XeD at h
 have J:=js []
 refine Xa3 XaN hS true 3000 ?_
 conv=>whnf
 exact W
theorem Xts (Xaa:Xae) (hS:XaB Try.prog (XaI (Xpr Xaa))) (s:Xar) (text:List UInt8) (n:Int) (res:Bool×Xar) (h:XfK Xaa s text n=some res) :
 XaQ Try.prog 12 10 ⟨⟨12,27,[(0,.pointer (some ⟨0,0,none⟩)),(1,.string ⟨⟨text⟩⟩),(2,.int .i64 n)],[.code XhQ],[],false,none⟩,[],[(0,.cells [.int .u64 s.key.A,.int .u64 s.key.B,.slice none 0 0,.int .i64 s.total])],10⟩ (fun v H _=>Res 10 (XpK res) v H):=by
 unfold XfK at h
 have J:=js []
 refine Xa3 XaN hS true 3000 ?_
 conv=>whnf
 replace h:=XbV.elim h;obtain ⟨x0,hy,h⟩:=h
 refine Xfx.a (XkK hy) ?_
 conv=>whnf
 refine br.h h (by rfl) ?_ ?_
 ·clear h;intro hb h;conv=>whnf
  exact W
 clear h;intro hb h;conv=>whnf
 refine br.h h (by rfl) ?_ ?_
 ·clear h;intro hb h;conv=>whnf
  exact W
 clear h;intro hb h;conv=>whnf
 refine br.h h (by rfl) ?_ ?_
 ·clear h;intro hb h;conv=>whnf
  exact W
 clear h;intro hb h;conv=>whnf
 have hl:=Xqt Xaa hS h rfl;simp only [Xl9] at hl
 exact lrA1 hl [(0,0),(1,1),(2,2),(3,3),(4,4),(5,5),(6,6),(7,7),(8,8),(9,9),(10,10)] rfl
def Xdz (Xab:Xak) (Xaa:Xae) (s:XaA) (text:List UInt8) (n:Int):Option (Bool×XaA):=
 (Xaa.v1 s).bind fun x1=>
 cond (!x1)
  (
  some ((false,s)))
  (
  cond (decide (n<0))
   (
   some ((false,s)))
   (
   cond (decide (n>1048576))
    (
    some ((false,s)))
    (
    (Xab.v1 s 0 text).bind fun x11=>
    XaL (decide ((0:Int)≤x11∧x11<(s.rows.m0:Int))) <|
    (s.rows.e0[x11.toNat]?).bind fun (e:Int)=>
    let t:=if (wI .i64 (e+n))<1099511627776 then wI .i64 (e+n) else 1099511627776
    XaL (decide (x11.toNat<s.rows.e0.length)) <|
    let row:=s.rows.e0.set x11.toNat t
    let t1:=if (wI .i64 (s.total+n))<1099511627776 then wI .i64 (s.total+n) else 1099511627776
    some ((true,XaA.mk s.key (XcR.mk row s.rows.m0) t1)))))
def XsH (x:Bool×XaA):XcJ:=⟨.bool x.1,[(vI .i64 x.2.rows.e0)],[some [.int .u64 x.2.key.A,.int .u64 x.2.key.B,.slice (some ⟨2,0,none⟩) 1 1,.int .i64 x.2.total],some [.slice (some ⟨0,0,none⟩) x.2.rows.m0 1],none,none,none,none,none,none,none,none]⟩
abbrev XeJ:=XaA→(List UInt8)→Int→Option (Bool×XaA)
def r12v1 (g:XeJ):Dec:=dTr 10 (XbF 0) fun (y0:XaA)=>dV asS fun (y1:List UInt8)=>dV (asI .i64) fun (y2:Int)=>Xev (ofG (g y0 y1 y2) XsH)
abbrev Xwg (Xab:Xak) (Xaa:Xae):List (Nat×XcE):=[(20,s20 Xab),(38,s38 Xaa)]
theorem XtI (Xab:Xak) (Xaa:Xae) (hS:XaB Try.prog (XaI (Xwg Xab Xaa))) (s:XaA) (text:List UInt8) (n:Int) (res:Bool×XaA) (h:Xdz Xab Xaa s text n=some res) :
 XaQ Try.prog 12 10 ⟨⟨12,27,[(0,.pointer (some ⟨0,0,none⟩)),(1,.string ⟨⟨text⟩⟩),(2,.int .i64 n)],[.code XhQ],[],false,none⟩,[],[(0,.cells [.int .u64 s.key.A,.int .u64 s.key.B,.slice (some ⟨1,0,none⟩) 1 1,.int .i64 s.total]),(1,.cells [.slice (some ⟨2,0,none⟩) s.rows.m0 1]),(2,.row true (vI .i64 s.rows.e0))],10⟩ (fun v H _=>Res 10 (XsH res) v H):=by
 unfold Xdz at h
 have R1:=@XjE Xaa
 have R2:=@XpL Xab
 have J:=js [2]
 refine Xa3 XaN hS true 3000 ?_
 conv=>whnf
 exact W
def Xdv (Xab:Xak) (Xaa:Xae) (s:Xaz) (text:List UInt8) (n:Int):Option (Bool×Xaz):=
 (Xaa.v2 s).bind fun x2=>
 cond (!x2)
  (
  some ((false,s)))
  (
  cond (decide (n<0))
   (
   some ((false,s)))
   (
   cond (decide (n>1048576))
    (
    some ((false,s)))
    (
    (Xab.v2 s 0 text).bind fun x21=>
    XaL (decide ((0:Int)≤x21∧x21<(s.rows.m0:Int))) <|
    (s.rows.e0[x21.toNat]?).bind fun (e:Int)=>
    let t:=if (wI .i64 (e+n))<1099511627776 then wI .i64 (e+n) else 1099511627776
    XaL (decide (x21.toNat<s.rows.e0.length)) <|
    let row:=s.rows.e0.set x21.toNat t
    (Xab.v2 (Xaz.mk s.key (XcI.mk row s.rows.e1 s.rows.m0 s.rows.m1) s.total) 1 text).bind fun x22=>
    XaL (decide ((0:Int)≤x22∧x22<(s.rows.m1:Int))) <|
    (s.rows.e1[x22.toNat]?).bind fun (e1:Int)=>
    let t1:=if (wI .i64 (e1+n))<1099511627776 then wI .i64 (e1+n) else 1099511627776
    XaL (decide (x22.toNat<s.rows.e1.length)) <|
    let row1:=s.rows.e1.set x22.toNat t1
    let t2:=if (wI .i64 (s.total+n))<1099511627776 then wI .i64 (s.total+n) else 1099511627776
    some ((true,Xaz.mk s.key (XcI.mk row row1 s.rows.m0 s.rows.m1) t2)))))
def XtF (x:Bool×Xaz):XcJ:=⟨.bool x.1,[(vI .i64 x.2.rows.e0),(vI .i64 x.2.rows.e1)],[some [.int .u64 x.2.key.A,.int .u64 x.2.key.B,.slice (some ⟨3,0,none⟩) 2 1,.int .i64 x.2.total],some [.slice (some ⟨0,0,none⟩) x.2.rows.m0 1,.slice (some ⟨1,0,none⟩) x.2.rows.m1 1],none,none,none,none,none,none,none,none]⟩
abbrev Xfd:=Xaz→(List UInt8)→Int→Option (Bool×Xaz)
def r12v2 (g:Xfd):Dec:=dTr 10 (XbK 0) fun (y0:Xaz)=>dV asS fun (y1:List UInt8)=>dV (asI .i64) fun (y2:Int)=>Xev (ofG (g y0 y1 y2) XtF)
abbrev Xu7 (Xab:Xak) (Xaa:Xae):List (Nat×XcE):=[(20,s20 Xab),(38,s38 Xaa)]
theorem XtR (Xab:Xak) (Xaa:Xae) (hS:XaB Try.prog (XaI (Xu7 Xab Xaa))) (s:Xaz) (text:List UInt8) (n:Int) (res:Bool×Xaz) (h:Xdv Xab Xaa s text n=some res) :
 XaQ Try.prog 12 10 ⟨⟨12,27,[(0,.pointer (some ⟨0,0,none⟩)),(1,.string ⟨⟨text⟩⟩),(2,.int .i64 n)],[.code XhQ],[],false,none⟩,[],[(0,.cells [.int .u64 s.key.A,.int .u64 s.key.B,.slice (some ⟨1,0,none⟩) 2 1,.int .i64 s.total]),(1,.cells [.slice (some ⟨2,0,none⟩) s.rows.m0 1,.slice (some ⟨3,0,none⟩) s.rows.m1 1]),(2,.row true (vI .i64 s.rows.e0)),(3,.row true (vI .i64 s.rows.e1))],10⟩ (fun v H _=>Res 10 (XtF res) v H):=by
 unfold Xdv at h
 have R1:=@XjD Xaa
 have R2:=@Xpw Xab
 have J:=js [2,3]
 refine Xa3 XaN hS true 3000 ?_
 conv=>whnf
 exact W
def XdB (Xab:Xak) (Xaa:Xae) (s:Xay) (text:List UInt8) (n:Int):Option (Bool×Xay):=
 (Xaa.v3 s).bind fun x3=>
 cond (!x3)
  (
  some ((false,s)))
  (
  cond (decide (n<0))
   (
   some ((false,s)))
   (
   cond (decide (n>1048576))
    (
    some ((false,s)))
    (
    (Xab.v3 s 0 text).bind fun x31=>
    XaL (decide ((0:Int)≤x31∧x31<(s.rows.m0:Int))) <|
    (s.rows.e0[x31.toNat]?).bind fun (e:Int)=>
    let t:=if (wI .i64 (e+n))<1099511627776 then wI .i64 (e+n) else 1099511627776
    XaL (decide (x31.toNat<s.rows.e0.length)) <|
    let row:=s.rows.e0.set x31.toNat t
    (Xab.v3 (Xay.mk s.key (Xcu.mk row s.rows.e1 s.rows.e2 s.rows.m0 s.rows.m1 s.rows.m2) s.total) 1 text).bind fun x32=>
    XaL (decide ((0:Int)≤x32∧x32<(s.rows.m1:Int))) <|
    (s.rows.e1[x32.toNat]?).bind fun (e1:Int)=>
    let t1:=if (wI .i64 (e1+n))<1099511627776 then wI .i64 (e1+n) else 1099511627776
    XaL (decide (x32.toNat<s.rows.e1.length)) <|
    let row1:=s.rows.e1.set x32.toNat t1
    (Xab.v3 (Xay.mk s.key (Xcu.mk row row1 s.rows.e2 s.rows.m0 s.rows.m1 s.rows.m2) s.total) 2 text).bind fun x33=>
    XaL (decide ((0:Int)≤x33∧x33<(s.rows.m2:Int))) <|
    (s.rows.e2[x33.toNat]?).bind fun (e2:Int)=>
    let t2:=if (wI .i64 (e2+n))<1099511627776 then wI .i64 (e2+n) else 1099511627776
    XaL (decide (x33.toNat<s.rows.e2.length)) <|
    let row2:=s.rows.e2.set x33.toNat t2
    let t3:=if (wI .i64 (s.total+n))<1099511627776 then wI .i64 (s.total+n) else 1099511627776
    some ((true,Xay.mk s.key (Xcu.mk row row1 row2 s.rows.m0 s.rows.m1 s.rows.m2) t3)))))
def XrF (x:Bool×Xay):XcJ:=⟨.bool x.1,[(vI .i64 x.2.rows.e0),(vI .i64 x.2.rows.e1),(vI .i64 x.2.rows.e2)],[some [.int .u64 x.2.key.A,.int .u64 x.2.key.B,.slice (some ⟨4,0,none⟩) 3 1,.int .i64 x.2.total],some [.slice (some ⟨0,0,none⟩) x.2.rows.m0 1,.slice (some ⟨1,0,none⟩) x.2.rows.m1 1,.slice (some ⟨2,0,none⟩) x.2.rows.m2 1],none,none,none,none,none,none,none,none]⟩
abbrev Xe4:=Xay→(List UInt8)→Int→Option (Bool×Xay)
def r12v3 (g:Xe4):Dec:=dTr 10 (XbJ 0) fun (y0:Xay)=>dV asS fun (y1:List UInt8)=>dV (asI .i64) fun (y2:Int)=>Xev (ofG (g y0 y1 y2) XrF)
abbrev XwJ (Xab:Xak) (Xaa:Xae):List (Nat×XcE):=[(20,s20 Xab),(38,s38 Xaa)]
theorem Xub (Xab:Xak) (Xaa:Xae) (hS:XaB Try.prog (XaI (XwJ Xab Xaa))) (s:Xay) (text:List UInt8) (n:Int) (res:Bool×Xay) (h:XdB Xab Xaa s text n=some res) :
 XaQ Try.prog 12 10 ⟨⟨12,27,[(0,.pointer (some ⟨0,0,none⟩)),(1,.string ⟨⟨text⟩⟩),(2,.int .i64 n)],[.code XhQ],[],false,none⟩,[],[(0,.cells [.int .u64 s.key.A,.int .u64 s.key.B,.slice (some ⟨1,0,none⟩) 3 1,.int .i64 s.total]),(1,.cells [.slice (some ⟨2,0,none⟩) s.rows.m0 1,.slice (some ⟨3,0,none⟩) s.rows.m1 1,.slice (some ⟨4,0,none⟩) s.rows.m2 1]),(2,.row true (vI .i64 s.rows.e0)),(3,.row true (vI .i64 s.rows.e1)),(4,.row true (vI .i64 s.rows.e2))],10⟩ (fun v H _=>Res 10 (XrF res) v H):=by
 unfold XdB at h
 have R1:=@XjI Xaa
 have R2:=@Xo1 Xab
 have J:=js [2,3,4]
 refine Xa3 XaN hS true 3000 ?_
 conv=>whnf
 exact W
def XdA (Xab:Xak) (Xaa:Xae) (s:Xaw) (text:List UInt8) (n:Int):Option (Bool×Xaw):=
 (Xaa.v4 s).bind fun x4=>
 cond (!x4)
  (
  some ((false,s)))
  (
  cond (decide (n<0))
   (
   some ((false,s)))
   (
   cond (decide (n>1048576))
    (
    some ((false,s)))
    (
    (Xab.v4 s 0 text).bind fun x41=>
    XaL (decide ((0:Int)≤x41∧x41<(s.rows.m0:Int))) <|
    (s.rows.e0[x41.toNat]?).bind fun (e:Int)=>
    let t:=if (wI .i64 (e+n))<1099511627776 then wI .i64 (e+n) else 1099511627776
    XaL (decide (x41.toNat<s.rows.e0.length)) <|
    let row:=s.rows.e0.set x41.toNat t
    (Xab.v4 (Xaw.mk s.key (Xca.mk row s.rows.e1 s.rows.e2 s.rows.e3 s.rows.m0 s.rows.m1 s.rows.m2 s.rows.m3) s.total) 1 text).bind fun x42=>
    XaL (decide ((0:Int)≤x42∧x42<(s.rows.m1:Int))) <|
    (s.rows.e1[x42.toNat]?).bind fun (e1:Int)=>
    let t1:=if (wI .i64 (e1+n))<1099511627776 then wI .i64 (e1+n) else 1099511627776
    XaL (decide (x42.toNat<s.rows.e1.length)) <|
    let row1:=s.rows.e1.set x42.toNat t1
    (Xab.v4 (Xaw.mk s.key (Xca.mk row row1 s.rows.e2 s.rows.e3 s.rows.m0 s.rows.m1 s.rows.m2 s.rows.m3) s.total) 2 text).bind fun x43=>
    XaL (decide ((0:Int)≤x43∧x43<(s.rows.m2:Int))) <|
    (s.rows.e2[x43.toNat]?).bind fun (e2:Int)=>
    let t2:=if (wI .i64 (e2+n))<1099511627776 then wI .i64 (e2+n) else 1099511627776
    XaL (decide (x43.toNat<s.rows.e2.length)) <|
    let row2:=s.rows.e2.set x43.toNat t2
    (Xab.v4 (Xaw.mk s.key (Xca.mk row row1 row2 s.rows.e3 s.rows.m0 s.rows.m1 s.rows.m2 s.rows.m3) s.total) 3 text).bind fun x44=>
    XaL (decide ((0:Int)≤x44∧x44<(s.rows.m3:Int))) <|
    (s.rows.e3[x44.toNat]?).bind fun (e3:Int)=>
    let t3:=if (wI .i64 (e3+n))<1099511627776 then wI .i64 (e3+n) else 1099511627776
    XaL (decide (x44.toNat<s.rows.e3.length)) <|
    let row3:=s.rows.e3.set x44.toNat t3
    let t4:=if (wI .i64 (s.total+n))<1099511627776 then wI .i64 (s.total+n) else 1099511627776
    some ((true,Xaw.mk s.key (Xca.mk row row1 row2 row3 s.rows.m0 s.rows.m1 s.rows.m2 s.rows.m3) t4)))))
def Xr7 (x:Bool×Xaw):XcJ:=⟨.bool x.1,[(vI .i64 x.2.rows.e0),(vI .i64 x.2.rows.e1),(vI .i64 x.2.rows.e2),(vI .i64 x.2.rows.e3)],[some [.int .u64 x.2.key.A,.int .u64 x.2.key.B,.slice (some ⟨5,0,none⟩) 4 1,.int .i64 x.2.total],some [.slice (some ⟨0,0,none⟩) x.2.rows.m0 1,.slice (some ⟨1,0,none⟩) x.2.rows.m1 1,.slice (some ⟨2,0,none⟩) x.2.rows.m2 1,.slice (some ⟨3,0,none⟩) x.2.rows.m3 1],none,none,none,none,none,none,none,none]⟩
abbrev Xe9:=Xaw→(List UInt8)→Int→Option (Bool×Xaw)
def r12v4 (g:Xe9):Dec:=dTr 10 (XbG 0) fun (y0:Xaw)=>dV asS fun (y1:List UInt8)=>dV (asI .i64) fun (y2:Int)=>Xev (ofG (g y0 y1 y2) Xr7)
abbrev Xw1 (Xab:Xak) (Xaa:Xae):List (Nat×XcE):=[(20,s20 Xab),(38,s38 Xaa)]
theorem Xut (Xab:Xak) (Xaa:Xae) (hS:XaB Try.prog (XaI (Xw1 Xab Xaa))) (s:Xaw) (text:List UInt8) (n:Int) (res:Bool×Xaw) (h:XdA Xab Xaa s text n=some res) :
 XaQ Try.prog 12 10 ⟨⟨12,27,[(0,.pointer (some ⟨0,0,none⟩)),(1,.string ⟨⟨text⟩⟩),(2,.int .i64 n)],[.code XhQ],[],false,none⟩,[],[(0,.cells [.int .u64 s.key.A,.int .u64 s.key.B,.slice (some ⟨1,0,none⟩) 4 1,.int .i64 s.total]),(1,.cells [.slice (some ⟨2,0,none⟩) s.rows.m0 1,.slice (some ⟨3,0,none⟩) s.rows.m1 1,.slice (some ⟨4,0,none⟩) s.rows.m2 1,.slice (some ⟨5,0,none⟩) s.rows.m3 1]),(2,.row true (vI .i64 s.rows.e0)),(3,.row true (vI .i64 s.rows.e1)),(4,.row true (vI .i64 s.rows.e2)),(5,.row true (vI .i64 s.rows.e3))],10⟩ (fun v H _=>Res 10 (Xr7 res) v H):=by
 unfold XdA at h
 have R1:=@Xjr Xaa
 have R2:=@Xo2 Xab
 have J:=js [2,3,4,5]
 refine Xa3 XaN hS true 3000 ?_
 conv=>whnf
 exact W
def Xdu (Xab:Xak) (Xaa:Xae) (s:Xav) (text:List UInt8) (n:Int):Option (Bool×Xav):=
 (Xaa.v5 s).bind fun x5=>
 cond (!x5)
  (
  some ((false,s)))
  (
  cond (decide (n<0))
   (
   some ((false,s)))
   (
   cond (decide (n>1048576))
    (
    some ((false,s)))
    (
    (Xab.v5 s 0 text).bind fun x51=>
    XaL (decide ((0:Int)≤x51∧x51<(s.rows.m0:Int))) <|
    (s.rows.e0[x51.toNat]?).bind fun (e:Int)=>
    let t:=if (wI .i64 (e+n))<1099511627776 then wI .i64 (e+n) else 1099511627776
    XaL (decide (x51.toNat<s.rows.e0.length)) <|
    let row:=s.rows.e0.set x51.toNat t
    (Xab.v5 (Xav.mk s.key (XbU.mk row s.rows.e1 s.rows.e2 s.rows.e3 s.rows.e4 s.rows.m0 s.rows.m1 s.rows.m2 s.rows.m3 s.rows.m4) s.total) 1 text).bind fun x52=>
    XaL (decide ((0:Int)≤x52∧x52<(s.rows.m1:Int))) <|
    (s.rows.e1[x52.toNat]?).bind fun (e1:Int)=>
    let t1:=if (wI .i64 (e1+n))<1099511627776 then wI .i64 (e1+n) else 1099511627776
    XaL (decide (x52.toNat<s.rows.e1.length)) <|
    let row1:=s.rows.e1.set x52.toNat t1
    (Xab.v5 (Xav.mk s.key (XbU.mk row row1 s.rows.e2 s.rows.e3 s.rows.e4 s.rows.m0 s.rows.m1 s.rows.m2 s.rows.m3 s.rows.m4) s.total) 2 text).bind fun x53=>
    XaL (decide ((0:Int)≤x53∧x53<(s.rows.m2:Int))) <|
    (s.rows.e2[x53.toNat]?).bind fun (e2:Int)=>
    let t2:=if (wI .i64 (e2+n))<1099511627776 then wI .i64 (e2+n) else 1099511627776
    XaL (decide (x53.toNat<s.rows.e2.length)) <|
    let row2:=s.rows.e2.set x53.toNat t2
    (Xab.v5 (Xav.mk s.key (XbU.mk row row1 row2 s.rows.e3 s.rows.e4 s.rows.m0 s.rows.m1 s.rows.m2 s.rows.m3 s.rows.m4) s.total) 3 text).bind fun x54=>
    XaL (decide ((0:Int)≤x54∧x54<(s.rows.m3:Int))) <|
    (s.rows.e3[x54.toNat]?).bind fun (e3:Int)=>
    let t3:=if (wI .i64 (e3+n))<1099511627776 then wI .i64 (e3+n) else 1099511627776
    XaL (decide (x54.toNat<s.rows.e3.length)) <|
    let row3:=s.rows.e3.set x54.toNat t3
    (Xab.v5 (Xav.mk s.key (XbU.mk row row1 row2 row3 s.rows.e4 s.rows.m0 s.rows.m1 s.rows.m2 s.rows.m3 s.rows.m4) s.total) 4 text).bind fun x55=>
    XaL (decide ((0:Int)≤x55∧x55<(s.rows.m4:Int))) <|
    (s.rows.e4[x55.toNat]?).bind fun (e4:Int)=>
    let t4:=if (wI .i64 (e4+n))<1099511627776 then wI .i64 (e4+n) else 1099511627776
    XaL (decide (x55.toNat<s.rows.e4.length)) <|
    let row4:=s.rows.e4.set x55.toNat t4
    let t5:=if (wI .i64 (s.total+n))<1099511627776 then wI .i64 (s.total+n) else 1099511627776
    some ((true,Xav.mk s.key (XbU.mk row row1 row2 row3 row4 s.rows.m0 s.rows.m1 s.rows.m2 s.rows.m3 s.rows.m4) t5)))))
def XuF (x:Bool×Xav):XcJ:=⟨.bool x.1,[(vI .i64 x.2.rows.e0),(vI .i64 x.2.rows.e1),(vI .i64 x.2.rows.e2),(vI .i64 x.2.rows.e3),(vI .i64 x.2.rows.e4)],[some [.int .u64 x.2.key.A,.int .u64 x.2.key.B,.slice (some ⟨6,0,none⟩) 5 1,.int .i64 x.2.total],some [.slice (some ⟨0,0,none⟩) x.2.rows.m0 1,.slice (some ⟨1,0,none⟩) x.2.rows.m1 1,.slice (some ⟨2,0,none⟩) x.2.rows.m2 1,.slice (some ⟨3,0,none⟩) x.2.rows.m3 1,.slice (some ⟨4,0,none⟩) x.2.rows.m4 1],none,none,none,none,none,none,none,none]⟩
abbrev XeW:=Xav→(List UInt8)→Int→Option (Bool×Xav)
def r12v5 (g:XeW):Dec:=dTr 10 (XbE 0) fun (y0:Xav)=>dV asS fun (y1:List UInt8)=>dV (asI .i64) fun (y2:Int)=>Xev (ofG (g y0 y1 y2) XuF)
abbrev Xw4 (Xab:Xak) (Xaa:Xae):List (Nat×XcE):=[(20,s20 Xab),(38,s38 Xaa)]
theorem XsN (Xab:Xak) (Xaa:Xae) (hS:XaB Try.prog (XaI (Xw4 Xab Xaa))) (s:Xav) (text:List UInt8) (n:Int) (res:Bool×Xav) (h:Xdu Xab Xaa s text n=some res) :
 XaQ Try.prog 12 10 ⟨⟨12,27,[(0,.pointer (some ⟨0,0,none⟩)),(1,.string ⟨⟨text⟩⟩),(2,.int .i64 n)],[.code XhQ],[],false,none⟩,[],[(0,.cells [.int .u64 s.key.A,.int .u64 s.key.B,.slice (some ⟨1,0,none⟩) 5 1,.int .i64 s.total]),(1,.cells [.slice (some ⟨2,0,none⟩) s.rows.m0 1,.slice (some ⟨3,0,none⟩) s.rows.m1 1,.slice (some ⟨4,0,none⟩) s.rows.m2 1,.slice (some ⟨5,0,none⟩) s.rows.m3 1,.slice (some ⟨6,0,none⟩) s.rows.m4 1]),(2,.row true (vI .i64 s.rows.e0)),(3,.row true (vI .i64 s.rows.e1)),(4,.row true (vI .i64 s.rows.e2)),(5,.row true (vI .i64 s.rows.e3)),(6,.row true (vI .i64 s.rows.e4))],10⟩ (fun v H _=>Res 10 (XuF res) v H):=by
 unfold Xdu at h
 have R1:=@XjW Xaa
 have R2:=@Xpd Xab
 have J:=js [2,3,4,5,6]
 refine Xa3 XaN hS true 3000 ?_
 conv=>whnf
 exact W
def Xdy (Xab:Xak) (Xaa:Xae) (s:Xau) (text:List UInt8) (n:Int):Option (Bool×Xau):=
 (Xaa.v6 s).bind fun x6=>
 cond (!x6)
  (
  some ((false,s)))
  (
  cond (decide (n<0))
   (
   some ((false,s)))
   (
   cond (decide (n>1048576))
    (
    some ((false,s)))
    (
    (Xab.v6 s 0 text).bind fun x61=>
    XaL (decide ((0:Int)≤x61∧x61<(s.rows.m0:Int))) <|
    (s.rows.e0[x61.toNat]?).bind fun (e:Int)=>
    let t:=if (wI .i64 (e+n))<1099511627776 then wI .i64 (e+n) else 1099511627776
    XaL (decide (x61.toNat<s.rows.e0.length)) <|
    let row:=s.rows.e0.set x61.toNat t
    (Xab.v6 (Xau.mk s.key (XbN.mk row s.rows.e1 s.rows.e2 s.rows.e3 s.rows.e4 s.rows.e5 s.rows.m0 s.rows.m1 s.rows.m2 s.rows.m3 s.rows.m4 s.rows.m5) s.total) 1 text).bind fun x62=>
    XaL (decide ((0:Int)≤x62∧x62<(s.rows.m1:Int))) <|
    (s.rows.e1[x62.toNat]?).bind fun (e1:Int)=>
    let t1:=if (wI .i64 (e1+n))<1099511627776 then wI .i64 (e1+n) else 1099511627776
    XaL (decide (x62.toNat<s.rows.e1.length)) <|
    let row1:=s.rows.e1.set x62.toNat t1
    (Xab.v6 (Xau.mk s.key (XbN.mk row row1 s.rows.e2 s.rows.e3 s.rows.e4 s.rows.e5 s.rows.m0 s.rows.m1 s.rows.m2 s.rows.m3 s.rows.m4 s.rows.m5) s.total) 2 text).bind fun x63=>
    XaL (decide ((0:Int)≤x63∧x63<(s.rows.m2:Int))) <|
    (s.rows.e2[x63.toNat]?).bind fun (e2:Int)=>
    let t2:=if (wI .i64 (e2+n))<1099511627776 then wI .i64 (e2+n) else 1099511627776
    XaL (decide (x63.toNat<s.rows.e2.length)) <|
    let row2:=s.rows.e2.set x63.toNat t2
    (Xab.v6 (Xau.mk s.key (XbN.mk row row1 row2 s.rows.e3 s.rows.e4 s.rows.e5 s.rows.m0 s.rows.m1 s.rows.m2 s.rows.m3 s.rows.m4 s.rows.m5) s.total) 3 text).bind fun x64=>
    XaL (decide ((0:Int)≤x64∧x64<(s.rows.m3:Int))) <|
    (s.rows.e3[x64.toNat]?).bind fun (e3:Int)=>
    let t3:=if (wI .i64 (e3+n))<1099511627776 then wI .i64 (e3+n) else 1099511627776
    XaL (decide (x64.toNat<s.rows.e3.length)) <|
    let row3:=s.rows.e3.set x64.toNat t3
    (Xab.v6 (Xau.mk s.key (XbN.mk row row1 row2 row3 s.rows.e4 s.rows.e5 s.rows.m0 s.rows.m1 s.rows.m2 s.rows.m3 s.rows.m4 s.rows.m5) s.total) 4 text).bind fun x65=>
    XaL (decide ((0:Int)≤x65∧x65<(s.rows.m4:Int))) <|
    (s.rows.e4[x65.toNat]?).bind fun (e4:Int)=>
    let t4:=if (wI .i64 (e4+n))<1099511627776 then wI .i64 (e4+n) else 1099511627776
    XaL (decide (x65.toNat<s.rows.e4.length)) <|
    let row4:=s.rows.e4.set x65.toNat t4
    (Xab.v6 (Xau.mk s.key (XbN.mk row row1 row2 row3 row4 s.rows.e5 s.rows.m0 s.rows.m1 s.rows.m2 s.rows.m3 s.rows.m4 s.rows.m5) s.total) 5 text).bind fun x66=>
    XaL (decide ((0:Int)≤x66∧x66<(s.rows.m5:Int))) <|
    (s.rows.e5[x66.toNat]?).bind fun (e5:Int)=>
    let t5:=if (wI .i64 (e5+n))<1099511627776 then wI .i64 (e5+n) else 1099511627776
    XaL (decide (x66.toNat<s.rows.e5.length)) <|
    let row5:=s.rows.e5.set x66.toNat t5
    let t6:=if (wI .i64 (s.total+n))<1099511627776 then wI .i64 (s.total+n) else 1099511627776
    some ((true,Xau.mk s.key (XbN.mk row row1 row2 row3 row4 row5 s.rows.m0 s.rows.m1 s.rows.m2 s.rows.m3 s.rows.m4 s.rows.m5) t6)))))
def Xuy (x:Bool×Xau):XcJ:=⟨.bool x.1,[(vI .i64 x.2.rows.e0),(vI .i64 x.2.rows.e1),(vI .i64 x.2.rows.e2),(vI .i64 x.2.rows.e3),(vI .i64 x.2.rows.e4),(vI .i64 x.2.rows.e5)],[some [.int .u64 x.2.key.A,.int .u64 x.2.key.B,.slice (some ⟨7,0,none⟩) 6 1,.int .i64 x.2.total],some [.slice (some ⟨0,0,none⟩) x.2.rows.m0 1,.slice (some ⟨1,0,none⟩) x.2.rows.m1 1,.slice (some ⟨2,0,none⟩) x.2.rows.m2 1,.slice (some ⟨3,0,none⟩) x.2.rows.m3 1,.slice (some ⟨4,0,none⟩) x.2.rows.m4 1,.slice (some ⟨5,0,none⟩) x.2.rows.m5 1],none,none,none,none,none,none,none,none]⟩
abbrev XeE:=Xau→(List UInt8)→Int→Option (Bool×Xau)
def r12v6 (g:XeE):Dec:=dTr 10 (XbI 0) fun (y0:Xau)=>dV asS fun (y1:List UInt8)=>dV (asI .i64) fun (y2:Int)=>Xev (ofG (g y0 y1 y2) Xuy)
abbrev XvA (Xab:Xak) (Xaa:Xae):List (Nat×XcE):=[(20,s20 Xab),(38,s38 Xaa)]
theorem Xt3 (Xab:Xak) (Xaa:Xae) (hS:XaB Try.prog (XaI (XvA Xab Xaa))) (s:Xau) (text:List UInt8) (n:Int) (res:Bool×Xau) (h:Xdy Xab Xaa s text n=some res) :
 XaQ Try.prog 12 10 ⟨⟨12,27,[(0,.pointer (some ⟨0,0,none⟩)),(1,.string ⟨⟨text⟩⟩),(2,.int .i64 n)],[.code XhQ],[],false,none⟩,[],[(0,.cells [.int .u64 s.key.A,.int .u64 s.key.B,.slice (some ⟨1,0,none⟩) 6 1,.int .i64 s.total]),(1,.cells [.slice (some ⟨2,0,none⟩) s.rows.m0 1,.slice (some ⟨3,0,none⟩) s.rows.m1 1,.slice (some ⟨4,0,none⟩) s.rows.m2 1,.slice (some ⟨5,0,none⟩) s.rows.m3 1,.slice (some ⟨6,0,none⟩) s.rows.m4 1,.slice (some ⟨7,0,none⟩) s.rows.m5 1]),(2,.row true (vI .i64 s.rows.e0)),(3,.row true (vI .i64 s.rows.e1)),(4,.row true (vI .i64 s.rows.e2)),(5,.row true (vI .i64 s.rows.e3)),(6,.row true (vI .i64 s.rows.e4)),(7,.row true (vI .i64 s.rows.e5))],10⟩ (fun v H _=>Res 10 (Xuy res) v H):=by
 unfold Xdy at h
 have R1:=@XjL Xaa
 have R2:=@Xpf Xab
 have J:=js [2,3,4,5,6,7]
 refine Xa3 XaN hS true 3000 ?_
 conv=>whnf
 exact W
def Xdw (Xab:Xak) (Xaa:Xae) (s:Xat) (text:List UInt8) (n:Int):Option (Bool×Xat):=
 (Xaa.v7 s).bind fun x7=>
 cond (!x7)
  (
  some ((false,s)))
  (
  cond (decide (n<0))
   (
   some ((false,s)))
   (
   cond (decide (n>1048576))
    (
    some ((false,s)))
    (
    (Xab.v7 s 0 text).bind fun x71=>
    XaL (decide ((0:Int)≤x71∧x71<(s.rows.m0:Int))) <|
    (s.rows.e0[x71.toNat]?).bind fun (e:Int)=>
    let t:=if (wI .i64 (e+n))<1099511627776 then wI .i64 (e+n) else 1099511627776
    XaL (decide (x71.toNat<s.rows.e0.length)) <|
    let row:=s.rows.e0.set x71.toNat t
    (Xab.v7 (Xat.mk s.key (Xbv.mk row s.rows.e1 s.rows.e2 s.rows.e3 s.rows.e4 s.rows.e5 s.rows.e6 s.rows.m0 s.rows.m1 s.rows.m2 s.rows.m3 s.rows.m4 s.rows.m5 s.rows.m6) s.total) 1 text).bind fun x72=>
    XaL (decide ((0:Int)≤x72∧x72<(s.rows.m1:Int))) <|
    (s.rows.e1[x72.toNat]?).bind fun (e1:Int)=>
    let t1:=if (wI .i64 (e1+n))<1099511627776 then wI .i64 (e1+n) else 1099511627776
    XaL (decide (x72.toNat<s.rows.e1.length)) <|
    let row1:=s.rows.e1.set x72.toNat t1
    (Xab.v7 (Xat.mk s.key (Xbv.mk row row1 s.rows.e2 s.rows.e3 s.rows.e4 s.rows.e5 s.rows.e6 s.rows.m0 s.rows.m1 s.rows.m2 s.rows.m3 s.rows.m4 s.rows.m5 s.rows.m6) s.total) 2 text).bind fun x73=>
    XaL (decide ((0:Int)≤x73∧x73<(s.rows.m2:Int))) <|
    (s.rows.e2[x73.toNat]?).bind fun (e2:Int)=>
    let t2:=if (wI .i64 (e2+n))<1099511627776 then wI .i64 (e2+n) else 1099511627776
    XaL (decide (x73.toNat<s.rows.e2.length)) <|
    let row2:=s.rows.e2.set x73.toNat t2
    (Xab.v7 (Xat.mk s.key (Xbv.mk row row1 row2 s.rows.e3 s.rows.e4 s.rows.e5 s.rows.e6 s.rows.m0 s.rows.m1 s.rows.m2 s.rows.m3 s.rows.m4 s.rows.m5 s.rows.m6) s.total) 3 text).bind fun x74=>
    XaL (decide ((0:Int)≤x74∧x74<(s.rows.m3:Int))) <|
    (s.rows.e3[x74.toNat]?).bind fun (e3:Int)=>
    let t3:=if (wI .i64 (e3+n))<1099511627776 then wI .i64 (e3+n) else 1099511627776
    XaL (decide (x74.toNat<s.rows.e3.length)) <|
    let row3:=s.rows.e3.set x74.toNat t3
    (Xab.v7 (Xat.mk s.key (Xbv.mk row row1 row2 row3 s.rows.e4 s.rows.e5 s.rows.e6 s.rows.m0 s.rows.m1 s.rows.m2 s.rows.m3 s.rows.m4 s.rows.m5 s.rows.m6) s.total) 4 text).bind fun x75=>
    XaL (decide ((0:Int)≤x75∧x75<(s.rows.m4:Int))) <|
    (s.rows.e4[x75.toNat]?).bind fun (e4:Int)=>
    let t4:=if (wI .i64 (e4+n))<1099511627776 then wI .i64 (e4+n) else 1099511627776
    XaL (decide (x75.toNat<s.rows.e4.length)) <|
    let row4:=s.rows.e4.set x75.toNat t4
    (Xab.v7 (Xat.mk s.key (Xbv.mk row row1 row2 row3 row4 s.rows.e5 s.rows.e6 s.rows.m0 s.rows.m1 s.rows.m2 s.rows.m3 s.rows.m4 s.rows.m5 s.rows.m6) s.total) 5 text).bind fun x76=>
    XaL (decide ((0:Int)≤x76∧x76<(s.rows.m5:Int))) <|
    (s.rows.e5[x76.toNat]?).bind fun (e5:Int)=>
    let t5:=if (wI .i64 (e5+n))<1099511627776 then wI .i64 (e5+n) else 1099511627776
    XaL (decide (x76.toNat<s.rows.e5.length)) <|
    let row5:=s.rows.e5.set x76.toNat t5
    (Xab.v7 (Xat.mk s.key (Xbv.mk row row1 row2 row3 row4 row5 s.rows.e6 s.rows.m0 s.rows.m1 s.rows.m2 s.rows.m3 s.rows.m4 s.rows.m5 s.rows.m6) s.total) 6 text).bind fun x77=>
    XaL (decide ((0:Int)≤x77∧x77<(s.rows.m6:Int))) <|
    (s.rows.e6[x77.toNat]?).bind fun (e6:Int)=>
    let t6:=if (wI .i64 (e6+n))<1099511627776 then wI .i64 (e6+n) else 1099511627776
    XaL (decide (x77.toNat<s.rows.e6.length)) <|
    let row6:=s.rows.e6.set x77.toNat t6
    let t7:=if (wI .i64 (s.total+n))<1099511627776 then wI .i64 (s.total+n) else 1099511627776
    some ((true,Xat.mk s.key (Xbv.mk row row1 row2 row3 row4 row5 row6 s.rows.m0 s.rows.m1 s.rows.m2 s.rows.m3 s.rows.m4 s.rows.m5 s.rows.m6) t7)))))
def XsY (x:Bool×Xat):XcJ:=⟨.bool x.1,[(vI .i64 x.2.rows.e0),(vI .i64 x.2.rows.e1),(vI .i64 x.2.rows.e2),(vI .i64 x.2.rows.e3),(vI .i64 x.2.rows.e4),(vI .i64 x.2.rows.e5),(vI .i64 x.2.rows.e6)],[some [.int .u64 x.2.key.A,.int .u64 x.2.key.B,.slice (some ⟨8,0,none⟩) 7 1,.int .i64 x.2.total],some [.slice (some ⟨0,0,none⟩) x.2.rows.m0 1,.slice (some ⟨1,0,none⟩) x.2.rows.m1 1,.slice (some ⟨2,0,none⟩) x.2.rows.m2 1,.slice (some ⟨3,0,none⟩) x.2.rows.m3 1,.slice (some ⟨4,0,none⟩) x.2.rows.m4 1,.slice (some ⟨5,0,none⟩) x.2.rows.m5 1,.slice (some ⟨6,0,none⟩) x.2.rows.m6 1],none,none,none,none,none,none,none,none]⟩
abbrev Xe5:=Xat→(List UInt8)→Int→Option (Bool×Xat)
def r12v7 (g:Xe5):Dec:=dTr 10 (XbM 0) fun (y0:Xat)=>dV asS fun (y1:List UInt8)=>dV (asI .i64) fun (y2:Int)=>Xev (ofG (g y0 y1 y2) XsY)
abbrev Xwu (Xab:Xak) (Xaa:Xae):List (Nat×XcE):=[(20,s20 Xab),(38,s38 Xaa)]
theorem XtJ (Xab:Xak) (Xaa:Xae) (hS:XaB Try.prog (XaI (Xwu Xab Xaa))) (s:Xat) (text:List UInt8) (n:Int) (res:Bool×Xat) (h:Xdw Xab Xaa s text n=some res) :
 XaQ Try.prog 12 10 ⟨⟨12,27,[(0,.pointer (some ⟨0,0,none⟩)),(1,.string ⟨⟨text⟩⟩),(2,.int .i64 n)],[.code XhQ],[],false,none⟩,[],[(0,.cells [.int .u64 s.key.A,.int .u64 s.key.B,.slice (some ⟨1,0,none⟩) 7 1,.int .i64 s.total]),(1,.cells [.slice (some ⟨2,0,none⟩) s.rows.m0 1,.slice (some ⟨3,0,none⟩) s.rows.m1 1,.slice (some ⟨4,0,none⟩) s.rows.m2 1,.slice (some ⟨5,0,none⟩) s.rows.m3 1,.slice (some ⟨6,0,none⟩) s.rows.m4 1,.slice (some ⟨7,0,none⟩) s.rows.m5 1,.slice (some ⟨8,0,none⟩) s.rows.m6 1]),(2,.row true (vI .i64 s.rows.e0)),(3,.row true (vI .i64 s.rows.e1)),(4,.row true (vI .i64 s.rows.e2)),(5,.row true (vI .i64 s.rows.e3)),(6,.row true (vI .i64 s.rows.e4)),(7,.row true (vI .i64 s.rows.e5)),(8,.row true (vI .i64 s.rows.e6))],10⟩ (fun v H _=>Res 10 (XsY res) v H):=by
 unfold Xdw at h
 have R1:=@Xju Xaa
 have R2:=@Xpv Xab
 have J:=js [2,3,4,5,6,7,8]
 refine Xa3 XaN hS true 3000 ?_
 conv=>whnf
 exact W
def XdC (Xab:Xak) (Xaa:Xae) (s:Xas) (text:List UInt8) (n:Int):Option (Bool×Xas):=
 (Xaa.v8 s).bind fun x8=>
 cond (!x8)
  (
  some ((false,s)))
  (
  cond (decide (n<0))
   (
   some ((false,s)))
   (
   cond (decide (n>1048576))
    (
    some ((false,s)))
    (
    (Xab.v8 s 0 text).bind fun x81=>
    XaL (decide ((0:Int)≤x81∧x81<(s.rows.m0:Int))) <|
    (s.rows.e0[x81.toNat]?).bind fun (e:Int)=>
    let t:=if (wI .i64 (e+n))<1099511627776 then wI .i64 (e+n) else 1099511627776
    XaL (decide (x81.toNat<s.rows.e0.length)) <|
    let row:=s.rows.e0.set x81.toNat t
    (Xab.v8 (Xas.mk s.key (Xbj.mk row s.rows.e1 s.rows.e2 s.rows.e3 s.rows.e4 s.rows.e5 s.rows.e6 s.rows.e7 s.rows.m0 s.rows.m1 s.rows.m2 s.rows.m3 s.rows.m4 s.rows.m5 s.rows.m6 s.rows.m7) s.total) 1 text).bind fun x82=>
    XaL (decide ((0:Int)≤x82∧x82<(s.rows.m1:Int))) <|
    (s.rows.e1[x82.toNat]?).bind fun (e1:Int)=>
    let t1:=if (wI .i64 (e1+n))<1099511627776 then wI .i64 (e1+n) else 1099511627776
    XaL (decide (x82.toNat<s.rows.e1.length)) <|
    let row1:=s.rows.e1.set x82.toNat t1
    (Xab.v8 (Xas.mk s.key (Xbj.mk row row1 s.rows.e2 s.rows.e3 s.rows.e4 s.rows.e5 s.rows.e6 s.rows.e7 s.rows.m0 s.rows.m1 s.rows.m2 s.rows.m3 s.rows.m4 s.rows.m5 s.rows.m6 s.rows.m7) s.total) 2 text).bind fun x83=>
    XaL (decide ((0:Int)≤x83∧x83<(s.rows.m2:Int))) <|
    (s.rows.e2[x83.toNat]?).bind fun (e2:Int)=>
    let t2:=if (wI .i64 (e2+n))<1099511627776 then wI .i64 (e2+n) else 1099511627776
    XaL (decide (x83.toNat<s.rows.e2.length)) <|
    let row2:=s.rows.e2.set x83.toNat t2
    (Xab.v8 (Xas.mk s.key (Xbj.mk row row1 row2 s.rows.e3 s.rows.e4 s.rows.e5 s.rows.e6 s.rows.e7 s.rows.m0 s.rows.m1 s.rows.m2 s.rows.m3 s.rows.m4 s.rows.m5 s.rows.m6 s.rows.m7) s.total) 3 text).bind fun x84=>
    XaL (decide ((0:Int)≤x84∧x84<(s.rows.m3:Int))) <|
    (s.rows.e3[x84.toNat]?).bind fun (e3:Int)=>
    let t3:=if (wI .i64 (e3+n))<1099511627776 then wI .i64 (e3+n) else 1099511627776
    XaL (decide (x84.toNat<s.rows.e3.length)) <|
    let row3:=s.rows.e3.set x84.toNat t3
    (Xab.v8 (Xas.mk s.key (Xbj.mk row row1 row2 row3 s.rows.e4 s.rows.e5 s.rows.e6 s.rows.e7 s.rows.m0 s.rows.m1 s.rows.m2 s.rows.m3 s.rows.m4 s.rows.m5 s.rows.m6 s.rows.m7) s.total) 4 text).bind fun x85=>
    XaL (decide ((0:Int)≤x85∧x85<(s.rows.m4:Int))) <|
    (s.rows.e4[x85.toNat]?).bind fun (e4:Int)=>
    let t4:=if (wI .i64 (e4+n))<1099511627776 then wI .i64 (e4+n) else 1099511627776
    XaL (decide (x85.toNat<s.rows.e4.length)) <|
    let row4:=s.rows.e4.set x85.toNat t4
    (Xab.v8 (Xas.mk s.key (Xbj.mk row row1 row2 row3 row4 s.rows.e5 s.rows.e6 s.rows.e7 s.rows.m0 s.rows.m1 s.rows.m2 s.rows.m3 s.rows.m4 s.rows.m5 s.rows.m6 s.rows.m7) s.total) 5 text).bind fun x86=>
    XaL (decide ((0:Int)≤x86∧x86<(s.rows.m5:Int))) <|
    (s.rows.e5[x86.toNat]?).bind fun (e5:Int)=>
    let t5:=if (wI .i64 (e5+n))<1099511627776 then wI .i64 (e5+n) else 1099511627776
    XaL (decide (x86.toNat<s.rows.e5.length)) <|
    let row5:=s.rows.e5.set x86.toNat t5
    (Xab.v8 (Xas.mk s.key (Xbj.mk row row1 row2 row3 row4 row5 s.rows.e6 s.rows.e7 s.rows.m0 s.rows.m1 s.rows.m2 s.rows.m3 s.rows.m4 s.rows.m5 s.rows.m6 s.rows.m7) s.total) 6 text).bind fun x87=>
    XaL (decide ((0:Int)≤x87∧x87<(s.rows.m6:Int))) <|
    (s.rows.e6[x87.toNat]?).bind fun (e6:Int)=>
    let t6:=if (wI .i64 (e6+n))<1099511627776 then wI .i64 (e6+n) else 1099511627776
    XaL (decide (x87.toNat<s.rows.e6.length)) <|
    let row6:=s.rows.e6.set x87.toNat t6
    (Xab.v8 (Xas.mk s.key (Xbj.mk row row1 row2 row3 row4 row5 row6 s.rows.e7 s.rows.m0 s.rows.m1 s.rows.m2 s.rows.m3 s.rows.m4 s.rows.m5 s.rows.m6 s.rows.m7) s.total) 7 text).bind fun x88=>
    XaL (decide ((0:Int)≤x88∧x88<(s.rows.m7:Int))) <|
    (s.rows.e7[x88.toNat]?).bind fun (e7:Int)=>
    let t7:=if (wI .i64 (e7+n))<1099511627776 then wI .i64 (e7+n) else 1099511627776
    XaL (decide (x88.toNat<s.rows.e7.length)) <|
    let row7:=s.rows.e7.set x88.toNat t7
    let t8:=if (wI .i64 (s.total+n))<1099511627776 then wI .i64 (s.total+n) else 1099511627776
    some ((true,Xas.mk s.key (Xbj.mk row row1 row2 row3 row4 row5 row6 row7 s.rows.m0 s.rows.m1 s.rows.m2 s.rows.m3 s.rows.m4 s.rows.m5 s.rows.m6 s.rows.m7) t8)))))
def Xt2 (x:Bool×Xas):XcJ:=⟨.bool x.1,[(vI .i64 x.2.rows.e0),(vI .i64 x.2.rows.e1),(vI .i64 x.2.rows.e2),(vI .i64 x.2.rows.e3),(vI .i64 x.2.rows.e4),(vI .i64 x.2.rows.e5),(vI .i64 x.2.rows.e6),(vI .i64 x.2.rows.e7)],[some [.int .u64 x.2.key.A,.int .u64 x.2.key.B,.slice (some ⟨9,0,none⟩) 8 1,.int .i64 x.2.total],some [.slice (some ⟨0,0,none⟩) x.2.rows.m0 1,.slice (some ⟨1,0,none⟩) x.2.rows.m1 1,.slice (some ⟨2,0,none⟩) x.2.rows.m2 1,.slice (some ⟨3,0,none⟩) x.2.rows.m3 1,.slice (some ⟨4,0,none⟩) x.2.rows.m4 1,.slice (some ⟨5,0,none⟩) x.2.rows.m5 1,.slice (some ⟨6,0,none⟩) x.2.rows.m6 1,.slice (some ⟨7,0,none⟩) x.2.rows.m7 1],none,none,none,none,none,none,none,none]⟩
abbrev XeX:=Xas→(List UInt8)→Int→Option (Bool×Xas)
def r12v8 (g:XeX):Dec:=dTr 10 (XbH 0) fun (y0:Xas)=>dV asS fun (y1:List UInt8)=>dV (asI .i64) fun (y2:Int)=>Xev (ofG (g y0 y1 y2) Xt2)
abbrev Xwx (Xab:Xak) (Xaa:Xae):List (Nat×XcE):=[(20,s20 Xab),(38,s38 Xaa)]
theorem XtV (Xab:Xak) (Xaa:Xae) (hS:XaB Try.prog (XaI (Xwx Xab Xaa))) (s:Xas) (text:List UInt8) (n:Int) (res:Bool×Xas) (h:XdC Xab Xaa s text n=some res) :
 XaQ Try.prog 12 10 ⟨⟨12,27,[(0,.pointer (some ⟨0,0,none⟩)),(1,.string ⟨⟨text⟩⟩),(2,.int .i64 n)],[.code XhQ],[],false,none⟩,[],[(0,.cells [.int .u64 s.key.A,.int .u64 s.key.B,.slice (some ⟨1,0,none⟩) 8 1,.int .i64 s.total]),(1,.cells [.slice (some ⟨2,0,none⟩) s.rows.m0 1,.slice (some ⟨3,0,none⟩) s.rows.m1 1,.slice (some ⟨4,0,none⟩) s.rows.m2 1,.slice (some ⟨5,0,none⟩) s.rows.m3 1,.slice (some ⟨6,0,none⟩) s.rows.m4 1,.slice (some ⟨7,0,none⟩) s.rows.m5 1,.slice (some ⟨8,0,none⟩) s.rows.m6 1,.slice (some ⟨9,0,none⟩) s.rows.m7 1]),(2,.row true (vI .i64 s.rows.e0)),(3,.row true (vI .i64 s.rows.e1)),(4,.row true (vI .i64 s.rows.e2)),(5,.row true (vI .i64 s.rows.e3)),(6,.row true (vI .i64 s.rows.e4)),(7,.row true (vI .i64 s.rows.e5)),(8,.row true (vI .i64 s.rows.e6)),(9,.row true (vI .i64 s.rows.e7))],10⟩ (fun v H _=>Res 10 (Xt2 res) v H):=by
 unfold XdC at h
 have R1:=@XjB Xaa
 have R2:=@XpX Xab
 have J:=js [2,3,4,5,6,7,8,9]
 refine Xa3 XaN hS true 3000 ?_
 conv=>whnf
 exact W
structure Xam where
 vn:XeY
 v0:XeL
 v1:XeJ
 v2:Xfd
 v3:Xe4
 v4:Xe9
 v5:XeW
 v6:XeE
 v7:Xe5
 v8:XeX
def s12 (g:Xam):XcE:=⟨[.tr [⟨none,0,0,1,none⟩,⟨some 0,2,0,1,none⟩,⟨some 1,0,0,2,none⟩,⟨some 1,1,0,2,none⟩,⟨some 1,2,0,2,none⟩,⟨some 1,3,0,2,none⟩,⟨some 1,4,0,2,none⟩,⟨some 1,5,0,2,none⟩,⟨some 1,6,0,2,none⟩,⟨some 1,7,0,2,none⟩],.v,.v],orD (r12vn g.vn) (orD (r12v0 g.v0) (orD (r12v1 g.v1) (orD (r12v2 g.v2) (orD (r12v3 g.v3) (orD (r12v4 g.v4) (orD (r12v5 g.v5) (orD (r12v6 g.v6) (orD (r12v7 g.v7) (r12v8 g.v8)))))))))⟩
theorem XpR {g:Xam} {y1:List UInt8} {y2:Int} {x:Bool} (hx:g.vn y1 y2=some x):(s12 g).run [.pointer none,.string ⟨⟨y1⟩⟩,.int .i64 y2] [none,none,none,none,none,none,none,none,none,none]=some (Xth x):=by dsimp only [s12];exact (Xdt ((XpM).trans ((Xcd (Xf7)).trans ((Xcd (XfX _)).trans (Xbe hx)))))
theorem XpE {g:Xam} {y0:Xar} {y1:List UInt8} {y2:Int} {x:Bool×Xar} (hx:g.v0 y0 y1 y2=some x):(s12 g).run [.pointer (some ⟨0,0,none⟩),.string ⟨⟨y1⟩⟩,.int .i64 y2] [some [.int .u64 y0.key.A,.int .u64 y0.key.B,.slice none 0 0,.int .i64 y0.total],none,none,none,none,none,none,none,none,none]=some (XpK x):=by dsimp only [s12];exact (XaJ rfl (Xdt ((XbZ rfl rfl (Xdj 0 _)).trans ((Xcd (Xf7)).trans ((Xcd (XfX _)).trans (Xbe hx))))))
theorem XvL {g:Xam} {y0:XaA} {y1:List UInt8} {y2:Int} {x:Bool×XaA} (hx:g.v1 y0 y1 y2=some x):(s12 g).run [.pointer (some ⟨0,0,none⟩),.string ⟨⟨y1⟩⟩,.int .i64 y2] [some [.int .u64 y0.key.A,.int .u64 y0.key.B,.slice (some ⟨1,0,none⟩) 1 1,.int .i64 y0.total],some [.slice (some ⟨2,0,none⟩) y0.rows.m0 1],some (vI .i64 y0.rows.e0),none,none,none,none,none,none,none]=some (XsH x):=by dsimp only [s12];exact (XaJ rfl (XaJ rfl (Xdt ((XbZ rfl rfl (Xdi 0 _)).trans ((Xcd (Xf7)).trans ((Xcd (XfX _)).trans (Xbe hx)))))))
theorem XkN {g:Xam} {y0:Xaz} {y1:List UInt8} {y2:Int} {x:Bool×Xaz} (hx:g.v2 y0 y1 y2=some x):(s12 g).run [.pointer (some ⟨0,0,none⟩),.string ⟨⟨y1⟩⟩,.int .i64 y2] [some [.int .u64 y0.key.A,.int .u64 y0.key.B,.slice (some ⟨1,0,none⟩) 2 1,.int .i64 y0.total],some [.slice (some ⟨2,0,none⟩) y0.rows.m0 1,.slice (some ⟨3,0,none⟩) y0.rows.m1 1],some (vI .i64 y0.rows.e0),some (vI .i64 y0.rows.e1),none,none,none,none,none,none]=some (XtF x):=by dsimp only [s12];exact (XaJ rfl (XaJ rfl (XaJ rfl (Xdt ((XbZ rfl rfl (Xdn 0 _)).trans ((Xcd (Xf7)).trans ((Xcd (XfX _)).trans (Xbe hx))))))))
theorem XvJ {g:Xam} {y0:Xay} {y1:List UInt8} {y2:Int} {x:Bool×Xay} (hx:g.v3 y0 y1 y2=some x):(s12 g).run [.pointer (some ⟨0,0,none⟩),.string ⟨⟨y1⟩⟩,.int .i64 y2] [some [.int .u64 y0.key.A,.int .u64 y0.key.B,.slice (some ⟨1,0,none⟩) 3 1,.int .i64 y0.total],some [.slice (some ⟨2,0,none⟩) y0.rows.m0 1,.slice (some ⟨3,0,none⟩) y0.rows.m1 1,.slice (some ⟨4,0,none⟩) y0.rows.m2 1],some (vI .i64 y0.rows.e0),some (vI .i64 y0.rows.e1),some (vI .i64 y0.rows.e2),none,none,none,none,none]=some (XrF x):=by dsimp only [s12];exact (XaJ rfl (XaJ rfl (XaJ rfl (XaJ rfl (Xdt ((XbZ rfl rfl (Xdh 0 _)).trans ((Xcd (Xf7)).trans ((Xcd (XfX _)).trans (Xbe hx)))))))))
theorem Xv1 {g:Xam} {y0:Xaw} {y1:List UInt8} {y2:Int} {x:Bool×Xaw} (hx:g.v4 y0 y1 y2=some x):(s12 g).run [.pointer (some ⟨0,0,none⟩),.string ⟨⟨y1⟩⟩,.int .i64 y2] [some [.int .u64 y0.key.A,.int .u64 y0.key.B,.slice (some ⟨1,0,none⟩) 4 1,.int .i64 y0.total],some [.slice (some ⟨2,0,none⟩) y0.rows.m0 1,.slice (some ⟨3,0,none⟩) y0.rows.m1 1,.slice (some ⟨4,0,none⟩) y0.rows.m2 1,.slice (some ⟨5,0,none⟩) y0.rows.m3 1],some (vI .i64 y0.rows.e0),some (vI .i64 y0.rows.e1),some (vI .i64 y0.rows.e2),some (vI .i64 y0.rows.e3),none,none,none,none]=some (Xr7 x):=by dsimp only [s12];exact (XaJ rfl (XaJ rfl (XaJ rfl (XaJ rfl (XaJ rfl (Xdt ((XbZ rfl rfl (Xdg 0 _)).trans ((Xcd (Xf7)).trans ((Xcd (XfX _)).trans (Xbe hx))))))))))
theorem Xvv {g:Xam} {y0:Xav} {y1:List UInt8} {y2:Int} {x:Bool×Xav} (hx:g.v5 y0 y1 y2=some x):(s12 g).run [.pointer (some ⟨0,0,none⟩),.string ⟨⟨y1⟩⟩,.int .i64 y2] [some [.int .u64 y0.key.A,.int .u64 y0.key.B,.slice (some ⟨1,0,none⟩) 5 1,.int .i64 y0.total],some [.slice (some ⟨2,0,none⟩) y0.rows.m0 1,.slice (some ⟨3,0,none⟩) y0.rows.m1 1,.slice (some ⟨4,0,none⟩) y0.rows.m2 1,.slice (some ⟨5,0,none⟩) y0.rows.m3 1,.slice (some ⟨6,0,none⟩) y0.rows.m4 1],some (vI .i64 y0.rows.e0),some (vI .i64 y0.rows.e1),some (vI .i64 y0.rows.e2),some (vI .i64 y0.rows.e3),some (vI .i64 y0.rows.e4),none,none,none]=some (XuF x):=by dsimp only [s12];exact (XaJ rfl (XaJ rfl (XaJ rfl (XaJ rfl (XaJ rfl (XaJ rfl (Xdt ((XbZ rfl rfl (Xdl 0 _)).trans ((Xcd (Xf7)).trans ((Xcd (XfX _)).trans (Xbe hx)))))))))))
theorem XwO {g:Xam} {y0:Xau} {y1:List UInt8} {y2:Int} {x:Bool×Xau} (hx:g.v6 y0 y1 y2=some x):(s12 g).run [.pointer (some ⟨0,0,none⟩),.string ⟨⟨y1⟩⟩,.int .i64 y2] [some [.int .u64 y0.key.A,.int .u64 y0.key.B,.slice (some ⟨1,0,none⟩) 6 1,.int .i64 y0.total],some [.slice (some ⟨2,0,none⟩) y0.rows.m0 1,.slice (some ⟨3,0,none⟩) y0.rows.m1 1,.slice (some ⟨4,0,none⟩) y0.rows.m2 1,.slice (some ⟨5,0,none⟩) y0.rows.m3 1,.slice (some ⟨6,0,none⟩) y0.rows.m4 1,.slice (some ⟨7,0,none⟩) y0.rows.m5 1],some (vI .i64 y0.rows.e0),some (vI .i64 y0.rows.e1),some (vI .i64 y0.rows.e2),some (vI .i64 y0.rows.e3),some (vI .i64 y0.rows.e4),some (vI .i64 y0.rows.e5),none,none]=some (Xuy x):=by dsimp only [s12];exact (XaJ rfl (XaJ rfl (XaJ rfl (XaJ rfl (XaJ rfl (XaJ rfl (XaJ rfl (Xdt ((XbZ rfl rfl (Xdk 0 _)).trans ((Xcd (Xf7)).trans ((Xcd (XfX _)).trans (Xbe hx))))))))))))
theorem XwY {g:Xam} {y0:Xat} {y1:List UInt8} {y2:Int} {x:Bool×Xat} (hx:g.v7 y0 y1 y2=some x):(s12 g).run [.pointer (some ⟨0,0,none⟩),.string ⟨⟨y1⟩⟩,.int .i64 y2] [some [.int .u64 y0.key.A,.int .u64 y0.key.B,.slice (some ⟨1,0,none⟩) 7 1,.int .i64 y0.total],some [.slice (some ⟨2,0,none⟩) y0.rows.m0 1,.slice (some ⟨3,0,none⟩) y0.rows.m1 1,.slice (some ⟨4,0,none⟩) y0.rows.m2 1,.slice (some ⟨5,0,none⟩) y0.rows.m3 1,.slice (some ⟨6,0,none⟩) y0.rows.m4 1,.slice (some ⟨7,0,none⟩) y0.rows.m5 1,.slice (some ⟨8,0,none⟩) y0.rows.m6 1],some (vI .i64 y0.rows.e0),some (vI .i64 y0.rows.e1),some (vI .i64 y0.rows.e2),some (vI .i64 y0.rows.e3),some (vI .i64 y0.rows.e4),some (vI .i64 y0.rows.e5),some (vI .i64 y0.rows.e6),none]=some (XsY x):=by dsimp only [s12];exact (XaJ rfl (XaJ rfl (XaJ rfl (XaJ rfl (XaJ rfl (XaJ rfl (XaJ rfl (XaJ rfl (Xdt ((XbZ rfl rfl (Xds 0 _)).trans ((Xcd (Xf7)).trans ((Xcd (XfX _)).trans (Xbe hx)))))))))))))
theorem Xxk {g:Xam} {y0:Xas} {y1:List UInt8} {y2:Int} {x:Bool×Xas} (hx:g.v8 y0 y1 y2=some x):(s12 g).run [.pointer (some ⟨0,0,none⟩),.string ⟨⟨y1⟩⟩,.int .i64 y2] [some [.int .u64 y0.key.A,.int .u64 y0.key.B,.slice (some ⟨1,0,none⟩) 8 1,.int .i64 y0.total],some [.slice (some ⟨2,0,none⟩) y0.rows.m0 1,.slice (some ⟨3,0,none⟩) y0.rows.m1 1,.slice (some ⟨4,0,none⟩) y0.rows.m2 1,.slice (some ⟨5,0,none⟩) y0.rows.m3 1,.slice (some ⟨6,0,none⟩) y0.rows.m4 1,.slice (some ⟨7,0,none⟩) y0.rows.m5 1,.slice (some ⟨8,0,none⟩) y0.rows.m6 1,.slice (some ⟨9,0,none⟩) y0.rows.m7 1],some (vI .i64 y0.rows.e0),some (vI .i64 y0.rows.e1),some (vI .i64 y0.rows.e2),some (vI .i64 y0.rows.e3),some (vI .i64 y0.rows.e4),some (vI .i64 y0.rows.e5),some (vI .i64 y0.rows.e6),some (vI .i64 y0.rows.e7)]=some (Xt2 x):=by dsimp only [s12];exact (XaJ rfl (XaJ rfl (XaJ rfl (XaJ rfl (XaJ rfl (XaJ rfl (XaJ rfl (XaJ rfl (XaJ rfl ((XbZ rfl rfl (Xdr 0 _)).trans ((Xcd (Xf7)).trans ((Xcd (XfX _)).trans (Xbe hx)))))))))))))
def Xjn:XeY:=XfH Xaa
def Xje:XeL:=XfK Xaa
def XfU:XeJ:=Xdz Xab Xaa
def Xf1:Xfd:=Xdv Xab Xaa
def XfW:Xe4:=XdB Xab Xaa
def XfR:Xe9:=XdA Xab Xaa
def XfV:XeW:=Xdu Xab Xaa
def XfY:XeE:=Xdy Xab Xaa
def Xf0:Xe5:=Xdw Xab Xaa
def XfT:XeX:=XdC Xab Xaa
def Xaf:Xam:=⟨Xjn,Xje,XfU,Xf1,XfW,XfR,XfV,XfY,Xf0,XfT⟩
theorem XCb:XfJ Try.prog 12 (s12 Xaf):=by
 have L0:=Xud Xaa (XaB.Xa4 ⟨XbW,trivial⟩)
 have L1:=Xts Xaa (XaB.Xa4 ⟨XbW,trivial⟩)
 have L2:=XtI Xab Xaa (XaB.Xa4 ⟨Xgx,XbW,trivial⟩)
 have L3:=XtR Xab Xaa (XaB.Xa4 ⟨Xgx,XbW,trivial⟩)
 have L4:=Xub Xab Xaa (XaB.Xa4 ⟨Xgx,XbW,trivial⟩)
 have L5:=Xut Xab Xaa (XaB.Xa4 ⟨Xgx,XbW,trivial⟩)
 have L6:=XsN Xab Xaa (XaB.Xa4 ⟨Xgx,XbW,trivial⟩)
 have L7:=Xt3 Xab Xaa (XaB.Xa4 ⟨Xgx,XbW,trivial⟩)
 have L8:=XtJ Xab Xaa (XaB.Xa4 ⟨Xgx,XbW,trivial⟩)
 have L9:=XtV Xab Xaa (XaB.Xa4 ⟨Xgx,XbW,trivial⟩)
 refine XfJ.Xhq XaN (fun ar os r ha hr=>?_) ⟨Try.f12,rfl,by decide,rfl⟩
 generalize hc:XgD os=C at hr
 replace hr:=orD.elim hr;rcases hr with hr|hr
 ·have LL:=L0;exact okB
 replace hr:=orD.elim hr;rcases hr with hr|hr
 ·have LL:=L1;have U1:=@XcW;exact okB
 replace hr:=orD.elim hr;rcases hr with hr|hr
 ·have LL:=L2;have U1:=@Xcj;exact okB
 replace hr:=orD.elim hr;rcases hr with hr|hr
 ·have LL:=L3;have U1:=@Xcl;exact okB
 replace hr:=orD.elim hr;rcases hr with hr|hr
 ·have LL:=L4;have U1:=@Xci;exact okB
 replace hr:=orD.elim hr;rcases hr with hr|hr
 ·have LL:=L5;have U1:=@Xck;exact okB
 replace hr:=orD.elim hr;rcases hr with hr|hr
 ·have LL:=L6;have U1:=@Xce;exact okB
 replace hr:=orD.elim hr;rcases hr with hr|hr
 ·have LL:=L7;have U1:=@Xcm;exact okB
 replace hr:=orD.elim hr;rcases hr with hr|hr
 ·have LL:=L8;have U1:=@Xcg;exact okB
 have LL:=L9;have U1:=@Xch;exact okB
def XeS (Xaa:Xae) (text:List UInt8):Option Int:=
 (Xaa.vn).bind fun n=>
 cond (!n)
  (
  some (0))
  (
  none)
def Xtu (x:Int):XcJ:=⟨.int .i64 x,[],[none,none,none,none,none,none,none,none,none,none]⟩
abbrev XdJ:=(List UInt8)→Option Int
def r16vn (g:XdJ):Dec:=dNl 10<|dV asS fun (y1:List UInt8)=>Xev (ofG (g y1) Xtu)
abbrev XvO (Xaa:Xae):List (Nat×XcE):=[(38,s38 Xaa)]
theorem XtA (Xaa:Xae) (hS:XaB Try.prog (XaI (XvO Xaa))) (text:List UInt8) (res:Int) (h:XeS Xaa text=some res) :
 XaQ Try.prog 16 10 ⟨⟨16,14,[(0,.pointer none),(1,.string ⟨⟨text⟩⟩)],[.code Xi7],[],false,none⟩,[],[],10⟩ (fun v H _=>Res 10 (Xtu res) v H):=by
 unfold XeS at h
 have R1:=@XmH Xaa
 refine Xa3 XaN hS true 3000 ?_
 conv=>whnf
 exact W
def Xc2 (Xab:Xak) (Xaa:Xae) (s:XaA) (text:List UInt8):Option Int:=
 (Xaa.v1 s).bind fun x1=>
 cond (!x1)
  (
  some (0))
  (
  (Xab.v1 s 0 text).bind fun x11=>
  XaL (decide ((0:Int)≤x11∧x11<(s.rows.m0:Int))) <|
  (s.rows.e0[x11.toNat]?).bind fun (e:Int)=>
  let t:=if e<1099511627776 then e else 1099511627776
  some (t))
def Xun (x:Int):XcJ:=⟨.int .i64 x,[],[none,none,none,none,none,none,none,none,none,none]⟩
abbrev XdL:=XaA→(List UInt8)→Option Int
def r16v1 (g:XdL):Dec:=dTr 10 (XbF 0) fun (y0:XaA)=>dV asS fun (y1:List UInt8)=>Xev (ofG (g y0 y1) Xun)
abbrev Xwq (Xab:Xak) (Xaa:Xae):List (Nat×XcE):=[(20,s20 Xab),(38,s38 Xaa)]
theorem XsF (Xab:Xak) (Xaa:Xae) (hS:XaB Try.prog (XaI (Xwq Xab Xaa))) (s:XaA) (text:List UInt8) (res:Int) (h:Xc2 Xab Xaa s text=some res) :
 XaQ Try.prog 16 10 ⟨⟨16,14,[(0,.pointer (some ⟨0,0,none⟩)),(1,.string ⟨⟨text⟩⟩)],[.code Xi7],[],false,none⟩,[],[(0,.row false [.int .u64 s.key.A,.int .u64 s.key.B,.slice (some ⟨1,0,none⟩) 1 1,.int .i64 s.total]),(1,.row false [.slice (some ⟨2,0,none⟩) s.rows.m0 1]),(2,.row false (vI .i64 s.rows.e0))],10⟩ (fun v H _=>Res 10 (Xun res) v H):=by
 unfold Xc2 at h
 have R1:=@XjE Xaa
 have R2:=@XpL Xab
 have J:=js []
 refine Xa3 XaN hS true 3000 ?_
 conv=>whnf
 exact W
def Xc1 (Xab:Xak) (Xaa:Xae) (s:Xaz) (text:List UInt8):Option Int:=
 (Xaa.v2 s).bind fun x2=>
 cond (!x2)
  (
  some (0))
  (
  (Xab.v2 s 0 text).bind fun x21=>
  XaL (decide ((0:Int)≤x21∧x21<(s.rows.m0:Int))) <|
  (s.rows.e0[x21.toNat]?).bind fun (e:Int)=>
  let t:=if e<1099511627776 then e else 1099511627776
  (Xab.v2 s 1 text).bind fun x22=>
  XaL (decide ((0:Int)≤x22∧x22<(s.rows.m1:Int))) <|
  (s.rows.e1[x22.toNat]?).bind fun (e1:Int)=>
  some (if e1<t then e1 else t))
def XuE (x:Int):XcJ:=⟨.int .i64 x,[],[none,none,none,none,none,none,none,none,none,none]⟩
abbrev Xd2:=Xaz→(List UInt8)→Option Int
def r16v2 (g:Xd2):Dec:=dTr 10 (XbK 0) fun (y0:Xaz)=>dV asS fun (y1:List UInt8)=>Xev (ofG (g y0 y1) XuE)
abbrev Xwb (Xab:Xak) (Xaa:Xae):List (Nat×XcE):=[(20,s20 Xab),(38,s38 Xaa)]
theorem XrB (Xab:Xak) (Xaa:Xae) (hS:XaB Try.prog (XaI (Xwb Xab Xaa))) (s:Xaz) (text:List UInt8) (res:Int) (h:Xc1 Xab Xaa s text=some res) :
 XaQ Try.prog 16 10 ⟨⟨16,14,[(0,.pointer (some ⟨0,0,none⟩)),(1,.string ⟨⟨text⟩⟩)],[.code Xi7],[],false,none⟩,[],[(0,.row false [.int .u64 s.key.A,.int .u64 s.key.B,.slice (some ⟨1,0,none⟩) 2 1,.int .i64 s.total]),(1,.row false [.slice (some ⟨2,0,none⟩) s.rows.m0 1,.slice (some ⟨3,0,none⟩) s.rows.m1 1]),(2,.row false (vI .i64 s.rows.e0)),(3,.row false (vI .i64 s.rows.e1))],10⟩ (fun v H _=>Res 10 (XuE res) v H):=by
 unfold Xc1 at h
 have R1:=@XjD Xaa
 have R2:=@Xpw Xab
 have J:=js []
 refine Xa3 XaN hS true 3000 ?_
 conv=>whnf
 exact W
def Xc6 (Xab:Xak) (Xaa:Xae) (s:Xay) (text:List UInt8):Option Int:=
 (Xaa.v3 s).bind fun x3=>
 cond (!x3)
  (
  some (0))
  (
  (Xab.v3 s 0 text).bind fun x31=>
  XaL (decide ((0:Int)≤x31∧x31<(s.rows.m0:Int))) <|
  (s.rows.e0[x31.toNat]?).bind fun (e:Int)=>
  let t:=if e<1099511627776 then e else 1099511627776
  (Xab.v3 s 1 text).bind fun x32=>
  XaL (decide ((0:Int)≤x32∧x32<(s.rows.m1:Int))) <|
  (s.rows.e1[x32.toNat]?).bind fun (e1:Int)=>
  (Xab.v3 s 2 text).bind fun x33=>
  XaL (decide ((0:Int)≤x33∧x33<(s.rows.m2:Int))) <|
  (s.rows.e2[x33.toNat]?).bind fun (e2:Int)=>
  let t1:=if e2<(if e1<t then e1 else t) then e2 else if e1<t then e1 else t
  some (t1))
def Xr0 (x:Int):XcJ:=⟨.int .i64 x,[],[none,none,none,none,none,none,none,none,none,none]⟩
abbrev Xeo:=Xay→(List UInt8)→Option Int
def r16v3 (g:Xeo):Dec:=dTr 10 (XbJ 0) fun (y0:Xay)=>dV asS fun (y1:List UInt8)=>Xev (ofG (g y0 y1) Xr0)
abbrev Xwa (Xab:Xak) (Xaa:Xae):List (Nat×XcE):=[(20,s20 Xab),(38,s38 Xaa)]
theorem Xtv (Xab:Xak) (Xaa:Xae) (hS:XaB Try.prog (XaI (Xwa Xab Xaa))) (s:Xay) (text:List UInt8) (res:Int) (h:Xc6 Xab Xaa s text=some res) :
 XaQ Try.prog 16 10 ⟨⟨16,14,[(0,.pointer (some ⟨0,0,none⟩)),(1,.string ⟨⟨text⟩⟩)],[.code Xi7],[],false,none⟩,[],[(0,.row false [.int .u64 s.key.A,.int .u64 s.key.B,.slice (some ⟨1,0,none⟩) 3 1,.int .i64 s.total]),(1,.row false [.slice (some ⟨2,0,none⟩) s.rows.m0 1,.slice (some ⟨3,0,none⟩) s.rows.m1 1,.slice (some ⟨4,0,none⟩) s.rows.m2 1]),(2,.row false (vI .i64 s.rows.e0)),(3,.row false (vI .i64 s.rows.e1)),(4,.row false (vI .i64 s.rows.e2))],10⟩ (fun v H _=>Res 10 (Xr0 res) v H):=by
 unfold Xc6 at h
 have R1:=@XjI Xaa
 have R2:=@Xo1 Xab
 have J:=js []
 refine Xa3 XaN hS true 3000 ?_
 conv=>whnf
 exact W
def Xc5 (Xab:Xak) (Xaa:Xae) (s:Xaw) (text:List UInt8):Option Int:=
 (Xaa.v4 s).bind fun x4=>
 cond (!x4)
  (
  some (0))
  (
  (Xab.v4 s 0 text).bind fun x41=>
  XaL (decide ((0:Int)≤x41∧x41<(s.rows.m0:Int))) <|
  (s.rows.e0[x41.toNat]?).bind fun (e:Int)=>
  let t:=if e<1099511627776 then e else 1099511627776
  (Xab.v4 s 1 text).bind fun x42=>
  XaL (decide ((0:Int)≤x42∧x42<(s.rows.m1:Int))) <|
  (s.rows.e1[x42.toNat]?).bind fun (e1:Int)=>
  (Xab.v4 s 2 text).bind fun x43=>
  XaL (decide ((0:Int)≤x43∧x43<(s.rows.m2:Int))) <|
  (s.rows.e2[x43.toNat]?).bind fun (e2:Int)=>
  let t1:=if e2<(if e1<t then e1 else t) then e2 else if e1<t then e1 else t
  (Xab.v4 s 3 text).bind fun x44=>
  XaL (decide ((0:Int)≤x44∧x44<(s.rows.m3:Int))) <|
  (s.rows.e3[x44.toNat]?).bind fun (e3:Int)=>
  some (if e3<t1 then e3 else t1))
def Xse (x:Int):XcJ:=⟨.int .i64 x,[],[none,none,none,none,none,none,none,none,none,none]⟩
abbrev Xd6:=Xaw→(List UInt8)→Option Int
def r16v4 (g:Xd6):Dec:=dTr 10 (XbG 0) fun (y0:Xaw)=>dV asS fun (y1:List UInt8)=>Xev (ofG (g y0 y1) Xse)
abbrev Xwf (Xab:Xak) (Xaa:Xae):List (Nat×XcE):=[(20,s20 Xab),(38,s38 Xaa)]
theorem Xt6 (Xab:Xak) (Xaa:Xae) (hS:XaB Try.prog (XaI (Xwf Xab Xaa))) (s:Xaw) (text:List UInt8) (res:Int) (h:Xc5 Xab Xaa s text=some res) :
 XaQ Try.prog 16 10 ⟨⟨16,14,[(0,.pointer (some ⟨0,0,none⟩)),(1,.string ⟨⟨text⟩⟩)],[.code Xi7],[],false,none⟩,[],[(0,.row false [.int .u64 s.key.A,.int .u64 s.key.B,.slice (some ⟨1,0,none⟩) 4 1,.int .i64 s.total]),(1,.row false [.slice (some ⟨2,0,none⟩) s.rows.m0 1,.slice (some ⟨3,0,none⟩) s.rows.m1 1,.slice (some ⟨4,0,none⟩) s.rows.m2 1,.slice (some ⟨5,0,none⟩) s.rows.m3 1]),(2,.row false (vI .i64 s.rows.e0)),(3,.row false (vI .i64 s.rows.e1)),(4,.row false (vI .i64 s.rows.e2)),(5,.row false (vI .i64 s.rows.e3))],10⟩ (fun v H _=>Res 10 (Xse res) v H):=by
 unfold Xc5 at h
 have R1:=@Xjr Xaa
 have R2:=@Xo2 Xab
 have J:=js []
 refine Xa3 XaN hS true 3000 ?_
 conv=>whnf
 exact W
def XcX (Xab:Xak) (Xaa:Xae) (s:Xav) (text:List UInt8):Option Int:=
 (Xaa.v5 s).bind fun x5=>
 cond (!x5)
  (
  some (0))
  (
  (Xab.v5 s 0 text).bind fun x51=>
  XaL (decide ((0:Int)≤x51∧x51<(s.rows.m0:Int))) <|
  (s.rows.e0[x51.toNat]?).bind fun (e:Int)=>
  let t:=if e<1099511627776 then e else 1099511627776
  (Xab.v5 s 1 text).bind fun x52=>
  XaL (decide ((0:Int)≤x52∧x52<(s.rows.m1:Int))) <|
  (s.rows.e1[x52.toNat]?).bind fun (e1:Int)=>
  (Xab.v5 s 2 text).bind fun x53=>
  XaL (decide ((0:Int)≤x53∧x53<(s.rows.m2:Int))) <|
  (s.rows.e2[x53.toNat]?).bind fun (e2:Int)=>
  let t1:=if e2<(if e1<t then e1 else t) then e2 else if e1<t then e1 else t
  (Xab.v5 s 3 text).bind fun x54=>
  XaL (decide ((0:Int)≤x54∧x54<(s.rows.m3:Int))) <|
  (s.rows.e3[x54.toNat]?).bind fun (e3:Int)=>
  (Xab.v5 s 4 text).bind fun x55=>
  XaL (decide ((0:Int)≤x55∧x55<(s.rows.m4:Int))) <|
  (s.rows.e4[x55.toNat]?).bind fun (e4:Int)=>
  let t2:=if e4<(if e3<t1 then e3 else t1) then e4 else if e3<t1 then e3 else t1
  some (t2))
def XrS (x:Int):XcJ:=⟨.int .i64 x,[],[none,none,none,none,none,none,none,none,none,none]⟩
abbrev Xeb:=Xav→(List UInt8)→Option Int
def r16v5 (g:Xeb):Dec:=dTr 10 (XbE 0) fun (y0:Xav)=>dV asS fun (y1:List UInt8)=>Xev (ofG (g y0 y1) XrS)
abbrev Xw9 (Xab:Xak) (Xaa:Xae):List (Nat×XcE):=[(20,s20 Xab),(38,s38 Xaa)]
theorem Xs6 (Xab:Xak) (Xaa:Xae) (hS:XaB Try.prog (XaI (Xw9 Xab Xaa))) (s:Xav) (text:List UInt8) (res:Int) (h:XcX Xab Xaa s text=some res) :
 XaQ Try.prog 16 10 ⟨⟨16,14,[(0,.pointer (some ⟨0,0,none⟩)),(1,.string ⟨⟨text⟩⟩)],[.code Xi7],[],false,none⟩,[],[(0,.row false [.int .u64 s.key.A,.int .u64 s.key.B,.slice (some ⟨1,0,none⟩) 5 1,.int .i64 s.total]),(1,.row false [.slice (some ⟨2,0,none⟩) s.rows.m0 1,.slice (some ⟨3,0,none⟩) s.rows.m1 1,.slice (some ⟨4,0,none⟩) s.rows.m2 1,.slice (some ⟨5,0,none⟩) s.rows.m3 1,.slice (some ⟨6,0,none⟩) s.rows.m4 1]),(2,.row false (vI .i64 s.rows.e0)),(3,.row false (vI .i64 s.rows.e1)),(4,.row false (vI .i64 s.rows.e2)),(5,.row false (vI .i64 s.rows.e3)),(6,.row false (vI .i64 s.rows.e4))],10⟩ (fun v H _=>Res 10 (XrS res) v H):=by
 unfold XcX at h
 have R1:=@XjW Xaa
 have R2:=@Xpd Xab
 have J:=js []
 refine Xa3 XaN hS true 3000 ?_
 conv=>whnf
 exact W
def Xdc (Xab:Xak) (Xaa:Xae) (s:Xau) (text:List UInt8):Option Int:=
 (Xaa.v6 s).bind fun x6=>
 cond (!x6)
  (
  some (0))
  (
  (Xab.v6 s 0 text).bind fun x61=>
  XaL (decide ((0:Int)≤x61∧x61<(s.rows.m0:Int))) <|
  (s.rows.e0[x61.toNat]?).bind fun (e:Int)=>
  let t:=if e<1099511627776 then e else 1099511627776
  (Xab.v6 s 1 text).bind fun x62=>
  XaL (decide ((0:Int)≤x62∧x62<(s.rows.m1:Int))) <|
  (s.rows.e1[x62.toNat]?).bind fun (e1:Int)=>
  (Xab.v6 s 2 text).bind fun x63=>
  XaL (decide ((0:Int)≤x63∧x63<(s.rows.m2:Int))) <|
  (s.rows.e2[x63.toNat]?).bind fun (e2:Int)=>
  let t1:=if e2<(if e1<t then e1 else t) then e2 else if e1<t then e1 else t
  (Xab.v6 s 3 text).bind fun x64=>
  XaL (decide ((0:Int)≤x64∧x64<(s.rows.m3:Int))) <|
  (s.rows.e3[x64.toNat]?).bind fun (e3:Int)=>
  (Xab.v6 s 4 text).bind fun x65=>
  XaL (decide ((0:Int)≤x65∧x65<(s.rows.m4:Int))) <|
  (s.rows.e4[x65.toNat]?).bind fun (e4:Int)=>
  let t2:=if e4<(if e3<t1 then e3 else t1) then e4 else if e3<t1 then e3 else t1
  (Xab.v6 s 5 text).bind fun x66=>
  XaL (decide ((0:Int)≤x66∧x66<(s.rows.m5:Int))) <|
  (s.rows.e5[x66.toNat]?).bind fun (e5:Int)=>
  some (if e5<t2 then e5 else t2))
def Xtg (x:Int):XcJ:=⟨.int .i64 x,[],[none,none,none,none,none,none,none,none,none,none]⟩
abbrev XdR:=Xau→(List UInt8)→Option Int
def r16v6 (g:XdR):Dec:=dTr 10 (XbI 0) fun (y0:Xau)=>dV asS fun (y1:List UInt8)=>Xev (ofG (g y0 y1) Xtg)
abbrev Xwh (Xab:Xak) (Xaa:Xae):List (Nat×XcE):=[(20,s20 Xab),(38,s38 Xaa)]
theorem Xt8 (Xab:Xak) (Xaa:Xae) (hS:XaB Try.prog (XaI (Xwh Xab Xaa))) (s:Xau) (text:List UInt8) (res:Int) (h:Xdc Xab Xaa s text=some res) :
 XaQ Try.prog 16 10 ⟨⟨16,14,[(0,.pointer (some ⟨0,0,none⟩)),(1,.string ⟨⟨text⟩⟩)],[.code Xi7],[],false,none⟩,[],[(0,.row false [.int .u64 s.key.A,.int .u64 s.key.B,.slice (some ⟨1,0,none⟩) 6 1,.int .i64 s.total]),(1,.row false [.slice (some ⟨2,0,none⟩) s.rows.m0 1,.slice (some ⟨3,0,none⟩) s.rows.m1 1,.slice (some ⟨4,0,none⟩) s.rows.m2 1,.slice (some ⟨5,0,none⟩) s.rows.m3 1,.slice (some ⟨6,0,none⟩) s.rows.m4 1,.slice (some ⟨7,0,none⟩) s.rows.m5 1]),(2,.row false (vI .i64 s.rows.e0)),(3,.row false (vI .i64 s.rows.e1)),(4,.row false (vI .i64 s.rows.e2)),(5,.row false (vI .i64 s.rows.e3)),(6,.row false (vI .i64 s.rows.e4)),(7,.row false (vI .i64 s.rows.e5))],10⟩ (fun v H _=>Res 10 (Xtg res) v H):=by
 unfold Xdc at h
 have R1:=@XjL Xaa
 have R2:=@Xpf Xab
 have J:=js []
 refine Xa3 XaN hS true 3000 ?_
 conv=>whnf
 exact W
def Xc7 (Xab:Xak) (Xaa:Xae) (s:Xat) (text:List UInt8):Option Int:=
 (Xaa.v7 s).bind fun x7=>
 cond (!x7)
  (
  some (0))
  (
  (Xab.v7 s 0 text).bind fun x71=>
  XaL (decide ((0:Int)≤x71∧x71<(s.rows.m0:Int))) <|
  (s.rows.e0[x71.toNat]?).bind fun (e:Int)=>
  let t:=if e<1099511627776 then e else 1099511627776
  (Xab.v7 s 1 text).bind fun x72=>
  XaL (decide ((0:Int)≤x72∧x72<(s.rows.m1:Int))) <|
  (s.rows.e1[x72.toNat]?).bind fun (e1:Int)=>
  (Xab.v7 s 2 text).bind fun x73=>
  XaL (decide ((0:Int)≤x73∧x73<(s.rows.m2:Int))) <|
  (s.rows.e2[x73.toNat]?).bind fun (e2:Int)=>
  let t1:=if e2<(if e1<t then e1 else t) then e2 else if e1<t then e1 else t
  (Xab.v7 s 3 text).bind fun x74=>
  XaL (decide ((0:Int)≤x74∧x74<(s.rows.m3:Int))) <|
  (s.rows.e3[x74.toNat]?).bind fun (e3:Int)=>
  (Xab.v7 s 4 text).bind fun x75=>
  XaL (decide ((0:Int)≤x75∧x75<(s.rows.m4:Int))) <|
  (s.rows.e4[x75.toNat]?).bind fun (e4:Int)=>
  let t2:=if e4<(if e3<t1 then e3 else t1) then e4 else if e3<t1 then e3 else t1
  (Xab.v7 s 5 text).bind fun x76=>
  XaL (decide ((0:Int)≤x76∧x76<(s.rows.m5:Int))) <|
  (s.rows.e5[x76.toNat]?).bind fun (e5:Int)=>
  (Xab.v7 s 6 text).bind fun x77=>
  XaL (decide ((0:Int)≤x77∧x77<(s.rows.m6:Int))) <|
  (s.rows.e6[x77.toNat]?).bind fun (e6:Int)=>
  let t3:=if e6<(if e5<t2 then e5 else t2) then e6 else if e5<t2 then e5 else t2
  some (t3))
def Xsf (x:Int):XcJ:=⟨.int .i64 x,[],[none,none,none,none,none,none,none,none,none,none]⟩
abbrev Xeh:=Xat→(List UInt8)→Option Int
def r16v7 (g:Xeh):Dec:=dTr 10 (XbM 0) fun (y0:Xat)=>dV asS fun (y1:List UInt8)=>Xev (ofG (g y0 y1) Xsf)
abbrev Xwj (Xab:Xak) (Xaa:Xae):List (Nat×XcE):=[(20,s20 Xab),(38,s38 Xaa)]
theorem XuJ (Xab:Xak) (Xaa:Xae) (hS:XaB Try.prog (XaI (Xwj Xab Xaa))) (s:Xat) (text:List UInt8) (res:Int) (h:Xc7 Xab Xaa s text=some res) :
 XaQ Try.prog 16 10 ⟨⟨16,14,[(0,.pointer (some ⟨0,0,none⟩)),(1,.string ⟨⟨text⟩⟩)],[.code Xi7],[],false,none⟩,[],[(0,.row false [.int .u64 s.key.A,.int .u64 s.key.B,.slice (some ⟨1,0,none⟩) 7 1,.int .i64 s.total]),(1,.row false [.slice (some ⟨2,0,none⟩) s.rows.m0 1,.slice (some ⟨3,0,none⟩) s.rows.m1 1,.slice (some ⟨4,0,none⟩) s.rows.m2 1,.slice (some ⟨5,0,none⟩) s.rows.m3 1,.slice (some ⟨6,0,none⟩) s.rows.m4 1,.slice (some ⟨7,0,none⟩) s.rows.m5 1,.slice (some ⟨8,0,none⟩) s.rows.m6 1]),(2,.row false (vI .i64 s.rows.e0)),(3,.row false (vI .i64 s.rows.e1)),(4,.row false (vI .i64 s.rows.e2)),(5,.row false (vI .i64 s.rows.e3)),(6,.row false (vI .i64 s.rows.e4)),(7,.row false (vI .i64 s.rows.e5)),(8,.row false (vI .i64 s.rows.e6))],10⟩ (fun v H _=>Res 10 (Xsf res) v H):=by
 unfold Xc7 at h
 have R1:=@Xju Xaa
 have R2:=@Xpv Xab
 have J:=js []
 refine Xa3 XaN hS true 3000 ?_
 conv=>whnf
 exact W
def Xc9 (Xab:Xak) (Xaa:Xae) (s:Xas) (text:List UInt8):Option Int:=
 (Xaa.v8 s).bind fun x8=>
 cond (!x8)
  (
  some (0))
  (
  (Xab.v8 s 0 text).bind fun x81=>
  XaL (decide ((0:Int)≤x81∧x81<(s.rows.m0:Int))) <|
  (s.rows.e0[x81.toNat]?).bind fun (e:Int)=>
  let t:=if e<1099511627776 then e else 1099511627776
  (Xab.v8 s 1 text).bind fun x82=>
  XaL (decide ((0:Int)≤x82∧x82<(s.rows.m1:Int))) <|
  (s.rows.e1[x82.toNat]?).bind fun (e1:Int)=>
  (Xab.v8 s 2 text).bind fun x83=>
  XaL (decide ((0:Int)≤x83∧x83<(s.rows.m2:Int))) <|
  (s.rows.e2[x83.toNat]?).bind fun (e2:Int)=>
  let t1:=if e2<(if e1<t then e1 else t) then e2 else if e1<t then e1 else t
  (Xab.v8 s 3 text).bind fun x84=>
  XaL (decide ((0:Int)≤x84∧x84<(s.rows.m3:Int))) <|
  (s.rows.e3[x84.toNat]?).bind fun (e3:Int)=>
  (Xab.v8 s 4 text).bind fun x85=>
  XaL (decide ((0:Int)≤x85∧x85<(s.rows.m4:Int))) <|
  (s.rows.e4[x85.toNat]?).bind fun (e4:Int)=>
  let t2:=if e4<(if e3<t1 then e3 else t1) then e4 else if e3<t1 then e3 else t1
  (Xab.v8 s 5 text).bind fun x86=>
  XaL (decide ((0:Int)≤x86∧x86<(s.rows.m5:Int))) <|
  (s.rows.e5[x86.toNat]?).bind fun (e5:Int)=>
  (Xab.v8 s 6 text).bind fun x87=>
  XaL (decide ((0:Int)≤x87∧x87<(s.rows.m6:Int))) <|
  (s.rows.e6[x87.toNat]?).bind fun (e6:Int)=>
  let t3:=if e6<(if e5<t2 then e5 else t2) then e6 else if e5<t2 then e5 else t2
  (Xab.v8 s 7 text).bind fun x88=>
  XaL (decide ((0:Int)≤x88∧x88<(s.rows.m7:Int))) <|
  (s.rows.e7[x88.toNat]?).bind fun (e7:Int)=>
  some (if e7<t3 then e7 else t3))
def XsV (x:Int):XcJ:=⟨.int .i64 x,[],[none,none,none,none,none,none,none,none,none,none]⟩
abbrev Xei:=Xas→(List UInt8)→Option Int
def r16v8 (g:Xei):Dec:=dTr 10 (XbH 0) fun (y0:Xas)=>dV asS fun (y1:List UInt8)=>Xev (ofG (g y0 y1) XsV)
abbrev Xu0 (Xab:Xak) (Xaa:Xae):List (Nat×XcE):=[(20,s20 Xab),(38,s38 Xaa)]
theorem XsA (Xab:Xak) (Xaa:Xae) (hS:XaB Try.prog (XaI (Xu0 Xab Xaa))) (s:Xas) (text:List UInt8) (res:Int) (h:Xc9 Xab Xaa s text=some res) :
 XaQ Try.prog 16 10 ⟨⟨16,14,[(0,.pointer (some ⟨0,0,none⟩)),(1,.string ⟨⟨text⟩⟩)],[.code Xi7],[],false,none⟩,[],[(0,.row false [.int .u64 s.key.A,.int .u64 s.key.B,.slice (some ⟨1,0,none⟩) 8 1,.int .i64 s.total]),(1,.row false [.slice (some ⟨2,0,none⟩) s.rows.m0 1,.slice (some ⟨3,0,none⟩) s.rows.m1 1,.slice (some ⟨4,0,none⟩) s.rows.m2 1,.slice (some ⟨5,0,none⟩) s.rows.m3 1,.slice (some ⟨6,0,none⟩) s.rows.m4 1,.slice (some ⟨7,0,none⟩) s.rows.m5 1,.slice (some ⟨8,0,none⟩) s.rows.m6 1,.slice (some ⟨9,0,none⟩) s.rows.m7 1]),(2,.row false (vI .i64 s.rows.e0)),(3,.row false (vI .i64 s.rows.e1)),(4,.row false (vI .i64 s.rows.e2)),(5,.row false (vI .i64 s.rows.e3)),(6,.row false (vI .i64 s.rows.e4)),(7,.row false (vI .i64 s.rows.e5)),(8,.row false (vI .i64 s.rows.e6)),(9,.row false (vI .i64 s.rows.e7))],10⟩ (fun v H _=>Res 10 (XsV res) v H):=by
 unfold Xc9 at h
 have R1:=@XjB Xaa
 have R2:=@XpX Xab
 have J:=js []
 refine Xa3 XaN hS true 3000 ?_
 conv=>whnf
 exact W
structure Xaj where
 vn:XdJ
 v1:XdL
 v2:Xd2
 v3:Xeo
 v4:Xd6
 v5:Xeb
 v6:XdR
 v7:Xeh
 v8:Xei
def s16 (g:Xaj):XcE:=⟨[.tr [⟨none,0,0,0,none⟩,⟨some 0,2,0,0,none⟩,⟨some 1,0,0,0,none⟩,⟨some 1,1,0,0,none⟩,⟨some 1,2,0,0,none⟩,⟨some 1,3,0,0,none⟩,⟨some 1,4,0,0,none⟩,⟨some 1,5,0,0,none⟩,⟨some 1,6,0,0,none⟩,⟨some 1,7,0,0,none⟩],.v],orD (r16vn g.vn) (orD (r16v1 g.v1) (orD (r16v2 g.v2) (orD (r16v3 g.v3) (orD (r16v4 g.v4) (orD (r16v5 g.v5) (orD (r16v6 g.v6) (orD (r16v7 g.v7) (r16v8 g.v8))))))))⟩
theorem Xpx {g:Xaj} {y1:List UInt8} {x:Int} (hx:g.vn y1=some x):(s16 g).run [.pointer none,.string ⟨⟨y1⟩⟩] [none,none,none,none,none,none,none,none,none,none]=some (Xtu x):=by dsimp only [s16];exact (Xdt ((XpM).trans ((Xcd (Xf7)).trans (Xbe hx))))
theorem Xpo {g:Xaj} {y0:XaA} {y1:List UInt8} {x:Int} (hx:g.v1 y0 y1=some x):(s16 g).run [.pointer (some ⟨0,0,none⟩),.string ⟨⟨y1⟩⟩] [some [.int .u64 y0.key.A,.int .u64 y0.key.B,.slice (some ⟨1,0,none⟩) 1 1,.int .i64 y0.total],some [.slice (some ⟨2,0,none⟩) y0.rows.m0 1],some (vI .i64 y0.rows.e0),none,none,none,none,none,none,none]=some (Xun x):=by dsimp only [s16];exact (XaJ rfl (Xdt ((XbZ rfl rfl (Xdi 0 _)).trans ((Xcd (Xf7)).trans (Xbe hx)))))
theorem XkW {g:Xaj} {y0:Xaz} {y1:List UInt8} {x:Int} (hx:g.v2 y0 y1=some x):(s16 g).run [.pointer (some ⟨0,0,none⟩),.string ⟨⟨y1⟩⟩] [some [.int .u64 y0.key.A,.int .u64 y0.key.B,.slice (some ⟨1,0,none⟩) 2 1,.int .i64 y0.total],some [.slice (some ⟨2,0,none⟩) y0.rows.m0 1,.slice (some ⟨3,0,none⟩) y0.rows.m1 1],some (vI .i64 y0.rows.e0),some (vI .i64 y0.rows.e1),none,none,none,none,none,none]=some (XuE x):=by dsimp only [s16];exact (XaJ rfl (XaJ rfl (Xdt ((XbZ rfl rfl (Xdn 0 _)).trans ((Xcd (Xf7)).trans (Xbe hx))))))
theorem Xo5 {g:Xaj} {y0:Xay} {y1:List UInt8} {x:Int} (hx:g.v3 y0 y1=some x):(s16 g).run [.pointer (some ⟨0,0,none⟩),.string ⟨⟨y1⟩⟩] [some [.int .u64 y0.key.A,.int .u64 y0.key.B,.slice (some ⟨1,0,none⟩) 3 1,.int .i64 y0.total],some [.slice (some ⟨2,0,none⟩) y0.rows.m0 1,.slice (some ⟨3,0,none⟩) y0.rows.m1 1,.slice (some ⟨4,0,none⟩) y0.rows.m2 1],some (vI .i64 y0.rows.e0),some (vI .i64 y0.rows.e1),some (vI .i64 y0.rows.e2),none,none,none,none,none]=some (Xr0 x):=by dsimp only [s16];exact (XaJ rfl (XaJ rfl (XaJ rfl (Xdt ((XbZ rfl rfl (Xdh 0 _)).trans ((Xcd (Xf7)).trans (Xbe hx)))))))
theorem Xpq {g:Xaj} {y0:Xaw} {y1:List UInt8} {x:Int} (hx:g.v4 y0 y1=some x):(s16 g).run [.pointer (some ⟨0,0,none⟩),.string ⟨⟨y1⟩⟩] [some [.int .u64 y0.key.A,.int .u64 y0.key.B,.slice (some ⟨1,0,none⟩) 4 1,.int .i64 y0.total],some [.slice (some ⟨2,0,none⟩) y0.rows.m0 1,.slice (some ⟨3,0,none⟩) y0.rows.m1 1,.slice (some ⟨4,0,none⟩) y0.rows.m2 1,.slice (some ⟨5,0,none⟩) y0.rows.m3 1],some (vI .i64 y0.rows.e0),some (vI .i64 y0.rows.e1),some (vI .i64 y0.rows.e2),some (vI .i64 y0.rows.e3),none,none,none,none]=some (Xse x):=by dsimp only [s16];exact (XaJ rfl (XaJ rfl (XaJ rfl (XaJ rfl (Xdt ((XbZ rfl rfl (Xdg 0 _)).trans ((Xcd (Xf7)).trans (Xbe hx))))))))
theorem Xo6 {g:Xaj} {y0:Xav} {y1:List UInt8} {x:Int} (hx:g.v5 y0 y1=some x):(s16 g).run [.pointer (some ⟨0,0,none⟩),.string ⟨⟨y1⟩⟩] [some [.int .u64 y0.key.A,.int .u64 y0.key.B,.slice (some ⟨1,0,none⟩) 5 1,.int .i64 y0.total],some [.slice (some ⟨2,0,none⟩) y0.rows.m0 1,.slice (some ⟨3,0,none⟩) y0.rows.m1 1,.slice (some ⟨4,0,none⟩) y0.rows.m2 1,.slice (some ⟨5,0,none⟩) y0.rows.m3 1,.slice (some ⟨6,0,none⟩) y0.rows.m4 1],some (vI .i64 y0.rows.e0),some (vI .i64 y0.rows.e1),some (vI .i64 y0.rows.e2),some (vI .i64 y0.rows.e3),some (vI .i64 y0.rows.e4),none,none,none]=some (XrS x):=by dsimp only [s16];exact (XaJ rfl (XaJ rfl (XaJ rfl (XaJ rfl (XaJ rfl (Xdt ((XbZ rfl rfl (Xdl 0 _)).trans ((Xcd (Xf7)).trans (Xbe hx)))))))))
theorem Xqe {g:Xaj} {y0:Xau} {y1:List UInt8} {x:Int} (hx:g.v6 y0 y1=some x):(s16 g).run [.pointer (some ⟨0,0,none⟩),.string ⟨⟨y1⟩⟩] [some [.int .u64 y0.key.A,.int .u64 y0.key.B,.slice (some ⟨1,0,none⟩) 6 1,.int .i64 y0.total],some [.slice (some ⟨2,0,none⟩) y0.rows.m0 1,.slice (some ⟨3,0,none⟩) y0.rows.m1 1,.slice (some ⟨4,0,none⟩) y0.rows.m2 1,.slice (some ⟨5,0,none⟩) y0.rows.m3 1,.slice (some ⟨6,0,none⟩) y0.rows.m4 1,.slice (some ⟨7,0,none⟩) y0.rows.m5 1],some (vI .i64 y0.rows.e0),some (vI .i64 y0.rows.e1),some (vI .i64 y0.rows.e2),some (vI .i64 y0.rows.e3),some (vI .i64 y0.rows.e4),some (vI .i64 y0.rows.e5),none,none]=some (Xtg x):=by dsimp only [s16];exact (XaJ rfl (XaJ rfl (XaJ rfl (XaJ rfl (XaJ rfl (XaJ rfl (Xdt ((XbZ rfl rfl (Xdk 0 _)).trans ((Xcd (Xf7)).trans (Xbe hx))))))))))
theorem Xqa {g:Xaj} {y0:Xat} {y1:List UInt8} {x:Int} (hx:g.v7 y0 y1=some x):(s16 g).run [.pointer (some ⟨0,0,none⟩),.string ⟨⟨y1⟩⟩] [some [.int .u64 y0.key.A,.int .u64 y0.key.B,.slice (some ⟨1,0,none⟩) 7 1,.int .i64 y0.total],some [.slice (some ⟨2,0,none⟩) y0.rows.m0 1,.slice (some ⟨3,0,none⟩) y0.rows.m1 1,.slice (some ⟨4,0,none⟩) y0.rows.m2 1,.slice (some ⟨5,0,none⟩) y0.rows.m3 1,.slice (some ⟨6,0,none⟩) y0.rows.m4 1,.slice (some ⟨7,0,none⟩) y0.rows.m5 1,.slice (some ⟨8,0,none⟩) y0.rows.m6 1],some (vI .i64 y0.rows.e0),some (vI .i64 y0.rows.e1),some (vI .i64 y0.rows.e2),some (vI .i64 y0.rows.e3),some (vI .i64 y0.rows.e4),some (vI .i64 y0.rows.e5),some (vI .i64 y0.rows.e6),none]=some (Xsf x):=by dsimp only [s16];exact (XaJ rfl (XaJ rfl (XaJ rfl (XaJ rfl (XaJ rfl (XaJ rfl (XaJ rfl (Xdt ((XbZ rfl rfl (Xds 0 _)).trans ((Xcd (Xf7)).trans (Xbe hx)))))))))))
theorem XpQ {g:Xaj} {y0:Xas} {y1:List UInt8} {x:Int} (hx:g.v8 y0 y1=some x):(s16 g).run [.pointer (some ⟨0,0,none⟩),.string ⟨⟨y1⟩⟩] [some [.int .u64 y0.key.A,.int .u64 y0.key.B,.slice (some ⟨1,0,none⟩) 8 1,.int .i64 y0.total],some [.slice (some ⟨2,0,none⟩) y0.rows.m0 1,.slice (some ⟨3,0,none⟩) y0.rows.m1 1,.slice (some ⟨4,0,none⟩) y0.rows.m2 1,.slice (some ⟨5,0,none⟩) y0.rows.m3 1,.slice (some ⟨6,0,none⟩) y0.rows.m4 1,.slice (some ⟨7,0,none⟩) y0.rows.m5 1,.slice (some ⟨8,0,none⟩) y0.rows.m6 1,.slice (some ⟨9,0,none⟩) y0.rows.m7 1],some (vI .i64 y0.rows.e0),some (vI .i64 y0.rows.e1),some (vI .i64 y0.rows.e2),some (vI .i64 y0.rows.e3),some (vI .i64 y0.rows.e4),some (vI .i64 y0.rows.e5),some (vI .i64 y0.rows.e6),some (vI .i64 y0.rows.e7)]=some (XsV x):=by dsimp only [s16];exact (XaJ rfl (XaJ rfl (XaJ rfl (XaJ rfl (XaJ rfl (XaJ rfl (XaJ rfl (XaJ rfl ((XbZ rfl rfl (Xdr 0 _)).trans ((Xcd (Xf7)).trans (Xbe hx)))))))))))
def XhZ:XdJ:=XeS Xaa
def Xfo:XdL:=Xc2 Xab Xaa
def XfA:Xd2:=Xc1 Xab Xaa
def Xfw:Xeo:=Xc6 Xab Xaa
def XfC:Xd6:=Xc5 Xab Xaa
def Xfp:Xeb:=XcX Xab Xaa
def Xfv:XdR:=Xdc Xab Xaa
def XfB:Xeh:=Xc7 Xab Xaa
def Xfz:Xei:=Xc9 Xab Xaa
def Xac:Xaj:=⟨XhZ,Xfo,XfA,Xfw,XfC,Xfp,Xfv,XfB,Xfz⟩
theorem XCq:XfJ Try.prog 16 (s16 Xac):=by
 have L0:=XtA Xaa (XaB.Xa4 ⟨XbW,trivial⟩)
 have L1:=XsF Xab Xaa (XaB.Xa4 ⟨Xgx,XbW,trivial⟩)
 have L2:=XrB Xab Xaa (XaB.Xa4 ⟨Xgx,XbW,trivial⟩)
 have L3:=Xtv Xab Xaa (XaB.Xa4 ⟨Xgx,XbW,trivial⟩)
 have L4:=Xt6 Xab Xaa (XaB.Xa4 ⟨Xgx,XbW,trivial⟩)
 have L5:=Xs6 Xab Xaa (XaB.Xa4 ⟨Xgx,XbW,trivial⟩)
 have L6:=Xt8 Xab Xaa (XaB.Xa4 ⟨Xgx,XbW,trivial⟩)
 have L7:=XuJ Xab Xaa (XaB.Xa4 ⟨Xgx,XbW,trivial⟩)
 have L8:=XsA Xab Xaa (XaB.Xa4 ⟨Xgx,XbW,trivial⟩)
 refine XfJ.Xhq XaN (fun ar os r ha hr=>?_) ⟨Try.f16,rfl,by decide,rfl⟩
 generalize hc:XgD os=C at hr
 replace hr:=orD.elim hr;rcases hr with hr|hr
 ·have LL:=L0;exact okB
 replace hr:=orD.elim hr;rcases hr with hr|hr
 ·have LL:=L1;have U1:=@Xcj;exact okB
 replace hr:=orD.elim hr;rcases hr with hr|hr
 ·have LL:=L2;have U1:=@Xcl;exact okB
 replace hr:=orD.elim hr;rcases hr with hr|hr
 ·have LL:=L3;have U1:=@Xci;exact okB
 replace hr:=orD.elim hr;rcases hr with hr|hr
 ·have LL:=L4;have U1:=@Xck;exact okB
 replace hr:=orD.elim hr;rcases hr with hr|hr
 ·have LL:=L5;have U1:=@Xce;exact okB
 replace hr:=orD.elim hr;rcases hr with hr|hr
 ·have LL:=L6;have U1:=@Xcm;exact okB
 replace hr:=orD.elim hr;rcases hr with hr|hr
 ·have LL:=L7;have U1:=@Xcg;exact okB
 have LL:=L8;have U1:=@Xch;exact okB
def Xe1 (Xaa:Xae) (s:Xar):Option Int:=
 (Xaa.v0 (Xar.mk s.key Xa9.mk s.total)).bind fun x0=>
 cond (!x0)
  (
  some (0))
  (
  some (s.total))
def Xtb (x:Int):XcJ:=⟨.int .i64 x,[],[none,none,none,none,none,none,none,none,none,none]⟩
abbrev Xec:=Xar→Option Int
def r18v0 (g:Xec):Dec:=dTr 10 (Xcc 0) fun (y0:Xar)=>Xev (ofG (g y0) Xtb)
abbrev Xvd (Xaa:Xae):List (Nat×XcE):=[(38,s38 Xaa)]
theorem Xsu (Xaa:Xae) (hS:XaB Try.prog (XaI (Xvd Xaa))) (s:Xar) (res:Int) (h:Xe1 Xaa s=some res) :
 XaQ Try.prog 18 10 ⟨⟨18,10,[(0,.pointer (some ⟨0,0,none⟩))],[.code XlL],[],false,none⟩,[],[(0,.row false [.int .u64 s.key.A,.int .u64 s.key.B,.slice none 0 0,.int .i64 s.total])],10⟩ (fun v H _=>Res 10 (Xtb res) v H):=by
 unfold Xe1 at h
 have R1:=@XkK Xaa
 have J:=js []
 refine Xa3 XaN hS true 3000 ?_
 conv=>whnf
 exact W
def Xe2 (Xaa:Xae) (s:XaA):Option Int:=
 (Xaa.v1 s).bind fun x1=>
 cond (!x1)
  (
  some (0))
  (
  some (s.total))
def Xsv (x:Int):XcJ:=⟨.int .i64 x,[],[none,none,none,none,none,none,none,none,none,none]⟩
abbrev XdS:=XaA→Option Int
def r18v1 (g:XdS):Dec:=dTr 10 (XbF 0) fun (y0:XaA)=>Xev (ofG (g y0) Xsv)
abbrev XvS (Xaa:Xae):List (Nat×XcE):=[(38,s38 Xaa)]
theorem Xur (Xaa:Xae) (hS:XaB Try.prog (XaI (XvS Xaa))) (s:XaA) (res:Int) (h:Xe2 Xaa s=some res) :
 XaQ Try.prog 18 10 ⟨⟨18,10,[(0,.pointer (some ⟨0,0,none⟩))],[.code XlL],[],false,none⟩,[],[(0,.row false [.int .u64 s.key.A,.int .u64 s.key.B,.slice (some ⟨1,0,none⟩) 1 1,.int .i64 s.total]),(1,.row false [.slice (some ⟨2,0,none⟩) s.rows.m0 1]),(2,.row false (vI .i64 s.rows.e0))],10⟩ (fun v H _=>Res 10 (Xsv res) v H):=by
 unfold Xe2 at h
 have R1:=@XjE Xaa
 have J:=js []
 refine Xa3 XaN hS true 3000 ?_
 conv=>whnf
 exact W
def Xfb (Xaa:Xae) (s:Xaz):Option Int:=
 (Xaa.v2 s).bind fun x2=>
 cond (!x2)
  (
  some (0))
  (
  some (s.total))
def Xuz (x:Int):XcJ:=⟨.int .i64 x,[],[none,none,none,none,none,none,none,none,none,none]⟩
abbrev Xd0:=Xaz→Option Int
def r18v2 (g:Xd0):Dec:=dTr 10 (XbK 0) fun (y0:Xaz)=>Xev (ofG (g y0) Xuz)
abbrev XwA (Xaa:Xae):List (Nat×XcE):=[(38,s38 Xaa)]
theorem Xru (Xaa:Xae) (hS:XaB Try.prog (XaI (XwA Xaa))) (s:Xaz) (res:Int) (h:Xfb Xaa s=some res) :
 XaQ Try.prog 18 10 ⟨⟨18,10,[(0,.pointer (some ⟨0,0,none⟩))],[.code XlL],[],false,none⟩,[],[(0,.row false [.int .u64 s.key.A,.int .u64 s.key.B,.slice (some ⟨1,0,none⟩) 2 1,.int .i64 s.total]),(1,.row false [.slice (some ⟨2,0,none⟩) s.rows.m0 1,.slice (some ⟨3,0,none⟩) s.rows.m1 1]),(2,.row false (vI .i64 s.rows.e0)),(3,.row false (vI .i64 s.rows.e1))],10⟩ (fun v H _=>Res 10 (Xuz res) v H):=by
 unfold Xfb at h
 have R1:=@XjD Xaa
 have J:=js []
 refine Xa3 XaN hS true 3000 ?_
 conv=>whnf
 exact W
def XeQ (Xaa:Xae) (s:Xay):Option Int:=
 (Xaa.v3 s).bind fun x3=>
 cond (!x3)
  (
  some (0))
  (
  some (s.total))
def Xsi (x:Int):XcJ:=⟨.int .i64 x,[],[none,none,none,none,none,none,none,none,none,none]⟩
abbrev XdW:=Xay→Option Int
def r18v3 (g:XdW):Dec:=dTr 10 (XbJ 0) fun (y0:Xay)=>Xev (ofG (g y0) Xsi)
abbrev Xxf (Xaa:Xae):List (Nat×XcE):=[(38,s38 Xaa)]
theorem Xsz (Xaa:Xae) (hS:XaB Try.prog (XaI (Xxf Xaa))) (s:Xay) (res:Int) (h:XeQ Xaa s=some res) :
 XaQ Try.prog 18 10 ⟨⟨18,10,[(0,.pointer (some ⟨0,0,none⟩))],[.code XlL],[],false,none⟩,[],[(0,.row false [.int .u64 s.key.A,.int .u64 s.key.B,.slice (some ⟨1,0,none⟩) 3 1,.int .i64 s.total]),(1,.row false [.slice (some ⟨2,0,none⟩) s.rows.m0 1,.slice (some ⟨3,0,none⟩) s.rows.m1 1,.slice (some ⟨4,0,none⟩) s.rows.m2 1]),(2,.row false (vI .i64 s.rows.e0)),(3,.row false (vI .i64 s.rows.e1)),(4,.row false (vI .i64 s.rows.e2))],10⟩ (fun v H _=>Res 10 (Xsi res) v H):=by
 unfold XeQ at h
 have R1:=@XjI Xaa
 have J:=js []
 refine Xa3 XaN hS true 3000 ?_
 conv=>whnf
 exact W
def XeU (Xaa:Xae) (s:Xaw):Option Int:=
 (Xaa.v4 s).bind fun x4=>
 cond (!x4)
  (
  some (0))
  (
  some (s.total))
def Xti (x:Int):XcJ:=⟨.int .i64 x,[],[none,none,none,none,none,none,none,none,none,none]⟩
abbrev XdG:=Xaw→Option Int
def r18v4 (g:XdG):Dec:=dTr 10 (XbG 0) fun (y0:Xaw)=>Xev (ofG (g y0) Xti)
abbrev Xw3 (Xaa:Xae):List (Nat×XcE):=[(38,s38 Xaa)]
theorem XsD (Xaa:Xae) (hS:XaB Try.prog (XaI (Xw3 Xaa))) (s:Xaw) (res:Int) (h:XeU Xaa s=some res) :
 XaQ Try.prog 18 10 ⟨⟨18,10,[(0,.pointer (some ⟨0,0,none⟩))],[.code XlL],[],false,none⟩,[],[(0,.row false [.int .u64 s.key.A,.int .u64 s.key.B,.slice (some ⟨1,0,none⟩) 4 1,.int .i64 s.total]),(1,.row false [.slice (some ⟨2,0,none⟩) s.rows.m0 1,.slice (some ⟨3,0,none⟩) s.rows.m1 1,.slice (some ⟨4,0,none⟩) s.rows.m2 1,.slice (some ⟨5,0,none⟩) s.rows.m3 1]),(2,.row false (vI .i64 s.rows.e0)),(3,.row false (vI .i64 s.rows.e1)),(4,.row false (vI .i64 s.rows.e2)),(5,.row false (vI .i64 s.rows.e3))],10⟩ (fun v H _=>Res 10 (Xti res) v H):=by
 unfold XeU at h
 have R1:=@Xjr Xaa
 have J:=js []
 refine Xa3 XaN hS true 3000 ?_
 conv=>whnf
 exact W
def Xfc (Xaa:Xae) (s:Xav):Option Int:=
 (Xaa.v5 s).bind fun x5=>
 cond (!x5)
  (
  some (0))
  (
  some (s.total))
def Xtm (x:Int):XcJ:=⟨.int .i64 x,[],[none,none,none,none,none,none,none,none,none,none]⟩
abbrev XdN:=Xav→Option Int
def r18v5 (g:XdN):Dec:=dTr 10 (XbE 0) fun (y0:Xav)=>Xev (ofG (g y0) Xtm)
abbrev Xwm (Xaa:Xae):List (Nat×XcE):=[(38,s38 Xaa)]
theorem Xuh (Xaa:Xae) (hS:XaB Try.prog (XaI (Xwm Xaa))) (s:Xav) (res:Int) (h:Xfc Xaa s=some res) :
 XaQ Try.prog 18 10 ⟨⟨18,10,[(0,.pointer (some ⟨0,0,none⟩))],[.code XlL],[],false,none⟩,[],[(0,.row false [.int .u64 s.key.A,.int .u64 s.key.B,.slice (some ⟨1,0,none⟩) 5 1,.int .i64 s.total]),(1,.row false [.slice (some ⟨2,0,none⟩) s.rows.m0 1,.slice (some ⟨3,0,none⟩) s.rows.m1 1,.slice (some ⟨4,0,none⟩) s.rows.m2 1,.slice (some ⟨5,0,none⟩) s.rows.m3 1,.slice (some ⟨6,0,none⟩) s.rows.m4 1]),(2,.row false (vI .i64 s.rows.e0)),(3,.row false (vI .i64 s.rows.e1)),(4,.row false (vI .i64 s.rows.e2)),(5,.row false (vI .i64 s.rows.e3)),(6,.row false (vI .i64 s.rows.e4))],10⟩ (fun v H _=>Res 10 (Xtm res) v H):=by
 unfold Xfc at h
 have R1:=@XjW Xaa
 have J:=js []
 refine Xa3 XaN hS true 3000 ?_
 conv=>whnf
 exact W
def Xe8 (Xaa:Xae) (s:Xau):Option Int:=
 (Xaa.v6 s).bind fun x6=>
 cond (!x6)
  (
  some (0))
  (
  some (s.total))
def Xs5 (x:Int):XcJ:=⟨.int .i64 x,[],[none,none,none,none,none,none,none,none,none,none]⟩
abbrev Xea:=Xau→Option Int
def r18v6 (g:Xea):Dec:=dTr 10 (XbI 0) fun (y0:Xau)=>Xev (ofG (g y0) Xs5)
abbrev Xv7 (Xaa:Xae):List (Nat×XcE):=[(38,s38 Xaa)]
theorem XsZ (Xaa:Xae) (hS:XaB Try.prog (XaI (Xv7 Xaa))) (s:Xau) (res:Int) (h:Xe8 Xaa s=some res) :
 XaQ Try.prog 18 10 ⟨⟨18,10,[(0,.pointer (some ⟨0,0,none⟩))],[.code XlL],[],false,none⟩,[],[(0,.row false [.int .u64 s.key.A,.int .u64 s.key.B,.slice (some ⟨1,0,none⟩) 6 1,.int .i64 s.total]),(1,.row false [.slice (some ⟨2,0,none⟩) s.rows.m0 1,.slice (some ⟨3,0,none⟩) s.rows.m1 1,.slice (some ⟨4,0,none⟩) s.rows.m2 1,.slice (some ⟨5,0,none⟩) s.rows.m3 1,.slice (some ⟨6,0,none⟩) s.rows.m4 1,.slice (some ⟨7,0,none⟩) s.rows.m5 1]),(2,.row false (vI .i64 s.rows.e0)),(3,.row false (vI .i64 s.rows.e1)),(4,.row false (vI .i64 s.rows.e2)),(5,.row false (vI .i64 s.rows.e3)),(6,.row false (vI .i64 s.rows.e4)),(7,.row false (vI .i64 s.rows.e5))],10⟩ (fun v H _=>Res 10 (Xs5 res) v H):=by
 unfold Xe8 at h
 have R1:=@XjL Xaa
 have J:=js []
 refine Xa3 XaN hS true 3000 ?_
 conv=>whnf
 exact W
def XeI (Xaa:Xae) (s:Xat):Option Int:=
 (Xaa.v7 s).bind fun x7=>
 cond (!x7)
  (
  some (0))
  (
  some (s.total))
def Xsg (x:Int):XcJ:=⟨.int .i64 x,[],[none,none,none,none,none,none,none,none,none,none]⟩
abbrev XdP:=Xat→Option Int
def r18v7 (g:XdP):Dec:=dTr 10 (XbM 0) fun (y0:Xat)=>Xev (ofG (g y0) Xsg)
abbrev XvC (Xaa:Xae):List (Nat×XcE):=[(38,s38 Xaa)]
theorem XrC (Xaa:Xae) (hS:XaB Try.prog (XaI (XvC Xaa))) (s:Xat) (res:Int) (h:XeI Xaa s=some res) :
 XaQ Try.prog 18 10 ⟨⟨18,10,[(0,.pointer (some ⟨0,0,none⟩))],[.code XlL],[],false,none⟩,[],[(0,.row false [.int .u64 s.key.A,.int .u64 s.key.B,.slice (some ⟨1,0,none⟩) 7 1,.int .i64 s.total]),(1,.row false [.slice (some ⟨2,0,none⟩) s.rows.m0 1,.slice (some ⟨3,0,none⟩) s.rows.m1 1,.slice (some ⟨4,0,none⟩) s.rows.m2 1,.slice (some ⟨5,0,none⟩) s.rows.m3 1,.slice (some ⟨6,0,none⟩) s.rows.m4 1,.slice (some ⟨7,0,none⟩) s.rows.m5 1,.slice (some ⟨8,0,none⟩) s.rows.m6 1]),(2,.row false (vI .i64 s.rows.e0)),(3,.row false (vI .i64 s.rows.e1)),(4,.row false (vI .i64 s.rows.e2)),(5,.row false (vI .i64 s.rows.e3)),(6,.row false (vI .i64 s.rows.e4)),(7,.row false (vI .i64 s.rows.e5)),(8,.row false (vI .i64 s.rows.e6))],10⟩ (fun v H _=>Res 10 (Xsg res) v H):=by
 unfold XeI at h
 have R1:=@Xju Xaa
 have J:=js []
 refine Xa3 XaN hS true 3000 ?_
 conv=>whnf
 exact W
def Xff (Xaa:Xae) (s:Xas):Option Int:=
 (Xaa.v8 s).bind fun x8=>
 cond (!x8)
  (
  some (0))
  (
  some (s.total))
def Xsy (x:Int):XcJ:=⟨.int .i64 x,[],[none,none,none,none,none,none,none,none,none,none]⟩
abbrev XdX:=Xas→Option Int
def r18v8 (g:XdX):Dec:=dTr 10 (XbH 0) fun (y0:Xas)=>Xev (ofG (g y0) Xsy)
abbrev XwR (Xaa:Xae):List (Nat×XcE):=[(38,s38 Xaa)]
theorem Xtz (Xaa:Xae) (hS:XaB Try.prog (XaI (XwR Xaa))) (s:Xas) (res:Int) (h:Xff Xaa s=some res) :
 XaQ Try.prog 18 10 ⟨⟨18,10,[(0,.pointer (some ⟨0,0,none⟩))],[.code XlL],[],false,none⟩,[],[(0,.row false [.int .u64 s.key.A,.int .u64 s.key.B,.slice (some ⟨1,0,none⟩) 8 1,.int .i64 s.total]),(1,.row false [.slice (some ⟨2,0,none⟩) s.rows.m0 1,.slice (some ⟨3,0,none⟩) s.rows.m1 1,.slice (some ⟨4,0,none⟩) s.rows.m2 1,.slice (some ⟨5,0,none⟩) s.rows.m3 1,.slice (some ⟨6,0,none⟩) s.rows.m4 1,.slice (some ⟨7,0,none⟩) s.rows.m5 1,.slice (some ⟨8,0,none⟩) s.rows.m6 1,.slice (some ⟨9,0,none⟩) s.rows.m7 1]),(2,.row false (vI .i64 s.rows.e0)),(3,.row false (vI .i64 s.rows.e1)),(4,.row false (vI .i64 s.rows.e2)),(5,.row false (vI .i64 s.rows.e3)),(6,.row false (vI .i64 s.rows.e4)),(7,.row false (vI .i64 s.rows.e5)),(8,.row false (vI .i64 s.rows.e6)),(9,.row false (vI .i64 s.rows.e7))],10⟩ (fun v H _=>Res 10 (Xsy res) v H):=by
 unfold Xff at h
 have R1:=@XjB Xaa
 have J:=js []
 refine Xa3 XaN hS true 3000 ?_
 conv=>whnf
 exact W
structure Xai where
 v0:Xec
 v1:XdS
 v2:Xd0
 v3:XdW
 v4:XdG
 v5:XdN
 v6:Xea
 v7:XdP
 v8:XdX
def s18 (g:Xai):XcE:=⟨[.tr [⟨none,0,0,0,none⟩,⟨some 0,2,0,0,none⟩,⟨some 1,0,0,0,none⟩,⟨some 1,1,0,0,none⟩,⟨some 1,2,0,0,none⟩,⟨some 1,3,0,0,none⟩,⟨some 1,4,0,0,none⟩,⟨some 1,5,0,0,none⟩,⟨some 1,6,0,0,none⟩,⟨some 1,7,0,0,none⟩]],orD (r18v0 g.v0) (orD (r18v1 g.v1) (orD (r18v2 g.v2) (orD (r18v3 g.v3) (orD (r18v4 g.v4) (orD (r18v5 g.v5) (orD (r18v6 g.v6) (orD (r18v7 g.v7) (r18v8 g.v8))))))))⟩
theorem Xp4 {g:Xai} {y0:Xar} {x:Int} (hx:g.v0 y0=some x):(s18 g).run [.pointer (some ⟨0,0,none⟩)] [some [.int .u64 y0.key.A,.int .u64 y0.key.B,.slice none 0 0,.int .i64 y0.total],none,none,none,none,none,none,none,none,none]=some (Xtb x):=by dsimp only [s18];exact (Xdt ((XbZ rfl rfl (Xdj 0 _)).trans (Xbe hx)))
theorem Xvh {g:Xai} {y0:XaA} {x:Int} (hx:g.v1 y0=some x):(s18 g).run [.pointer (some ⟨0,0,none⟩)] [some [.int .u64 y0.key.A,.int .u64 y0.key.B,.slice (some ⟨1,0,none⟩) 1 1,.int .i64 y0.total],some [.slice (some ⟨2,0,none⟩) y0.rows.m0 1],some (vI .i64 y0.rows.e0),none,none,none,none,none,none,none]=some (Xsv x):=by dsimp only [s18];exact (XaJ rfl (Xdt ((XbZ rfl rfl (Xdi 0 _)).trans (Xbe hx))))
theorem XmK {g:Xai} {y0:Xaz} {x:Int} (hx:g.v2 y0=some x):(s18 g).run [.pointer (some ⟨0,0,none⟩)] [some [.int .u64 y0.key.A,.int .u64 y0.key.B,.slice (some ⟨1,0,none⟩) 2 1,.int .i64 y0.total],some [.slice (some ⟨2,0,none⟩) y0.rows.m0 1,.slice (some ⟨3,0,none⟩) y0.rows.m1 1],some (vI .i64 y0.rows.e0),some (vI .i64 y0.rows.e1),none,none,none,none,none,none]=some (Xuz x):=by dsimp only [s18];exact (XaJ rfl (XaJ rfl (Xdt ((XbZ rfl rfl (Xdn 0 _)).trans (Xbe hx)))))
theorem Xxh {g:Xai} {y0:Xay} {x:Int} (hx:g.v3 y0=some x):(s18 g).run [.pointer (some ⟨0,0,none⟩)] [some [.int .u64 y0.key.A,.int .u64 y0.key.B,.slice (some ⟨1,0,none⟩) 3 1,.int .i64 y0.total],some [.slice (some ⟨2,0,none⟩) y0.rows.m0 1,.slice (some ⟨3,0,none⟩) y0.rows.m1 1,.slice (some ⟨4,0,none⟩) y0.rows.m2 1],some (vI .i64 y0.rows.e0),some (vI .i64 y0.rows.e1),some (vI .i64 y0.rows.e2),none,none,none,none,none]=some (Xsi x):=by dsimp only [s18];exact (XaJ rfl (XaJ rfl (XaJ rfl (Xdt ((XbZ rfl rfl (Xdh 0 _)).trans (Xbe hx))))))
theorem XwP {g:Xai} {y0:Xaw} {x:Int} (hx:g.v4 y0=some x):(s18 g).run [.pointer (some ⟨0,0,none⟩)] [some [.int .u64 y0.key.A,.int .u64 y0.key.B,.slice (some ⟨1,0,none⟩) 4 1,.int .i64 y0.total],some [.slice (some ⟨2,0,none⟩) y0.rows.m0 1,.slice (some ⟨3,0,none⟩) y0.rows.m1 1,.slice (some ⟨4,0,none⟩) y0.rows.m2 1,.slice (some ⟨5,0,none⟩) y0.rows.m3 1],some (vI .i64 y0.rows.e0),some (vI .i64 y0.rows.e1),some (vI .i64 y0.rows.e2),some (vI .i64 y0.rows.e3),none,none,none,none]=some (Xti x):=by dsimp only [s18];exact (XaJ rfl (XaJ rfl (XaJ rfl (XaJ rfl (Xdt ((XbZ rfl rfl (Xdg 0 _)).trans (Xbe hx)))))))
theorem Xww {g:Xai} {y0:Xav} {x:Int} (hx:g.v5 y0=some x):(s18 g).run [.pointer (some ⟨0,0,none⟩)] [some [.int .u64 y0.key.A,.int .u64 y0.key.B,.slice (some ⟨1,0,none⟩) 5 1,.int .i64 y0.total],some [.slice (some ⟨2,0,none⟩) y0.rows.m0 1,.slice (some ⟨3,0,none⟩) y0.rows.m1 1,.slice (some ⟨4,0,none⟩) y0.rows.m2 1,.slice (some ⟨5,0,none⟩) y0.rows.m3 1,.slice (some ⟨6,0,none⟩) y0.rows.m4 1],some (vI .i64 y0.rows.e0),some (vI .i64 y0.rows.e1),some (vI .i64 y0.rows.e2),some (vI .i64 y0.rows.e3),some (vI .i64 y0.rows.e4),none,none,none]=some (Xtm x):=by dsimp only [s18];exact (XaJ rfl (XaJ rfl (XaJ rfl (XaJ rfl (XaJ rfl (Xdt ((XbZ rfl rfl (Xdl 0 _)).trans (Xbe hx))))))))
theorem Xv9 {g:Xai} {y0:Xau} {x:Int} (hx:g.v6 y0=some x):(s18 g).run [.pointer (some ⟨0,0,none⟩)] [some [.int .u64 y0.key.A,.int .u64 y0.key.B,.slice (some ⟨1,0,none⟩) 6 1,.int .i64 y0.total],some [.slice (some ⟨2,0,none⟩) y0.rows.m0 1,.slice (some ⟨3,0,none⟩) y0.rows.m1 1,.slice (some ⟨4,0,none⟩) y0.rows.m2 1,.slice (some ⟨5,0,none⟩) y0.rows.m3 1,.slice (some ⟨6,0,none⟩) y0.rows.m4 1,.slice (some ⟨7,0,none⟩) y0.rows.m5 1],some (vI .i64 y0.rows.e0),some (vI .i64 y0.rows.e1),some (vI .i64 y0.rows.e2),some (vI .i64 y0.rows.e3),some (vI .i64 y0.rows.e4),some (vI .i64 y0.rows.e5),none,none]=some (Xs5 x):=by dsimp only [s18];exact (XaJ rfl (XaJ rfl (XaJ rfl (XaJ rfl (XaJ rfl (XaJ rfl (Xdt ((XbZ rfl rfl (Xdk 0 _)).trans (Xbe hx)))))))))
theorem Xv8 {g:Xai} {y0:Xat} {x:Int} (hx:g.v7 y0=some x):(s18 g).run [.pointer (some ⟨0,0,none⟩)] [some [.int .u64 y0.key.A,.int .u64 y0.key.B,.slice (some ⟨1,0,none⟩) 7 1,.int .i64 y0.total],some [.slice (some ⟨2,0,none⟩) y0.rows.m0 1,.slice (some ⟨3,0,none⟩) y0.rows.m1 1,.slice (some ⟨4,0,none⟩) y0.rows.m2 1,.slice (some ⟨5,0,none⟩) y0.rows.m3 1,.slice (some ⟨6,0,none⟩) y0.rows.m4 1,.slice (some ⟨7,0,none⟩) y0.rows.m5 1,.slice (some ⟨8,0,none⟩) y0.rows.m6 1],some (vI .i64 y0.rows.e0),some (vI .i64 y0.rows.e1),some (vI .i64 y0.rows.e2),some (vI .i64 y0.rows.e3),some (vI .i64 y0.rows.e4),some (vI .i64 y0.rows.e5),some (vI .i64 y0.rows.e6),none]=some (Xsg x):=by dsimp only [s18];exact (XaJ rfl (XaJ rfl (XaJ rfl (XaJ rfl (XaJ rfl (XaJ rfl (XaJ rfl (Xdt ((XbZ rfl rfl (Xds 0 _)).trans (Xbe hx))))))))))
theorem Xv6 {g:Xai} {y0:Xas} {x:Int} (hx:g.v8 y0=some x):(s18 g).run [.pointer (some ⟨0,0,none⟩)] [some [.int .u64 y0.key.A,.int .u64 y0.key.B,.slice (some ⟨1,0,none⟩) 8 1,.int .i64 y0.total],some [.slice (some ⟨2,0,none⟩) y0.rows.m0 1,.slice (some ⟨3,0,none⟩) y0.rows.m1 1,.slice (some ⟨4,0,none⟩) y0.rows.m2 1,.slice (some ⟨5,0,none⟩) y0.rows.m3 1,.slice (some ⟨6,0,none⟩) y0.rows.m4 1,.slice (some ⟨7,0,none⟩) y0.rows.m5 1,.slice (some ⟨8,0,none⟩) y0.rows.m6 1,.slice (some ⟨9,0,none⟩) y0.rows.m7 1],some (vI .i64 y0.rows.e0),some (vI .i64 y0.rows.e1),some (vI .i64 y0.rows.e2),some (vI .i64 y0.rows.e3),some (vI .i64 y0.rows.e4),some (vI .i64 y0.rows.e5),some (vI .i64 y0.rows.e6),some (vI .i64 y0.rows.e7)]=some (Xsy x):=by dsimp only [s18];exact (XaJ rfl (XaJ rfl (XaJ rfl (XaJ rfl (XaJ rfl (XaJ rfl (XaJ rfl (XaJ rfl ((XbZ rfl rfl (Xdr 0 _)).trans (Xbe hx))))))))))
def Xix:Xec:=Xe1 Xaa
def XhW:XdS:=Xe2 Xaa
def Xik:Xd0:=Xfb Xaa
def XhV:XdW:=XeQ Xaa
def XhS:XdG:=XeU Xaa
def Xih:XdN:=Xfc Xaa
def Xh7:Xea:=Xe8 Xaa
def Xia:XdP:=XeI Xaa
def XhG:XdX:=Xff Xaa
def Xad:Xai:=⟨Xix,XhW,Xik,XhV,XhS,Xih,Xh7,Xia,XhG⟩
theorem XCA:XfJ Try.prog 18 (s18 Xad):=by
 have L0:=Xsu Xaa (XaB.Xa4 ⟨XbW,trivial⟩)
 have L1:=Xur Xaa (XaB.Xa4 ⟨XbW,trivial⟩)
 have L2:=Xru Xaa (XaB.Xa4 ⟨XbW,trivial⟩)
 have L3:=Xsz Xaa (XaB.Xa4 ⟨XbW,trivial⟩)
 have L4:=XsD Xaa (XaB.Xa4 ⟨XbW,trivial⟩)
 have L5:=Xuh Xaa (XaB.Xa4 ⟨XbW,trivial⟩)
 have L6:=XsZ Xaa (XaB.Xa4 ⟨XbW,trivial⟩)
 have L7:=XrC Xaa (XaB.Xa4 ⟨XbW,trivial⟩)
 have L8:=Xtz Xaa (XaB.Xa4 ⟨XbW,trivial⟩)
 refine XfJ.Xhq XaN (fun ar os r ha hr=>?_) ⟨Try.f18,rfl,by decide,rfl⟩
 generalize hc:XgD os=C at hr
 replace hr:=orD.elim hr;rcases hr with hr|hr
 ·have LL:=L0;have U1:=@XcW;exact okB
 replace hr:=orD.elim hr;rcases hr with hr|hr
 ·have LL:=L1;have U1:=@Xcj;exact okB
 replace hr:=orD.elim hr;rcases hr with hr|hr
 ·have LL:=L2;have U1:=@Xcl;exact okB
 replace hr:=orD.elim hr;rcases hr with hr|hr
 ·have LL:=L3;have U1:=@Xci;exact okB
 replace hr:=orD.elim hr;rcases hr with hr|hr
 ·have LL:=L4;have U1:=@Xck;exact okB
 replace hr:=orD.elim hr;rcases hr with hr|hr
 ·have LL:=L5;have U1:=@Xce;exact okB
 replace hr:=orD.elim hr;rcases hr with hr|hr
 ·have LL:=L6;have U1:=@Xcm;exact okB
 replace hr:=orD.elim hr;rcases hr with hr|hr
 ·have LL:=L7;have U1:=@Xcg;exact okB
 have LL:=L8;have U1:=@Xch;exact okB
end Go.Vm.Code
namespace Go.Vm.Code
open Go Go.Vm
set_option maxHeartbeats 4000000
theorem Xfj {α:Type} {pl:Option Int} {q m p:Nat} {row:List Int} {K:Int→Option α} (hp:pl=some (q:Int)) (hq:q<p) (hm:m=p) (hl:row.length=p) :
 (pl.bind fun x=>XaL (decide ((0:Int)≤x∧x<(m:Int)))<|(row[x.toNat]?).bind fun (e:Int)=>K e)=K (row.getD q 0):=by
 subst hp hm
 rw [Option.bind_some,XaH (by omega),Int.toNat_natCast,List.getD_eq_getElem?_getD,List.getElem?_eq_getElem (by omega),Option.bind_some];rfl
theorem XhF {p:Nat} {x:SkS} (hp:1≤p) (hx:XgR p x) (k:Xap) (i:Nat) (t:List UInt8):∃ v,(x.R i)[plN k p i t]?=some v∧(0≤v∧v≤1099511627776)∧plN k p i t<p∧(x.R i).length=p∧(x.R i).getD (plN k p i t) 0=v:=by
 have q:=Xcz hp k i t
 have l:=hx.len i
 have e:(x.R i)[plN k p i t]?=some ((x.R i)[plN k p i t]'(by omega)):=List.getElem?_eq_getElem _
 exact ⟨_,e,hx.rng i _ (List.getElem_mem _),q,l,by rw [List.getD_eq_getElem?_getD,e];rfl⟩
theorem sN {n:Int} (h:0≤n) (h2:n≤1099511627776) {N:Int} (hN:0≤N∧N≤1048576):(if wI .i64 (n+N)<1099511627776 then wI .i64 (n+N) else 1099511627776)=cap (n+N):=by rw [Xey (by omega) (by omega)];rfl
theorem XcS {e:Xan} (h:e.N<0∨1048576<e.N):Xja e=false:=by unfold Xja;exact decide_eq_false (by omega)
theorem XfI {e:Xan} (h:¬ e.N<0) (h2:¬ 1048576<e.N):Xja e=true:=by unfold Xja;exact decide_eq_true (by omega)
theorem Xdx {k:Xap} {p:Nat} {x:SkS} {e:Xan} (h:Xja e=false):stepS k p x e=x:=by unfold stepS;rw [h];rfl
theorem Xgy {k:Xap} {p:Nat} {x:SkS} {e:Xan} (h:Xja e=true):stepS k p x e=⟨fun i=>Xpn k p e.Text e.N i (x.R i),cap (x.tot+e.N)⟩:=by unfold stepS;rw [h];rfl
def XxA (k:Xap) (p:Nat) (x:SkS):XaA:=⟨k,⟨x.R 0,p⟩,x.tot⟩
theorem XnE {k:Xap} {p:Nat} (hp:1≤p∧p≤4096) (s:XaA) (hk:s.key=k) (hm:s.rows.m0=p) {t:List UInt8} (ht:t.length≤20) (i:Nat) (hi:i<1):XfD s i t=some (plN k p i t:Int):=by
 unfold XfD Xdb
 rw [show Xaa.v1 s=some true from rfl,Option.bind_some,show (!true)=false from rfl,cond_false,XaW (by omega),XaW (by omega),hk,XiH ht,Option.bind_some,XaH (by omega),Int.toNat_natCast]
 obtain rfl:i=0:=by omega
 ·show (Xal _ (s.rows.m0:Int)).bind _=_;rw [hm,XcH hp.1 hp.2];rfl
theorem Xzo {k:Xap} {p:Nat} (hp:1≤p∧p≤4096) {x:SkS} (hx:XgR p x) {e:Xan} (he:e.Text.length≤20):XfU (XxA k p x) e.Text e.N=some (Xja e,XxA k p (stepS k p x e)):=by
 unfold XfU Xdz
 rw [show Xaa.v1 (XxA k p x)=some true from rfl,Option.bind_some,show (!true)=false from rfl,cond_false]
 by_cases h1:e.N<0
 ·rw [XbS h1,XcS (.inl h1),Xdx (XcS (.inl h1))]
 rw [XaW h1]
 by_cases h2:e.N>1048576
 ·rw [XbS h2,XcS (.inr h2),Xdx (XcS (.inr h2))]
 have hN:0≤e.N∧e.N≤1048576:=by omega
 rw [XaW h2,XfI h1 h2,Xgy (XfI h1 h2)]
 obtain ⟨v0,e0,a0,q0,l0,g0⟩:=XhF hp.1 hx k 0 e.Text
 unfold XxA
 dsimp only
 rw [show Xab.v1 ⟨_,_,_⟩ 0 e.Text=some (plN k p 0 e.Text:Int) from XnE hp _ (by rfl) (by rfl) he 0 (by decide),Option.bind_some,XaH (by omega),Int.toNat_natCast,e0,Option.bind_some,Xey (n:=v0+e.N) (by omega) (by omega),XaH (by omega)]
 rw [sN hx.tot.1 hx.tot.2 hN]
 unfold Xpn
 rw [g0];rfl
theorem Xr9 {k:Xap} {p:Nat} (hp:1≤p∧p≤4096) {x:SkS} (hx:XgR p x) {t:List UInt8} (ht:t.length≤20):Xfo (XxA k p x) t=some (XkX k p x t 1):=by
 unfold Xfo Xc2
 rw [show Xaa.v1 (XxA k p x)=some true from rfl,Option.bind_some,show (!true)=false from rfl,cond_false]
 refine Eq.trans (Xfj (XnE hp _ (by rfl) (by rfl) ht 0 (by decide)) (Xcz hp.1 _ _ _) (by rfl) (hx.len 0)) ?_
 rfl
def XxM (k:Xap) (p:Nat) (x:SkS):Xaz:=⟨k,⟨x.R 0,x.R 1,p,p⟩,x.tot⟩
theorem Xj0 {k:Xap} {p:Nat} (hp:1≤p∧p≤4096) (s:Xaz) (hk:s.key=k) (hm:s.rows.m0=p∧s.rows.m1=p) {t:List UInt8} (ht:t.length≤20) (i:Nat) (hi:i<2):Xft s i t=some (plN k p i t:Int):=by
 unfold Xft XcZ
 rw [show Xaa.v2 s=some true from rfl,Option.bind_some,show (!true)=false from rfl,cond_false,XaW (by omega),XaW (by omega),hk,XiH ht,Option.bind_some,XaH (by omega),Int.toNat_natCast]
 obtain rfl|rfl:i=0∨i=1:=by omega
 ·show (Xal _ (s.rows.m0:Int)).bind _=_;rw [hm.1,XcH hp.1 hp.2];rfl
 ·show (Xal _ (s.rows.m1:Int)).bind _=_;rw [hm.2,XcH hp.1 hp.2];rfl
theorem XyH {k:Xap} {p:Nat} (hp:1≤p∧p≤4096) {x:SkS} (hx:XgR p x) {e:Xan} (he:e.Text.length≤20):Xf1 (XxM k p x) e.Text e.N=some (Xja e,XxM k p (stepS k p x e)):=by
 unfold Xf1 Xdv
 rw [show Xaa.v2 (XxM k p x)=some true from rfl,Option.bind_some,show (!true)=false from rfl,cond_false]
 by_cases h1:e.N<0
 ·rw [XbS h1,XcS (.inl h1),Xdx (XcS (.inl h1))]
 rw [XaW h1]
 by_cases h2:e.N>1048576
 ·rw [XbS h2,XcS (.inr h2),Xdx (XcS (.inr h2))]
 have hN:0≤e.N∧e.N≤1048576:=by omega
 rw [XaW h2,XfI h1 h2,Xgy (XfI h1 h2)]
 obtain ⟨v0,e0,a0,q0,l0,g0⟩:=XhF hp.1 hx k 0 e.Text
 obtain ⟨v1,e1,a1,q1,l1,g1⟩:=XhF hp.1 hx k 1 e.Text
 unfold XxM
 dsimp only
 rw [show Xab.v2 ⟨_,_,_⟩ 0 e.Text=some (plN k p 0 e.Text:Int) from Xj0 hp _ (by rfl) (by exact ⟨rfl,rfl⟩) he 0 (by decide),Option.bind_some,XaH (by omega),Int.toNat_natCast,e0,Option.bind_some,Xey (n:=v0+e.N) (by omega) (by omega),XaH (by omega)]
 rw [show Xab.v2 ⟨_,_,_⟩ 1 e.Text=some (plN k p 1 e.Text:Int) from Xj0 hp _ (by rfl) (by exact ⟨rfl,rfl⟩) he 1 (by decide),Option.bind_some,XaH (by omega),Int.toNat_natCast,e1,Option.bind_some,Xey (n:=v1+e.N) (by omega) (by omega),XaH (by omega)]
 rw [sN hx.tot.1 hx.tot.2 hN]
 unfold Xpn
 rw [g0,g1];rfl
theorem XrT {k:Xap} {p:Nat} (hp:1≤p∧p≤4096) {x:SkS} (hx:XgR p x) {t:List UInt8} (ht:t.length≤20):XfA (XxM k p x) t=some (XkX k p x t 2):=by
 unfold XfA Xc1
 rw [show Xaa.v2 (XxM k p x)=some true from rfl,Option.bind_some,show (!true)=false from rfl,cond_false]
 refine Eq.trans (Xfj (Xj0 hp _ (by rfl) (by exact ⟨rfl,rfl⟩) ht 0 (by decide)) (Xcz hp.1 _ _ _) (by rfl) (hx.len 0)) ?_
 refine Eq.trans (Xfj (Xj0 hp _ (by rfl) (by exact ⟨rfl,rfl⟩) ht 1 (by decide)) (Xcz hp.1 _ _ _) (by rfl) (hx.len 1)) ?_
 rfl
def XxY (k:Xap) (p:Nat) (x:SkS):Xay:=⟨k,⟨x.R 0,x.R 1,x.R 2,p,p,p⟩,x.tot⟩
theorem Xha {k:Xap} {p:Nat} (hp:1≤p∧p≤4096) (s:Xay) (hk:s.key=k) (hm:s.rows.m0=p∧s.rows.m1=p∧s.rows.m2=p) {t:List UInt8} (ht:t.length≤20) (i:Nat) (hi:i<3):Xfm s i t=some (plN k p i t:Int):=by
 unfold Xfm XcY
 rw [show Xaa.v3 s=some true from rfl,Option.bind_some,show (!true)=false from rfl,cond_false,XaW (by omega),XaW (by omega),hk,XiH ht,Option.bind_some,XaH (by omega),Int.toNat_natCast]
 obtain rfl|rfl|rfl:i=0∨i=1∨i=2:=by omega
 ·show (Xal _ (s.rows.m0:Int)).bind _=_;rw [hm.1,XcH hp.1 hp.2];rfl
 ·show (Xal _ (s.rows.m1:Int)).bind _=_;rw [hm.2.1,XcH hp.1 hp.2];rfl
 ·show (Xal _ (s.rows.m2:Int)).bind _=_;rw [hm.2.2,XcH hp.1 hp.2];rfl
theorem Xz8 {k:Xap} {p:Nat} (hp:1≤p∧p≤4096) {x:SkS} (hx:XgR p x) {e:Xan} (he:e.Text.length≤20):XfW (XxY k p x) e.Text e.N=some (Xja e,XxY k p (stepS k p x e)):=by
 unfold XfW XdB
 rw [show Xaa.v3 (XxY k p x)=some true from rfl,Option.bind_some,show (!true)=false from rfl,cond_false]
 by_cases h1:e.N<0
 ·rw [XbS h1,XcS (.inl h1),Xdx (XcS (.inl h1))]
 rw [XaW h1]
 by_cases h2:e.N>1048576
 ·rw [XbS h2,XcS (.inr h2),Xdx (XcS (.inr h2))]
 have hN:0≤e.N∧e.N≤1048576:=by omega
 rw [XaW h2,XfI h1 h2,Xgy (XfI h1 h2)]
 obtain ⟨v0,e0,a0,q0,l0,g0⟩:=XhF hp.1 hx k 0 e.Text
 obtain ⟨v1,e1,a1,q1,l1,g1⟩:=XhF hp.1 hx k 1 e.Text
 obtain ⟨v2,e2,a2,q2,l2,g2⟩:=XhF hp.1 hx k 2 e.Text
 unfold XxY
 dsimp only
 rw [show Xab.v3 ⟨_,_,_⟩ 0 e.Text=some (plN k p 0 e.Text:Int) from Xha hp _ (by rfl) (by exact ⟨rfl,rfl,rfl⟩) he 0 (by decide),Option.bind_some,XaH (by omega),Int.toNat_natCast,e0,Option.bind_some,Xey (n:=v0+e.N) (by omega) (by omega),XaH (by omega)]
 rw [show Xab.v3 ⟨_,_,_⟩ 1 e.Text=some (plN k p 1 e.Text:Int) from Xha hp _ (by rfl) (by exact ⟨rfl,rfl,rfl⟩) he 1 (by decide),Option.bind_some,XaH (by omega),Int.toNat_natCast,e1,Option.bind_some,Xey (n:=v1+e.N) (by omega) (by omega),XaH (by omega)]
 rw [show Xab.v3 ⟨_,_,_⟩ 2 e.Text=some (plN k p 2 e.Text:Int) from Xha hp _ (by rfl) (by exact ⟨rfl,rfl,rfl⟩) he 2 (by decide),Option.bind_some,XaH (by omega),Int.toNat_natCast,e2,Option.bind_some,Xey (n:=v2+e.N) (by omega) (by omega),XaH (by omega)]
 rw [sN hx.tot.1 hx.tot.2 hN]
 unfold Xpn
 rw [g0,g1,g2];rfl
theorem XsM {k:Xap} {p:Nat} (hp:1≤p∧p≤4096) {x:SkS} (hx:XgR p x) {t:List UInt8} (ht:t.length≤20):Xfw (XxY k p x) t=some (XkX k p x t 3):=by
 unfold Xfw Xc6
 rw [show Xaa.v3 (XxY k p x)=some true from rfl,Option.bind_some,show (!true)=false from rfl,cond_false]
 refine Eq.trans (Xfj (Xha hp _ (by rfl) (by exact ⟨rfl,rfl,rfl⟩) ht 0 (by decide)) (Xcz hp.1 _ _ _) (by rfl) (hx.len 0)) ?_
 refine Eq.trans (Xfj (Xha hp _ (by rfl) (by exact ⟨rfl,rfl,rfl⟩) ht 1 (by decide)) (Xcz hp.1 _ _ _) (by rfl) (hx.len 1)) ?_
 refine Eq.trans (Xfj (Xha hp _ (by rfl) (by exact ⟨rfl,rfl,rfl⟩) ht 2 (by decide)) (Xcz hp.1 _ _ _) (by rfl) (hx.len 2)) ?_
 rfl
def Xxo (k:Xap) (p:Nat) (x:SkS):Xaw:=⟨k,⟨x.R 0,x.R 1,x.R 2,x.R 3,p,p,p,p⟩,x.tot⟩
theorem Xgv {k:Xap} {p:Nat} (hp:1≤p∧p≤4096) (s:Xaw) (hk:s.key=k) (hm:s.rows.m0=p∧s.rows.m1=p∧s.rows.m2=p∧s.rows.m3=p) {t:List UInt8} (ht:t.length≤20) (i:Nat) (hi:i<4):Xfq s i t=some (plN k p i t:Int):=by
 unfold Xfq Xc3
 rw [show Xaa.v4 s=some true from rfl,Option.bind_some,show (!true)=false from rfl,cond_false,XaW (by omega),XaW (by omega),hk,XiH ht,Option.bind_some,XaH (by omega),Int.toNat_natCast]
 obtain rfl|rfl|rfl|rfl:i=0∨i=1∨i=2∨i=3:=by omega
 ·show (Xal _ (s.rows.m0:Int)).bind _=_;rw [hm.1,XcH hp.1 hp.2];rfl
 ·show (Xal _ (s.rows.m1:Int)).bind _=_;rw [hm.2.1,XcH hp.1 hp.2];rfl
 ·show (Xal _ (s.rows.m2:Int)).bind _=_;rw [hm.2.2.1,XcH hp.1 hp.2];rfl
 ·show (Xal _ (s.rows.m3:Int)).bind _=_;rw [hm.2.2.2,XcH hp.1 hp.2];rfl
theorem Xyx {k:Xap} {p:Nat} (hp:1≤p∧p≤4096) {x:SkS} (hx:XgR p x) {e:Xan} (he:e.Text.length≤20):XfR (Xxo k p x) e.Text e.N=some (Xja e,Xxo k p (stepS k p x e)):=by
 unfold XfR XdA
 rw [show Xaa.v4 (Xxo k p x)=some true from rfl,Option.bind_some,show (!true)=false from rfl,cond_false]
 by_cases h1:e.N<0
 ·rw [XbS h1,XcS (.inl h1),Xdx (XcS (.inl h1))]
 rw [XaW h1]
 by_cases h2:e.N>1048576
 ·rw [XbS h2,XcS (.inr h2),Xdx (XcS (.inr h2))]
 have hN:0≤e.N∧e.N≤1048576:=by omega
 rw [XaW h2,XfI h1 h2,Xgy (XfI h1 h2)]
 obtain ⟨v0,e0,a0,q0,l0,g0⟩:=XhF hp.1 hx k 0 e.Text
 obtain ⟨v1,e1,a1,q1,l1,g1⟩:=XhF hp.1 hx k 1 e.Text
 obtain ⟨v2,e2,a2,q2,l2,g2⟩:=XhF hp.1 hx k 2 e.Text
 obtain ⟨v3,e3,a3,q3,l3,g3⟩:=XhF hp.1 hx k 3 e.Text
 unfold Xxo
 dsimp only
 rw [show Xab.v4 ⟨_,_,_⟩ 0 e.Text=some (plN k p 0 e.Text:Int) from Xgv hp _ (by rfl) (by exact ⟨rfl,rfl,rfl,rfl⟩) he 0 (by decide),Option.bind_some,XaH (by omega),Int.toNat_natCast,e0,Option.bind_some,Xey (n:=v0+e.N) (by omega) (by omega),XaH (by omega)]
 rw [show Xab.v4 ⟨_,_,_⟩ 1 e.Text=some (plN k p 1 e.Text:Int) from Xgv hp _ (by rfl) (by exact ⟨rfl,rfl,rfl,rfl⟩) he 1 (by decide),Option.bind_some,XaH (by omega),Int.toNat_natCast,e1,Option.bind_some,Xey (n:=v1+e.N) (by omega) (by omega),XaH (by omega)]
 rw [show Xab.v4 ⟨_,_,_⟩ 2 e.Text=some (plN k p 2 e.Text:Int) from Xgv hp _ (by rfl) (by exact ⟨rfl,rfl,rfl,rfl⟩) he 2 (by decide),Option.bind_some,XaH (by omega),Int.toNat_natCast,e2,Option.bind_some,Xey (n:=v2+e.N) (by omega) (by omega),XaH (by omega)]
 rw [show Xab.v4 ⟨_,_,_⟩ 3 e.Text=some (plN k p 3 e.Text:Int) from Xgv hp _ (by rfl) (by exact ⟨rfl,rfl,rfl,rfl⟩) he 3 (by decide),Option.bind_some,XaH (by omega),Int.toNat_natCast,e3,Option.bind_some,Xey (n:=v3+e.N) (by omega) (by omega),XaH (by omega)]
 rw [sN hx.tot.1 hx.tot.2 hN]
 unfold Xpn
 rw [g0,g1,g2,g3];rfl
theorem Xuf {k:Xap} {p:Nat} (hp:1≤p∧p≤4096) {x:SkS} (hx:XgR p x) {t:List UInt8} (ht:t.length≤20):XfC (Xxo k p x) t=some (XkX k p x t 4):=by
 unfold XfC Xc5
 rw [show Xaa.v4 (Xxo k p x)=some true from rfl,Option.bind_some,show (!true)=false from rfl,cond_false]
 refine Eq.trans (Xfj (Xgv hp _ (by rfl) (by exact ⟨rfl,rfl,rfl,rfl⟩) ht 0 (by decide)) (Xcz hp.1 _ _ _) (by rfl) (hx.len 0)) ?_
 refine Eq.trans (Xfj (Xgv hp _ (by rfl) (by exact ⟨rfl,rfl,rfl,rfl⟩) ht 1 (by decide)) (Xcz hp.1 _ _ _) (by rfl) (hx.len 1)) ?_
 refine Eq.trans (Xfj (Xgv hp _ (by rfl) (by exact ⟨rfl,rfl,rfl,rfl⟩) ht 2 (by decide)) (Xcz hp.1 _ _ _) (by rfl) (hx.len 2)) ?_
 refine Eq.trans (Xfj (Xgv hp _ (by rfl) (by exact ⟨rfl,rfl,rfl,rfl⟩) ht 3 (by decide)) (Xcz hp.1 _ _ _) (by rfl) (hx.len 3)) ?_
 rfl
def Xxn (k:Xap) (p:Nat) (x:SkS):Xav:=⟨k,⟨x.R 0,x.R 1,x.R 2,x.R 3,x.R 4,p,p,p,p,p⟩,x.tot⟩
theorem XfL {k:Xap} {p:Nat} (hp:1≤p∧p≤4096) (s:Xav) (hk:s.key=k) (hm:s.rows.m0=p∧s.rows.m1=p∧s.rows.m2=p∧s.rows.m3=p∧s.rows.m4=p) {t:List UInt8} (ht:t.length≤20) (i:Nat) (hi:i<5):Xfs s i t=some (plN k p i t:Int):=by
 unfold Xfs Xda
 rw [show Xaa.v5 s=some true from rfl,Option.bind_some,show (!true)=false from rfl,cond_false,XaW (by omega),XaW (by omega),hk,XiH ht,Option.bind_some,XaH (by omega),Int.toNat_natCast]
 obtain rfl|rfl|rfl|rfl|rfl:i=0∨i=1∨i=2∨i=3∨i=4:=by omega
 ·show (Xal _ (s.rows.m0:Int)).bind _=_;rw [hm.1,XcH hp.1 hp.2];rfl
 ·show (Xal _ (s.rows.m1:Int)).bind _=_;rw [hm.2.1,XcH hp.1 hp.2];rfl
 ·show (Xal _ (s.rows.m2:Int)).bind _=_;rw [hm.2.2.1,XcH hp.1 hp.2];rfl
 ·show (Xal _ (s.rows.m3:Int)).bind _=_;rw [hm.2.2.2.1,XcH hp.1 hp.2];rfl
 ·show (Xal _ (s.rows.m4:Int)).bind _=_;rw [hm.2.2.2.2,XcH hp.1 hp.2];rfl
theorem XyE {k:Xap} {p:Nat} (hp:1≤p∧p≤4096) {x:SkS} (hx:XgR p x) {e:Xan} (he:e.Text.length≤20):XfV (Xxn k p x) e.Text e.N=some (Xja e,Xxn k p (stepS k p x e)):=by
 unfold XfV Xdu
 rw [show Xaa.v5 (Xxn k p x)=some true from rfl,Option.bind_some,show (!true)=false from rfl,cond_false]
 by_cases h1:e.N<0
 ·rw [XbS h1,XcS (.inl h1),Xdx (XcS (.inl h1))]
 rw [XaW h1]
 by_cases h2:e.N>1048576
 ·rw [XbS h2,XcS (.inr h2),Xdx (XcS (.inr h2))]
 have hN:0≤e.N∧e.N≤1048576:=by omega
 rw [XaW h2,XfI h1 h2,Xgy (XfI h1 h2)]
 obtain ⟨v0,e0,a0,q0,l0,g0⟩:=XhF hp.1 hx k 0 e.Text
 obtain ⟨v1,e1,a1,q1,l1,g1⟩:=XhF hp.1 hx k 1 e.Text
 obtain ⟨v2,e2,a2,q2,l2,g2⟩:=XhF hp.1 hx k 2 e.Text
 obtain ⟨v3,e3,a3,q3,l3,g3⟩:=XhF hp.1 hx k 3 e.Text
 obtain ⟨v4,e4,a4,q4,l4,g4⟩:=XhF hp.1 hx k 4 e.Text
 unfold Xxn
 dsimp only
 rw [show Xab.v5 ⟨_,_,_⟩ 0 e.Text=some (plN k p 0 e.Text:Int) from XfL hp _ (by rfl) (by exact ⟨rfl,rfl,rfl,rfl,rfl⟩) he 0 (by decide),Option.bind_some,XaH (by omega),Int.toNat_natCast,e0,Option.bind_some,Xey (n:=v0+e.N) (by omega) (by omega),XaH (by omega)]
 rw [show Xab.v5 ⟨_,_,_⟩ 1 e.Text=some (plN k p 1 e.Text:Int) from XfL hp _ (by rfl) (by exact ⟨rfl,rfl,rfl,rfl,rfl⟩) he 1 (by decide),Option.bind_some,XaH (by omega),Int.toNat_natCast,e1,Option.bind_some,Xey (n:=v1+e.N) (by omega) (by omega),XaH (by omega)]
 rw [show Xab.v5 ⟨_,_,_⟩ 2 e.Text=some (plN k p 2 e.Text:Int) from XfL hp _ (by rfl) (by exact ⟨rfl,rfl,rfl,rfl,rfl⟩) he 2 (by decide),Option.bind_some,XaH (by omega),Int.toNat_natCast,e2,Option.bind_some,Xey (n:=v2+e.N) (by omega) (by omega),XaH (by omega)]
 rw [show Xab.v5 ⟨_,_,_⟩ 3 e.Text=some (plN k p 3 e.Text:Int) from XfL hp _ (by rfl) (by exact ⟨rfl,rfl,rfl,rfl,rfl⟩) he 3 (by decide),Option.bind_some,XaH (by omega),Int.toNat_natCast,e3,Option.bind_some,Xey (n:=v3+e.N) (by omega) (by omega),XaH (by omega)]
 rw [show Xab.v5 ⟨_,_,_⟩ 4 e.Text=some (plN k p 4 e.Text:Int) from XfL hp _ (by rfl) (by exact ⟨rfl,rfl,rfl,rfl,rfl⟩) he 4 (by decide),Option.bind_some,XaH (by omega),Int.toNat_natCast,e4,Option.bind_some,Xey (n:=v4+e.N) (by omega) (by omega),XaH (by omega)]
 rw [sN hx.tot.1 hx.tot.2 hN]
 unfold Xpn
 rw [g0,g1,g2,g3,g4];rfl
theorem Xrv {k:Xap} {p:Nat} (hp:1≤p∧p≤4096) {x:SkS} (hx:XgR p x) {t:List UInt8} (ht:t.length≤20):Xfp (Xxn k p x) t=some (XkX k p x t 5):=by
 unfold Xfp XcX
 rw [show Xaa.v5 (Xxn k p x)=some true from rfl,Option.bind_some,show (!true)=false from rfl,cond_false]
 refine Eq.trans (Xfj (XfL hp _ (by rfl) (by exact ⟨rfl,rfl,rfl,rfl,rfl⟩) ht 0 (by decide)) (Xcz hp.1 _ _ _) (by rfl) (hx.len 0)) ?_
 refine Eq.trans (Xfj (XfL hp _ (by rfl) (by exact ⟨rfl,rfl,rfl,rfl,rfl⟩) ht 1 (by decide)) (Xcz hp.1 _ _ _) (by rfl) (hx.len 1)) ?_
 refine Eq.trans (Xfj (XfL hp _ (by rfl) (by exact ⟨rfl,rfl,rfl,rfl,rfl⟩) ht 2 (by decide)) (Xcz hp.1 _ _ _) (by rfl) (hx.len 2)) ?_
 refine Eq.trans (Xfj (XfL hp _ (by rfl) (by exact ⟨rfl,rfl,rfl,rfl,rfl⟩) ht 3 (by decide)) (Xcz hp.1 _ _ _) (by rfl) (hx.len 3)) ?_
 refine Eq.trans (Xfj (XfL hp _ (by rfl) (by exact ⟨rfl,rfl,rfl,rfl,rfl⟩) ht 4 (by decide)) (Xcz hp.1 _ _ _) (by rfl) (hx.len 4)) ?_
 rfl
def Xyc (k:Xap) (p:Nat) (x:SkS):Xau:=⟨k,⟨x.R 0,x.R 1,x.R 2,x.R 3,x.R 4,x.R 5,p,p,p,p,p,p⟩,x.tot⟩
theorem Xex {k:Xap} {p:Nat} (hp:1≤p∧p≤4096) (s:Xau) (hk:s.key=k) (hm:s.rows.m0=p∧s.rows.m1=p∧s.rows.m2=p∧s.rows.m3=p∧s.rows.m4=p∧s.rows.m5=p) {t:List UInt8} (ht:t.length≤20) (i:Nat) (hi:i<6):Xfn s i t=some (plN k p i t:Int):=by
 unfold Xfn Xc4
 rw [show Xaa.v6 s=some true from rfl,Option.bind_some,show (!true)=false from rfl,cond_false,XaW (by omega),XaW (by omega),hk,XiH ht,Option.bind_some,XaH (by omega),Int.toNat_natCast]
 obtain rfl|rfl|rfl|rfl|rfl|rfl:i=0∨i=1∨i=2∨i=3∨i=4∨i=5:=by omega
 ·show (Xal _ (s.rows.m0:Int)).bind _=_;rw [hm.1,XcH hp.1 hp.2];rfl
 ·show (Xal _ (s.rows.m1:Int)).bind _=_;rw [hm.2.1,XcH hp.1 hp.2];rfl
 ·show (Xal _ (s.rows.m2:Int)).bind _=_;rw [hm.2.2.1,XcH hp.1 hp.2];rfl
 ·show (Xal _ (s.rows.m3:Int)).bind _=_;rw [hm.2.2.2.1,XcH hp.1 hp.2];rfl
 ·show (Xal _ (s.rows.m4:Int)).bind _=_;rw [hm.2.2.2.2.1,XcH hp.1 hp.2];rfl
 ·show (Xal _ (s.rows.m5:Int)).bind _=_;rw [hm.2.2.2.2.2,XcH hp.1 hp.2];rfl
theorem Xyw {k:Xap} {p:Nat} (hp:1≤p∧p≤4096) {x:SkS} (hx:XgR p x) {e:Xan} (he:e.Text.length≤20):XfY (Xyc k p x) e.Text e.N=some (Xja e,Xyc k p (stepS k p x e)):=by
 unfold XfY Xdy
 rw [show Xaa.v6 (Xyc k p x)=some true from rfl,Option.bind_some,show (!true)=false from rfl,cond_false]
 by_cases h1:e.N<0
 ·rw [XbS h1,XcS (.inl h1),Xdx (XcS (.inl h1))]
 rw [XaW h1]
 by_cases h2:e.N>1048576
 ·rw [XbS h2,XcS (.inr h2),Xdx (XcS (.inr h2))]
 have hN:0≤e.N∧e.N≤1048576:=by omega
 rw [XaW h2,XfI h1 h2,Xgy (XfI h1 h2)]
 obtain ⟨v0,e0,a0,q0,l0,g0⟩:=XhF hp.1 hx k 0 e.Text
 obtain ⟨v1,e1,a1,q1,l1,g1⟩:=XhF hp.1 hx k 1 e.Text
 obtain ⟨v2,e2,a2,q2,l2,g2⟩:=XhF hp.1 hx k 2 e.Text
 obtain ⟨v3,e3,a3,q3,l3,g3⟩:=XhF hp.1 hx k 3 e.Text
 obtain ⟨v4,e4,a4,q4,l4,g4⟩:=XhF hp.1 hx k 4 e.Text
 obtain ⟨v5,e5,a5,q5,l5,g5⟩:=XhF hp.1 hx k 5 e.Text
 unfold Xyc
 dsimp only
 rw [show Xab.v6 ⟨_,_,_⟩ 0 e.Text=some (plN k p 0 e.Text:Int) from Xex hp _ (by rfl) (by exact ⟨rfl,rfl,rfl,rfl,rfl,rfl⟩) he 0 (by decide),Option.bind_some,XaH (by omega),Int.toNat_natCast,e0,Option.bind_some,Xey (n:=v0+e.N) (by omega) (by omega),XaH (by omega)]
 rw [show Xab.v6 ⟨_,_,_⟩ 1 e.Text=some (plN k p 1 e.Text:Int) from Xex hp _ (by rfl) (by exact ⟨rfl,rfl,rfl,rfl,rfl,rfl⟩) he 1 (by decide),Option.bind_some,XaH (by omega),Int.toNat_natCast,e1,Option.bind_some,Xey (n:=v1+e.N) (by omega) (by omega),XaH (by omega)]
 rw [show Xab.v6 ⟨_,_,_⟩ 2 e.Text=some (plN k p 2 e.Text:Int) from Xex hp _ (by rfl) (by exact ⟨rfl,rfl,rfl,rfl,rfl,rfl⟩) he 2 (by decide),Option.bind_some,XaH (by omega),Int.toNat_natCast,e2,Option.bind_some,Xey (n:=v2+e.N) (by omega) (by omega),XaH (by omega)]
 rw [show Xab.v6 ⟨_,_,_⟩ 3 e.Text=some (plN k p 3 e.Text:Int) from Xex hp _ (by rfl) (by exact ⟨rfl,rfl,rfl,rfl,rfl,rfl⟩) he 3 (by decide),Option.bind_some,XaH (by omega),Int.toNat_natCast,e3,Option.bind_some,Xey (n:=v3+e.N) (by omega) (by omega),XaH (by omega)]
 rw [show Xab.v6 ⟨_,_,_⟩ 4 e.Text=some (plN k p 4 e.Text:Int) from Xex hp _ (by rfl) (by exact ⟨rfl,rfl,rfl,rfl,rfl,rfl⟩) he 4 (by decide),Option.bind_some,XaH (by omega),Int.toNat_natCast,e4,Option.bind_some,Xey (n:=v4+e.N) (by omega) (by omega),XaH (by omega)]
 rw [show Xab.v6 ⟨_,_,_⟩ 5 e.Text=some (plN k p 5 e.Text:Int) from Xex hp _ (by rfl) (by exact ⟨rfl,rfl,rfl,rfl,rfl,rfl⟩) he 5 (by decide),Option.bind_some,XaH (by omega),Int.toNat_natCast,e5,Option.bind_some,Xey (n:=v5+e.N) (by omega) (by omega),XaH (by omega)]
 rw [sN hx.tot.1 hx.tot.2 hN]
 unfold Xpn
 rw [g0,g1,g2,g3,g4,g5];rfl
theorem Xrt {k:Xap} {p:Nat} (hp:1≤p∧p≤4096) {x:SkS} (hx:XgR p x) {t:List UInt8} (ht:t.length≤20):Xfv (Xyc k p x) t=some (XkX k p x t 6):=by
 unfold Xfv Xdc
 rw [show Xaa.v6 (Xyc k p x)=some true from rfl,Option.bind_some,show (!true)=false from rfl,cond_false]
 refine Eq.trans (Xfj (Xex hp _ (by rfl) (by exact ⟨rfl,rfl,rfl,rfl,rfl,rfl⟩) ht 0 (by decide)) (Xcz hp.1 _ _ _) (by rfl) (hx.len 0)) ?_
 refine Eq.trans (Xfj (Xex hp _ (by rfl) (by exact ⟨rfl,rfl,rfl,rfl,rfl,rfl⟩) ht 1 (by decide)) (Xcz hp.1 _ _ _) (by rfl) (hx.len 1)) ?_
 refine Eq.trans (Xfj (Xex hp _ (by rfl) (by exact ⟨rfl,rfl,rfl,rfl,rfl,rfl⟩) ht 2 (by decide)) (Xcz hp.1 _ _ _) (by rfl) (hx.len 2)) ?_
 refine Eq.trans (Xfj (Xex hp _ (by rfl) (by exact ⟨rfl,rfl,rfl,rfl,rfl,rfl⟩) ht 3 (by decide)) (Xcz hp.1 _ _ _) (by rfl) (hx.len 3)) ?_
 refine Eq.trans (Xfj (Xex hp _ (by rfl) (by exact ⟨rfl,rfl,rfl,rfl,rfl,rfl⟩) ht 4 (by decide)) (Xcz hp.1 _ _ _) (by rfl) (hx.len 4)) ?_
 refine Eq.trans (Xfj (Xex hp _ (by rfl) (by exact ⟨rfl,rfl,rfl,rfl,rfl,rfl⟩) ht 5 (by decide)) (Xcz hp.1 _ _ _) (by rfl) (hx.len 5)) ?_
 rfl
def XxK (k:Xap) (p:Nat) (x:SkS):Xat:=⟨k,⟨x.R 0,x.R 1,x.R 2,x.R 3,x.R 4,x.R 5,x.R 6,p,p,p,p,p,p,p⟩,x.tot⟩
theorem Xdq {k:Xap} {p:Nat} (hp:1≤p∧p≤4096) (s:Xat) (hk:s.key=k) (hm:s.rows.m0=p∧s.rows.m1=p∧s.rows.m2=p∧s.rows.m3=p∧s.rows.m4=p∧s.rows.m5=p∧s.rows.m6=p) {t:List UInt8} (ht:t.length≤20) (i:Nat) (hi:i<7):Xfu s i t=some (plN k p i t:Int):=by
 unfold Xfu Xc8
 rw [show Xaa.v7 s=some true from rfl,Option.bind_some,show (!true)=false from rfl,cond_false,XaW (by omega),XaW (by omega),hk,XiH ht,Option.bind_some,XaH (by omega),Int.toNat_natCast]
 obtain rfl|rfl|rfl|rfl|rfl|rfl|rfl:i=0∨i=1∨i=2∨i=3∨i=4∨i=5∨i=6:=by omega
 ·show (Xal _ (s.rows.m0:Int)).bind _=_;rw [hm.1,XcH hp.1 hp.2];rfl
 ·show (Xal _ (s.rows.m1:Int)).bind _=_;rw [hm.2.1,XcH hp.1 hp.2];rfl
 ·show (Xal _ (s.rows.m2:Int)).bind _=_;rw [hm.2.2.1,XcH hp.1 hp.2];rfl
 ·show (Xal _ (s.rows.m3:Int)).bind _=_;rw [hm.2.2.2.1,XcH hp.1 hp.2];rfl
 ·show (Xal _ (s.rows.m4:Int)).bind _=_;rw [hm.2.2.2.2.1,XcH hp.1 hp.2];rfl
 ·show (Xal _ (s.rows.m5:Int)).bind _=_;rw [hm.2.2.2.2.2.1,XcH hp.1 hp.2];rfl
 ·show (Xal _ (s.rows.m6:Int)).bind _=_;rw [hm.2.2.2.2.2.2,XcH hp.1 hp.2];rfl
theorem XyT {k:Xap} {p:Nat} (hp:1≤p∧p≤4096) {x:SkS} (hx:XgR p x) {e:Xan} (he:e.Text.length≤20):Xf0 (XxK k p x) e.Text e.N=some (Xja e,XxK k p (stepS k p x e)):=by
 unfold Xf0 Xdw
 rw [show Xaa.v7 (XxK k p x)=some true from rfl,Option.bind_some,show (!true)=false from rfl,cond_false]
 by_cases h1:e.N<0
 ·rw [XbS h1,XcS (.inl h1),Xdx (XcS (.inl h1))]
 rw [XaW h1]
 by_cases h2:e.N>1048576
 ·rw [XbS h2,XcS (.inr h2),Xdx (XcS (.inr h2))]
 have hN:0≤e.N∧e.N≤1048576:=by omega
 rw [XaW h2,XfI h1 h2,Xgy (XfI h1 h2)]
 obtain ⟨v0,e0,a0,q0,l0,g0⟩:=XhF hp.1 hx k 0 e.Text
 obtain ⟨v1,e1,a1,q1,l1,g1⟩:=XhF hp.1 hx k 1 e.Text
 obtain ⟨v2,e2,a2,q2,l2,g2⟩:=XhF hp.1 hx k 2 e.Text
 obtain ⟨v3,e3,a3,q3,l3,g3⟩:=XhF hp.1 hx k 3 e.Text
 obtain ⟨v4,e4,a4,q4,l4,g4⟩:=XhF hp.1 hx k 4 e.Text
 obtain ⟨v5,e5,a5,q5,l5,g5⟩:=XhF hp.1 hx k 5 e.Text
 obtain ⟨v6,e6,a6,q6,l6,g6⟩:=XhF hp.1 hx k 6 e.Text
 unfold XxK
 dsimp only
 rw [show Xab.v7 ⟨_,_,_⟩ 0 e.Text=some (plN k p 0 e.Text:Int) from Xdq hp _ (by rfl) (by exact ⟨rfl,rfl,rfl,rfl,rfl,rfl,rfl⟩) he 0 (by decide),Option.bind_some,XaH (by omega),Int.toNat_natCast,e0,Option.bind_some,Xey (n:=v0+e.N) (by omega) (by omega),XaH (by omega)]
 rw [show Xab.v7 ⟨_,_,_⟩ 1 e.Text=some (plN k p 1 e.Text:Int) from Xdq hp _ (by rfl) (by exact ⟨rfl,rfl,rfl,rfl,rfl,rfl,rfl⟩) he 1 (by decide),Option.bind_some,XaH (by omega),Int.toNat_natCast,e1,Option.bind_some,Xey (n:=v1+e.N) (by omega) (by omega),XaH (by omega)]
 rw [show Xab.v7 ⟨_,_,_⟩ 2 e.Text=some (plN k p 2 e.Text:Int) from Xdq hp _ (by rfl) (by exact ⟨rfl,rfl,rfl,rfl,rfl,rfl,rfl⟩) he 2 (by decide),Option.bind_some,XaH (by omega),Int.toNat_natCast,e2,Option.bind_some,Xey (n:=v2+e.N) (by omega) (by omega),XaH (by omega)]
 rw [show Xab.v7 ⟨_,_,_⟩ 3 e.Text=some (plN k p 3 e.Text:Int) from Xdq hp _ (by rfl) (by exact ⟨rfl,rfl,rfl,rfl,rfl,rfl,rfl⟩) he 3 (by decide),Option.bind_some,XaH (by omega),Int.toNat_natCast,e3,Option.bind_some,Xey (n:=v3+e.N) (by omega) (by omega),XaH (by omega)]
 rw [show Xab.v7 ⟨_,_,_⟩ 4 e.Text=some (plN k p 4 e.Text:Int) from Xdq hp _ (by rfl) (by exact ⟨rfl,rfl,rfl,rfl,rfl,rfl,rfl⟩) he 4 (by decide),Option.bind_some,XaH (by omega),Int.toNat_natCast,e4,Option.bind_some,Xey (n:=v4+e.N) (by omega) (by omega),XaH (by omega)]
 rw [show Xab.v7 ⟨_,_,_⟩ 5 e.Text=some (plN k p 5 e.Text:Int) from Xdq hp _ (by rfl) (by exact ⟨rfl,rfl,rfl,rfl,rfl,rfl,rfl⟩) he 5 (by decide),Option.bind_some,XaH (by omega),Int.toNat_natCast,e5,Option.bind_some,Xey (n:=v5+e.N) (by omega) (by omega),XaH (by omega)]
 rw [show Xab.v7 ⟨_,_,_⟩ 6 e.Text=some (plN k p 6 e.Text:Int) from Xdq hp _ (by rfl) (by exact ⟨rfl,rfl,rfl,rfl,rfl,rfl,rfl⟩) he 6 (by decide),Option.bind_some,XaH (by omega),Int.toNat_natCast,e6,Option.bind_some,Xey (n:=v6+e.N) (by omega) (by omega),XaH (by omega)]
 rw [sN hx.tot.1 hx.tot.2 hN]
 unfold Xpn
 rw [g0,g1,g2,g3,g4,g5,g6];rfl
theorem XtW {k:Xap} {p:Nat} (hp:1≤p∧p≤4096) {x:SkS} (hx:XgR p x) {t:List UInt8} (ht:t.length≤20):XfB (XxK k p x) t=some (XkX k p x t 7):=by
 unfold XfB Xc7
 rw [show Xaa.v7 (XxK k p x)=some true from rfl,Option.bind_some,show (!true)=false from rfl,cond_false]
 refine Eq.trans (Xfj (Xdq hp _ (by rfl) (by exact ⟨rfl,rfl,rfl,rfl,rfl,rfl,rfl⟩) ht 0 (by decide)) (Xcz hp.1 _ _ _) (by rfl) (hx.len 0)) ?_
 refine Eq.trans (Xfj (Xdq hp _ (by rfl) (by exact ⟨rfl,rfl,rfl,rfl,rfl,rfl,rfl⟩) ht 1 (by decide)) (Xcz hp.1 _ _ _) (by rfl) (hx.len 1)) ?_
 refine Eq.trans (Xfj (Xdq hp _ (by rfl) (by exact ⟨rfl,rfl,rfl,rfl,rfl,rfl,rfl⟩) ht 2 (by decide)) (Xcz hp.1 _ _ _) (by rfl) (hx.len 2)) ?_
 refine Eq.trans (Xfj (Xdq hp _ (by rfl) (by exact ⟨rfl,rfl,rfl,rfl,rfl,rfl,rfl⟩) ht 3 (by decide)) (Xcz hp.1 _ _ _) (by rfl) (hx.len 3)) ?_
 refine Eq.trans (Xfj (Xdq hp _ (by rfl) (by exact ⟨rfl,rfl,rfl,rfl,rfl,rfl,rfl⟩) ht 4 (by decide)) (Xcz hp.1 _ _ _) (by rfl) (hx.len 4)) ?_
 refine Eq.trans (Xfj (Xdq hp _ (by rfl) (by exact ⟨rfl,rfl,rfl,rfl,rfl,rfl,rfl⟩) ht 5 (by decide)) (Xcz hp.1 _ _ _) (by rfl) (hx.len 5)) ?_
 refine Eq.trans (Xfj (Xdq hp _ (by rfl) (by exact ⟨rfl,rfl,rfl,rfl,rfl,rfl,rfl⟩) ht 6 (by decide)) (Xcz hp.1 _ _ _) (by rfl) (hx.len 6)) ?_
 rfl
def XxZ (k:Xap) (p:Nat) (x:SkS):Xas:=⟨k,⟨x.R 0,x.R 1,x.R 2,x.R 3,x.R 4,x.R 5,x.R 6,x.R 7,p,p,p,p,p,p,p,p⟩,x.tot⟩
theorem XcO {k:Xap} {p:Nat} (hp:1≤p∧p≤4096) (s:Xas) (hk:s.key=k) (hm:s.rows.m0=p∧s.rows.m1=p∧s.rows.m2=p∧s.rows.m3=p∧s.rows.m4=p∧s.rows.m5=p∧s.rows.m6=p∧s.rows.m7=p) {t:List UInt8} (ht:t.length≤20) (i:Nat) (hi:i<8):Xfy s i t=some (plN k p i t:Int):=by
 unfold Xfy Xc0
 rw [show Xaa.v8 s=some true from rfl,Option.bind_some,show (!true)=false from rfl,cond_false,XaW (by omega),XaW (by omega),hk,XiH ht,Option.bind_some,XaH (by omega),Int.toNat_natCast]
 obtain rfl|rfl|rfl|rfl|rfl|rfl|rfl|rfl:i=0∨i=1∨i=2∨i=3∨i=4∨i=5∨i=6∨i=7:=by omega
 ·show (Xal _ (s.rows.m0:Int)).bind _=_;rw [hm.1,XcH hp.1 hp.2];rfl
 ·show (Xal _ (s.rows.m1:Int)).bind _=_;rw [hm.2.1,XcH hp.1 hp.2];rfl
 ·show (Xal _ (s.rows.m2:Int)).bind _=_;rw [hm.2.2.1,XcH hp.1 hp.2];rfl
 ·show (Xal _ (s.rows.m3:Int)).bind _=_;rw [hm.2.2.2.1,XcH hp.1 hp.2];rfl
 ·show (Xal _ (s.rows.m4:Int)).bind _=_;rw [hm.2.2.2.2.1,XcH hp.1 hp.2];rfl
 ·show (Xal _ (s.rows.m5:Int)).bind _=_;rw [hm.2.2.2.2.2.1,XcH hp.1 hp.2];rfl
 ·show (Xal _ (s.rows.m6:Int)).bind _=_;rw [hm.2.2.2.2.2.2.1,XcH hp.1 hp.2];rfl
 ·show (Xal _ (s.rows.m7:Int)).bind _=_;rw [hm.2.2.2.2.2.2.2,XcH hp.1 hp.2];rfl
theorem XAL {k:Xap} {p:Nat} (hp:1≤p∧p≤4096) {x:SkS} (hx:XgR p x) {e:Xan} (he:e.Text.length≤20):XfT (XxZ k p x) e.Text e.N=some (Xja e,XxZ k p (stepS k p x e)):=by
 unfold XfT XdC
 rw [show Xaa.v8 (XxZ k p x)=some true from rfl,Option.bind_some,show (!true)=false from rfl,cond_false]
 by_cases h1:e.N<0
 ·rw [XbS h1,XcS (.inl h1),Xdx (XcS (.inl h1))]
 rw [XaW h1]
 by_cases h2:e.N>1048576
 ·rw [XbS h2,XcS (.inr h2),Xdx (XcS (.inr h2))]
 have hN:0≤e.N∧e.N≤1048576:=by omega
 rw [XaW h2,XfI h1 h2,Xgy (XfI h1 h2)]
 obtain ⟨v0,e0,a0,q0,l0,g0⟩:=XhF hp.1 hx k 0 e.Text
 obtain ⟨v1,e1,a1,q1,l1,g1⟩:=XhF hp.1 hx k 1 e.Text
 obtain ⟨v2,e2,a2,q2,l2,g2⟩:=XhF hp.1 hx k 2 e.Text
 obtain ⟨v3,e3,a3,q3,l3,g3⟩:=XhF hp.1 hx k 3 e.Text
 obtain ⟨v4,e4,a4,q4,l4,g4⟩:=XhF hp.1 hx k 4 e.Text
 obtain ⟨v5,e5,a5,q5,l5,g5⟩:=XhF hp.1 hx k 5 e.Text
 obtain ⟨v6,e6,a6,q6,l6,g6⟩:=XhF hp.1 hx k 6 e.Text
 obtain ⟨v7,e7,a7,q7,l7,g7⟩:=XhF hp.1 hx k 7 e.Text
 unfold XxZ
 dsimp only
 rw [show Xab.v8 ⟨_,_,_⟩ 0 e.Text=some (plN k p 0 e.Text:Int) from XcO hp _ (by rfl) (by exact ⟨rfl,rfl,rfl,rfl,rfl,rfl,rfl,rfl⟩) he 0 (by decide),Option.bind_some,XaH (by omega),Int.toNat_natCast,e0,Option.bind_some,Xey (n:=v0+e.N) (by omega) (by omega),XaH (by omega)]
 rw [show Xab.v8 ⟨_,_,_⟩ 1 e.Text=some (plN k p 1 e.Text:Int) from XcO hp _ (by rfl) (by exact ⟨rfl,rfl,rfl,rfl,rfl,rfl,rfl,rfl⟩) he 1 (by decide),Option.bind_some,XaH (by omega),Int.toNat_natCast,e1,Option.bind_some,Xey (n:=v1+e.N) (by omega) (by omega),XaH (by omega)]
 rw [show Xab.v8 ⟨_,_,_⟩ 2 e.Text=some (plN k p 2 e.Text:Int) from XcO hp _ (by rfl) (by exact ⟨rfl,rfl,rfl,rfl,rfl,rfl,rfl,rfl⟩) he 2 (by decide),Option.bind_some,XaH (by omega),Int.toNat_natCast,e2,Option.bind_some,Xey (n:=v2+e.N) (by omega) (by omega),XaH (by omega)]
 rw [show Xab.v8 ⟨_,_,_⟩ 3 e.Text=some (plN k p 3 e.Text:Int) from XcO hp _ (by rfl) (by exact ⟨rfl,rfl,rfl,rfl,rfl,rfl,rfl,rfl⟩) he 3 (by decide),Option.bind_some,XaH (by omega),Int.toNat_natCast,e3,Option.bind_some,Xey (n:=v3+e.N) (by omega) (by omega),XaH (by omega)]
 rw [show Xab.v8 ⟨_,_,_⟩ 4 e.Text=some (plN k p 4 e.Text:Int) from XcO hp _ (by rfl) (by exact ⟨rfl,rfl,rfl,rfl,rfl,rfl,rfl,rfl⟩) he 4 (by decide),Option.bind_some,XaH (by omega),Int.toNat_natCast,e4,Option.bind_some,Xey (n:=v4+e.N) (by omega) (by omega),XaH (by omega)]
 rw [show Xab.v8 ⟨_,_,_⟩ 5 e.Text=some (plN k p 5 e.Text:Int) from XcO hp _ (by rfl) (by exact ⟨rfl,rfl,rfl,rfl,rfl,rfl,rfl,rfl⟩) he 5 (by decide),Option.bind_some,XaH (by omega),Int.toNat_natCast,e5,Option.bind_some,Xey (n:=v5+e.N) (by omega) (by omega),XaH (by omega)]
 rw [show Xab.v8 ⟨_,_,_⟩ 6 e.Text=some (plN k p 6 e.Text:Int) from XcO hp _ (by rfl) (by exact ⟨rfl,rfl,rfl,rfl,rfl,rfl,rfl,rfl⟩) he 6 (by decide),Option.bind_some,XaH (by omega),Int.toNat_natCast,e6,Option.bind_some,Xey (n:=v6+e.N) (by omega) (by omega),XaH (by omega)]
 rw [show Xab.v8 ⟨_,_,_⟩ 7 e.Text=some (plN k p 7 e.Text:Int) from XcO hp _ (by rfl) (by exact ⟨rfl,rfl,rfl,rfl,rfl,rfl,rfl,rfl⟩) he 7 (by decide),Option.bind_some,XaH (by omega),Int.toNat_natCast,e7,Option.bind_some,Xey (n:=v7+e.N) (by omega) (by omega),XaH (by omega)]
 rw [sN hx.tot.1 hx.tot.2 hN]
 unfold Xpn
 rw [g0,g1,g2,g3,g4,g5,g6,g7];rfl
theorem XsW {k:Xap} {p:Nat} (hp:1≤p∧p≤4096) {x:SkS} (hx:XgR p x) {t:List UInt8} (ht:t.length≤20):Xfz (XxZ k p x) t=some (XkX k p x t 8):=by
 unfold Xfz Xc9
 rw [show Xaa.v8 (XxZ k p x)=some true from rfl,Option.bind_some,show (!true)=false from rfl,cond_false]
 refine Eq.trans (Xfj (XcO hp _ (by rfl) (by exact ⟨rfl,rfl,rfl,rfl,rfl,rfl,rfl,rfl⟩) ht 0 (by decide)) (Xcz hp.1 _ _ _) (by rfl) (hx.len 0)) ?_
 refine Eq.trans (Xfj (XcO hp _ (by rfl) (by exact ⟨rfl,rfl,rfl,rfl,rfl,rfl,rfl,rfl⟩) ht 1 (by decide)) (Xcz hp.1 _ _ _) (by rfl) (hx.len 1)) ?_
 refine Eq.trans (Xfj (XcO hp _ (by rfl) (by exact ⟨rfl,rfl,rfl,rfl,rfl,rfl,rfl,rfl⟩) ht 2 (by decide)) (Xcz hp.1 _ _ _) (by rfl) (hx.len 2)) ?_
 refine Eq.trans (Xfj (XcO hp _ (by rfl) (by exact ⟨rfl,rfl,rfl,rfl,rfl,rfl,rfl,rfl⟩) ht 3 (by decide)) (Xcz hp.1 _ _ _) (by rfl) (hx.len 3)) ?_
 refine Eq.trans (Xfj (XcO hp _ (by rfl) (by exact ⟨rfl,rfl,rfl,rfl,rfl,rfl,rfl,rfl⟩) ht 4 (by decide)) (Xcz hp.1 _ _ _) (by rfl) (hx.len 4)) ?_
 refine Eq.trans (Xfj (XcO hp _ (by rfl) (by exact ⟨rfl,rfl,rfl,rfl,rfl,rfl,rfl,rfl⟩) ht 5 (by decide)) (Xcz hp.1 _ _ _) (by rfl) (hx.len 5)) ?_
 refine Eq.trans (Xfj (XcO hp _ (by rfl) (by exact ⟨rfl,rfl,rfl,rfl,rfl,rfl,rfl,rfl⟩) ht 6 (by decide)) (Xcz hp.1 _ _ _) (by rfl) (hx.len 6)) ?_
 refine Eq.trans (Xfj (XcO hp _ (by rfl) (by exact ⟨rfl,rfl,rfl,rfl,rfl,rfl,rfl,rfl⟩) ht 7 (by decide)) (Xcz hp.1 _ _ _) (by rfl) (hx.len 7)) ?_
 rfl
theorem XBb {rows:Int} {p:Nat} (hr:1≤rows∧rows≤8) (hp:1≤p∧p≤4096) (k:Xap):Xaq rows (p:Int) k=some (match rows.toNat with
 | 1=>.v1 (XxA k p (newS p))
 | 2=>.v2 (XxM k p (newS p))
 | 3=>.v3 (XxY k p (newS p))
 | 4=>.v4 (Xxo k p (newS p))
 | 5=>.v5 (Xxn k p (newS p))
 | 6=>.v6 (Xyc k p (newS p))
 | 7=>.v7 (XxK k p (newS p))
 | 8=>.v8 (XxZ k p (newS p))
 | _=>.nil):=by
 have hq:0≤(p:Int)∧(p:Int)≤p∧(p:Int)<2^63∧(8:Int)*p≤2^48:=by omega
 unfold Xaq Xhy
 rw [XaW (by omega),XaW (by omega),XaW (by omega),XaW (by omega)]
 obtain rfl|rfl|rfl|rfl|rfl|rfl|rfl|rfl:rows=1∨rows=2∨rows=3∨rows=4∨rows=5∨rows=6∨rows=7∨rows=8:=by omega
 all_goals (simp only [XaH hq,Int.toNat_natCast];rfl)
end Go.Vm.Code
namespace Go.Vm
open Go
theorem Xxi {α:Type} (l:List α) (sz:α→Nat) (K M:Nat) (hK:K<2^40) (step:Int→Option (Sum Int Bool))
 (hs:∀ i:Nat,step (i:Int)=if h:i<l.length then (if i<K then (if M<sz l[i] then some (.inr false) else some (.inl ((i+1:Nat):Int))) else some (.inr (decide (l.length≤K)))) else some (.inr (decide (l.length≤K)))) :
 iter step FUEL 0=some (decide (l.length≤K)&&(l.take K).all fun e=>decide (sz e≤M)):=by
 have key:=iter_eq (step:=step) (fun i:Int=>decide (l.length≤K)&&((l.take K).drop i.toNat).all fun e=>decide (sz e≤M)) (fun i=>0≤i∧i≤K) (fun i=>(K+1 - i.toNat)) ?_ FUEL 0 ⟨by omega,by omega⟩ (by rw [XcD];omega)
 ·rw [key];simp
 rintro s ⟨h1,h2⟩
 obtain ⟨i,rfl⟩:=Int.eq_ofNat_of_zero_le h1
 rw [hs i]
 simp only [Int.toNat_natCast]
 by_cases c:i<l.length
 ·rw [dif_pos c]
  by_cases c2:i<K
  ·rw [if_pos c2]
   have hd:((l.take K).drop i)=l[i]::((l.take K).drop (i+1)):=by
    rw [List.drop_eq_getElem_cons (by rw [List.length_take];omega),List.getElem_take]
   by_cases c3:M<sz l[i]
   ·rw [if_pos c3,hd]
    refine .inl ?_
    rw [List.all_cons,decide_eq_false (show ¬ sz l[i]≤M by omega)];simp
   ·rw [if_neg c3,hd]
    refine .inr ⟨_,rfl,⟨by omega,by omega⟩,by omega,?_⟩
    rw [List.all_cons,decide_eq_true (show sz l[i]≤M by omega),Bool.true_and];rfl
  ·rw [if_neg c2]
   refine .inl ?_
   rw [List.drop_eq_nil_of_le (by rw [List.length_take];omega)];simp
 ·rw [dif_neg c]
  refine .inl ?_
  rw [List.drop_eq_nil_of_le (by rw [List.length_take];omega)];simp
end Go.Vm
namespace Go.Vm.Code
open Go Go.Vm Go.Proofs
set_option maxRecDepth 100000
set_option maxHeartbeats 4000000
set_option linter.unusedVariables false
def Xgw (l:List Xan) (i:Int):Option (Sum Int Bool):=
 cond (decide (i<(l.length:Int)))
  (
  cond (decide (i<30))
   (
   XaL (decide ((0:Int)≤i∧i<(l.length:Int))) <|
   (l[i.toNat]?).bind fun (e:Xan)=>
   cond (decide ((e.Text.length:Int)>20))
    (
    some (.inr (false)))
    (
    some (.inl (wI .i64 (i+1)))))
   (
   some (.inr (decide ((l.length:Int)≤30)))))
  (
  some (.inr (decide ((l.length:Int)≤30))))
def XiS (l:List Xan):Option Bool:=
 iter (fun st=>Xgw l st) FUEL 0
def rx8 (x:Bool):XcJ:=⟨.bool x,[],[none]⟩
abbrev XaS:=(List Xan)→Option Bool
def r8 (g:XaS):Dec:=dSl 0 2 (unR 2 Xhd) fun (y0:List Xan)=>Xev (ofG (g y0) rx8)
theorem r8_c {g:XaS} {y0:List Xan} {x:Bool} (hx:g y0=some x):r8 g [.slice (some ⟨0,0,none⟩) y0.length 2] [some (vT Xbb y0)]=some (rx8 x):=(Xtl (XBT (by first|exact Xn0|exact Xao|exact XmO|exact XkZ|exact Xm4) (by decide) Xoj _)).trans (Xbe hx)
def s8 (g:XaS):XcE:=⟨[.sl 2],r8 g⟩
theorem r8_eq {g:XaS} {y0:List Xan} {x:Bool} (hx:g y0=some x):(s8 g).run [.slice (some ⟨0,0,none⟩) y0.length 2] [some (vT Xbb y0)]=some (rx8 x):=r8_c hx
abbrev XBZ:List (Nat×XcE):=[]
def Xz1 (l:List Xan) (i:Int):VM:=
 ⟨⟨8,24,[(0,.slice (some ⟨0,0,none⟩) l.length 2),(3,.int .i64 i)],[.code Xzk,.inLoop Xzk,.inBlock 0,.code XCr],[],false,none⟩,[],[(0,.row false (vT Xbb l))],1⟩
theorem XzQ (hS:XaB Try.prog (XaI (XBZ))) {l:List Xan} {res:Bool}:∀ {fuel} {st:Int} {o:Bool},iter (fun st=>Xgw l st) fuel st=some o→(o=res) →
 XaQ Try.prog 8 1 (Xz1 l st) (fun v H _=>Res 1 (rx8 res) v H):=by
 apply Xa6
 intro i o h hc
 try dsimp -zeta only at h ⊢
 unfold Xgw at h
 have LM:=lm [(0,0)]
 refine Xa3 XaN hS true 3000 ?_
 conv=>whnf
 exact W
theorem XCp (hS:XaB Try.prog (XaI (XBZ))) (l:List Xan) (res:Bool) (h:XiS l=some res) :
 XaQ Try.prog 8 1 ⟨⟨8,24,[(0,.slice (some ⟨0,0,none⟩) l.length 2)],[.code XBw],[],false,none⟩,[],[(0,.row false (vT Xbb l))],1⟩ (fun v H _=>Res 1 (rx8 res) v H):=by
 unfold XiS at h
 have LP:=@XzQ hS;have LQ:=lm [(0,0)]
 refine Xa3 XaN hS true 3000 ?_
 conv=>whnf
 exact W
def XaD:XaS:=XiS
theorem lift8:XfJ Try.prog 8 (s8 XaD):=by
 have hL:=XCp (XaB.Xa4 trivial)
 exact okA ⟨Try.f8,rfl,by decide,rfl⟩
def XfE (a:List Int) (b:List Int):Option Bool:=
 some ((a.length:Int)==(b.length:Int))
def rx55 (x:Bool):XcJ:=⟨.bool x,[],[none,none]⟩
abbrev Xax:=(List Int)→(List Int)→Option Bool
def r55 (g:Xax):Dec:=dSl 0 1 (unL (asI .i64)) fun (y0:List Int)=>dSl 1 1 (unL (asI .i64)) fun (y1:List Int)=>Xev (ofG (g y0 y1) rx55)
theorem r55_c {g:Xax} {y0:List Int} {y1:List Int} {x:Bool} (hx:g y0 y1=some x):r55 g [.slice (some ⟨0,0,none⟩) y0.length 1,.slice (some ⟨1,0,none⟩) y1.length 1] [some (vI .i64 y0),some (vI .i64 y1)]=some (rx55 x):=(Xtl (XcC _ _)).trans ((Xtl (XcC _ _)).trans (Xbe hx))
def s55 (g:Xax):XcE:=⟨[.sl 1,.sl 1],r55 g⟩
theorem Xko {g:Xax} {y0:List Int} {y1:List Int} {x:Bool} (hx:g y0 y1=some x):(s55 g).run [.slice (some ⟨0,0,none⟩) y0.length 1,.slice (some ⟨1,0,none⟩) y1.length 1] [some (vI .i64 y0),some (vI .i64 y1)]=some (rx55 x):=r55_c hx
abbrev XA4:List (Nat×XcE):=[]
theorem Xyl (hS:XaB Try.prog (XaI (XA4))) (a:List Int) (b:List Int) (res:Bool) (h:XfE a b=some res) :
 XaQ Try.prog 55 2 ⟨⟨55,10,[(0,.slice (some ⟨0,0,none⟩) a.length 1),(1,.slice (some ⟨1,0,none⟩) b.length 1)],[.code XBa],[],false,none⟩,[],[(0,.row false (vI .i64 a)),(1,.row false (vI .i64 b))],2⟩ (fun v H _=>Res 2 (rx55 res) v H):=by
 unfold XfE at h
 refine Xa3 XaN hS true 3000 ?_
 conv=>whnf
 exact W
def Xag:Xax:=XfE
theorem XkG:XfJ Try.prog 55 (s55 Xag):=by
 have hL:=Xyl (XaB.Xa4 trivial)
 exact okA ⟨Try.f55,rfl,by decide,rfl⟩
def XdU (s:Xar) (oa1:Xar):Option (Sum Unit Bool):=
 some (.inr (true))
def Xfg (Xaa:Xae) (s:Xar) (oa1:Xar):Option Bool:=
 (Xaa.v0 (Xar.mk s.key Xa9.mk s.total)).bind fun x0=>
 cond (!x0)
  (
  some (false))
  (
  (Xaa.v0 (Xar.mk oa1.key Xa9.mk oa1.total)).bind fun x01=>
  cond (!x01)
   (
   some (false))
   (
   let t:=!((s.key.A==oa1.key.A)&&((s.key.B==oa1.key.B)&&true))
   cond (t)
    (
    some (false))
    (
    iter (fun _=>XdU s oa1) FUEL ())))
def XmX (x:Bool):XcJ:=⟨.bool x,[],[none,none,none,none,none,none,none,none,none,none,none,none,none,none,none,none,none,none,none,none]⟩
abbrev XdQ:=Xar→Xar→Option Bool
def XA9 (g:XdQ):Dec:=dTr 10 (Xcc 0) fun (y0:Xar)=>dTr 10 (Xcc 10) fun (y1:Xar)=>Xev (ofG (g y0 y1) XmX)
abbrev Xn1 (Xaa:Xae):List (Nat×XcE):=[(38,s38 Xaa)]
def Xk4 (s:Xar) (oa1:Xar):VM:=
 ⟨⟨54,32,[(1,.slice none 0 0),(2,.func (.func 55) ⟨[]⟩ ⟨[]⟩),(15,.slice none 0 0),(16,.int .i64 0),(17,.int .i64 0)],[.code Xrr,.inLoop Xrr,.inBlock 0,.code Xx6],[],false,none⟩,[⟨42,33,[],[.inReg (opsD XCi 0),.code .ret],[],false,none⟩],[(0,.row false [.int .u64 s.key.A,.int .u64 s.key.B,.slice none 0 0,.int .i64 s.total]),(10,.row false [.int .u64 oa1.key.A,.int .u64 oa1.key.B,.slice none 0 0,.int .i64 oa1.total])],45⟩
theorem XoK (Xaa:Xae) (hS:XaB Try.prog (XaI (Xn1 Xaa))) {s:Xar} {oa1:Xar} {res:Bool}:∀ {fuel} {st:Unit} {o:Bool},iter (fun _=>XdU s oa1) fuel st=some o→(o=res) →
 XaQ Try.prog 42 20 (Xk4 s oa1 ) (fun v H _=>Res 20 (XmX res) v H):=by
 apply Xa6
 intro st o h hc
 try dsimp -zeta only at h ⊢
 unfold XdU at h
 have J:=js []
 refine Xa3 XaN hS true 3000 ?_
 conv=>whnf
 exact W
theorem XqK (Xaa:Xae) (hS:XaB Try.prog (XaI (Xn1 Xaa))) (s:Xar) (oa1:Xar) (res:Bool) (h:Xfg Xaa s oa1=some res) :
 XaQ Try.prog 42 20 ⟨⟨42,33,[(0,.pointer (some ⟨0,0,none⟩)),(1,.pointer (some ⟨10,0,none⟩))],[.code XlK],[],false,none⟩,[],[(0,.row false [.int .u64 s.key.A,.int .u64 s.key.B,.slice none 0 0,.int .i64 s.total]),(10,.row false [.int .u64 oa1.key.A,.int .u64 oa1.key.B,.slice none 0 0,.int .i64 oa1.total])],20⟩ (fun v H _=>Res 20 (XmX res) v H):=by
 unfold Xfg at h
 have J:=js []
 refine Xa3 XaN hS true 3000 ?_
 conv=>whnf
 replace h:=XbV.elim h;obtain ⟨x0,hy,h⟩:=h
 refine Xfx.a (XkK hy) ?_
 conv=>whnf
 refine br.h h (by rfl) ?_ ?_
 ·clear h;intro hb h;conv=>whnf
  exact W
 clear h;intro hb h;conv=>whnf
 replace h:=XbV.elim h;obtain ⟨x01,hy,h⟩:=h
 refine Xfx.a (XkK hy) ?_
 conv=>whnf
 refine br.h h (by rfl) ?_ ?_
 ·clear h;intro hb h;conv=>whnf
  exact W
 clear h;intro hb h;conv=>whnf
 let t:Bool:=!((s.key.A==oa1.key.A)&&((s.key.B==oa1.key.B)&&true))
 refine br.h h (by rfl) ?_ ?_
 ·clear h;intro hb h;conv=>whnf
  exact W
 clear h;intro hb h;conv=>whnf
 have hl:=XoK Xaa hS h rfl;simp only [Xk4] at hl
 exact lrA1 hl [(0,0),(1,1),(2,2),(3,3),(4,4),(5,5),(6,6),(7,7),(8,8),(9,9),(10,10),(11,11),(12,12),(13,13),(14,14),(15,15),(16,16),(17,17),(18,18),(19,19)] rfl
def XeR (Xaa:Xae) (Xag:Xax) (s:XaA) (oa1:XaA):Option Bool:=
 (Xaa.v1 s).bind fun x1=>
 cond (!x1)
  (
  some (false))
  (
  (Xaa.v1 oa1).bind fun x11=>
  cond (!x11)
   (
   some (false))
   (
   let t:=!((s.key.A==oa1.key.A)&&((s.key.B==oa1.key.B)&&true))
   cond (t)
    (
    some (false))
    (
    XaL (decide (s.rows.m0≤s.rows.e0.length)) <|
    XaL (decide (oa1.rows.m0≤oa1.rows.e0.length)) <|
    (Xag (s.rows.e0.take s.rows.m0) (oa1.rows.e0.take oa1.rows.m0)).bind fun x12=>
    cond (!x12)
     (
     some (false))
     (
     some (true)))))
def XtX (x:Bool):XcJ:=⟨.bool x,[],[none,none,none,none,none,none,none,none,none,none,none,none,none,none,none,none,none,none,none,none]⟩
abbrev XdF:=XaA→XaA→Option Bool
def XB6 (g:XdF):Dec:=dTr 10 (XbF 0) fun (y0:XaA)=>dTr 10 (XbF 10) fun (y1:XaA)=>Xev (ofG (g y0 y1) XtX)
abbrev Xrj (Xaa:Xae) (Xag:Xax):List (Nat×XcE):=[(38,s38 Xaa),(55,s55 Xag)]
theorem XqW (Xaa:Xae) (Xag:Xax) (hS:XaB Try.prog (XaI (Xrj Xaa Xag))) (s:XaA) (oa1:XaA) (res:Bool) (h:XeR Xaa Xag s oa1=some res) :
 XaQ Try.prog 42 20 ⟨⟨42,33,[(0,.pointer (some ⟨0,0,none⟩)),(1,.pointer (some ⟨10,0,none⟩))],[.code XlK],[],false,none⟩,[],[(0,.row false [.int .u64 s.key.A,.int .u64 s.key.B,.slice (some ⟨1,0,none⟩) 1 1,.int .i64 s.total]),(1,.row false [.slice (some ⟨2,0,none⟩) s.rows.m0 1]),(2,.row false (vI .i64 s.rows.e0)),(10,.row false [.int .u64 oa1.key.A,.int .u64 oa1.key.B,.slice (some ⟨11,0,none⟩) 1 1,.int .i64 oa1.total]),(11,.row false [.slice (some ⟨12,0,none⟩) oa1.rows.m0 1]),(12,.row false (vI .i64 oa1.rows.e0))],20⟩ (fun v H _=>Res 20 (XtX res) v H):=by
 unfold XeR at h
 have R1:=@XjE Xaa
 have R2:=@Xko Xag
 have J:=js []
 refine Xa3 XaN hS true 3000 ?_
 conv=>whnf
 exact W
def Xfe (Xaa:Xae) (Xag:Xax) (s:Xaz) (oa1:Xaz):Option Bool:=
 (Xaa.v2 s).bind fun x2=>
 cond (!x2)
  (
  some (false))
  (
  (Xaa.v2 oa1).bind fun x21=>
  cond (!x21)
   (
   some (false))
   (
   let t:=!((s.key.A==oa1.key.A)&&((s.key.B==oa1.key.B)&&true))
   cond (t)
    (
    some (false))
    (
    XaL (decide (s.rows.m0≤s.rows.e0.length)) <|
    XaL (decide (oa1.rows.m0≤oa1.rows.e0.length)) <|
    (Xag (s.rows.e0.take s.rows.m0) (oa1.rows.e0.take oa1.rows.m0)).bind fun x1=>
    cond (!x1)
     (
     some (false))
     (
     XaL (decide (s.rows.m1≤s.rows.e1.length)) <|
     XaL (decide (oa1.rows.m1≤oa1.rows.e1.length)) <|
     (Xag (s.rows.e1.take s.rows.m1) (oa1.rows.e1.take oa1.rows.m1)).bind fun x11=>
     cond (!x11)
      (
      some (false))
      (
      some (true))))))
def Xue (x:Bool):XcJ:=⟨.bool x,[],[none,none,none,none,none,none,none,none,none,none,none,none,none,none,none,none,none,none,none,none]⟩
abbrev Xej:=Xaz→Xaz→Option Bool
def XC1 (g:Xej):Dec:=dTr 10 (XbK 0) fun (y0:Xaz)=>dTr 10 (XbK 10) fun (y1:Xaz)=>Xev (ofG (g y0 y1) Xue)
abbrev XsQ (Xaa:Xae) (Xag:Xax):List (Nat×XcE):=[(38,s38 Xaa),(55,s55 Xag)]
theorem XqD (Xaa:Xae) (Xag:Xax) (hS:XaB Try.prog (XaI (XsQ Xaa Xag))) (s:Xaz) (oa1:Xaz) (res:Bool) (h:Xfe Xaa Xag s oa1=some res) :
 XaQ Try.prog 42 20 ⟨⟨42,33,[(0,.pointer (some ⟨0,0,none⟩)),(1,.pointer (some ⟨10,0,none⟩))],[.code XlK],[],false,none⟩,[],[(0,.row false [.int .u64 s.key.A,.int .u64 s.key.B,.slice (some ⟨1,0,none⟩) 2 1,.int .i64 s.total]),(1,.row false [.slice (some ⟨2,0,none⟩) s.rows.m0 1,.slice (some ⟨3,0,none⟩) s.rows.m1 1]),(2,.row false (vI .i64 s.rows.e0)),(3,.row false (vI .i64 s.rows.e1)),(10,.row false [.int .u64 oa1.key.A,.int .u64 oa1.key.B,.slice (some ⟨11,0,none⟩) 2 1,.int .i64 oa1.total]),(11,.row false [.slice (some ⟨12,0,none⟩) oa1.rows.m0 1,.slice (some ⟨13,0,none⟩) oa1.rows.m1 1]),(12,.row false (vI .i64 oa1.rows.e0)),(13,.row false (vI .i64 oa1.rows.e1))],20⟩ (fun v H _=>Res 20 (Xue res) v H):=by
 unfold Xfe at h
 have R1:=@XjD Xaa
 have R2:=@Xko Xag
 have J:=js []
 refine Xa3 XaN hS true 3000 ?_
 conv=>whnf
 exact W
def XeB (Xaa:Xae) (Xag:Xax) (s:Xay) (oa1:Xay):Option Bool:=
 (Xaa.v3 s).bind fun x3=>
 cond (!x3)
  (
  some (false))
  (
  (Xaa.v3 oa1).bind fun x31=>
  cond (!x31)
   (
   some (false))
   (
   let t:=!((s.key.A==oa1.key.A)&&((s.key.B==oa1.key.B)&&true))
   cond (t)
    (
    some (false))
    (
    XaL (decide (s.rows.m0≤s.rows.e0.length)) <|
    XaL (decide (oa1.rows.m0≤oa1.rows.e0.length)) <|
    (Xag (s.rows.e0.take s.rows.m0) (oa1.rows.e0.take oa1.rows.m0)).bind fun x1=>
    cond (!x1)
     (
     some (false))
     (
     XaL (decide (s.rows.m1≤s.rows.e1.length)) <|
     XaL (decide (oa1.rows.m1≤oa1.rows.e1.length)) <|
     (Xag (s.rows.e1.take s.rows.m1) (oa1.rows.e1.take oa1.rows.m1)).bind fun x11=>
     cond (!x11)
      (
      some (false))
      (
      XaL (decide (s.rows.m2≤s.rows.e2.length)) <|
      XaL (decide (oa1.rows.m2≤oa1.rows.e2.length)) <|
      (Xag (s.rows.e2.take s.rows.m2) (oa1.rows.e2.take oa1.rows.m2)).bind fun x12=>
      cond (!x12)
       (
       some (false))
       (
       some (true)))))))
def XtB (x:Bool):XcJ:=⟨.bool x,[],[none,none,none,none,none,none,none,none,none,none,none,none,none,none,none,none,none,none,none,none]⟩
abbrev XdM:=Xay→Xay→Option Bool
def XAY (g:XdM):Dec:=dTr 10 (XbJ 0) fun (y0:Xay)=>dTr 10 (XbJ 10) fun (y1:Xay)=>Xev (ofG (g y0 y1) XtB)
abbrev XsR (Xaa:Xae) (Xag:Xax):List (Nat×XcE):=[(38,s38 Xaa),(55,s55 Xag)]
theorem XqA (Xaa:Xae) (Xag:Xax) (hS:XaB Try.prog (XaI (XsR Xaa Xag))) (s:Xay) (oa1:Xay) (res:Bool) (h:XeB Xaa Xag s oa1=some res) :
 XaQ Try.prog 42 20 ⟨⟨42,33,[(0,.pointer (some ⟨0,0,none⟩)),(1,.pointer (some ⟨10,0,none⟩))],[.code XlK],[],false,none⟩,[],[(0,.row false [.int .u64 s.key.A,.int .u64 s.key.B,.slice (some ⟨1,0,none⟩) 3 1,.int .i64 s.total]),(1,.row false [.slice (some ⟨2,0,none⟩) s.rows.m0 1,.slice (some ⟨3,0,none⟩) s.rows.m1 1,.slice (some ⟨4,0,none⟩) s.rows.m2 1]),(2,.row false (vI .i64 s.rows.e0)),(3,.row false (vI .i64 s.rows.e1)),(4,.row false (vI .i64 s.rows.e2)),(10,.row false [.int .u64 oa1.key.A,.int .u64 oa1.key.B,.slice (some ⟨11,0,none⟩) 3 1,.int .i64 oa1.total]),(11,.row false [.slice (some ⟨12,0,none⟩) oa1.rows.m0 1,.slice (some ⟨13,0,none⟩) oa1.rows.m1 1,.slice (some ⟨14,0,none⟩) oa1.rows.m2 1]),(12,.row false (vI .i64 oa1.rows.e0)),(13,.row false (vI .i64 oa1.rows.e1)),(14,.row false (vI .i64 oa1.rows.e2))],20⟩ (fun v H _=>Res 20 (XtB res) v H):=by
 unfold XeB at h
 have R1:=@XjI Xaa
 have R2:=@Xko Xag
 have J:=js []
 refine Xa3 XaN hS true 3000 ?_
 conv=>whnf
 exact W
def XeC (Xaa:Xae) (Xag:Xax) (s:Xaw) (oa1:Xaw):Option Bool:=
 (Xaa.v4 s).bind fun x4=>
 cond (!x4)
  (
  some (false))
  (
  (Xaa.v4 oa1).bind fun x41=>
  cond (!x41)
   (
   some (false))
   (
   let t:=!((s.key.A==oa1.key.A)&&((s.key.B==oa1.key.B)&&true))
   cond (t)
    (
    some (false))
    (
    XaL (decide (s.rows.m0≤s.rows.e0.length)) <|
    XaL (decide (oa1.rows.m0≤oa1.rows.e0.length)) <|
    (Xag (s.rows.e0.take s.rows.m0) (oa1.rows.e0.take oa1.rows.m0)).bind fun x1=>
    cond (!x1)
     (
     some (false))
     (
     XaL (decide (s.rows.m1≤s.rows.e1.length)) <|
     XaL (decide (oa1.rows.m1≤oa1.rows.e1.length)) <|
     (Xag (s.rows.e1.take s.rows.m1) (oa1.rows.e1.take oa1.rows.m1)).bind fun x11=>
     cond (!x11)
      (
      some (false))
      (
      XaL (decide (s.rows.m2≤s.rows.e2.length)) <|
      XaL (decide (oa1.rows.m2≤oa1.rows.e2.length)) <|
      (Xag (s.rows.e2.take s.rows.m2) (oa1.rows.e2.take oa1.rows.m2)).bind fun x12=>
      cond (!x12)
       (
       some (false))
       (
       XaL (decide (s.rows.m3≤s.rows.e3.length)) <|
       XaL (decide (oa1.rows.m3≤oa1.rows.e3.length)) <|
       (Xag (s.rows.e3.take s.rows.m3) (oa1.rows.e3.take oa1.rows.m3)).bind fun x13=>
       cond (!x13)
        (
        some (false))
        (
        some (true))))))))
def XsL (x:Bool):XcJ:=⟨.bool x,[],[none,none,none,none,none,none,none,none,none,none,none,none,none,none,none,none,none,none,none,none]⟩
abbrev Xd3:=Xaw→Xaw→Option Bool
def XCE (g:Xd3):Dec:=dTr 10 (XbG 0) fun (y0:Xaw)=>dTr 10 (XbG 10) fun (y1:Xaw)=>Xev (ofG (g y0 y1) XsL)
abbrev Xrp (Xaa:Xae) (Xag:Xax):List (Nat×XcE):=[(38,s38 Xaa),(55,s55 Xag)]
theorem XqY (Xaa:Xae) (Xag:Xax) (hS:XaB Try.prog (XaI (Xrp Xaa Xag))) (s:Xaw) (oa1:Xaw) (res:Bool) (h:XeC Xaa Xag s oa1=some res) :
 XaQ Try.prog 42 20 ⟨⟨42,33,[(0,.pointer (some ⟨0,0,none⟩)),(1,.pointer (some ⟨10,0,none⟩))],[.code XlK],[],false,none⟩,[],[(0,.row false [.int .u64 s.key.A,.int .u64 s.key.B,.slice (some ⟨1,0,none⟩) 4 1,.int .i64 s.total]),(1,.row false [.slice (some ⟨2,0,none⟩) s.rows.m0 1,.slice (some ⟨3,0,none⟩) s.rows.m1 1,.slice (some ⟨4,0,none⟩) s.rows.m2 1,.slice (some ⟨5,0,none⟩) s.rows.m3 1]),(2,.row false (vI .i64 s.rows.e0)),(3,.row false (vI .i64 s.rows.e1)),(4,.row false (vI .i64 s.rows.e2)),(5,.row false (vI .i64 s.rows.e3)),(10,.row false [.int .u64 oa1.key.A,.int .u64 oa1.key.B,.slice (some ⟨11,0,none⟩) 4 1,.int .i64 oa1.total]),(11,.row false [.slice (some ⟨12,0,none⟩) oa1.rows.m0 1,.slice (some ⟨13,0,none⟩) oa1.rows.m1 1,.slice (some ⟨14,0,none⟩) oa1.rows.m2 1,.slice (some ⟨15,0,none⟩) oa1.rows.m3 1]),(12,.row false (vI .i64 oa1.rows.e0)),(13,.row false (vI .i64 oa1.rows.e1)),(14,.row false (vI .i64 oa1.rows.e2)),(15,.row false (vI .i64 oa1.rows.e3))],20⟩ (fun v H _=>Res 20 (XsL res) v H):=by
 unfold XeC at h
 have R1:=@Xjr Xaa
 have R2:=@Xko Xag
 have J:=js []
 refine Xa3 XaN hS true 3000 ?_
 conv=>whnf
 exact W
def XeN (Xaa:Xae) (Xag:Xax) (s:Xav) (oa1:Xav):Option Bool:=
 (Xaa.v5 s).bind fun x5=>
 cond (!x5)
  (
  some (false))
  (
  (Xaa.v5 oa1).bind fun x51=>
  cond (!x51)
   (
   some (false))
   (
   let t:=!((s.key.A==oa1.key.A)&&((s.key.B==oa1.key.B)&&true))
   cond (t)
    (
    some (false))
    (
    XaL (decide (s.rows.m0≤s.rows.e0.length)) <|
    XaL (decide (oa1.rows.m0≤oa1.rows.e0.length)) <|
    (Xag (s.rows.e0.take s.rows.m0) (oa1.rows.e0.take oa1.rows.m0)).bind fun x1=>
    cond (!x1)
     (
     some (false))
     (
     XaL (decide (s.rows.m1≤s.rows.e1.length)) <|
     XaL (decide (oa1.rows.m1≤oa1.rows.e1.length)) <|
     (Xag (s.rows.e1.take s.rows.m1) (oa1.rows.e1.take oa1.rows.m1)).bind fun x11=>
     cond (!x11)
      (
      some (false))
      (
      XaL (decide (s.rows.m2≤s.rows.e2.length)) <|
      XaL (decide (oa1.rows.m2≤oa1.rows.e2.length)) <|
      (Xag (s.rows.e2.take s.rows.m2) (oa1.rows.e2.take oa1.rows.m2)).bind fun x12=>
      cond (!x12)
       (
       some (false))
       (
       XaL (decide (s.rows.m3≤s.rows.e3.length)) <|
       XaL (decide (oa1.rows.m3≤oa1.rows.e3.length)) <|
       (Xag (s.rows.e3.take s.rows.m3) (oa1.rows.e3.take oa1.rows.m3)).bind fun x13=>
       cond (!x13)
        (
        some (false))
        (
        XaL (decide (s.rows.m4≤s.rows.e4.length)) <|
        XaL (decide (oa1.rows.m4≤oa1.rows.e4.length)) <|
        (Xag (s.rows.e4.take s.rows.m4) (oa1.rows.e4.take oa1.rows.m4)).bind fun x14=>
        cond (!x14)
         (
         some (false))
         (
         some (true)))))))))
def Xuc (x:Bool):XcJ:=⟨.bool x,[],[none,none,none,none,none,none,none,none,none,none,none,none,none,none,none,none,none,none,none,none]⟩
abbrev Xd1:=Xav→Xav→Option Bool
def XBC (g:Xd1):Dec:=dTr 10 (XbE 0) fun (y0:Xav)=>dTr 10 (XbE 10) fun (y1:Xav)=>Xev (ofG (g y0 y1) Xuc)
abbrev Xtk (Xaa:Xae) (Xag:Xax):List (Nat×XcE):=[(38,s38 Xaa),(55,s55 Xag)]
theorem XqB (Xaa:Xae) (Xag:Xax) (hS:XaB Try.prog (XaI (Xtk Xaa Xag))) (s:Xav) (oa1:Xav) (res:Bool) (h:XeN Xaa Xag s oa1=some res) :
 XaQ Try.prog 42 20 ⟨⟨42,33,[(0,.pointer (some ⟨0,0,none⟩)),(1,.pointer (some ⟨10,0,none⟩))],[.code XlK],[],false,none⟩,[],[(0,.row false [.int .u64 s.key.A,.int .u64 s.key.B,.slice (some ⟨1,0,none⟩) 5 1,.int .i64 s.total]),(1,.row false [.slice (some ⟨2,0,none⟩) s.rows.m0 1,.slice (some ⟨3,0,none⟩) s.rows.m1 1,.slice (some ⟨4,0,none⟩) s.rows.m2 1,.slice (some ⟨5,0,none⟩) s.rows.m3 1,.slice (some ⟨6,0,none⟩) s.rows.m4 1]),(2,.row false (vI .i64 s.rows.e0)),(3,.row false (vI .i64 s.rows.e1)),(4,.row false (vI .i64 s.rows.e2)),(5,.row false (vI .i64 s.rows.e3)),(6,.row false (vI .i64 s.rows.e4)),(10,.row false [.int .u64 oa1.key.A,.int .u64 oa1.key.B,.slice (some ⟨11,0,none⟩) 5 1,.int .i64 oa1.total]),(11,.row false [.slice (some ⟨12,0,none⟩) oa1.rows.m0 1,.slice (some ⟨13,0,none⟩) oa1.rows.m1 1,.slice (some ⟨14,0,none⟩) oa1.rows.m2 1,.slice (some ⟨15,0,none⟩) oa1.rows.m3 1,.slice (some ⟨16,0,none⟩) oa1.rows.m4 1]),(12,.row false (vI .i64 oa1.rows.e0)),(13,.row false (vI .i64 oa1.rows.e1)),(14,.row false (vI .i64 oa1.rows.e2)),(15,.row false (vI .i64 oa1.rows.e3)),(16,.row false (vI .i64 oa1.rows.e4))],20⟩ (fun v H _=>Res 20 (Xuc res) v H):=by
 unfold XeN at h
 have R1:=@XjW Xaa
 have R2:=@Xko Xag
 have J:=js []
 refine Xa3 XaN hS true 3000 ?_
 conv=>whnf
 exact W
def Xe0 (Xaa:Xae) (Xag:Xax) (s:Xau) (oa1:Xau):Option Bool:=
 (Xaa.v6 s).bind fun x6=>
 cond (!x6)
  (
  some (false))
  (
  (Xaa.v6 oa1).bind fun x61=>
  cond (!x61)
   (
   some (false))
   (
   let t:=!((s.key.A==oa1.key.A)&&((s.key.B==oa1.key.B)&&true))
   cond (t)
    (
    some (false))
    (
    XaL (decide (s.rows.m0≤s.rows.e0.length)) <|
    XaL (decide (oa1.rows.m0≤oa1.rows.e0.length)) <|
    (Xag (s.rows.e0.take s.rows.m0) (oa1.rows.e0.take oa1.rows.m0)).bind fun x1=>
    cond (!x1)
     (
     some (false))
     (
     XaL (decide (s.rows.m1≤s.rows.e1.length)) <|
     XaL (decide (oa1.rows.m1≤oa1.rows.e1.length)) <|
     (Xag (s.rows.e1.take s.rows.m1) (oa1.rows.e1.take oa1.rows.m1)).bind fun x11=>
     cond (!x11)
      (
      some (false))
      (
      XaL (decide (s.rows.m2≤s.rows.e2.length)) <|
      XaL (decide (oa1.rows.m2≤oa1.rows.e2.length)) <|
      (Xag (s.rows.e2.take s.rows.m2) (oa1.rows.e2.take oa1.rows.m2)).bind fun x12=>
      cond (!x12)
       (
       some (false))
       (
       XaL (decide (s.rows.m3≤s.rows.e3.length)) <|
       XaL (decide (oa1.rows.m3≤oa1.rows.e3.length)) <|
       (Xag (s.rows.e3.take s.rows.m3) (oa1.rows.e3.take oa1.rows.m3)).bind fun x13=>
       cond (!x13)
        (
        some (false))
        (
        XaL (decide (s.rows.m4≤s.rows.e4.length)) <|
        XaL (decide (oa1.rows.m4≤oa1.rows.e4.length)) <|
        (Xag (s.rows.e4.take s.rows.m4) (oa1.rows.e4.take oa1.rows.m4)).bind fun x14=>
        cond (!x14)
         (
         some (false))
         (
         XaL (decide (s.rows.m5≤s.rows.e5.length)) <|
         XaL (decide (oa1.rows.m5≤oa1.rows.e5.length)) <|
         (Xag (s.rows.e5.take s.rows.m5) (oa1.rows.e5.take oa1.rows.m5)).bind fun x15=>
         cond (!x15)
          (
          some (false))
          (
          some (true))))))))))
def XrO (x:Bool):XcJ:=⟨.bool x,[],[none,none,none,none,none,none,none,none,none,none,none,none,none,none,none,none,none,none,none,none]⟩
abbrev Xd4:=Xau→Xau→Option Bool
def XBu (g:Xd4):Dec:=dTr 10 (XbI 0) fun (y0:Xau)=>dTr 10 (XbI 10) fun (y1:Xau)=>Xev (ofG (g y0 y1) XrO)
abbrev XsC (Xaa:Xae) (Xag:Xax):List (Nat×XcE):=[(38,s38 Xaa),(55,s55 Xag)]
theorem XqU (Xaa:Xae) (Xag:Xax) (hS:XaB Try.prog (XaI (XsC Xaa Xag))) (s:Xau) (oa1:Xau) (res:Bool) (h:Xe0 Xaa Xag s oa1=some res) :
 XaQ Try.prog 42 20 ⟨⟨42,33,[(0,.pointer (some ⟨0,0,none⟩)),(1,.pointer (some ⟨10,0,none⟩))],[.code XlK],[],false,none⟩,[],[(0,.row false [.int .u64 s.key.A,.int .u64 s.key.B,.slice (some ⟨1,0,none⟩) 6 1,.int .i64 s.total]),(1,.row false [.slice (some ⟨2,0,none⟩) s.rows.m0 1,.slice (some ⟨3,0,none⟩) s.rows.m1 1,.slice (some ⟨4,0,none⟩) s.rows.m2 1,.slice (some ⟨5,0,none⟩) s.rows.m3 1,.slice (some ⟨6,0,none⟩) s.rows.m4 1,.slice (some ⟨7,0,none⟩) s.rows.m5 1]),(2,.row false (vI .i64 s.rows.e0)),(3,.row false (vI .i64 s.rows.e1)),(4,.row false (vI .i64 s.rows.e2)),(5,.row false (vI .i64 s.rows.e3)),(6,.row false (vI .i64 s.rows.e4)),(7,.row false (vI .i64 s.rows.e5)),(10,.row false [.int .u64 oa1.key.A,.int .u64 oa1.key.B,.slice (some ⟨11,0,none⟩) 6 1,.int .i64 oa1.total]),(11,.row false [.slice (some ⟨12,0,none⟩) oa1.rows.m0 1,.slice (some ⟨13,0,none⟩) oa1.rows.m1 1,.slice (some ⟨14,0,none⟩) oa1.rows.m2 1,.slice (some ⟨15,0,none⟩) oa1.rows.m3 1,.slice (some ⟨16,0,none⟩) oa1.rows.m4 1,.slice (some ⟨17,0,none⟩) oa1.rows.m5 1]),(12,.row false (vI .i64 oa1.rows.e0)),(13,.row false (vI .i64 oa1.rows.e1)),(14,.row false (vI .i64 oa1.rows.e2)),(15,.row false (vI .i64 oa1.rows.e3)),(16,.row false (vI .i64 oa1.rows.e4)),(17,.row false (vI .i64 oa1.rows.e5))],20⟩ (fun v H _=>Res 20 (XrO res) v H):=by
 unfold Xe0 at h
 have R1:=@XjL Xaa
 have R2:=@Xko Xag
 have J:=js []
 refine Xa3 XaN hS true 3000 ?_
 conv=>whnf
 exact W
def Xe7 (Xaa:Xae) (Xag:Xax) (s:Xat) (oa1:Xat):Option Bool:=
 (Xaa.v7 s).bind fun x7=>
 cond (!x7)
  (
  some (false))
  (
  (Xaa.v7 oa1).bind fun x71=>
  cond (!x71)
   (
   some (false))
   (
   let t:=!((s.key.A==oa1.key.A)&&((s.key.B==oa1.key.B)&&true))
   cond (t)
    (
    some (false))
    (
    XaL (decide (s.rows.m0≤s.rows.e0.length)) <|
    XaL (decide (oa1.rows.m0≤oa1.rows.e0.length)) <|
    (Xag (s.rows.e0.take s.rows.m0) (oa1.rows.e0.take oa1.rows.m0)).bind fun x1=>
    cond (!x1)
     (
     some (false))
     (
     XaL (decide (s.rows.m1≤s.rows.e1.length)) <|
     XaL (decide (oa1.rows.m1≤oa1.rows.e1.length)) <|
     (Xag (s.rows.e1.take s.rows.m1) (oa1.rows.e1.take oa1.rows.m1)).bind fun x11=>
     cond (!x11)
      (
      some (false))
      (
      XaL (decide (s.rows.m2≤s.rows.e2.length)) <|
      XaL (decide (oa1.rows.m2≤oa1.rows.e2.length)) <|
      (Xag (s.rows.e2.take s.rows.m2) (oa1.rows.e2.take oa1.rows.m2)).bind fun x12=>
      cond (!x12)
       (
       some (false))
       (
       XaL (decide (s.rows.m3≤s.rows.e3.length)) <|
       XaL (decide (oa1.rows.m3≤oa1.rows.e3.length)) <|
       (Xag (s.rows.e3.take s.rows.m3) (oa1.rows.e3.take oa1.rows.m3)).bind fun x13=>
       cond (!x13)
        (
        some (false))
        (
        XaL (decide (s.rows.m4≤s.rows.e4.length)) <|
        XaL (decide (oa1.rows.m4≤oa1.rows.e4.length)) <|
        (Xag (s.rows.e4.take s.rows.m4) (oa1.rows.e4.take oa1.rows.m4)).bind fun x14=>
        cond (!x14)
         (
         some (false))
         (
         XaL (decide (s.rows.m5≤s.rows.e5.length)) <|
         XaL (decide (oa1.rows.m5≤oa1.rows.e5.length)) <|
         (Xag (s.rows.e5.take s.rows.m5) (oa1.rows.e5.take oa1.rows.m5)).bind fun x15=>
         cond (!x15)
          (
          some (false))
          (
          XaL (decide (s.rows.m6≤s.rows.e6.length)) <|
          XaL (decide (oa1.rows.m6≤oa1.rows.e6.length)) <|
          (Xag (s.rows.e6.take s.rows.m6) (oa1.rows.e6.take oa1.rows.m6)).bind fun x16=>
          cond (!x16)
           (
           some (false))
           (
           some (true)))))))))))
def XtC (x:Bool):XcJ:=⟨.bool x,[],[none,none,none,none,none,none,none,none,none,none,none,none,none,none,none,none,none,none,none,none]⟩
abbrev Xd8:=Xat→Xat→Option Bool
def XA2 (g:Xd8):Dec:=dTr 10 (XbM 0) fun (y0:Xat)=>dTr 10 (XbM 10) fun (y1:Xat)=>Xev (ofG (g y0 y1) XtC)
abbrev XuN (Xaa:Xae) (Xag:Xax):List (Nat×XcE):=[(38,s38 Xaa),(55,s55 Xag)]
theorem Xq4 (Xaa:Xae) (Xag:Xax) (hS:XaB Try.prog (XaI (XuN Xaa Xag))) (s:Xat) (oa1:Xat) (res:Bool) (h:Xe7 Xaa Xag s oa1=some res) :
 XaQ Try.prog 42 20 ⟨⟨42,33,[(0,.pointer (some ⟨0,0,none⟩)),(1,.pointer (some ⟨10,0,none⟩))],[.code XlK],[],false,none⟩,[],[(0,.row false [.int .u64 s.key.A,.int .u64 s.key.B,.slice (some ⟨1,0,none⟩) 7 1,.int .i64 s.total]),(1,.row false [.slice (some ⟨2,0,none⟩) s.rows.m0 1,.slice (some ⟨3,0,none⟩) s.rows.m1 1,.slice (some ⟨4,0,none⟩) s.rows.m2 1,.slice (some ⟨5,0,none⟩) s.rows.m3 1,.slice (some ⟨6,0,none⟩) s.rows.m4 1,.slice (some ⟨7,0,none⟩) s.rows.m5 1,.slice (some ⟨8,0,none⟩) s.rows.m6 1]),(2,.row false (vI .i64 s.rows.e0)),(3,.row false (vI .i64 s.rows.e1)),(4,.row false (vI .i64 s.rows.e2)),(5,.row false (vI .i64 s.rows.e3)),(6,.row false (vI .i64 s.rows.e4)),(7,.row false (vI .i64 s.rows.e5)),(8,.row false (vI .i64 s.rows.e6)),(10,.row false [.int .u64 oa1.key.A,.int .u64 oa1.key.B,.slice (some ⟨11,0,none⟩) 7 1,.int .i64 oa1.total]),(11,.row false [.slice (some ⟨12,0,none⟩) oa1.rows.m0 1,.slice (some ⟨13,0,none⟩) oa1.rows.m1 1,.slice (some ⟨14,0,none⟩) oa1.rows.m2 1,.slice (some ⟨15,0,none⟩) oa1.rows.m3 1,.slice (some ⟨16,0,none⟩) oa1.rows.m4 1,.slice (some ⟨17,0,none⟩) oa1.rows.m5 1,.slice (some ⟨18,0,none⟩) oa1.rows.m6 1]),(12,.row false (vI .i64 oa1.rows.e0)),(13,.row false (vI .i64 oa1.rows.e1)),(14,.row false (vI .i64 oa1.rows.e2)),(15,.row false (vI .i64 oa1.rows.e3)),(16,.row false (vI .i64 oa1.rows.e4)),(17,.row false (vI .i64 oa1.rows.e5)),(18,.row false (vI .i64 oa1.rows.e6))],20⟩ (fun v H _=>Res 20 (XtC res) v H):=by
 unfold Xe7 at h
 have R1:=@Xju Xaa
 have R2:=@Xko Xag
 have J:=js []
 refine Xa3 XaN hS true 3000 ?_
 conv=>whnf
 exact W
def XeH (Xaa:Xae) (Xag:Xax) (s:Xas) (oa1:Xas):Option Bool:=
 (Xaa.v8 s).bind fun x8=>
 cond (!x8)
  (
  some (false))
  (
  (Xaa.v8 oa1).bind fun x81=>
  cond (!x81)
   (
   some (false))
   (
   let t:=!((s.key.A==oa1.key.A)&&((s.key.B==oa1.key.B)&&true))
   cond (t)
    (
    some (false))
    (
    XaL (decide (s.rows.m0≤s.rows.e0.length)) <|
    XaL (decide (oa1.rows.m0≤oa1.rows.e0.length)) <|
    (Xag (s.rows.e0.take s.rows.m0) (oa1.rows.e0.take oa1.rows.m0)).bind fun x1=>
    cond (!x1)
     (
     some (false))
     (
     XaL (decide (s.rows.m1≤s.rows.e1.length)) <|
     XaL (decide (oa1.rows.m1≤oa1.rows.e1.length)) <|
     (Xag (s.rows.e1.take s.rows.m1) (oa1.rows.e1.take oa1.rows.m1)).bind fun x11=>
     cond (!x11)
      (
      some (false))
      (
      XaL (decide (s.rows.m2≤s.rows.e2.length)) <|
      XaL (decide (oa1.rows.m2≤oa1.rows.e2.length)) <|
      (Xag (s.rows.e2.take s.rows.m2) (oa1.rows.e2.take oa1.rows.m2)).bind fun x12=>
      cond (!x12)
       (
       some (false))
       (
       XaL (decide (s.rows.m3≤s.rows.e3.length)) <|
       XaL (decide (oa1.rows.m3≤oa1.rows.e3.length)) <|
       (Xag (s.rows.e3.take s.rows.m3) (oa1.rows.e3.take oa1.rows.m3)).bind fun x13=>
       cond (!x13)
        (
        some (false))
        (
        XaL (decide (s.rows.m4≤s.rows.e4.length)) <|
        XaL (decide (oa1.rows.m4≤oa1.rows.e4.length)) <|
        (Xag (s.rows.e4.take s.rows.m4) (oa1.rows.e4.take oa1.rows.m4)).bind fun x14=>
        cond (!x14)
         (
         some (false))
         (
         XaL (decide (s.rows.m5≤s.rows.e5.length)) <|
         XaL (decide (oa1.rows.m5≤oa1.rows.e5.length)) <|
         (Xag (s.rows.e5.take s.rows.m5) (oa1.rows.e5.take oa1.rows.m5)).bind fun x15=>
         cond (!x15)
          (
          some (false))
          (
          XaL (decide (s.rows.m6≤s.rows.e6.length)) <|
          XaL (decide (oa1.rows.m6≤oa1.rows.e6.length)) <|
          (Xag (s.rows.e6.take s.rows.m6) (oa1.rows.e6.take oa1.rows.m6)).bind fun x16=>
          cond (!x16)
           (
           some (false))
           (
           XaL (decide (s.rows.m7≤s.rows.e7.length)) <|
           XaL (decide (oa1.rows.m7≤oa1.rows.e7.length)) <|
           (Xag (s.rows.e7.take s.rows.m7) (oa1.rows.e7.take oa1.rows.m7)).bind fun x17=>
           cond (!x17)
            (
            some (false))
            (
            some (true))))))))))))
def Xt9 (x:Bool):XcJ:=⟨.bool x,[],[none,none,none,none,none,none,none,none,none,none,none,none,none,none,none,none,none,none,none,none]⟩
abbrev XdH:=Xas→Xas→Option Bool
def XBL (g:XdH):Dec:=dTr 10 (XbH 0) fun (y0:Xas)=>dTr 10 (XbH 10) fun (y1:Xas)=>Xev (ofG (g y0 y1) Xt9)
abbrev XrP (Xaa:Xae) (Xag:Xax):List (Nat×XcE):=[(38,s38 Xaa),(55,s55 Xag)]
theorem Xq3 (Xaa:Xae) (Xag:Xax) (hS:XaB Try.prog (XaI (XrP Xaa Xag))) (s:Xas) (oa1:Xas) (res:Bool) (h:XeH Xaa Xag s oa1=some res) :
 XaQ Try.prog 42 20 ⟨⟨42,33,[(0,.pointer (some ⟨0,0,none⟩)),(1,.pointer (some ⟨10,0,none⟩))],[.code XlK],[],false,none⟩,[],[(0,.row false [.int .u64 s.key.A,.int .u64 s.key.B,.slice (some ⟨1,0,none⟩) 8 1,.int .i64 s.total]),(1,.row false [.slice (some ⟨2,0,none⟩) s.rows.m0 1,.slice (some ⟨3,0,none⟩) s.rows.m1 1,.slice (some ⟨4,0,none⟩) s.rows.m2 1,.slice (some ⟨5,0,none⟩) s.rows.m3 1,.slice (some ⟨6,0,none⟩) s.rows.m4 1,.slice (some ⟨7,0,none⟩) s.rows.m5 1,.slice (some ⟨8,0,none⟩) s.rows.m6 1,.slice (some ⟨9,0,none⟩) s.rows.m7 1]),(2,.row false (vI .i64 s.rows.e0)),(3,.row false (vI .i64 s.rows.e1)),(4,.row false (vI .i64 s.rows.e2)),(5,.row false (vI .i64 s.rows.e3)),(6,.row false (vI .i64 s.rows.e4)),(7,.row false (vI .i64 s.rows.e5)),(8,.row false (vI .i64 s.rows.e6)),(9,.row false (vI .i64 s.rows.e7)),(10,.row false [.int .u64 oa1.key.A,.int .u64 oa1.key.B,.slice (some ⟨11,0,none⟩) 8 1,.int .i64 oa1.total]),(11,.row false [.slice (some ⟨12,0,none⟩) oa1.rows.m0 1,.slice (some ⟨13,0,none⟩) oa1.rows.m1 1,.slice (some ⟨14,0,none⟩) oa1.rows.m2 1,.slice (some ⟨15,0,none⟩) oa1.rows.m3 1,.slice (some ⟨16,0,none⟩) oa1.rows.m4 1,.slice (some ⟨17,0,none⟩) oa1.rows.m5 1,.slice (some ⟨18,0,none⟩) oa1.rows.m6 1,.slice (some ⟨19,0,none⟩) oa1.rows.m7 1]),(12,.row false (vI .i64 oa1.rows.e0)),(13,.row false (vI .i64 oa1.rows.e1)),(14,.row false (vI .i64 oa1.rows.e2)),(15,.row false (vI .i64 oa1.rows.e3)),(16,.row false (vI .i64 oa1.rows.e4)),(17,.row false (vI .i64 oa1.rows.e5)),(18,.row false (vI .i64 oa1.rows.e6)),(19,.row false (vI .i64 oa1.rows.e7))],20⟩ (fun v H _=>Res 20 (Xt9 res) v H):=by
 unfold XeH at h
 have R1:=@XjB Xaa
 have R2:=@Xko Xag
 have J:=js []
 refine Xa3 XaN hS true 3000 ?_
 conv=>whnf
 exact W
structure Xb1 where
 v00:XdQ
 v11:XdF
 v22:Xej
 v33:XdM
 v44:Xd3
 v55:Xd1
 v66:Xd4
 v77:Xd8
 v88:XdH
def s42 (g:Xb1):XcE:=⟨[.tr [⟨none,0,0,0,none⟩,⟨some 0,2,0,0,none⟩,⟨some 1,0,0,0,none⟩,⟨some 1,1,0,0,none⟩,⟨some 1,2,0,0,none⟩,⟨some 1,3,0,0,none⟩,⟨some 1,4,0,0,none⟩,⟨some 1,5,0,0,none⟩,⟨some 1,6,0,0,none⟩,⟨some 1,7,0,0,none⟩],.tr [⟨none,0,0,0,none⟩,⟨some 0,2,0,0,none⟩,⟨some 1,0,0,0,none⟩,⟨some 1,1,0,0,none⟩,⟨some 1,2,0,0,none⟩,⟨some 1,3,0,0,none⟩,⟨some 1,4,0,0,none⟩,⟨some 1,5,0,0,none⟩,⟨some 1,6,0,0,none⟩,⟨some 1,7,0,0,none⟩]],orD (XA9 g.v00) (orD (XB6 g.v11) (orD (XC1 g.v22) (orD (XAY g.v33) (orD (XCE g.v44) (orD (XBC g.v55) (orD (XBu g.v66) (orD (XA2 g.v77) (XBL g.v88))))))))⟩
theorem Xnt {g:Xb1} {y0:Xar} {y1:Xar} {x:Bool} (hx:g.v00 y0 y1=some x):(s42 g).run [.pointer (some ⟨0,0,none⟩),.pointer (some ⟨10,0,none⟩)] [some [.int .u64 y0.key.A,.int .u64 y0.key.B,.slice none 0 0,.int .i64 y0.total],none,none,none,none,none,none,none,none,none,some [.int .u64 y1.key.A,.int .u64 y1.key.B,.slice none 0 0,.int .i64 y1.total],none,none,none,none,none,none,none,none,none]=some (XmX x):=by dsimp only [s42];exact (Xdt ((XbZ rfl rfl (Xdj 0 _)).trans ((XbZ rfl rfl (Xdj 10 _)).trans (Xbe hx))))
def XhT:XdQ:=Xfg Xaa
def Xio:XdF:=XeR Xaa Xag
def Xir:Xej:=Xfe Xaa Xag
def XiJ:XdM:=XeB Xaa Xag
def XiG:Xd3:=XeC Xaa Xag
def Xiw:Xd1:=XeN Xaa Xag
def XiC:Xd4:=Xe0 Xaa Xag
def Xh9:Xd8:=Xe7 Xaa Xag
def Xit:XdH:=XeH Xaa Xag
def Xa0:Xb1:=⟨XhT,Xio,Xir,XiJ,XiG,Xiw,XiC,Xh9,Xit⟩
theorem XCR:XfJ Try.prog 42 (s42 Xa0):=by
 have L0:=XqK Xaa (XaB.Xa4 ⟨XbW,trivial⟩)
 have L1:=XqW Xaa Xag (XaB.Xa4 ⟨XbW,XkG,trivial⟩)
 have L2:=XqD Xaa Xag (XaB.Xa4 ⟨XbW,XkG,trivial⟩)
 have L3:=XqA Xaa Xag (XaB.Xa4 ⟨XbW,XkG,trivial⟩)
 have L4:=XqY Xaa Xag (XaB.Xa4 ⟨XbW,XkG,trivial⟩)
 have L5:=XqB Xaa Xag (XaB.Xa4 ⟨XbW,XkG,trivial⟩)
 have L6:=XqU Xaa Xag (XaB.Xa4 ⟨XbW,XkG,trivial⟩)
 have L7:=Xq4 Xaa Xag (XaB.Xa4 ⟨XbW,XkG,trivial⟩)
 have L8:=Xq3 Xaa Xag (XaB.Xa4 ⟨XbW,XkG,trivial⟩)
 refine XfJ.Xhq XaN (fun ar os r ha hr=>?_) ⟨Try.f42,rfl,by decide,rfl⟩
 generalize hc:XgD os=C at hr
 replace hr:=orD.elim hr;rcases hr with hr|hr
 ·have LL:=L0;have U1:=@XcW;exact okB
 replace hr:=orD.elim hr;rcases hr with hr|hr
 ·have LL:=L1;have U1:=@Xcj;exact okB
 replace hr:=orD.elim hr;rcases hr with hr|hr
 ·have LL:=L2;have U1:=@Xcl;exact okB
 replace hr:=orD.elim hr;rcases hr with hr|hr
 ·have LL:=L3;have U1:=@Xci;exact okB
 replace hr:=orD.elim hr;rcases hr with hr|hr
 ·have LL:=L4;have U1:=@Xck;exact okB
 replace hr:=orD.elim hr;rcases hr with hr|hr
 ·have LL:=L5;have U1:=@Xce;exact okB
 replace hr:=orD.elim hr;rcases hr with hr|hr
 ·have LL:=L6;have U1:=@Xcm;exact okB
 replace hr:=orD.elim hr;rcases hr with hr|hr
 ·have LL:=L7;have U1:=@Xcg;exact okB
 have LL:=L8;have U1:=@Xch;exact okB
def Xgr (s:Int) (s1:Int) (s2:Int):Option (Sum (Int×Int×Int) Bool):=
 let t:=if (wI .i64 (s2+s2))<1099511627776 then wI .i64 (s2+s2) else 1099511627776
 some (.inr (false))
def Xh6 (Xaq:XaK) (Xac:Xaj) (Xab:Xak) (Xaf:Xam) (Xad:Xai) (Xa0:Xb1):Option Bool:=
 (Xaq 2 10 (Xap.mk 1 0)).bind fun n=>
 match n with
 | .v2 n1=>
   (Xaf.v2 n1 [97] 3).bind fun x2=>
   cond (x2.1)
    (
    (Xaf.v2 x2.2 [98] 4).bind fun x21=>
    cond (x21.1)
     (
     (Xaf.v2 x21.2 [97] (-1)).bind fun x22=>
     (Xac.v2 x22.2 [97]).bind fun x23=>
     cond (!x22.1)
      (
      cond (x23==3)
       (
       (Xad.v2 x22.2).bind fun x24=>
       cond (x24==7)
        (
        (Xaf.vn [97] 1).bind fun n2=>
        cond (!n2)
         (
         (Xaf.v0 (Xar.mk (Xap.mk 0 0) Xa9.mk 0) [97] 1).bind fun x0=>
         cond (!x0.1)
          (
          (Xac.vn [97]).bind fun n3=>
          (Xad.v0 (Xar.mk x0.2.key Xa9.mk x0.2.total)).bind fun x01=>
          cond ((wI .i64 (n3+x01))==0)
           (
           (Xab.vn 0 [97]).bind fun n4=>
           cond (n4==(-1))
            (
            (Xa0.v00 (Xar.mk x0.2.key Xa9.mk x0.2.total) (Xar.mk x0.2.key Xa9.mk x0.2.total)).bind fun x02=>
            cond (!x02)
             (
             (Xaq 0 1 (Xap.mk 0 0)).bind fun n5=>
             match n5 with
             | .nil=>
               some (true)
             | _=>none)
             (
             iter (fun st=>Xgr st.1 st.2.1 st.2.2) FUEL (x0.2.key.A,x0.2.key.B,x0.2.total)))
            (
            some (false)))
           (
           some (false)))
          (
          some (false)))
         (
         some (false)))
        (
        some (false)))
       (
       cond (x23==7)
        (
        (Xad.v2 x22.2).bind fun x25=>
        cond (x25==7)
         (
         (Xaf.vn [97] 1).bind fun n6=>
         cond (!n6)
          (
          (Xaf.v0 (Xar.mk (Xap.mk 0 0) Xa9.mk 0) [97] 1).bind fun x03=>
          cond (!x03.1)
           (
           (Xac.vn [97]).bind fun n7=>
           (Xad.v0 (Xar.mk x03.2.key Xa9.mk x03.2.total)).bind fun x04=>
           cond ((wI .i64 (n7+x04))==0)
            (
            (Xab.vn 0 [97]).bind fun n8=>
            cond (n8==(-1))
             (
             (Xa0.v00 (Xar.mk x03.2.key Xa9.mk x03.2.total) (Xar.mk x03.2.key Xa9.mk x03.2.total)).bind fun x05=>
             cond (!x05)
              (
              (Xaq 0 1 (Xap.mk 0 0)).bind fun n9=>
              match n9 with
              | .nil=>
                some (true)
              | _=>none)
              (
              iter (fun st=>Xgr st.1 st.2.1 st.2.2) FUEL (x03.2.key.A,x03.2.key.B,x03.2.total)))
             (
             some (false)))
            (
            some (false)))
           (
           some (false)))
          (
          some (false)))
         (
         some (false)))
        (
        some (false))))
      (
      some (false)))
     (
     (Xac.v2 x21.2 [97]).bind fun x26=>
     some (false)))
    (
    (Xac.v2 x2.2 [97]).bind fun x27=>
    some (false))
 | _=>none
def rx9 (x:Bool):XcJ:=⟨.bool x,[],[]⟩
abbrev XaC:=Option Bool
def r9 (g:XaC):Dec:=Xev (ofG (g) rx9)
theorem r9_c {g:XaC} {x:Bool} (hx:g=some x):r9 g [] []=some (rx9 x):=Xbe hx
def s9 (g:XaC):XcE:=⟨[],r9 g⟩
theorem Xm9 {g:XaC} {x:Bool} (hx:g=some x):(s9 g).run [] []=some (rx9 x):=r9_c hx
abbrev XC2 (Xaq:XaK) (Xac:Xaj) (Xab:Xak) (Xaf:Xam) (Xad:Xai) (Xa0:Xb1):List (Nat×XcE):=[(10,s10 Xaq),(16,s16 Xac),(20,s20 Xab),(12,s12 Xaf),(18,s18 Xad),(42,s42 Xa0)]
def XoL (s:Int) (s1:Int) (s2:Int):VM:=
 ⟨⟨14,51,[(0,.pointer (some ⟨10,0,none⟩)),(1,.pointer (some ⟨10,0,none⟩)),(16,.slice none 0 0),(17,.int .i64 0),(18,.int .i64 0)],[.code XuB,.inLoop XuB,.inBlock 0,.code XxG],[],false,none⟩,[⟨9,71,[(60,.bool true)],[.inReg (opsD k9_6 40),.code .ret],[],false,none⟩],[(10,.cells [.int .u64 s,.int .u64 s1,.slice none 0 0,.int .i64 s2])],11⟩
theorem XsS (Xaq:XaK) (Xac:Xaj) (Xab:Xak) (Xaf:Xam) (Xad:Xai) (Xa0:Xb1) (hS:XaB Try.prog (XaI (XC2 Xaq Xac Xab Xaf Xad Xa0))) {res:Bool}:∀ {fuel} {st:Int×Int×Int} {o:Bool},iter (fun st=>Xgr st.1 st.2.1 st.2.2) fuel st=some o→(o=res) →
 XaQ Try.prog 9 0 (XoL st.1 st.2.1 st.2.2) (fun v H _=>Res 0 (rx9 res) v H):=by
 apply Xa6
 intro st o h hc
 obtain ⟨s,s1,s2⟩:=st
 try dsimp -zeta only at h ⊢
 unfold Xgr at h
 refine Xa3 XaN hS true 3000 ?_
 conv=>whnf
 exact W
theorem XBh (Xaq:XaK) (Xac:Xaj) (Xab:Xak) (Xaf:Xam) (Xad:Xai) (Xa0:Xb1) (hS:XaB Try.prog (XaI (XC2 Xaq Xac Xab Xaf Xad Xa0))) (res:Bool) (h:Xh6 Xaq Xac Xab Xaf Xad Xa0=some res) :
 XaQ Try.prog 9 0 ⟨⟨9,71,[],[.code XDd],[],false,none⟩,[],[],0⟩ (fun v H _=>Res 0 (rx9 res) v H):=by
 unfold Xh6 at h
 have R1:=@XkW Xac
 refine Xa3 XaN hS true 3000 ?_
 conv=>whnf
 replace h:=XbV.elim h;obtain ⟨n,hy,h⟩:=h
 cases n
 case v2 n1=>
  refine Xfx.a (XhD hy) ?_
  conv=>whnf
  replace h:=XbV.elim h;obtain ⟨x2,hy,h⟩:=h
  refine Xfx.a (XkN hy) ?_
  conv=>whnf
  refine br.h2 h (by rfl) ?_ ?_
  ·clear h;intro hb h;conv=>whnf
   exact W
  clear h;intro hb h;conv=>whnf
  replace h:=XbV.elim h;obtain ⟨x21,hy,h⟩:=h
  refine Xfx.a (XkN hy) ?_
  conv=>whnf
  refine br.h2 h (by rfl) ?_ ?_
  ·clear h;intro hb h;conv=>whnf
   exact W
  clear h;intro hb h;conv=>whnf
  replace h:=XbV.elim h;obtain ⟨x22,hy,h⟩:=h
  refine Xfx.a (XkN hy) ?_
  conv=>whnf
  replace h:=XbV.elim h;obtain ⟨x23,hy,h⟩:=h
  refine Xfx.a (XkW hy) ?_
  conv=>whnf
  refine br.h2 h (by rfl) ?_ ?_
  ·clear h;intro hb h;conv=>whnf
   exact W
  clear h;intro hb h;conv=>whnf
  refine br.h h (by rfl) ?_ ?_
  ·clear h;intro hb h;conv=>whnf
   replace h:=XbV.elim h;obtain ⟨x24,hy,h⟩:=h
   refine Xfx.a (XmK hy) ?_
   conv=>whnf
   refine br.h2 h (by rfl) ?_ ?_
   ·clear h;intro hb h;conv=>whnf
    exact W
   clear h;intro hb h;conv=>whnf
   replace h:=XbV.elim h;obtain ⟨n2,hy,h⟩:=h
   refine Xfx.a (XpR hy) ?_
   conv=>whnf
   refine br.h2 h (by rfl) ?_ ?_
   ·clear h;intro hb h;conv=>whnf
    exact W
   clear h;intro hb h;conv=>whnf
   replace h:=XbV.elim h;obtain ⟨x0,hy,h⟩:=h
   refine Xfx.a (XpE hy) ?_
   conv=>whnf
   refine br.h2 h (by rfl) ?_ ?_
   ·clear h;intro hb h;conv=>whnf
    exact W
   clear h;intro hb h;conv=>whnf
   replace h:=XbV.elim h;obtain ⟨n3,hy,h⟩:=h
   refine Xfx.a (Xpx hy) ?_
   conv=>whnf
   replace h:=XbV.elim h;obtain ⟨x01,hy,h⟩:=h
   refine Xfx.a (Xp4 hy) ?_
   conv=>whnf
   refine br.h2 h (by rfl) ?_ ?_
   ·clear h;intro hb h;conv=>whnf
    exact W
   clear h;intro hb h;conv=>whnf
   replace h:=XbV.elim h;obtain ⟨n4,hy,h⟩:=h
   refine Xfx.a (XpI hy) ?_
   conv=>whnf
   refine br.h2 h (by rfl) ?_ ?_
   ·clear h;intro hb h;conv=>whnf
    exact W
   clear h;intro hb h;conv=>whnf
   replace h:=XbV.elim h;obtain ⟨x02,hy,h⟩:=h
   refine Xfx.a (Xnt hy) ?_
   conv=>whnf
   refine br.h2 h (by rfl) ?_ ?_
   ·clear h;intro hb h;conv=>whnf
    have hl:=XsS Xaq Xac Xab Xaf Xad Xa0 hS h rfl;simp only [XoL] at hl
    exact lrA1 hl [(10,10)] rfl
   clear h;intro hb h;conv=>whnf
   replace h:=XbV.elim h;obtain ⟨n5,hy,h⟩:=h
   cases n5
   case nil=>
    refine Xfx.a (XhD hy) ?_
    conv=>whnf
    exact W
   all_goals cases h
  clear h;intro hb h;conv=>whnf
  refine br.h2 h (by rfl) ?_ ?_
  ·clear h;intro hb h;conv=>whnf
   exact W
  clear h;intro hb h;conv=>whnf
  replace h:=XbV.elim h;obtain ⟨x25,hy,h⟩:=h
  refine Xfx.a (XmK hy) ?_
  conv=>whnf
  refine br.h2 h (by rfl) ?_ ?_
  ·clear h;intro hb h;conv=>whnf
   exact W
  clear h;intro hb h;conv=>whnf
  replace h:=XbV.elim h;obtain ⟨n6,hy,h⟩:=h
  refine Xfx.a (XpR hy) ?_
  conv=>whnf
  refine br.h2 h (by rfl) ?_ ?_
  ·clear h;intro hb h;conv=>whnf
   exact W
  clear h;intro hb h;conv=>whnf
  replace h:=XbV.elim h;obtain ⟨x03,hy,h⟩:=h
  refine Xfx.a (XpE hy) ?_
  conv=>whnf
  refine br.h2 h (by rfl) ?_ ?_
  ·clear h;intro hb h;conv=>whnf
   exact W
  clear h;intro hb h;conv=>whnf
  replace h:=XbV.elim h;obtain ⟨n7,hy,h⟩:=h
  refine Xfx.a (Xpx hy) ?_
  conv=>whnf
  replace h:=XbV.elim h;obtain ⟨x04,hy,h⟩:=h
  refine Xfx.a (Xp4 hy) ?_
  conv=>whnf
  refine br.h2 h (by rfl) ?_ ?_
  ·clear h;intro hb h;conv=>whnf
   exact W
  clear h;intro hb h;conv=>whnf
  replace h:=XbV.elim h;obtain ⟨n8,hy,h⟩:=h
  refine Xfx.a (XpI hy) ?_
  conv=>whnf
  refine br.h2 h (by rfl) ?_ ?_
  ·clear h;intro hb h;conv=>whnf
   exact W
  clear h;intro hb h;conv=>whnf
  replace h:=XbV.elim h;obtain ⟨x05,hy,h⟩:=h
  refine Xfx.a (Xnt hy) ?_
  conv=>whnf
  refine br.h2 h (by rfl) ?_ ?_
  ·clear h;intro hb h;conv=>whnf
   have hl:=XsS Xaq Xac Xab Xaf Xad Xa0 hS h rfl;simp only [XoL] at hl
   exact lrA1 hl [(10,10)] rfl
  clear h;intro hb h;conv=>whnf
  replace h:=XbV.elim h;obtain ⟨n9,hy,h⟩:=h
  cases n9
  case nil=>
   refine Xfx.a (XhD hy) ?_
   conv=>whnf
   exact W
  all_goals cases h
 all_goals cases h
def Xah:XaC:=Xh6 Xaq Xac Xab Xaf Xad Xa0
theorem lift9:XfJ Try.prog 9 (s9 Xah):=by
 have hL:=XBh Xaq Xac Xab Xaf Xad Xa0 (XaB.Xa4 ⟨XDf,XCq,Xgx,XCb,XCA,XCR,trivial⟩)
 exact okA ⟨Try.f9,rfl,by decide,rfl⟩
end Go.Vm.Code
namespace Go.Vm.Code
open Go Go.Vm
theorem few50 (l:List Xan):XaD l=some (decide (l.length≤30)&&(l.take 30).all fun e=>decide (e.Text.length≤20)):=by
 unfold XaD XiS
 refine Xxi l (fun e=>e.Text.length) 30 20 (by decide) _ fun i=>?_
 show Xgw l (i:Int)=_
 unfold Xgw
 split
 ·rename_i h
  rw [XbS (by omega)]
  split
  ·rename_i h2
   rw [XbS (by omega),XaH (by omega),Int.toNat_natCast,List.getElem?_eq_getElem h,Option.bind_some]
   split
   ·rename_i h3;rw [XbS (by omega)]
   ·rename_i h3;rw [XaW (by omega),Xey (by omega) (by omega)];rfl
  ·rename_i h2;rw [XaW (by omega)];congr 3;exact propext (by omega)
 ·rename_i h;rw [XaW (by omega)];congr 3;exact propext (by omega)
theorem Xvp {l:List Xan} (h:(decide (l.length≤30)&&(l.take 30).all fun e=>decide (e.Text.length≤20))=true):l.length≤30∧∀ e∈l,e.Text.length≤20:=by
 rw [Bool.and_eq_true,decide_eq_true_eq,List.all_eq_true] at h
 refine ⟨h.1,fun e he=>?_⟩
 rw [List.take_of_length_le h.1] at h
 exact of_decide_eq_true (h.2 e he)
theorem Xhr:Xah=some true:=by decide +kernel
end Go.Vm.Code
