import Derived.Test.YtjgbmnhijmkejaaNSketchBoundsc
namespace Go.Vm.Code
open Go Go.Vm Go.Proofs
set_option maxRecDepth 100000
set_option maxHeartbeats 4000000
set_option linter.unusedVariables false
def XiH (rows:Int) (places:Int) (k:XaD):Option Xbq:=
 cond (decide (rows<1))
  (
  some (Xbq.nil))
  (
  cond (decide (rows>8))
   (
   some (Xbq.nil))
   (
   cond (decide (places<1))
    (
    some (Xbq.nil))
    (
    cond (decide (places>4096))
     (
     some (Xbq.nil))
     (
     cond (decide (0<rows))
      (
      XaU (decide (0≤places∧places≤places∧places<2^63∧(8:Int)*places≤2^48)) <|
      cond (decide (1<rows))
       (
       XaU (decide (0≤places∧places≤places∧places<2^63∧(8:Int)*places≤2^48)) <|
       cond (decide (2<rows))
        (
        XaU (decide (0≤places∧places≤places∧places<2^63∧(8:Int)*places≤2^48)) <|
        cond (decide (3<rows))
         (
         XaU (decide (0≤places∧places≤places∧places<2^63∧(8:Int)*places≤2^48)) <|
         cond (decide (4<rows))
          (
          XaU (decide (0≤places∧places≤places∧places<2^63∧(8:Int)*places≤2^48)) <|
          cond (decide (5<rows))
           (
           XaU (decide (0≤places∧places≤places∧places<2^63∧(8:Int)*places≤2^48)) <|
           cond (decide (6<rows))
            (
            XaU (decide (0≤places∧places≤places∧places<2^63∧(8:Int)*places≤2^48)) <|
            cond (decide (7<rows))
             (
             XaU (decide (0≤places∧places≤places∧places<2^63∧(8:Int)*places≤2^48)) <|
             cond (decide (8<rows))
              (
              XaU (decide (0≤places∧places≤places∧places<2^63∧(8:Int)*places≤2^48)) <|
              none)
              (
              some (Xbq.v8 (Xav.mk k (XbQ.mk (List.replicate places.toNat (0)) (List.replicate places.toNat (0)) (List.replicate places.toNat (0)) (List.replicate places.toNat (0)) (List.replicate places.toNat (0)) (List.replicate places.toNat (0)) (List.replicate places.toNat (0)) (List.replicate places.toNat (0)) places.toNat places.toNat places.toNat places.toNat places.toNat places.toNat places.toNat places.toNat) 0))))
             (
             some (Xbq.v7 (Xaw.mk k (XbT.mk (List.replicate places.toNat (0)) (List.replicate places.toNat (0)) (List.replicate places.toNat (0)) (List.replicate places.toNat (0)) (List.replicate places.toNat (0)) (List.replicate places.toNat (0)) (List.replicate places.toNat (0)) places.toNat places.toNat places.toNat places.toNat places.toNat places.toNat places.toNat) 0))))
            (
            some (Xbq.v6 (Xay.mk k (Xb5.mk (List.replicate places.toNat (0)) (List.replicate places.toNat (0)) (List.replicate places.toNat (0)) (List.replicate places.toNat (0)) (List.replicate places.toNat (0)) (List.replicate places.toNat (0)) places.toNat places.toNat places.toNat places.toNat places.toNat places.toNat) 0))))
           (
           some (Xbq.v5 (XaB.mk k (Xcr.mk (List.replicate places.toNat (0)) (List.replicate places.toNat (0)) (List.replicate places.toNat (0)) (List.replicate places.toNat (0)) (List.replicate places.toNat (0)) places.toNat places.toNat places.toNat places.toNat places.toNat) 0))))
          (
          some (Xbq.v4 (XaC.mk k (XcD.mk (List.replicate places.toNat (0)) (List.replicate places.toNat (0)) (List.replicate places.toNat (0)) (List.replicate places.toNat (0)) places.toNat places.toNat places.toNat places.toNat) 0))))
         (
         some (Xbq.v3 (XaF.mk k (XcN.mk (List.replicate places.toNat (0)) (List.replicate places.toNat (0)) (List.replicate places.toNat (0)) places.toNat places.toNat places.toNat) 0))))
        (
        some (Xbq.v2 (XaG.mk k (Xc5.mk (List.replicate places.toNat (0)) (List.replicate places.toNat (0)) places.toNat places.toNat) 0))))
       (
       some (Xbq.v1 (XaH.mk k (XdW.mk (List.replicate places.toNat (0)) places.toNat) 0))))
      (
      none)))))
def rx10 (x:Xbq):Xdj:=match x with
 | .nil=>⟨.pointer none,[],[]⟩
 | .v1 x=>⟨.pointer (some ⟨0,0,none⟩),[[.int .u64 x.key.A,.int .u64 x.key.B,.slice (some ⟨1,0,none⟩) 1 1,.int .i64 x.total],[.slice (some ⟨2,0,none⟩) x.rows.m0 1],(vI .i64 x.rows.e0)],[]⟩
 | .v2 x=>⟨.pointer (some ⟨0,0,none⟩),[[.int .u64 x.key.A,.int .u64 x.key.B,.slice (some ⟨1,0,none⟩) 2 1,.int .i64 x.total],[.slice (some ⟨2,0,none⟩) x.rows.m0 1,.slice (some ⟨3,0,none⟩) x.rows.m1 1],(vI .i64 x.rows.e0),(vI .i64 x.rows.e1)],[]⟩
 | .v3 x=>⟨.pointer (some ⟨0,0,none⟩),[[.int .u64 x.key.A,.int .u64 x.key.B,.slice (some ⟨1,0,none⟩) 3 1,.int .i64 x.total],[.slice (some ⟨2,0,none⟩) x.rows.m0 1,.slice (some ⟨3,0,none⟩) x.rows.m1 1,.slice (some ⟨4,0,none⟩) x.rows.m2 1],(vI .i64 x.rows.e0),(vI .i64 x.rows.e1),(vI .i64 x.rows.e2)],[]⟩
 | .v4 x=>⟨.pointer (some ⟨0,0,none⟩),[[.int .u64 x.key.A,.int .u64 x.key.B,.slice (some ⟨1,0,none⟩) 4 1,.int .i64 x.total],[.slice (some ⟨2,0,none⟩) x.rows.m0 1,.slice (some ⟨3,0,none⟩) x.rows.m1 1,.slice (some ⟨4,0,none⟩) x.rows.m2 1,.slice (some ⟨5,0,none⟩) x.rows.m3 1],(vI .i64 x.rows.e0),(vI .i64 x.rows.e1),(vI .i64 x.rows.e2),(vI .i64 x.rows.e3)],[]⟩
 | .v5 x=>⟨.pointer (some ⟨0,0,none⟩),[[.int .u64 x.key.A,.int .u64 x.key.B,.slice (some ⟨1,0,none⟩) 5 1,.int .i64 x.total],[.slice (some ⟨2,0,none⟩) x.rows.m0 1,.slice (some ⟨3,0,none⟩) x.rows.m1 1,.slice (some ⟨4,0,none⟩) x.rows.m2 1,.slice (some ⟨5,0,none⟩) x.rows.m3 1,.slice (some ⟨6,0,none⟩) x.rows.m4 1],(vI .i64 x.rows.e0),(vI .i64 x.rows.e1),(vI .i64 x.rows.e2),(vI .i64 x.rows.e3),(vI .i64 x.rows.e4)],[]⟩
 | .v6 x=>⟨.pointer (some ⟨0,0,none⟩),[[.int .u64 x.key.A,.int .u64 x.key.B,.slice (some ⟨1,0,none⟩) 6 1,.int .i64 x.total],[.slice (some ⟨2,0,none⟩) x.rows.m0 1,.slice (some ⟨3,0,none⟩) x.rows.m1 1,.slice (some ⟨4,0,none⟩) x.rows.m2 1,.slice (some ⟨5,0,none⟩) x.rows.m3 1,.slice (some ⟨6,0,none⟩) x.rows.m4 1,.slice (some ⟨7,0,none⟩) x.rows.m5 1],(vI .i64 x.rows.e0),(vI .i64 x.rows.e1),(vI .i64 x.rows.e2),(vI .i64 x.rows.e3),(vI .i64 x.rows.e4),(vI .i64 x.rows.e5)],[]⟩
 | .v7 x=>⟨.pointer (some ⟨0,0,none⟩),[[.int .u64 x.key.A,.int .u64 x.key.B,.slice (some ⟨1,0,none⟩) 7 1,.int .i64 x.total],[.slice (some ⟨2,0,none⟩) x.rows.m0 1,.slice (some ⟨3,0,none⟩) x.rows.m1 1,.slice (some ⟨4,0,none⟩) x.rows.m2 1,.slice (some ⟨5,0,none⟩) x.rows.m3 1,.slice (some ⟨6,0,none⟩) x.rows.m4 1,.slice (some ⟨7,0,none⟩) x.rows.m5 1,.slice (some ⟨8,0,none⟩) x.rows.m6 1],(vI .i64 x.rows.e0),(vI .i64 x.rows.e1),(vI .i64 x.rows.e2),(vI .i64 x.rows.e3),(vI .i64 x.rows.e4),(vI .i64 x.rows.e5),(vI .i64 x.rows.e6)],[]⟩
 | .v8 x=>⟨.pointer (some ⟨0,0,none⟩),[[.int .u64 x.key.A,.int .u64 x.key.B,.slice (some ⟨1,0,none⟩) 8 1,.int .i64 x.total],[.slice (some ⟨2,0,none⟩) x.rows.m0 1,.slice (some ⟨3,0,none⟩) x.rows.m1 1,.slice (some ⟨4,0,none⟩) x.rows.m2 1,.slice (some ⟨5,0,none⟩) x.rows.m3 1,.slice (some ⟨6,0,none⟩) x.rows.m4 1,.slice (some ⟨7,0,none⟩) x.rows.m5 1,.slice (some ⟨8,0,none⟩) x.rows.m6 1,.slice (some ⟨9,0,none⟩) x.rows.m7 1],(vI .i64 x.rows.e0),(vI .i64 x.rows.e1),(vI .i64 x.rows.e2),(vI .i64 x.rows.e3),(vI .i64 x.rows.e4),(vI .i64 x.rows.e5),(vI .i64 x.rows.e6),(vI .i64 x.rows.e7)],[]⟩
abbrev Xa2:=Int→Int→XaD→Option Xbq
def r10 (g:Xa2):Dec:=dV (asI .i64) fun (y0:Int)=>dV (asI .i64) fun (y1:Int)=>dV XhL fun (y2:XaD)=>Xfq (ofG (g y0 y1 y2) rx10)
theorem r10_c {g:Xa2} {y0:Int} {y1:Int} {y2:XaD} {x:Xbq} (hx:g y0 y1 y2=some x):r10 g [.int .i64 y0,.int .i64 y1,.agg ⟨[.int .u64 y2.A,.int .u64 y2.B]⟩] []=some (rx10 x):=(XcF (XgS _)).trans ((XcF (XgS _)).trans ((XcF (XkB _)).trans (Xbx hx)))
def s10 (g:Xa2):Xc3:=⟨[.v,.v,.v],r10 g⟩
theorem XiR {g:Xa2} {y0:Int} {y1:Int} {y2:XaD} {x:Xbq} (hx:g y0 y1 y2=some x):(s10 g).run [.int .i64 y0,.int .i64 y1,.agg ⟨[.int .u64 y2.A,.int .u64 y2.B]⟩] []=some (rx10 x):=r10_c hx
abbrev XCG:List (Nat×Xc3):=[]
theorem Xy7 (hS:XaL Try.prog (XaY (XCG))) (rows:Int) (places:Int) (k:XaD) (res:Xbq) (h:XiH rows places k=some res) :
 Xa0 Try.prog 10 0 ⟨⟨10,41,[(0,.int .i64 rows),(1,.int .i64 places),(2,.agg ⟨[.int .u64 k.A,.int .u64 k.B]⟩)],[.code Xyl],[],false,none⟩,[],[],0⟩ (fun v H _=>Res 0 (rx10 res) v H):=by
 unfold XiH at h
 refine Xa1 XaJ hS true 3000 ?_
 conv=>whnf
 refine br.h h (by rfl) ?_ ?_
 ·clear h;intro hb h;conv=>whnf
  all_goals (cases h;exact Res.y)
 clear h;intro hb h;conv=>whnf
 refine br.h h (by rfl) ?_ ?_
 ·clear h;intro hb h;conv=>whnf
  all_goals (cases h;exact Res.y)
 clear h;intro hb h;conv=>whnf
 refine br.h h (by rfl) ?_ ?_
 ·clear h;intro hb h;conv=>whnf
  all_goals (cases h;exact Res.y)
 clear h;intro hb h;conv=>whnf
 refine br.h h (by rfl) ?_ ?_
 ·clear h;intro hb h;conv=>whnf
  all_goals (cases h;exact Res.y)
 clear h;intro hb h;conv=>whnf
 refine Xa1 XaJ hS true 3000 ?_
 conv=>whnf
 refine br.h2 h (by rfl) ?_ ?_
 ·clear h;intro hb h;conv=>whnf
  exact W
 clear h;intro hb h;conv=>whnf
 replace h:=XaU.elim h;obtain ⟨hb,h⟩:=h
 try (refine req.intro hb ?_;conv=>whnf)
 refine XkY ?_
 conv=>whnf
 refine ⟨[.slice (some ⟨8,0,none⟩) places.toNat 1],1,rfl,rfl,?_⟩
 conv=>whnf
 refine Xa1 XaJ hS true 3000 ?_
 conv=>whnf
 refine br.h2 h (by rfl) ?_ ?_
 ·clear h;intro hb h;conv=>whnf
  all_goals (cases h)
  all_goals exact Res.of [1,12,8] rfl (Xhx (rfl) (XgI rfl) (Xhx (rfl) (Xct rfl) (Xhx (Xat) (Xct rfl) Xs1))) (by decide) (Xhu (by decide) (Xhu (by decide) (Xhu (by decide) Xs3))) Xs2
 clear h;intro hb h;conv=>whnf
 replace h:=XaU.elim h;obtain ⟨hb,h⟩:=h
 try (refine req.intro hb ?_;conv=>whnf)
 refine XkY ?_
 conv=>whnf
 refine ⟨[.slice (some ⟨8,0,none⟩) places.toNat 1,.slice (some ⟨20,0,none⟩) places.toNat 1],2,rfl,rfl,?_⟩
 conv=>whnf
 refine Xa1 XaJ hS true 3000 ?_
 conv=>whnf
 refine br.h2 h (by rfl) ?_ ?_
 ·clear h;intro hb h;conv=>whnf
  all_goals (cases h)
  all_goals exact Res.of [1,24,8,20] rfl (Xhx (rfl) (XgI rfl) (Xhx (rfl) (Xct rfl) (Xhx (Xat) (Xct rfl) (Xhx (Xat) (Xct rfl) Xs1)))) (by decide) (Xhu (by decide) (Xhu (by decide) (Xhu (by decide) (Xhu (by decide) Xs3)))) Xs2
 clear h;intro hb h;conv=>whnf
 replace h:=XaU.elim h;obtain ⟨hb,h⟩:=h
 try (refine req.intro hb ?_;conv=>whnf)
 refine XkY ?_
 conv=>whnf
 refine ⟨[.slice (some ⟨8,0,none⟩) places.toNat 1,.slice (some ⟨20,0,none⟩) places.toNat 1,.slice (some ⟨32,0,none⟩) places.toNat 1],3,rfl,rfl,?_⟩
 conv=>whnf
 refine Xa1 XaJ hS true 3000 ?_
 conv=>whnf
 refine br.h2 h (by rfl) ?_ ?_
 ·clear h;intro hb h;conv=>whnf
  all_goals (cases h)
  all_goals exact Res.of [1,36,8,20,32] rfl (Xhx (rfl) (XgI rfl) (Xhx (rfl) (Xct rfl) (Xhx (Xat) (Xct rfl) (Xhx (Xat) (Xct rfl) (Xhx (Xat) (Xct rfl) Xs1))))) (by decide) (Xhu (by decide) (Xhu (by decide) (Xhu (by decide) (Xhu (by decide) (Xhu (by decide) Xs3))))) Xs2
 clear h;intro hb h;conv=>whnf
 replace h:=XaU.elim h;obtain ⟨hb,h⟩:=h
 try (refine req.intro hb ?_;conv=>whnf)
 refine XkY ?_
 conv=>whnf
 refine ⟨[.slice (some ⟨8,0,none⟩) places.toNat 1,.slice (some ⟨20,0,none⟩) places.toNat 1,.slice (some ⟨32,0,none⟩) places.toNat 1,.slice (some ⟨44,0,none⟩) places.toNat 1],4,rfl,rfl,?_⟩
 conv=>whnf
 refine Xa1 XaJ hS true 3000 ?_
 conv=>whnf
 refine br.h2 h (by rfl) ?_ ?_
 ·clear h;intro hb h;conv=>whnf
  all_goals (cases h)
  all_goals exact Res.of [1,48,8,20,32,44] rfl (Xhx (rfl) (XgI rfl) (Xhx (rfl) (Xct rfl) (Xhx (Xat) (Xct rfl) (Xhx (Xat) (Xct rfl) (Xhx (Xat) (Xct rfl) (Xhx (Xat) (Xct rfl) Xs1)))))) (by decide) (Xhu (by decide) (Xhu (by decide) (Xhu (by decide) (Xhu (by decide) (Xhu (by decide) (Xhu (by decide) Xs3)))))) Xs2
 clear h;intro hb h;conv=>whnf
 replace h:=XaU.elim h;obtain ⟨hb,h⟩:=h
 try (refine req.intro hb ?_;conv=>whnf)
 refine XkY ?_
 conv=>whnf
 refine ⟨[.slice (some ⟨8,0,none⟩) places.toNat 1,.slice (some ⟨20,0,none⟩) places.toNat 1,.slice (some ⟨32,0,none⟩) places.toNat 1,.slice (some ⟨44,0,none⟩) places.toNat 1,.slice (some ⟨56,0,none⟩) places.toNat 1],5,rfl,rfl,?_⟩
 conv=>whnf
 refine Xa1 XaJ hS true 3000 ?_
 conv=>whnf
 refine br.h2 h (by rfl) ?_ ?_
 ·clear h;intro hb h;conv=>whnf
  all_goals (cases h)
  all_goals exact Res.of [1,60,8,20,32,44,56] rfl (Xhx (rfl) (XgI rfl) (Xhx (rfl) (Xct rfl) (Xhx (Xat) (Xct rfl) (Xhx (Xat) (Xct rfl) (Xhx (Xat) (Xct rfl) (Xhx (Xat) (Xct rfl) (Xhx (Xat) (Xct rfl) Xs1))))))) (by decide) (Xhu (by decide) (Xhu (by decide) (Xhu (by decide) (Xhu (by decide) (Xhu (by decide) (Xhu (by decide) (Xhu (by decide) Xs3))))))) Xs2
 clear h;intro hb h;conv=>whnf
 replace h:=XaU.elim h;obtain ⟨hb,h⟩:=h
 try (refine req.intro hb ?_;conv=>whnf)
 refine XkY ?_
 conv=>whnf
 refine ⟨[.slice (some ⟨8,0,none⟩) places.toNat 1,.slice (some ⟨20,0,none⟩) places.toNat 1,.slice (some ⟨32,0,none⟩) places.toNat 1,.slice (some ⟨44,0,none⟩) places.toNat 1,.slice (some ⟨56,0,none⟩) places.toNat 1,.slice (some ⟨68,0,none⟩) places.toNat 1],6,rfl,rfl,?_⟩
 conv=>whnf
 refine Xa1 XaJ hS true 3000 ?_
 conv=>whnf
 refine br.h2 h (by rfl) ?_ ?_
 ·clear h;intro hb h;conv=>whnf
  all_goals (cases h)
  all_goals exact Res.of [1,72,8,20,32,44,56,68] rfl (Xhx (rfl) (XgI rfl) (Xhx (rfl) (Xct rfl) (Xhx (Xat) (Xct rfl) (Xhx (Xat) (Xct rfl) (Xhx (Xat) (Xct rfl) (Xhx (Xat) (Xct rfl) (Xhx (Xat) (Xct rfl) (Xhx (Xat) (Xct rfl) Xs1)))))))) (by decide) (Xhu (by decide) (Xhu (by decide) (Xhu (by decide) (Xhu (by decide) (Xhu (by decide) (Xhu (by decide) (Xhu (by decide) (Xhu (by decide) Xs3)))))))) Xs2
 clear h;intro hb h;conv=>whnf
 replace h:=XaU.elim h;obtain ⟨hb,h⟩:=h
 try (refine req.intro hb ?_;conv=>whnf)
 refine XkY ?_
 conv=>whnf
 refine ⟨[.slice (some ⟨8,0,none⟩) places.toNat 1,.slice (some ⟨20,0,none⟩) places.toNat 1,.slice (some ⟨32,0,none⟩) places.toNat 1,.slice (some ⟨44,0,none⟩) places.toNat 1,.slice (some ⟨56,0,none⟩) places.toNat 1,.slice (some ⟨68,0,none⟩) places.toNat 1,.slice (some ⟨80,0,none⟩) places.toNat 1],7,rfl,rfl,?_⟩
 conv=>whnf
 refine Xa1 XaJ hS true 3000 ?_
 conv=>whnf
 refine br.h2 h (by rfl) ?_ ?_
 ·clear h;intro hb h;conv=>whnf
  all_goals (cases h)
  all_goals exact Res.of [1,84,8,20,32,44,56,68,80] rfl (Xhx (rfl) (XgI rfl) (Xhx (rfl) (Xct rfl) (Xhx (Xat) (Xct rfl) (Xhx (Xat) (Xct rfl) (Xhx (Xat) (Xct rfl) (Xhx (Xat) (Xct rfl) (Xhx (Xat) (Xct rfl) (Xhx (Xat) (Xct rfl) (Xhx (Xat) (Xct rfl) Xs1))))))))) (by decide) (Xhu (by decide) (Xhu (by decide) (Xhu (by decide) (Xhu (by decide) (Xhu (by decide) (Xhu (by decide) (Xhu (by decide) (Xhu (by decide) (Xhu (by decide) Xs3))))))))) Xs2
 clear h;intro hb h;conv=>whnf
 replace h:=XaU.elim h;obtain ⟨hb,h⟩:=h
 try (refine req.intro hb ?_;conv=>whnf)
 refine XkY ?_
 conv=>whnf
 refine ⟨[.slice (some ⟨8,0,none⟩) places.toNat 1,.slice (some ⟨20,0,none⟩) places.toNat 1,.slice (some ⟨32,0,none⟩) places.toNat 1,.slice (some ⟨44,0,none⟩) places.toNat 1,.slice (some ⟨56,0,none⟩) places.toNat 1,.slice (some ⟨68,0,none⟩) places.toNat 1,.slice (some ⟨80,0,none⟩) places.toNat 1,.slice (some ⟨92,0,none⟩) places.toNat 1],8,rfl,rfl,?_⟩
 conv=>whnf
 refine Xa1 XaJ hS true 3000 ?_
 conv=>whnf
 refine br.h2 h (by rfl) ?_ ?_
 ·clear h;intro hb h;conv=>whnf
  all_goals (cases h)
  all_goals exact Res.of [1,96,8,20,32,44,56,68,80,92] rfl (Xhx (rfl) (XgI rfl) (Xhx (rfl) (Xct rfl) (Xhx (Xat) (Xct rfl) (Xhx (Xat) (Xct rfl) (Xhx (Xat) (Xct rfl) (Xhx (Xat) (Xct rfl) (Xhx (Xat) (Xct rfl) (Xhx (Xat) (Xct rfl) (Xhx (Xat) (Xct rfl) (Xhx (Xat) (Xct rfl) Xs1)))))))))) (by decide) (Xhu (by decide) (Xhu (by decide) (Xhu (by decide) (Xhu (by decide) (Xhu (by decide) (Xhu (by decide) (Xhu (by decide) (Xhu (by decide) (Xhu (by decide) (Xhu (by decide) Xs3)))))))))) Xs2
 clear h;intro hb h;conv=>whnf
 replace h:=XaU.elim h;obtain ⟨hb,h⟩:=h
 try (refine req.intro hb ?_;conv=>whnf)
 refine XkY ?_
 conv=>whnf
 refine ⟨[.slice (some ⟨8,0,none⟩) places.toNat 1,.slice (some ⟨20,0,none⟩) places.toNat 1,.slice (some ⟨32,0,none⟩) places.toNat 1,.slice (some ⟨44,0,none⟩) places.toNat 1,.slice (some ⟨56,0,none⟩) places.toNat 1,.slice (some ⟨68,0,none⟩) places.toNat 1,.slice (some ⟨80,0,none⟩) places.toNat 1,.slice (some ⟨92,0,none⟩) places.toNat 1,.slice (some ⟨104,0,none⟩) places.toNat 1],9,rfl,rfl,?_⟩
 conv=>whnf
 exact W
def XaE:Xa2:=XiH
theorem XDt:Xgx Try.prog 10 (s10 XaE):=by
 have hL:=Xy7 (XaL.Xbk trivial)
 exact okA ⟨Try.f10,rfl,by decide,rfl⟩
def XfP:Option Bool:=
 some (false)
def XqC (x:Bool):Xdj:=⟨.bool x,[],[none,none,none,none,none,none,none,none,none,none]⟩
abbrev XdB:=Option Bool
def Xma (g:XdB):Dec:=dNl 10<|Xfq (ofG (g) XqC)
theorem Xy9 {g:XdB} {x:Bool} (hx:g=some x):Xma g [.pointer none] [none,none,none,none,none,none,none,none,none,none]=some (XqC x):=(Xr3).trans (Xbx hx)
abbrev XwC:List (Nat×Xc3):=[]
theorem Xvz (hS:XaL Try.prog (XaY (XwC))) (res:Bool) (h:XfP=some res) :
 Xa0 Try.prog 38 10 ⟨⟨38,13,[(0,.pointer none)],[.code XmH],[],false,none⟩,[],[],10⟩ (fun v H _=>Res 10 (XqC res) v H):=by
 unfold XfP at h
 refine Xa1 XaJ hS true 3000 ?_
 conv=>whnf
 exact W
def Xfy (s:Xax):Option Bool:=
 some (false)
def XrH (x:Bool):Xdj:=⟨.bool x,[],[none,none,none,none,none,none,none,none,none,none]⟩
abbrev Xdy:=Xax→Option Bool
def Xia (g:Xdy):Dec:=dTr 10 (XcE 0) fun (y0:Xax)=>Xfq (ofG (g y0) XrH)
theorem XBY {g:Xdy} {y0:Xax} {x:Bool} (hx:g y0=some x):Xia g [.pointer (some ⟨0,0,none⟩)] [some [.int .u64 y0.key.A,.int .u64 y0.key.B,.slice none 0 0,.int .i64 y0.total],none,none,none,none,none,none,none,none,none]=some (XrH x):=(Xcx rfl rfl (XeQ 0 _)).trans (Xbx hx)
abbrev XxD:List (Nat×Xc3):=[]
theorem XuS (hS:XaL Try.prog (XaY (XxD))) (s:Xax) (res:Bool) (h:Xfy s=some res) :
 Xa0 Try.prog 38 10 ⟨⟨38,13,[(0,.pointer (some ⟨0,0,none⟩))],[.code XmH],[],false,none⟩,[],[(0,.row false [.int .u64 s.key.A,.int .u64 s.key.B,.slice none 0 0,.int .i64 s.total])],10⟩ (fun v H _=>Res 10 (XrH res) v H):=by
 unfold Xfy at h
 refine Xa1 XaJ hS true 3000 ?_
 conv=>whnf
 exact W
def Xfu (s:XaH):Option Bool:=
 some (true)
def Xrh (x:Bool):Xdj:=⟨.bool x,[],[none,none,none,none,none,none,none,none,none,none]⟩
abbrev Xc9:=XaH→Option Bool
def Xg5 (g:Xc9):Dec:=dTr 10 (XbX 0) fun (y0:XaH)=>Xfq (ofG (g y0) Xrh)
theorem XzU {g:Xc9} {y0:XaH} {x:Bool} (hx:g y0=some x):Xg5 g [.pointer (some ⟨0,0,none⟩)] [some [.int .u64 y0.key.A,.int .u64 y0.key.B,.slice (some ⟨1,0,none⟩) 1 1,.int .i64 y0.total],some [.slice (some ⟨2,0,none⟩) y0.rows.m0 1],some (vI .i64 y0.rows.e0),none,none,none,none,none,none,none]=some (Xrh x):=(Xcx rfl rfl (XeP 0 _)).trans (Xbx hx)
abbrev XwD:List (Nat×Xc3):=[]
theorem Xvn (hS:XaL Try.prog (XaY (XwD))) (s:XaH) (res:Bool) (h:Xfu s=some res) :
 Xa0 Try.prog 38 10 ⟨⟨38,13,[(0,.pointer (some ⟨0,0,none⟩))],[.code XmH],[],false,none⟩,[],[(0,.row false [.int .u64 s.key.A,.int .u64 s.key.B,.slice (some ⟨1,0,none⟩) 1 1,.int .i64 s.total]),(1,.row false [.slice (some ⟨2,0,none⟩) s.rows.m0 1]),(2,.row false (vI .i64 s.rows.e0))],10⟩ (fun v H _=>Res 10 (Xrh res) v H):=by
 unfold Xfu at h
 refine Xa1 XaJ hS true 3000 ?_
 conv=>whnf
 exact W
def Xfx (s:XaG):Option Bool:=
 some (true)
def XqV (x:Bool):Xdj:=⟨.bool x,[],[none,none,none,none,none,none,none,none,none,none]⟩
abbrev XdE:=XaG→Option Bool
def Xf8 (g:XdE):Dec:=dTr 10 (Xb4 0) fun (y0:XaG)=>Xfq (ofG (g y0) XqV)
theorem XAm {g:XdE} {y0:XaG} {x:Bool} (hx:g y0=some x):Xf8 g [.pointer (some ⟨0,0,none⟩)] [some [.int .u64 y0.key.A,.int .u64 y0.key.B,.slice (some ⟨1,0,none⟩) 2 1,.int .i64 y0.total],some [.slice (some ⟨2,0,none⟩) y0.rows.m0 1,.slice (some ⟨3,0,none⟩) y0.rows.m1 1],some (vI .i64 y0.rows.e0),some (vI .i64 y0.rows.e1),none,none,none,none,none,none]=some (XqV x):=(Xcx rfl rfl (XeE 0 _)).trans (Xbx hx)
abbrev Xxs:List (Nat×Xc3):=[]
theorem Xs9 (hS:XaL Try.prog (XaY (Xxs))) (s:XaG) (res:Bool) (h:Xfx s=some res) :
 Xa0 Try.prog 38 10 ⟨⟨38,13,[(0,.pointer (some ⟨0,0,none⟩))],[.code XmH],[],false,none⟩,[],[(0,.row false [.int .u64 s.key.A,.int .u64 s.key.B,.slice (some ⟨1,0,none⟩) 2 1,.int .i64 s.total]),(1,.row false [.slice (some ⟨2,0,none⟩) s.rows.m0 1,.slice (some ⟨3,0,none⟩) s.rows.m1 1]),(2,.row false (vI .i64 s.rows.e0)),(3,.row false (vI .i64 s.rows.e1))],10⟩ (fun v H _=>Res 10 (XqV res) v H):=by
 unfold Xfx at h
 refine Xa1 XaJ hS true 3000 ?_
 conv=>whnf
 exact W
def XfJ (s:XaF):Option Bool:=
 some (true)
def Xq2 (x:Bool):Xdj:=⟨.bool x,[],[none,none,none,none,none,none,none,none,none,none]⟩
abbrev Xde:=XaF→Option Bool
def XeV (g:Xde):Dec:=dTr 10 (XbW 0) fun (y0:XaF)=>Xfq (ofG (g y0) Xq2)
theorem Xzt {g:Xde} {y0:XaF} {x:Bool} (hx:g y0=some x):XeV g [.pointer (some ⟨0,0,none⟩)] [some [.int .u64 y0.key.A,.int .u64 y0.key.B,.slice (some ⟨1,0,none⟩) 3 1,.int .i64 y0.total],some [.slice (some ⟨2,0,none⟩) y0.rows.m0 1,.slice (some ⟨3,0,none⟩) y0.rows.m1 1,.slice (some ⟨4,0,none⟩) y0.rows.m2 1],some (vI .i64 y0.rows.e0),some (vI .i64 y0.rows.e1),some (vI .i64 y0.rows.e2),none,none,none,none,none]=some (Xq2 x):=(Xcx rfl rfl (XeM 0 _)).trans (Xbx hx)
abbrev XxS:List (Nat×Xc3):=[]
theorem XvI (hS:XaL Try.prog (XaY (XxS))) (s:XaF) (res:Bool) (h:XfJ s=some res) :
 Xa0 Try.prog 38 10 ⟨⟨38,13,[(0,.pointer (some ⟨0,0,none⟩))],[.code XmH],[],false,none⟩,[],[(0,.row false [.int .u64 s.key.A,.int .u64 s.key.B,.slice (some ⟨1,0,none⟩) 3 1,.int .i64 s.total]),(1,.row false [.slice (some ⟨2,0,none⟩) s.rows.m0 1,.slice (some ⟨3,0,none⟩) s.rows.m1 1,.slice (some ⟨4,0,none⟩) s.rows.m2 1]),(2,.row false (vI .i64 s.rows.e0)),(3,.row false (vI .i64 s.rows.e1)),(4,.row false (vI .i64 s.rows.e2))],10⟩ (fun v H _=>Res 10 (Xq2 res) v H):=by
 unfold XfJ at h
 refine Xa1 XaJ hS true 3000 ?_
 conv=>whnf
 exact W
def Xfv (s:XaC):Option Bool:=
 some (true)
def Xrx (x:Bool):Xdj:=⟨.bool x,[],[none,none,none,none,none,none,none,none,none,none]⟩
abbrev XdD:=XaC→Option Bool
def Xd2 (g:XdD):Dec:=dTr 10 (Xb2 0) fun (y0:XaC)=>Xfq (ofG (g y0) Xrx)
theorem XBz {g:XdD} {y0:XaC} {x:Bool} (hx:g y0=some x):Xd2 g [.pointer (some ⟨0,0,none⟩)] [some [.int .u64 y0.key.A,.int .u64 y0.key.B,.slice (some ⟨1,0,none⟩) 4 1,.int .i64 y0.total],some [.slice (some ⟨2,0,none⟩) y0.rows.m0 1,.slice (some ⟨3,0,none⟩) y0.rows.m1 1,.slice (some ⟨4,0,none⟩) y0.rows.m2 1,.slice (some ⟨5,0,none⟩) y0.rows.m3 1],some (vI .i64 y0.rows.e0),some (vI .i64 y0.rows.e1),some (vI .i64 y0.rows.e2),some (vI .i64 y0.rows.e3),none,none,none,none]=some (Xrx x):=(Xcx rfl rfl (XeL 0 _)).trans (Xbx hx)
abbrev Xxq:List (Nat×Xc3):=[]
theorem XvF (hS:XaL Try.prog (XaY (Xxq))) (s:XaC) (res:Bool) (h:Xfv s=some res) :
 Xa0 Try.prog 38 10 ⟨⟨38,13,[(0,.pointer (some ⟨0,0,none⟩))],[.code XmH],[],false,none⟩,[],[(0,.row false [.int .u64 s.key.A,.int .u64 s.key.B,.slice (some ⟨1,0,none⟩) 4 1,.int .i64 s.total]),(1,.row false [.slice (some ⟨2,0,none⟩) s.rows.m0 1,.slice (some ⟨3,0,none⟩) s.rows.m1 1,.slice (some ⟨4,0,none⟩) s.rows.m2 1,.slice (some ⟨5,0,none⟩) s.rows.m3 1]),(2,.row false (vI .i64 s.rows.e0)),(3,.row false (vI .i64 s.rows.e1)),(4,.row false (vI .i64 s.rows.e2)),(5,.row false (vI .i64 s.rows.e3))],10⟩ (fun v H _=>Res 10 (Xrx res) v H):=by
 unfold Xfv at h
 refine Xa1 XaJ hS true 3000 ?_
 conv=>whnf
 exact W
def XfQ (s:XaB):Option Bool:=
 some (true)
def XrO (x:Bool):Xdj:=⟨.bool x,[],[none,none,none,none,none,none,none,none,none,none]⟩
abbrev Xdz:=XaB→Option Bool
def XdR (g:Xdz):Dec:=dTr 10 (Xb1 0) fun (y0:XaB)=>Xfq (ofG (g y0) XrO)
theorem XA9 {g:Xdz} {y0:XaB} {x:Bool} (hx:g y0=some x):XdR g [.pointer (some ⟨0,0,none⟩)] [some [.int .u64 y0.key.A,.int .u64 y0.key.B,.slice (some ⟨1,0,none⟩) 5 1,.int .i64 y0.total],some [.slice (some ⟨2,0,none⟩) y0.rows.m0 1,.slice (some ⟨3,0,none⟩) y0.rows.m1 1,.slice (some ⟨4,0,none⟩) y0.rows.m2 1,.slice (some ⟨5,0,none⟩) y0.rows.m3 1,.slice (some ⟨6,0,none⟩) y0.rows.m4 1],some (vI .i64 y0.rows.e0),some (vI .i64 y0.rows.e1),some (vI .i64 y0.rows.e2),some (vI .i64 y0.rows.e3),some (vI .i64 y0.rows.e4),none,none,none]=some (XrO x):=(Xcx rfl rfl (XeR 0 _)).trans (Xbx hx)
abbrev Xww:List (Nat×Xc3):=[]
theorem Xvp (hS:XaL Try.prog (XaY (Xww))) (s:XaB) (res:Bool) (h:XfQ s=some res) :
 Xa0 Try.prog 38 10 ⟨⟨38,13,[(0,.pointer (some ⟨0,0,none⟩))],[.code XmH],[],false,none⟩,[],[(0,.row false [.int .u64 s.key.A,.int .u64 s.key.B,.slice (some ⟨1,0,none⟩) 5 1,.int .i64 s.total]),(1,.row false [.slice (some ⟨2,0,none⟩) s.rows.m0 1,.slice (some ⟨3,0,none⟩) s.rows.m1 1,.slice (some ⟨4,0,none⟩) s.rows.m2 1,.slice (some ⟨5,0,none⟩) s.rows.m3 1,.slice (some ⟨6,0,none⟩) s.rows.m4 1]),(2,.row false (vI .i64 s.rows.e0)),(3,.row false (vI .i64 s.rows.e1)),(4,.row false (vI .i64 s.rows.e2)),(5,.row false (vI .i64 s.rows.e3)),(6,.row false (vI .i64 s.rows.e4))],10⟩ (fun v H _=>Res 10 (XrO res) v H):=by
 unfold XfQ at h
 refine Xa1 XaJ hS true 3000 ?_
 conv=>whnf
 exact W
def Xfw (s:Xay):Option Bool:=
 some (true)
def XrF (x:Bool):Xdj:=⟨.bool x,[],[none,none,none,none,none,none,none,none,none,none]⟩
abbrev Xdq:=Xay→Option Bool
def Xc6 (g:Xdq):Dec:=dTr 10 (XbY 0) fun (y0:Xay)=>Xfq (ofG (g y0) XrF)
theorem XBb {g:Xdq} {y0:Xay} {x:Bool} (hx:g y0=some x):Xc6 g [.pointer (some ⟨0,0,none⟩)] [some [.int .u64 y0.key.A,.int .u64 y0.key.B,.slice (some ⟨1,0,none⟩) 6 1,.int .i64 y0.total],some [.slice (some ⟨2,0,none⟩) y0.rows.m0 1,.slice (some ⟨3,0,none⟩) y0.rows.m1 1,.slice (some ⟨4,0,none⟩) y0.rows.m2 1,.slice (some ⟨5,0,none⟩) y0.rows.m3 1,.slice (some ⟨6,0,none⟩) y0.rows.m4 1,.slice (some ⟨7,0,none⟩) y0.rows.m5 1],some (vI .i64 y0.rows.e0),some (vI .i64 y0.rows.e1),some (vI .i64 y0.rows.e2),some (vI .i64 y0.rows.e3),some (vI .i64 y0.rows.e4),some (vI .i64 y0.rows.e5),none,none]=some (XrF x):=(Xcx rfl rfl (XeO 0 _)).trans (Xbx hx)
abbrev Xw3:List (Nat×Xc3):=[]
theorem Xuo (hS:XaL Try.prog (XaY (Xw3))) (s:Xay) (res:Bool) (h:Xfw s=some res) :
 Xa0 Try.prog 38 10 ⟨⟨38,13,[(0,.pointer (some ⟨0,0,none⟩))],[.code XmH],[],false,none⟩,[],[(0,.row false [.int .u64 s.key.A,.int .u64 s.key.B,.slice (some ⟨1,0,none⟩) 6 1,.int .i64 s.total]),(1,.row false [.slice (some ⟨2,0,none⟩) s.rows.m0 1,.slice (some ⟨3,0,none⟩) s.rows.m1 1,.slice (some ⟨4,0,none⟩) s.rows.m2 1,.slice (some ⟨5,0,none⟩) s.rows.m3 1,.slice (some ⟨6,0,none⟩) s.rows.m4 1,.slice (some ⟨7,0,none⟩) s.rows.m5 1]),(2,.row false (vI .i64 s.rows.e0)),(3,.row false (vI .i64 s.rows.e1)),(4,.row false (vI .i64 s.rows.e2)),(5,.row false (vI .i64 s.rows.e3)),(6,.row false (vI .i64 s.rows.e4)),(7,.row false (vI .i64 s.rows.e5))],10⟩ (fun v H _=>Res 10 (XrF res) v H):=by
 unfold Xfw at h
 refine Xa1 XaJ hS true 3000 ?_
 conv=>whnf
 exact W
def XfM (s:Xaw):Option Bool:=
 some (true)
def XrU (x:Bool):Xdj:=⟨.bool x,[],[none,none,none,none,none,none,none,none,none,none]⟩
abbrev XdK:=Xaw→Option Bool
def XcU (g:XdK):Dec:=dTr 10 (Xb0 0) fun (y0:Xaw)=>Xfq (ofG (g y0) XrU)
theorem XCe {g:XdK} {y0:Xaw} {x:Bool} (hx:g y0=some x):XcU g [.pointer (some ⟨0,0,none⟩)] [some [.int .u64 y0.key.A,.int .u64 y0.key.B,.slice (some ⟨1,0,none⟩) 7 1,.int .i64 y0.total],some [.slice (some ⟨2,0,none⟩) y0.rows.m0 1,.slice (some ⟨3,0,none⟩) y0.rows.m1 1,.slice (some ⟨4,0,none⟩) y0.rows.m2 1,.slice (some ⟨5,0,none⟩) y0.rows.m3 1,.slice (some ⟨6,0,none⟩) y0.rows.m4 1,.slice (some ⟨7,0,none⟩) y0.rows.m5 1,.slice (some ⟨8,0,none⟩) y0.rows.m6 1],some (vI .i64 y0.rows.e0),some (vI .i64 y0.rows.e1),some (vI .i64 y0.rows.e2),some (vI .i64 y0.rows.e3),some (vI .i64 y0.rows.e4),some (vI .i64 y0.rows.e5),some (vI .i64 y0.rows.e6),none]=some (XrU x):=(Xcx rfl rfl (XeS 0 _)).trans (Xbx hx)
abbrev XxO:List (Nat×Xc3):=[]
theorem Xvg (hS:XaL Try.prog (XaY (XxO))) (s:Xaw) (res:Bool) (h:XfM s=some res) :
 Xa0 Try.prog 38 10 ⟨⟨38,13,[(0,.pointer (some ⟨0,0,none⟩))],[.code XmH],[],false,none⟩,[],[(0,.row false [.int .u64 s.key.A,.int .u64 s.key.B,.slice (some ⟨1,0,none⟩) 7 1,.int .i64 s.total]),(1,.row false [.slice (some ⟨2,0,none⟩) s.rows.m0 1,.slice (some ⟨3,0,none⟩) s.rows.m1 1,.slice (some ⟨4,0,none⟩) s.rows.m2 1,.slice (some ⟨5,0,none⟩) s.rows.m3 1,.slice (some ⟨6,0,none⟩) s.rows.m4 1,.slice (some ⟨7,0,none⟩) s.rows.m5 1,.slice (some ⟨8,0,none⟩) s.rows.m6 1]),(2,.row false (vI .i64 s.rows.e0)),(3,.row false (vI .i64 s.rows.e1)),(4,.row false (vI .i64 s.rows.e2)),(5,.row false (vI .i64 s.rows.e3)),(6,.row false (vI .i64 s.rows.e4)),(7,.row false (vI .i64 s.rows.e5)),(8,.row false (vI .i64 s.rows.e6))],10⟩ (fun v H _=>Res 10 (XrU res) v H):=by
 unfold XfM at h
 refine Xa1 XaJ hS true 3000 ?_
 conv=>whnf
 exact W
def XfL (s:Xav):Option Bool:=
 some (true)
def Xqz (x:Bool):Xdj:=⟨.bool x,[],[none,none,none,none,none,none,none,none,none,none]⟩
abbrev Xdh:=Xav→Option Bool
def XcW (g:Xdh):Dec:=dTr 10 (Xb3 0) fun (y0:Xav)=>Xfq (ofG (g y0) Xqz)
theorem XBa {g:Xdh} {y0:Xav} {x:Bool} (hx:g y0=some x):XcW g [.pointer (some ⟨0,0,none⟩)] [some [.int .u64 y0.key.A,.int .u64 y0.key.B,.slice (some ⟨1,0,none⟩) 8 1,.int .i64 y0.total],some [.slice (some ⟨2,0,none⟩) y0.rows.m0 1,.slice (some ⟨3,0,none⟩) y0.rows.m1 1,.slice (some ⟨4,0,none⟩) y0.rows.m2 1,.slice (some ⟨5,0,none⟩) y0.rows.m3 1,.slice (some ⟨6,0,none⟩) y0.rows.m4 1,.slice (some ⟨7,0,none⟩) y0.rows.m5 1,.slice (some ⟨8,0,none⟩) y0.rows.m6 1,.slice (some ⟨9,0,none⟩) y0.rows.m7 1],some (vI .i64 y0.rows.e0),some (vI .i64 y0.rows.e1),some (vI .i64 y0.rows.e2),some (vI .i64 y0.rows.e3),some (vI .i64 y0.rows.e4),some (vI .i64 y0.rows.e5),some (vI .i64 y0.rows.e6),some (vI .i64 y0.rows.e7)]=some (Xqz x):=(Xcx rfl rfl (XeF 0 _)).trans (Xbx hx)
abbrev Xxg:List (Nat×Xc3):=[]
theorem Xt1 (hS:XaL Try.prog (XaY (Xxg))) (s:Xav) (res:Bool) (h:XfL s=some res) :
 Xa0 Try.prog 38 10 ⟨⟨38,13,[(0,.pointer (some ⟨0,0,none⟩))],[.code XmH],[],false,none⟩,[],[(0,.row false [.int .u64 s.key.A,.int .u64 s.key.B,.slice (some ⟨1,0,none⟩) 8 1,.int .i64 s.total]),(1,.row false [.slice (some ⟨2,0,none⟩) s.rows.m0 1,.slice (some ⟨3,0,none⟩) s.rows.m1 1,.slice (some ⟨4,0,none⟩) s.rows.m2 1,.slice (some ⟨5,0,none⟩) s.rows.m3 1,.slice (some ⟨6,0,none⟩) s.rows.m4 1,.slice (some ⟨7,0,none⟩) s.rows.m5 1,.slice (some ⟨8,0,none⟩) s.rows.m6 1,.slice (some ⟨9,0,none⟩) s.rows.m7 1]),(2,.row false (vI .i64 s.rows.e0)),(3,.row false (vI .i64 s.rows.e1)),(4,.row false (vI .i64 s.rows.e2)),(5,.row false (vI .i64 s.rows.e3)),(6,.row false (vI .i64 s.rows.e4)),(7,.row false (vI .i64 s.rows.e5)),(8,.row false (vI .i64 s.rows.e6)),(9,.row false (vI .i64 s.rows.e7))],10⟩ (fun v H _=>Res 10 (Xqz res) v H):=by
 unfold XfL at h
 refine Xa1 XaJ hS true 3000 ?_
 conv=>whnf
 exact W
structure Xaf where
 vn:XdB
 v0:Xdy
 v1:Xc9
 v2:XdE
 v3:Xde
 v4:XdD
 v5:Xdz
 v6:Xdq
 v7:XdK
 v8:Xdh
def s38 (g:Xaf):Xc3:=⟨[.tr [⟨none,0,0,0,none⟩,⟨some 0,2,0,0,none⟩,⟨some 1,0,0,0,none⟩,⟨some 1,1,0,0,none⟩,⟨some 1,2,0,0,none⟩,⟨some 1,3,0,0,none⟩,⟨some 1,4,0,0,none⟩,⟨some 1,5,0,0,none⟩,⟨some 1,6,0,0,none⟩,⟨some 1,7,0,0,none⟩]],orD (Xma g.vn) (orD (Xia g.v0) (orD (Xg5 g.v1) (orD (Xf8 g.v2) (orD (XeV g.v3) (orD (Xd2 g.v4) (orD (XdR g.v5) (orD (Xc6 g.v6) (orD (XcU g.v7) (XcW g.v8)))))))))⟩
theorem Xn5 {g:Xaf} {x:Bool} (hx:g.vn=some x):(s38 g).run [.pointer none] [none,none,none,none,none,none,none,none,none,none]=some (XqC x):=XeT (a:=Xma g.vn) (b:=orD (Xia g.v0) (orD (Xg5 g.v1) (orD (Xf8 g.v2) (orD (XeV g.v3) (orD (Xd2 g.v4) (orD (XdR g.v5) (orD (Xc6 g.v6) (orD (XcU g.v7) (XcW g.v8))))))))) (Xy9 hx)
theorem Xme {g:Xaf} {y0:Xax} {x:Bool} (hx:g.v0 y0=some x):(s38 g).run [.pointer (some ⟨0,0,none⟩)] [some [.int .u64 y0.key.A,.int .u64 y0.key.B,.slice none 0 0,.int .i64 y0.total],none,none,none,none,none,none,none,none,none]=some (XrH x):=XaZ (a:=Xma g.vn) (b:=orD (Xia g.v0) (orD (Xg5 g.v1) (orD (Xf8 g.v2) (orD (XeV g.v3) (orD (Xd2 g.v4) (orD (XdR g.v5) (orD (Xc6 g.v6) (orD (XcU g.v7) (XcW g.v8))))))))) rfl (XeT (a:=Xia g.v0) (b:=orD (Xg5 g.v1) (orD (Xf8 g.v2) (orD (XeV g.v3) (orD (Xd2 g.v4) (orD (XdR g.v5) (orD (Xc6 g.v6) (orD (XcU g.v7) (XcW g.v8)))))))) (XBY hx))
theorem XjX {g:Xaf} {y0:XaH} {x:Bool} (hx:g.v1 y0=some x):(s38 g).run [.pointer (some ⟨0,0,none⟩)] [some [.int .u64 y0.key.A,.int .u64 y0.key.B,.slice (some ⟨1,0,none⟩) 1 1,.int .i64 y0.total],some [.slice (some ⟨2,0,none⟩) y0.rows.m0 1],some (vI .i64 y0.rows.e0),none,none,none,none,none,none,none]=some (Xrh x):=XaZ (a:=Xma g.vn) (b:=orD (Xia g.v0) (orD (Xg5 g.v1) (orD (Xf8 g.v2) (orD (XeV g.v3) (orD (Xd2 g.v4) (orD (XdR g.v5) (orD (Xc6 g.v6) (orD (XcU g.v7) (XcW g.v8))))))))) rfl (XaZ (a:=Xia g.v0) (b:=orD (Xg5 g.v1) (orD (Xf8 g.v2) (orD (XeV g.v3) (orD (Xd2 g.v4) (orD (XdR g.v5) (orD (Xc6 g.v6) (orD (XcU g.v7) (XcW g.v8)))))))) rfl (XeT (a:=Xg5 g.v1) (b:=orD (Xf8 g.v2) (orD (XeV g.v3) (orD (Xd2 g.v4) (orD (XdR g.v5) (orD (Xc6 g.v6) (orD (XcU g.v7) (XcW g.v8))))))) (XzU hx)))
theorem Xj2 {g:Xaf} {y0:XaG} {x:Bool} (hx:g.v2 y0=some x):(s38 g).run [.pointer (some ⟨0,0,none⟩)] [some [.int .u64 y0.key.A,.int .u64 y0.key.B,.slice (some ⟨1,0,none⟩) 2 1,.int .i64 y0.total],some [.slice (some ⟨2,0,none⟩) y0.rows.m0 1,.slice (some ⟨3,0,none⟩) y0.rows.m1 1],some (vI .i64 y0.rows.e0),some (vI .i64 y0.rows.e1),none,none,none,none,none,none]=some (XqV x):=XaZ (a:=Xma g.vn) (b:=orD (Xia g.v0) (orD (Xg5 g.v1) (orD (Xf8 g.v2) (orD (XeV g.v3) (orD (Xd2 g.v4) (orD (XdR g.v5) (orD (Xc6 g.v6) (orD (XcU g.v7) (XcW g.v8))))))))) rfl (XaZ (a:=Xia g.v0) (b:=orD (Xg5 g.v1) (orD (Xf8 g.v2) (orD (XeV g.v3) (orD (Xd2 g.v4) (orD (XdR g.v5) (orD (Xc6 g.v6) (orD (XcU g.v7) (XcW g.v8)))))))) rfl (XaZ (a:=Xg5 g.v1) (b:=orD (Xf8 g.v2) (orD (XeV g.v3) (orD (Xd2 g.v4) (orD (XdR g.v5) (orD (Xc6 g.v6) (orD (XcU g.v7) (XcW g.v8))))))) rfl (XeT (a:=Xf8 g.v2) (b:=orD (XeV g.v3) (orD (Xd2 g.v4) (orD (XdR g.v5) (orD (Xc6 g.v6) (orD (XcU g.v7) (XcW g.v8)))))) (XAm hx))))
theorem Xj6 {g:Xaf} {y0:XaF} {x:Bool} (hx:g.v3 y0=some x):(s38 g).run [.pointer (some ⟨0,0,none⟩)] [some [.int .u64 y0.key.A,.int .u64 y0.key.B,.slice (some ⟨1,0,none⟩) 3 1,.int .i64 y0.total],some [.slice (some ⟨2,0,none⟩) y0.rows.m0 1,.slice (some ⟨3,0,none⟩) y0.rows.m1 1,.slice (some ⟨4,0,none⟩) y0.rows.m2 1],some (vI .i64 y0.rows.e0),some (vI .i64 y0.rows.e1),some (vI .i64 y0.rows.e2),none,none,none,none,none]=some (Xq2 x):=XaZ (a:=Xma g.vn) (b:=orD (Xia g.v0) (orD (Xg5 g.v1) (orD (Xf8 g.v2) (orD (XeV g.v3) (orD (Xd2 g.v4) (orD (XdR g.v5) (orD (Xc6 g.v6) (orD (XcU g.v7) (XcW g.v8))))))))) rfl (XaZ (a:=Xia g.v0) (b:=orD (Xg5 g.v1) (orD (Xf8 g.v2) (orD (XeV g.v3) (orD (Xd2 g.v4) (orD (XdR g.v5) (orD (Xc6 g.v6) (orD (XcU g.v7) (XcW g.v8)))))))) rfl (XaZ (a:=Xg5 g.v1) (b:=orD (Xf8 g.v2) (orD (XeV g.v3) (orD (Xd2 g.v4) (orD (XdR g.v5) (orD (Xc6 g.v6) (orD (XcU g.v7) (XcW g.v8))))))) rfl (XaZ (a:=Xf8 g.v2) (b:=orD (XeV g.v3) (orD (Xd2 g.v4) (orD (XdR g.v5) (orD (Xc6 g.v6) (orD (XcU g.v7) (XcW g.v8)))))) rfl (XeT (a:=XeV g.v3) (b:=orD (Xd2 g.v4) (orD (XdR g.v5) (orD (Xc6 g.v6) (orD (XcU g.v7) (XcW g.v8))))) (Xzt hx)))))
theorem Xkd {g:Xaf} {y0:XaC} {x:Bool} (hx:g.v4 y0=some x):(s38 g).run [.pointer (some ⟨0,0,none⟩)] [some [.int .u64 y0.key.A,.int .u64 y0.key.B,.slice (some ⟨1,0,none⟩) 4 1,.int .i64 y0.total],some [.slice (some ⟨2,0,none⟩) y0.rows.m0 1,.slice (some ⟨3,0,none⟩) y0.rows.m1 1,.slice (some ⟨4,0,none⟩) y0.rows.m2 1,.slice (some ⟨5,0,none⟩) y0.rows.m3 1],some (vI .i64 y0.rows.e0),some (vI .i64 y0.rows.e1),some (vI .i64 y0.rows.e2),some (vI .i64 y0.rows.e3),none,none,none,none]=some (Xrx x):=XaZ (a:=Xma g.vn) (b:=orD (Xia g.v0) (orD (Xg5 g.v1) (orD (Xf8 g.v2) (orD (XeV g.v3) (orD (Xd2 g.v4) (orD (XdR g.v5) (orD (Xc6 g.v6) (orD (XcU g.v7) (XcW g.v8))))))))) rfl (XaZ (a:=Xia g.v0) (b:=orD (Xg5 g.v1) (orD (Xf8 g.v2) (orD (XeV g.v3) (orD (Xd2 g.v4) (orD (XdR g.v5) (orD (Xc6 g.v6) (orD (XcU g.v7) (XcW g.v8)))))))) rfl (XaZ (a:=Xg5 g.v1) (b:=orD (Xf8 g.v2) (orD (XeV g.v3) (orD (Xd2 g.v4) (orD (XdR g.v5) (orD (Xc6 g.v6) (orD (XcU g.v7) (XcW g.v8))))))) rfl (XaZ (a:=Xf8 g.v2) (b:=orD (XeV g.v3) (orD (Xd2 g.v4) (orD (XdR g.v5) (orD (Xc6 g.v6) (orD (XcU g.v7) (XcW g.v8)))))) rfl (XaZ (a:=XeV g.v3) (b:=orD (Xd2 g.v4) (orD (XdR g.v5) (orD (Xc6 g.v6) (orD (XcU g.v7) (XcW g.v8))))) rfl (XeT (a:=Xd2 g.v4) (b:=orD (XdR g.v5) (orD (Xc6 g.v6) (orD (XcU g.v7) (XcW g.v8)))) (XBz hx))))))
theorem Xkc {g:Xaf} {y0:XaB} {x:Bool} (hx:g.v5 y0=some x):(s38 g).run [.pointer (some ⟨0,0,none⟩)] [some [.int .u64 y0.key.A,.int .u64 y0.key.B,.slice (some ⟨1,0,none⟩) 5 1,.int .i64 y0.total],some [.slice (some ⟨2,0,none⟩) y0.rows.m0 1,.slice (some ⟨3,0,none⟩) y0.rows.m1 1,.slice (some ⟨4,0,none⟩) y0.rows.m2 1,.slice (some ⟨5,0,none⟩) y0.rows.m3 1,.slice (some ⟨6,0,none⟩) y0.rows.m4 1],some (vI .i64 y0.rows.e0),some (vI .i64 y0.rows.e1),some (vI .i64 y0.rows.e2),some (vI .i64 y0.rows.e3),some (vI .i64 y0.rows.e4),none,none,none]=some (XrO x):=XaZ (a:=Xma g.vn) (b:=orD (Xia g.v0) (orD (Xg5 g.v1) (orD (Xf8 g.v2) (orD (XeV g.v3) (orD (Xd2 g.v4) (orD (XdR g.v5) (orD (Xc6 g.v6) (orD (XcU g.v7) (XcW g.v8))))))))) rfl (XaZ (a:=Xia g.v0) (b:=orD (Xg5 g.v1) (orD (Xf8 g.v2) (orD (XeV g.v3) (orD (Xd2 g.v4) (orD (XdR g.v5) (orD (Xc6 g.v6) (orD (XcU g.v7) (XcW g.v8)))))))) rfl (XaZ (a:=Xg5 g.v1) (b:=orD (Xf8 g.v2) (orD (XeV g.v3) (orD (Xd2 g.v4) (orD (XdR g.v5) (orD (Xc6 g.v6) (orD (XcU g.v7) (XcW g.v8))))))) rfl (XaZ (a:=Xf8 g.v2) (b:=orD (XeV g.v3) (orD (Xd2 g.v4) (orD (XdR g.v5) (orD (Xc6 g.v6) (orD (XcU g.v7) (XcW g.v8)))))) rfl (XaZ (a:=XeV g.v3) (b:=orD (Xd2 g.v4) (orD (XdR g.v5) (orD (Xc6 g.v6) (orD (XcU g.v7) (XcW g.v8))))) rfl (XaZ (a:=Xd2 g.v4) (b:=orD (XdR g.v5) (orD (Xc6 g.v6) (orD (XcU g.v7) (XcW g.v8)))) rfl (XeT (a:=XdR g.v5) (b:=orD (Xc6 g.v6) (orD (XcU g.v7) (XcW g.v8))) (XA9 hx)))))))
theorem Xj8 {g:Xaf} {y0:Xay} {x:Bool} (hx:g.v6 y0=some x):(s38 g).run [.pointer (some ⟨0,0,none⟩)] [some [.int .u64 y0.key.A,.int .u64 y0.key.B,.slice (some ⟨1,0,none⟩) 6 1,.int .i64 y0.total],some [.slice (some ⟨2,0,none⟩) y0.rows.m0 1,.slice (some ⟨3,0,none⟩) y0.rows.m1 1,.slice (some ⟨4,0,none⟩) y0.rows.m2 1,.slice (some ⟨5,0,none⟩) y0.rows.m3 1,.slice (some ⟨6,0,none⟩) y0.rows.m4 1,.slice (some ⟨7,0,none⟩) y0.rows.m5 1],some (vI .i64 y0.rows.e0),some (vI .i64 y0.rows.e1),some (vI .i64 y0.rows.e2),some (vI .i64 y0.rows.e3),some (vI .i64 y0.rows.e4),some (vI .i64 y0.rows.e5),none,none]=some (XrF x):=XaZ (a:=Xma g.vn) (b:=orD (Xia g.v0) (orD (Xg5 g.v1) (orD (Xf8 g.v2) (orD (XeV g.v3) (orD (Xd2 g.v4) (orD (XdR g.v5) (orD (Xc6 g.v6) (orD (XcU g.v7) (XcW g.v8))))))))) rfl (XaZ (a:=Xia g.v0) (b:=orD (Xg5 g.v1) (orD (Xf8 g.v2) (orD (XeV g.v3) (orD (Xd2 g.v4) (orD (XdR g.v5) (orD (Xc6 g.v6) (orD (XcU g.v7) (XcW g.v8)))))))) rfl (XaZ (a:=Xg5 g.v1) (b:=orD (Xf8 g.v2) (orD (XeV g.v3) (orD (Xd2 g.v4) (orD (XdR g.v5) (orD (Xc6 g.v6) (orD (XcU g.v7) (XcW g.v8))))))) rfl (XaZ (a:=Xf8 g.v2) (b:=orD (XeV g.v3) (orD (Xd2 g.v4) (orD (XdR g.v5) (orD (Xc6 g.v6) (orD (XcU g.v7) (XcW g.v8)))))) rfl (XaZ (a:=XeV g.v3) (b:=orD (Xd2 g.v4) (orD (XdR g.v5) (orD (Xc6 g.v6) (orD (XcU g.v7) (XcW g.v8))))) rfl (XaZ (a:=Xd2 g.v4) (b:=orD (XdR g.v5) (orD (Xc6 g.v6) (orD (XcU g.v7) (XcW g.v8)))) rfl (XaZ (a:=XdR g.v5) (b:=orD (Xc6 g.v6) (orD (XcU g.v7) (XcW g.v8))) rfl (XeT (a:=Xc6 g.v6) (b:=orD (XcU g.v7) (XcW g.v8)) (XBb hx))))))))
theorem Xj1 {g:Xaf} {y0:Xaw} {x:Bool} (hx:g.v7 y0=some x):(s38 g).run [.pointer (some ⟨0,0,none⟩)] [some [.int .u64 y0.key.A,.int .u64 y0.key.B,.slice (some ⟨1,0,none⟩) 7 1,.int .i64 y0.total],some [.slice (some ⟨2,0,none⟩) y0.rows.m0 1,.slice (some ⟨3,0,none⟩) y0.rows.m1 1,.slice (some ⟨4,0,none⟩) y0.rows.m2 1,.slice (some ⟨5,0,none⟩) y0.rows.m3 1,.slice (some ⟨6,0,none⟩) y0.rows.m4 1,.slice (some ⟨7,0,none⟩) y0.rows.m5 1,.slice (some ⟨8,0,none⟩) y0.rows.m6 1],some (vI .i64 y0.rows.e0),some (vI .i64 y0.rows.e1),some (vI .i64 y0.rows.e2),some (vI .i64 y0.rows.e3),some (vI .i64 y0.rows.e4),some (vI .i64 y0.rows.e5),some (vI .i64 y0.rows.e6),none]=some (XrU x):=XaZ (a:=Xma g.vn) (b:=orD (Xia g.v0) (orD (Xg5 g.v1) (orD (Xf8 g.v2) (orD (XeV g.v3) (orD (Xd2 g.v4) (orD (XdR g.v5) (orD (Xc6 g.v6) (orD (XcU g.v7) (XcW g.v8))))))))) rfl (XaZ (a:=Xia g.v0) (b:=orD (Xg5 g.v1) (orD (Xf8 g.v2) (orD (XeV g.v3) (orD (Xd2 g.v4) (orD (XdR g.v5) (orD (Xc6 g.v6) (orD (XcU g.v7) (XcW g.v8)))))))) rfl (XaZ (a:=Xg5 g.v1) (b:=orD (Xf8 g.v2) (orD (XeV g.v3) (orD (Xd2 g.v4) (orD (XdR g.v5) (orD (Xc6 g.v6) (orD (XcU g.v7) (XcW g.v8))))))) rfl (XaZ (a:=Xf8 g.v2) (b:=orD (XeV g.v3) (orD (Xd2 g.v4) (orD (XdR g.v5) (orD (Xc6 g.v6) (orD (XcU g.v7) (XcW g.v8)))))) rfl (XaZ (a:=XeV g.v3) (b:=orD (Xd2 g.v4) (orD (XdR g.v5) (orD (Xc6 g.v6) (orD (XcU g.v7) (XcW g.v8))))) rfl (XaZ (a:=Xd2 g.v4) (b:=orD (XdR g.v5) (orD (Xc6 g.v6) (orD (XcU g.v7) (XcW g.v8)))) rfl (XaZ (a:=XdR g.v5) (b:=orD (Xc6 g.v6) (orD (XcU g.v7) (XcW g.v8))) rfl (XaZ (a:=Xc6 g.v6) (b:=orD (XcU g.v7) (XcW g.v8)) rfl (XeT (a:=XcU g.v7) (b:=XcW g.v8) (XCe hx)))))))))
theorem Xj4 {g:Xaf} {y0:Xav} {x:Bool} (hx:g.v8 y0=some x):(s38 g).run [.pointer (some ⟨0,0,none⟩)] [some [.int .u64 y0.key.A,.int .u64 y0.key.B,.slice (some ⟨1,0,none⟩) 8 1,.int .i64 y0.total],some [.slice (some ⟨2,0,none⟩) y0.rows.m0 1,.slice (some ⟨3,0,none⟩) y0.rows.m1 1,.slice (some ⟨4,0,none⟩) y0.rows.m2 1,.slice (some ⟨5,0,none⟩) y0.rows.m3 1,.slice (some ⟨6,0,none⟩) y0.rows.m4 1,.slice (some ⟨7,0,none⟩) y0.rows.m5 1,.slice (some ⟨8,0,none⟩) y0.rows.m6 1,.slice (some ⟨9,0,none⟩) y0.rows.m7 1],some (vI .i64 y0.rows.e0),some (vI .i64 y0.rows.e1),some (vI .i64 y0.rows.e2),some (vI .i64 y0.rows.e3),some (vI .i64 y0.rows.e4),some (vI .i64 y0.rows.e5),some (vI .i64 y0.rows.e6),some (vI .i64 y0.rows.e7)]=some (Xqz x):=XaZ (a:=Xma g.vn) (b:=orD (Xia g.v0) (orD (Xg5 g.v1) (orD (Xf8 g.v2) (orD (XeV g.v3) (orD (Xd2 g.v4) (orD (XdR g.v5) (orD (Xc6 g.v6) (orD (XcU g.v7) (XcW g.v8))))))))) rfl (XaZ (a:=Xia g.v0) (b:=orD (Xg5 g.v1) (orD (Xf8 g.v2) (orD (XeV g.v3) (orD (Xd2 g.v4) (orD (XdR g.v5) (orD (Xc6 g.v6) (orD (XcU g.v7) (XcW g.v8)))))))) rfl (XaZ (a:=Xg5 g.v1) (b:=orD (Xf8 g.v2) (orD (XeV g.v3) (orD (Xd2 g.v4) (orD (XdR g.v5) (orD (Xc6 g.v6) (orD (XcU g.v7) (XcW g.v8))))))) rfl (XaZ (a:=Xf8 g.v2) (b:=orD (XeV g.v3) (orD (Xd2 g.v4) (orD (XdR g.v5) (orD (Xc6 g.v6) (orD (XcU g.v7) (XcW g.v8)))))) rfl (XaZ (a:=XeV g.v3) (b:=orD (Xd2 g.v4) (orD (XdR g.v5) (orD (Xc6 g.v6) (orD (XcU g.v7) (XcW g.v8))))) rfl (XaZ (a:=Xd2 g.v4) (b:=orD (XdR g.v5) (orD (Xc6 g.v6) (orD (XcU g.v7) (XcW g.v8)))) rfl (XaZ (a:=XdR g.v5) (b:=orD (Xc6 g.v6) (orD (XcU g.v7) (XcW g.v8))) rfl (XaZ (a:=Xc6 g.v6) (b:=orD (XcU g.v7) (XcW g.v8)) rfl (XaZ (a:=XcU g.v7) (b:=XcW g.v8) rfl (XBa hx)))))))))
def Xja:XdB:=XfP
def Xjp:Xdy:=Xfy
def Xjb:Xc9:=Xfu
def XjQ:XdE:=Xfx
def XjU:Xde:=XfJ
def Xjj:XdD:=Xfv
def XjI:Xdz:=XfQ
def Xjg:Xdq:=Xfw
def XiV:XdK:=XfM
def Xjo:Xdh:=XfL
def Xaa:Xaf:=⟨Xja,Xjp,Xjb,XjQ,XjU,Xjj,XjI,Xjg,XiV,Xjo⟩
theorem Xcs:Xgx Try.prog 38 (s38 Xaa):=by
 have L0:=Xvz (XaL.Xbk trivial)
 have L1:=XuS (XaL.Xbk trivial)
 have L2:=Xvn (XaL.Xbk trivial)
 have L3:=Xs9 (XaL.Xbk trivial)
 have L4:=XvI (XaL.Xbk trivial)
 have L5:=XvF (XaL.Xbk trivial)
 have L6:=Xvp (XaL.Xbk trivial)
 have L7:=Xuo (XaL.Xbk trivial)
 have L8:=Xvg (XaL.Xbk trivial)
 have L9:=Xt1 (XaL.Xbk trivial)
 refine Xgx.XiG XaJ (fun ar os r ha hr=>?_) ⟨Try.f38,rfl,by decide,rfl⟩
 generalize hc:XhF os=C at hr
 replace hr:=orD.elim hr;rcases hr with hr|hr
 ·skip
  have hq:=dNl.elim hr;clear hr;obtain ⟨l1,C,rfl,rfl,hr⟩:=hq;simp only [List.replicate,List.nil_append,List.cons_append] at hc
  replace hr:=Xhd hr;obtain ⟨rfl,rfl,x,h,rfl⟩:=hr
  replace ha:=Xaj ha hc;obtain ⟨os,rfl,ha,hc⟩:=ha
  replace ha:=Xaj ha hc;obtain ⟨os,rfl,ha,hc⟩:=ha
  replace ha:=Xaj ha hc;obtain ⟨os,rfl,ha,hc⟩:=ha
  replace ha:=Xaj ha hc;obtain ⟨os,rfl,ha,hc⟩:=ha
  replace ha:=Xaj ha hc;obtain ⟨os,rfl,ha,hc⟩:=ha
  replace ha:=Xaj ha hc;obtain ⟨os,rfl,ha,hc⟩:=ha
  replace ha:=Xaj ha hc;obtain ⟨os,rfl,ha,hc⟩:=ha
  replace ha:=Xaj ha hc;obtain ⟨os,rfl,ha,hc⟩:=ha
  replace ha:=Xaj ha hc;obtain ⟨os,rfl,ha,hc⟩:=ha
  replace ha:=Xaj ha hc;obtain ⟨os,rfl,ha,hc⟩:=ha
  obtain rfl:=Xa5 hc
  exact ⟨_,rfl,L0 x h⟩
 replace hr:=orD.elim hr;rcases hr with hr|hr
 ·skip
  have hq:=dTr.elim hr;clear hr;obtain ⟨v0,l1,c0,C,y0,rfl,rfl,e0,hr⟩:=hq;obtain ⟨rfl,rfl⟩:=Xc1 e0;simp only [List.nil_append,List.cons_append] at hc
  replace hr:=Xhd hr;obtain ⟨rfl,rfl,x,h,rfl⟩:=hr
  replace ha:=Xag ha hc;obtain ⟨os,rfl,ha,hc⟩:=ha
  replace ha:=Xaj ha hc;obtain ⟨os,rfl,ha,hc⟩:=ha
  replace ha:=Xaj ha hc;obtain ⟨os,rfl,ha,hc⟩:=ha
  replace ha:=Xaj ha hc;obtain ⟨os,rfl,ha,hc⟩:=ha
  replace ha:=Xaj ha hc;obtain ⟨os,rfl,ha,hc⟩:=ha
  replace ha:=Xaj ha hc;obtain ⟨os,rfl,ha,hc⟩:=ha
  replace ha:=Xaj ha hc;obtain ⟨os,rfl,ha,hc⟩:=ha
  replace ha:=Xaj ha hc;obtain ⟨os,rfl,ha,hc⟩:=ha
  replace ha:=Xaj ha hc;obtain ⟨os,rfl,ha,hc⟩:=ha
  replace ha:=Xaj ha hc;obtain ⟨os,rfl,ha,hc⟩:=ha
  obtain rfl:=Xa5 hc
  exact ⟨_,rfl,L1 _ x h⟩
 replace hr:=orD.elim hr;rcases hr with hr|hr
 ·skip
  have hq:=dTr.elim hr;clear hr;obtain ⟨v0,l1,c0,C,y0,rfl,rfl,e0,hr⟩:=hq;obtain ⟨rfl,rfl⟩:=Xcn e0;simp only [List.nil_append,List.cons_append] at hc
  replace hr:=Xhd hr;obtain ⟨rfl,rfl,x,h,rfl⟩:=hr
  replace ha:=Xag ha hc;obtain ⟨os,rfl,ha,hc⟩:=ha
  replace ha:=Xag ha hc;obtain ⟨os,rfl,ha,hc⟩:=ha
  replace ha:=Xag ha hc;obtain ⟨os,rfl,ha,hc⟩:=ha
  replace ha:=Xaj ha hc;obtain ⟨os,rfl,ha,hc⟩:=ha
  replace ha:=Xaj ha hc;obtain ⟨os,rfl,ha,hc⟩:=ha
  replace ha:=Xaj ha hc;obtain ⟨os,rfl,ha,hc⟩:=ha
  replace ha:=Xaj ha hc;obtain ⟨os,rfl,ha,hc⟩:=ha
  replace ha:=Xaj ha hc;obtain ⟨os,rfl,ha,hc⟩:=ha
  replace ha:=Xaj ha hc;obtain ⟨os,rfl,ha,hc⟩:=ha
  replace ha:=Xaj ha hc;obtain ⟨os,rfl,ha,hc⟩:=ha
  obtain rfl:=Xa5 hc
  exact ⟨_,rfl,L2 _ x h⟩
 replace hr:=orD.elim hr;rcases hr with hr|hr
 ·skip
  have hq:=dTr.elim hr;clear hr;obtain ⟨v0,l1,c0,C,y0,rfl,rfl,e0,hr⟩:=hq;obtain ⟨rfl,rfl⟩:=Xcp e0;simp only [List.nil_append,List.cons_append] at hc
  replace hr:=Xhd hr;obtain ⟨rfl,rfl,x,h,rfl⟩:=hr
  replace ha:=Xag ha hc;obtain ⟨os,rfl,ha,hc⟩:=ha
  replace ha:=Xag ha hc;obtain ⟨os,rfl,ha,hc⟩:=ha
  replace ha:=Xag ha hc;obtain ⟨os,rfl,ha,hc⟩:=ha
  replace ha:=Xag ha hc;obtain ⟨os,rfl,ha,hc⟩:=ha
  replace ha:=Xaj ha hc;obtain ⟨os,rfl,ha,hc⟩:=ha
  replace ha:=Xaj ha hc;obtain ⟨os,rfl,ha,hc⟩:=ha
  replace ha:=Xaj ha hc;obtain ⟨os,rfl,ha,hc⟩:=ha
  replace ha:=Xaj ha hc;obtain ⟨os,rfl,ha,hc⟩:=ha
  replace ha:=Xaj ha hc;obtain ⟨os,rfl,ha,hc⟩:=ha
  replace ha:=Xaj ha hc;obtain ⟨os,rfl,ha,hc⟩:=ha
  obtain rfl:=Xa5 hc
  exact ⟨_,rfl,L3 _ x h⟩
 replace hr:=orD.elim hr;rcases hr with hr|hr
 ·skip
  have hq:=dTr.elim hr;clear hr;obtain ⟨v0,l1,c0,C,y0,rfl,rfl,e0,hr⟩:=hq;obtain ⟨rfl,rfl⟩:=Xce e0;simp only [List.nil_append,List.cons_append] at hc
  replace hr:=Xhd hr;obtain ⟨rfl,rfl,x,h,rfl⟩:=hr
  replace ha:=Xag ha hc;obtain ⟨os,rfl,ha,hc⟩:=ha
  replace ha:=Xag ha hc;obtain ⟨os,rfl,ha,hc⟩:=ha
  replace ha:=Xag ha hc;obtain ⟨os,rfl,ha,hc⟩:=ha
  replace ha:=Xag ha hc;obtain ⟨os,rfl,ha,hc⟩:=ha
  replace ha:=Xag ha hc;obtain ⟨os,rfl,ha,hc⟩:=ha
  replace ha:=Xaj ha hc;obtain ⟨os,rfl,ha,hc⟩:=ha
  replace ha:=Xaj ha hc;obtain ⟨os,rfl,ha,hc⟩:=ha
  replace ha:=Xaj ha hc;obtain ⟨os,rfl,ha,hc⟩:=ha
  replace ha:=Xaj ha hc;obtain ⟨os,rfl,ha,hc⟩:=ha
  replace ha:=Xaj ha hc;obtain ⟨os,rfl,ha,hc⟩:=ha
  obtain rfl:=Xa5 hc
  exact ⟨_,rfl,L4 _ x h⟩
 replace hr:=orD.elim hr;rcases hr with hr|hr
 ·skip
  have hq:=dTr.elim hr;clear hr;obtain ⟨v0,l1,c0,C,y0,rfl,rfl,e0,hr⟩:=hq;obtain ⟨rfl,rfl⟩:=Xci e0;simp only [List.nil_append,List.cons_append] at hc
  replace hr:=Xhd hr;obtain ⟨rfl,rfl,x,h,rfl⟩:=hr
  replace ha:=Xag ha hc;obtain ⟨os,rfl,ha,hc⟩:=ha
  replace ha:=Xag ha hc;obtain ⟨os,rfl,ha,hc⟩:=ha
  replace ha:=Xag ha hc;obtain ⟨os,rfl,ha,hc⟩:=ha
  replace ha:=Xag ha hc;obtain ⟨os,rfl,ha,hc⟩:=ha
  replace ha:=Xag ha hc;obtain ⟨os,rfl,ha,hc⟩:=ha
  replace ha:=Xag ha hc;obtain ⟨os,rfl,ha,hc⟩:=ha
  replace ha:=Xaj ha hc;obtain ⟨os,rfl,ha,hc⟩:=ha
  replace ha:=Xaj ha hc;obtain ⟨os,rfl,ha,hc⟩:=ha
  replace ha:=Xaj ha hc;obtain ⟨os,rfl,ha,hc⟩:=ha
  replace ha:=Xaj ha hc;obtain ⟨os,rfl,ha,hc⟩:=ha
  obtain rfl:=Xa5 hc
  exact ⟨_,rfl,L5 _ x h⟩
 replace hr:=orD.elim hr;rcases hr with hr|hr
 ·skip
  have hq:=dTr.elim hr;clear hr;obtain ⟨v0,l1,c0,C,y0,rfl,rfl,e0,hr⟩:=hq;obtain ⟨rfl,rfl⟩:=Xcg e0;simp only [List.nil_append,List.cons_append] at hc
  replace hr:=Xhd hr;obtain ⟨rfl,rfl,x,h,rfl⟩:=hr
  replace ha:=Xag ha hc;obtain ⟨os,rfl,ha,hc⟩:=ha
  replace ha:=Xag ha hc;obtain ⟨os,rfl,ha,hc⟩:=ha
  replace ha:=Xag ha hc;obtain ⟨os,rfl,ha,hc⟩:=ha
  replace ha:=Xag ha hc;obtain ⟨os,rfl,ha,hc⟩:=ha
  replace ha:=Xag ha hc;obtain ⟨os,rfl,ha,hc⟩:=ha
  replace ha:=Xag ha hc;obtain ⟨os,rfl,ha,hc⟩:=ha
  replace ha:=Xag ha hc;obtain ⟨os,rfl,ha,hc⟩:=ha
  replace ha:=Xaj ha hc;obtain ⟨os,rfl,ha,hc⟩:=ha
  replace ha:=Xaj ha hc;obtain ⟨os,rfl,ha,hc⟩:=ha
  replace ha:=Xaj ha hc;obtain ⟨os,rfl,ha,hc⟩:=ha
  obtain rfl:=Xa5 hc
  exact ⟨_,rfl,L6 _ x h⟩
 replace hr:=orD.elim hr;rcases hr with hr|hr
 ·skip
  have hq:=dTr.elim hr;clear hr;obtain ⟨v0,l1,c0,C,y0,rfl,rfl,e0,hr⟩:=hq;obtain ⟨rfl,rfl⟩:=Xcc e0;simp only [List.nil_append,List.cons_append] at hc
  replace hr:=Xhd hr;obtain ⟨rfl,rfl,x,h,rfl⟩:=hr
  replace ha:=Xag ha hc;obtain ⟨os,rfl,ha,hc⟩:=ha
  replace ha:=Xag ha hc;obtain ⟨os,rfl,ha,hc⟩:=ha
  replace ha:=Xag ha hc;obtain ⟨os,rfl,ha,hc⟩:=ha
  replace ha:=Xag ha hc;obtain ⟨os,rfl,ha,hc⟩:=ha
  replace ha:=Xag ha hc;obtain ⟨os,rfl,ha,hc⟩:=ha
  replace ha:=Xag ha hc;obtain ⟨os,rfl,ha,hc⟩:=ha
  replace ha:=Xag ha hc;obtain ⟨os,rfl,ha,hc⟩:=ha
  replace ha:=Xag ha hc;obtain ⟨os,rfl,ha,hc⟩:=ha
  replace ha:=Xaj ha hc;obtain ⟨os,rfl,ha,hc⟩:=ha
  replace ha:=Xaj ha hc;obtain ⟨os,rfl,ha,hc⟩:=ha
  obtain rfl:=Xa5 hc
  exact ⟨_,rfl,L7 _ x h⟩
 replace hr:=orD.elim hr;rcases hr with hr|hr
 ·skip
  have hq:=dTr.elim hr;clear hr;obtain ⟨v0,l1,c0,C,y0,rfl,rfl,e0,hr⟩:=hq;obtain ⟨rfl,rfl⟩:=Xcd e0;simp only [List.nil_append,List.cons_append] at hc
  replace hr:=Xhd hr;obtain ⟨rfl,rfl,x,h,rfl⟩:=hr
  replace ha:=Xag ha hc;obtain ⟨os,rfl,ha,hc⟩:=ha
  replace ha:=Xag ha hc;obtain ⟨os,rfl,ha,hc⟩:=ha
  replace ha:=Xag ha hc;obtain ⟨os,rfl,ha,hc⟩:=ha
  replace ha:=Xag ha hc;obtain ⟨os,rfl,ha,hc⟩:=ha
  replace ha:=Xag ha hc;obtain ⟨os,rfl,ha,hc⟩:=ha
  replace ha:=Xag ha hc;obtain ⟨os,rfl,ha,hc⟩:=ha
  replace ha:=Xag ha hc;obtain ⟨os,rfl,ha,hc⟩:=ha
  replace ha:=Xag ha hc;obtain ⟨os,rfl,ha,hc⟩:=ha
  replace ha:=Xag ha hc;obtain ⟨os,rfl,ha,hc⟩:=ha
  replace ha:=Xaj ha hc;obtain ⟨os,rfl,ha,hc⟩:=ha
  obtain rfl:=Xa5 hc
  exact ⟨_,rfl,L8 _ x h⟩
 have hq:=dTr.elim hr;clear hr;obtain ⟨v0,l1,c0,C,y0,rfl,rfl,e0,hr⟩:=hq;obtain ⟨rfl,rfl⟩:=Xck e0;simp only [List.nil_append,List.cons_append] at hc
 replace hr:=Xhd hr;obtain ⟨rfl,rfl,x,h,rfl⟩:=hr
 replace ha:=Xag ha hc;obtain ⟨os,rfl,ha,hc⟩:=ha
 replace ha:=Xag ha hc;obtain ⟨os,rfl,ha,hc⟩:=ha
 replace ha:=Xag ha hc;obtain ⟨os,rfl,ha,hc⟩:=ha
 replace ha:=Xag ha hc;obtain ⟨os,rfl,ha,hc⟩:=ha
 replace ha:=Xag ha hc;obtain ⟨os,rfl,ha,hc⟩:=ha
 replace ha:=Xag ha hc;obtain ⟨os,rfl,ha,hc⟩:=ha
 replace ha:=Xag ha hc;obtain ⟨os,rfl,ha,hc⟩:=ha
 replace ha:=Xag ha hc;obtain ⟨os,rfl,ha,hc⟩:=ha
 replace ha:=Xag ha hc;obtain ⟨os,rfl,ha,hc⟩:=ha
 replace ha:=Xag ha hc;obtain ⟨os,rfl,ha,hc⟩:=ha
 obtain rfl:=Xa5 hc
 exact ⟨_,rfl,L9 _ x h⟩
def XfV (Xaa:Xaf) (i:Int) (text:List UInt8):Option Int:=
 (Xaa.vn).bind fun n=>
 cond (!n)
  (
  some ((-1)))
  (
  cond (decide (i<0))
   (
   some ((-1)))
   (
   none))
def Xro (x:Int):Xdj:=⟨.int .i64 x,[],[none,none,none,none,none,none,none,none,none,none]⟩
abbrev XdA:=Int→(List UInt8)→Option Int
def XmD (g:XdA):Dec:=dNl 10<|dV (asI .i64) fun (y1:Int)=>dV asS fun (y2:List UInt8)=>Xfq (ofG (g y1 y2) Xro)
theorem XAf {g:XdA} {y1:Int} {y2:List UInt8} {x:Int} (hx:g y1 y2=some x):XmD g [.pointer none,.int .i64 y1,.string ⟨⟨y2⟩⟩] [none,none,none,none,none,none,none,none,none,none]=some (Xro x):=(Xr3).trans ((XcF (XgS _)).trans ((XcF (Xg1)).trans (Xbx hx)))
abbrev Xwo (Xaa:Xaf):List (Nat×Xc3):=[(38,s38 Xaa)]
theorem Xub (Xaa:Xaf) (hS:XaL Try.prog (XaY (Xwo Xaa))) (i:Int) (text:List UInt8) (res:Int) (h:XfV Xaa i text=some res) :
 Xa0 Try.prog 20 10 ⟨⟨20,50,[(0,.pointer none),(1,.int .i64 i),(2,.string ⟨⟨text⟩⟩)],[.code Xkt],[],false,none⟩,[],[],10⟩ (fun v H _=>Res 10 (Xro res) v H):=by
 unfold XfV at h
 refine Xa1 XaJ hS true 3000 ?_
 conv=>whnf
 replace h:=XaK.elim h;obtain ⟨n,hy,h⟩:=h
 refine Xbn.XaO [] (Xar («as»:=[.pointer none]) (ws:=[.no,.no,.no,.no,.no,.no,.no,.no,.no,.no]) (n:=0) (m:=0) (t':=10) (Xam rfl rfl XaP) rfl (by rfl) (Xn5 hy) rfl rfl rfl rfl (Xab rfl (Xab rfl (Xab rfl (Xab rfl (Xab rfl (Xab rfl (Xab rfl (Xab rfl (Xab rfl (Xab rfl XaN)))))))))) XaM rfl) ?_
 conv=>whnf
 exact W
def Xem (Xas:Xbb) (XaW:Xbh) (Xaa:Xaf) (s:XaH) (i:Int) (text:List UInt8):Option Int:=
 (Xaa.v1 s).bind fun x1=>
 cond (!x1)
  (
  some ((-1)))
  (
  cond (decide (i<0))
   (
   some ((-1)))
   (
   cond (decide (i≥1))
    (
    some ((-1)))
    (
    (XaW (XaD.mk (wI .u64 (s.key.A+(wI .u64 i))) s.key.B) text).bind fun xh=>
    XaU (decide ((0:Int)≤i∧i<(1:Int))) <|
    cond (i.toNat==0)
     (
     (Xas xh (s.rows.m0:Int)).bind fun s1=>
     some (s1))
     (
     none))))
def XrT (x:Int):Xdj:=⟨.int .i64 x,[],[none,none,none,none,none,none,none,none,none,none]⟩
abbrev Xdw:=XaH→Int→(List UInt8)→Option Int
def XiE (g:Xdw):Dec:=dTr 10 (XbX 0) fun (y0:XaH)=>dV (asI .i64) fun (y1:Int)=>dV asS fun (y2:List UInt8)=>Xfq (ofG (g y0 y1 y2) XrT)
theorem XBk {g:Xdw} {y0:XaH} {y1:Int} {y2:List UInt8} {x:Int} (hx:g y0 y1 y2=some x):XiE g [.pointer (some ⟨0,0,none⟩),.int .i64 y1,.string ⟨⟨y2⟩⟩] [some [.int .u64 y0.key.A,.int .u64 y0.key.B,.slice (some ⟨1,0,none⟩) 1 1,.int .i64 y0.total],some [.slice (some ⟨2,0,none⟩) y0.rows.m0 1],some (vI .i64 y0.rows.e0),none,none,none,none,none,none,none]=some (XrT x):=(Xcx rfl rfl (XeP 0 _)).trans ((XcF (XgS _)).trans ((XcF (Xg1)).trans (Xbx hx)))
abbrev XwE (Xas:Xbb) (XaW:Xbh) (Xaa:Xaf):List (Nat×Xc3):=[(46,s46 Xas),(47,s47 XaW),(38,s38 Xaa)]
theorem Xuu (Xas:Xbb) (XaW:Xbh) (Xaa:Xaf) (hS:XaL Try.prog (XaY (XwE Xas XaW Xaa))) (s:XaH) (i:Int) (text:List UInt8) (res:Int) (h:Xem Xas XaW Xaa s i text=some res) :
 Xa0 Try.prog 20 10 ⟨⟨20,50,[(0,.pointer (some ⟨0,0,none⟩)),(1,.int .i64 i),(2,.string ⟨⟨text⟩⟩)],[.code Xkt],[],false,none⟩,[],[(0,.row false [.int .u64 s.key.A,.int .u64 s.key.B,.slice (some ⟨1,0,none⟩) 1 1,.int .i64 s.total]),(1,.row false [.slice (some ⟨2,0,none⟩) s.rows.m0 1]),(2,.row false (vI .i64 s.rows.e0))],10⟩ (fun v H _=>Res 10 (XrT res) v H):=by
 unfold Xem at h
 have R1:=@XlV XaW
 have R2:=@Xl6 Xas
 refine Xa1 XaJ hS true 3000 ?_
 conv=>whnf
 replace h:=XaK.elim h;obtain ⟨x1,hy,h⟩:=h
 refine Xbn.XaO [] (Xar («as»:=[.pointer (some ⟨0,0,none⟩)]) (ws:=[.blk 0 false,.blk 1 false,.blk 2 false,.no,.no,.no,.no,.no,.no,.no]) (n:=0) (m:=0) (t':=10) (Xam (Xa6 rfl rfl (Xai rfl rfl rfl rfl (Xai rfl rfl rfl rfl (Xai rfl rfl (Xat) rfl (Xan (Xan (Xan (Xan (Xan (Xan (Xan XaR)))))))))) rfl) rfl XaP) rfl (by rfl) (XjX hy) rfl rfl rfl rfl (Xab rfl (Xab rfl (Xab rfl (Xab rfl (Xab rfl (Xab rfl (Xab rfl (Xab rfl (Xab rfl (Xab rfl XaN)))))))))) XaM rfl) ?_
 conv=>whnf
 exact W
def Xeo (Xas:Xbb) (XaW:Xbh) (Xaa:Xaf) (s:XaG) (i:Int) (text:List UInt8):Option Int:=
 (Xaa.v2 s).bind fun x2=>
 cond (!x2)
  (
  some ((-1)))
  (
  cond (decide (i<0))
   (
   some ((-1)))
   (
   cond (decide (i≥2))
    (
    some ((-1)))
    (
    (XaW (XaD.mk (wI .u64 (s.key.A+(wI .u64 i))) s.key.B) text).bind fun xh=>
    XaU (decide ((0:Int)≤i∧i<(2:Int))) <|
    cond (i.toNat==0)
     (
     (Xas xh (s.rows.m0:Int)).bind fun s1=>
     some (s1))
     (
     cond (i.toNat==1)
      (
      (Xas xh (s.rows.m1:Int)).bind fun s2=>
      some (s2))
      (
      none)))))
def Xrm (x:Int):Xdj:=⟨.int .i64 x,[],[none,none,none,none,none,none,none,none,none,none]⟩
abbrev Xdo:=XaG→Int→(List UInt8)→Option Int
def Xhw (g:Xdo):Dec:=dTr 10 (Xb4 0) fun (y0:XaG)=>dV (asI .i64) fun (y1:Int)=>dV asS fun (y2:List UInt8)=>Xfq (ofG (g y0 y1 y2) Xrm)
theorem XAN {g:Xdo} {y0:XaG} {y1:Int} {y2:List UInt8} {x:Int} (hx:g y0 y1 y2=some x):Xhw g [.pointer (some ⟨0,0,none⟩),.int .i64 y1,.string ⟨⟨y2⟩⟩] [some [.int .u64 y0.key.A,.int .u64 y0.key.B,.slice (some ⟨1,0,none⟩) 2 1,.int .i64 y0.total],some [.slice (some ⟨2,0,none⟩) y0.rows.m0 1,.slice (some ⟨3,0,none⟩) y0.rows.m1 1],some (vI .i64 y0.rows.e0),some (vI .i64 y0.rows.e1),none,none,none,none,none,none]=some (Xrm x):=(Xcx rfl rfl (XeE 0 _)).trans ((XcF (XgS _)).trans ((XcF (Xg1)).trans (Xbx hx)))
abbrev Xxd (Xas:Xbb) (XaW:Xbh) (Xaa:Xaf):List (Nat×Xc3):=[(46,s46 Xas),(47,s47 XaW),(38,s38 Xaa)]
theorem XvE (Xas:Xbb) (XaW:Xbh) (Xaa:Xaf) (hS:XaL Try.prog (XaY (Xxd Xas XaW Xaa))) (s:XaG) (i:Int) (text:List UInt8) (res:Int) (h:Xeo Xas XaW Xaa s i text=some res) :
 Xa0 Try.prog 20 10 ⟨⟨20,50,[(0,.pointer (some ⟨0,0,none⟩)),(1,.int .i64 i),(2,.string ⟨⟨text⟩⟩)],[.code Xkt],[],false,none⟩,[],[(0,.row false [.int .u64 s.key.A,.int .u64 s.key.B,.slice (some ⟨1,0,none⟩) 2 1,.int .i64 s.total]),(1,.row false [.slice (some ⟨2,0,none⟩) s.rows.m0 1,.slice (some ⟨3,0,none⟩) s.rows.m1 1]),(2,.row false (vI .i64 s.rows.e0)),(3,.row false (vI .i64 s.rows.e1))],10⟩ (fun v H _=>Res 10 (Xrm res) v H):=by
 unfold Xeo at h
 have R1:=@XlV XaW
 have R2:=@Xl6 Xas
 refine Xa1 XaJ hS true 3000 ?_
 conv=>whnf
 replace h:=XaK.elim h;obtain ⟨x2,hy,h⟩:=h
 refine Xbn.XaO [] (Xar («as»:=[.pointer (some ⟨0,0,none⟩)]) (ws:=[.blk 0 false,.blk 1 false,.blk 2 false,.blk 3 false,.no,.no,.no,.no,.no,.no]) (n:=0) (m:=0) (t':=10) (Xam (Xa6 rfl rfl (Xai rfl rfl rfl rfl (Xai rfl rfl rfl rfl (Xai rfl rfl (Xat) rfl (Xai rfl rfl (Xat) rfl (Xan (Xan (Xan (Xan (Xan (Xan XaR)))))))))) rfl) rfl XaP) rfl (by rfl) (Xj2 hy) rfl rfl rfl rfl (Xab rfl (Xab rfl (Xab rfl (Xab rfl (Xab rfl (Xab rfl (Xab rfl (Xab rfl (Xab rfl (Xab rfl XaN)))))))))) XaM rfl) ?_
 conv=>whnf
 exact W
def Xd4 (Xas:Xbb) (XaW:Xbh) (Xaa:Xaf) (s:XaF) (i:Int) (text:List UInt8):Option Int:=
 (Xaa.v3 s).bind fun x3=>
 cond (!x3)
  (
  some ((-1)))
  (
  cond (decide (i<0))
   (
   some ((-1)))
   (
   cond (decide (i≥3))
    (
    some ((-1)))
    (
    (XaW (XaD.mk (wI .u64 (s.key.A+(wI .u64 i))) s.key.B) text).bind fun xh=>
    XaU (decide ((0:Int)≤i∧i<(3:Int))) <|
    cond (i.toNat==0)
     (
     (Xas xh (s.rows.m0:Int)).bind fun s1=>
     some (s1))
     (
     cond (i.toNat==1)
      (
      (Xas xh (s.rows.m1:Int)).bind fun s2=>
      some (s2))
      (
      cond (i.toNat==2)
       (
       (Xas xh (s.rows.m2:Int)).bind fun s3=>
       some (s3))
       (
       none))))))
def XrD (x:Int):Xdj:=⟨.int .i64 x,[],[none,none,none,none,none,none,none,none,none,none]⟩
abbrev XdL:=XaF→Int→(List UInt8)→Option Int
def XgE (g:XdL):Dec:=dTr 10 (XbW 0) fun (y0:XaF)=>dV (asI .i64) fun (y1:Int)=>dV asS fun (y2:List UInt8)=>Xfq (ofG (g y0 y1 y2) XrD)
theorem Xzq {g:XdL} {y0:XaF} {y1:Int} {y2:List UInt8} {x:Int} (hx:g y0 y1 y2=some x):XgE g [.pointer (some ⟨0,0,none⟩),.int .i64 y1,.string ⟨⟨y2⟩⟩] [some [.int .u64 y0.key.A,.int .u64 y0.key.B,.slice (some ⟨1,0,none⟩) 3 1,.int .i64 y0.total],some [.slice (some ⟨2,0,none⟩) y0.rows.m0 1,.slice (some ⟨3,0,none⟩) y0.rows.m1 1,.slice (some ⟨4,0,none⟩) y0.rows.m2 1],some (vI .i64 y0.rows.e0),some (vI .i64 y0.rows.e1),some (vI .i64 y0.rows.e2),none,none,none,none,none]=some (XrD x):=(Xcx rfl rfl (XeM 0 _)).trans ((XcF (XgS _)).trans ((XcF (Xg1)).trans (Xbx hx)))
abbrev XxC (Xas:Xbb) (XaW:Xbh) (Xaa:Xaf):List (Nat×Xc3):=[(46,s46 Xas),(47,s47 XaW),(38,s38 Xaa)]
theorem XtN (Xas:Xbb) (XaW:Xbh) (Xaa:Xaf) (hS:XaL Try.prog (XaY (XxC Xas XaW Xaa))) (s:XaF) (i:Int) (text:List UInt8) (res:Int) (h:Xd4 Xas XaW Xaa s i text=some res) :
 Xa0 Try.prog 20 10 ⟨⟨20,50,[(0,.pointer (some ⟨0,0,none⟩)),(1,.int .i64 i),(2,.string ⟨⟨text⟩⟩)],[.code Xkt],[],false,none⟩,[],[(0,.row false [.int .u64 s.key.A,.int .u64 s.key.B,.slice (some ⟨1,0,none⟩) 3 1,.int .i64 s.total]),(1,.row false [.slice (some ⟨2,0,none⟩) s.rows.m0 1,.slice (some ⟨3,0,none⟩) s.rows.m1 1,.slice (some ⟨4,0,none⟩) s.rows.m2 1]),(2,.row false (vI .i64 s.rows.e0)),(3,.row false (vI .i64 s.rows.e1)),(4,.row false (vI .i64 s.rows.e2))],10⟩ (fun v H _=>Res 10 (XrD res) v H):=by
 unfold Xd4 at h
 have R1:=@XlV XaW
 have R2:=@Xl6 Xas
 refine Xa1 XaJ hS true 3000 ?_
 conv=>whnf
 replace h:=XaK.elim h;obtain ⟨x3,hy,h⟩:=h
 refine Xbn.XaO [] (Xar («as»:=[.pointer (some ⟨0,0,none⟩)]) (ws:=[.blk 0 false,.blk 1 false,.blk 2 false,.blk 3 false,.blk 4 false,.no,.no,.no,.no,.no]) (n:=0) (m:=0) (t':=10) (Xam (Xa6 rfl rfl (Xai rfl rfl rfl rfl (Xai rfl rfl rfl rfl (Xai rfl rfl (Xat) rfl (Xai rfl rfl (Xat) rfl (Xai rfl rfl (Xat) rfl (Xan (Xan (Xan (Xan (Xan XaR)))))))))) rfl) rfl XaP) rfl (by rfl) (Xj6 hy) rfl rfl rfl rfl (Xab rfl (Xab rfl (Xab rfl (Xab rfl (Xab rfl (Xab rfl (Xab rfl (Xab rfl (Xab rfl (Xab rfl XaN)))))))))) XaM rfl) ?_
 conv=>whnf
 exact W
def Xek (Xas:Xbb) (XaW:Xbh) (Xaa:Xaf) (s:XaC) (i:Int) (text:List UInt8):Option Int:=
 (Xaa.v4 s).bind fun x4=>
 cond (!x4)
  (
  some ((-1)))
  (
  cond (decide (i<0))
   (
   some ((-1)))
   (
   cond (decide (i≥4))
    (
    some ((-1)))
    (
    (XaW (XaD.mk (wI .u64 (s.key.A+(wI .u64 i))) s.key.B) text).bind fun xh=>
    XaU (decide ((0:Int)≤i∧i<(4:Int))) <|
    cond (i.toNat==0)
     (
     (Xas xh (s.rows.m0:Int)).bind fun s1=>
     some (s1))
     (
     cond (i.toNat==1)
      (
      (Xas xh (s.rows.m1:Int)).bind fun s2=>
      some (s2))
      (
      cond (i.toNat==2)
       (
       (Xas xh (s.rows.m2:Int)).bind fun s3=>
       some (s3))
       (
       cond (i.toNat==3)
        (
        (Xas xh (s.rows.m3:Int)).bind fun s4=>
        some (s4))
        (
        none)))))))
def XrA (x:Int):Xdj:=⟨.int .i64 x,[],[none,none,none,none,none,none,none,none,none,none]⟩
abbrev XdH:=XaC→Int→(List UInt8)→Option Int
def XfW (g:XdH):Dec:=dTr 10 (Xb2 0) fun (y0:XaC)=>dV (asI .i64) fun (y1:Int)=>dV asS fun (y2:List UInt8)=>Xfq (ofG (g y0 y1 y2) XrA)
theorem XBu {g:XdH} {y0:XaC} {y1:Int} {y2:List UInt8} {x:Int} (hx:g y0 y1 y2=some x):XfW g [.pointer (some ⟨0,0,none⟩),.int .i64 y1,.string ⟨⟨y2⟩⟩] [some [.int .u64 y0.key.A,.int .u64 y0.key.B,.slice (some ⟨1,0,none⟩) 4 1,.int .i64 y0.total],some [.slice (some ⟨2,0,none⟩) y0.rows.m0 1,.slice (some ⟨3,0,none⟩) y0.rows.m1 1,.slice (some ⟨4,0,none⟩) y0.rows.m2 1,.slice (some ⟨5,0,none⟩) y0.rows.m3 1],some (vI .i64 y0.rows.e0),some (vI .i64 y0.rows.e1),some (vI .i64 y0.rows.e2),some (vI .i64 y0.rows.e3),none,none,none,none]=some (XrA x):=(Xcx rfl rfl (XeL 0 _)).trans ((XcF (XgS _)).trans ((XcF (Xg1)).trans (Xbx hx)))
abbrev Xxn (Xas:Xbb) (XaW:Xbh) (Xaa:Xaf):List (Nat×Xc3):=[(46,s46 Xas),(47,s47 XaW),(38,s38 Xaa)]
theorem Xut (Xas:Xbb) (XaW:Xbh) (Xaa:Xaf) (hS:XaL Try.prog (XaY (Xxn Xas XaW Xaa))) (s:XaC) (i:Int) (text:List UInt8) (res:Int) (h:Xek Xas XaW Xaa s i text=some res) :
 Xa0 Try.prog 20 10 ⟨⟨20,50,[(0,.pointer (some ⟨0,0,none⟩)),(1,.int .i64 i),(2,.string ⟨⟨text⟩⟩)],[.code Xkt],[],false,none⟩,[],[(0,.row false [.int .u64 s.key.A,.int .u64 s.key.B,.slice (some ⟨1,0,none⟩) 4 1,.int .i64 s.total]),(1,.row false [.slice (some ⟨2,0,none⟩) s.rows.m0 1,.slice (some ⟨3,0,none⟩) s.rows.m1 1,.slice (some ⟨4,0,none⟩) s.rows.m2 1,.slice (some ⟨5,0,none⟩) s.rows.m3 1]),(2,.row false (vI .i64 s.rows.e0)),(3,.row false (vI .i64 s.rows.e1)),(4,.row false (vI .i64 s.rows.e2)),(5,.row false (vI .i64 s.rows.e3))],10⟩ (fun v H _=>Res 10 (XrA res) v H):=by
 unfold Xek at h
 have R1:=@XlV XaW
 have R2:=@Xl6 Xas
 refine Xa1 XaJ hS true 3000 ?_
 conv=>whnf
 replace h:=XaK.elim h;obtain ⟨x4,hy,h⟩:=h
 refine Xbn.XaO [] (Xar («as»:=[.pointer (some ⟨0,0,none⟩)]) (ws:=[.blk 0 false,.blk 1 false,.blk 2 false,.blk 3 false,.blk 4 false,.blk 5 false,.no,.no,.no,.no]) (n:=0) (m:=0) (t':=10) (Xam (Xa6 rfl rfl (Xai rfl rfl rfl rfl (Xai rfl rfl rfl rfl (Xai rfl rfl (Xat) rfl (Xai rfl rfl (Xat) rfl (Xai rfl rfl (Xat) rfl (Xai rfl rfl (Xat) rfl (Xan (Xan (Xan (Xan XaR)))))))))) rfl) rfl XaP) rfl (by rfl) (Xkd hy) rfl rfl rfl rfl (Xab rfl (Xab rfl (Xab rfl (Xab rfl (Xab rfl (Xab rfl (Xab rfl (Xab rfl (Xab rfl (Xab rfl XaN)))))))))) XaM rfl) ?_
 conv=>whnf
 exact W
def Xea (Xas:Xbb) (XaW:Xbh) (Xaa:Xaf) (s:XaB) (i:Int) (text:List UInt8):Option Int:=
 (Xaa.v5 s).bind fun x5=>
 cond (!x5)
  (
  some ((-1)))
  (
  cond (decide (i<0))
   (
   some ((-1)))
   (
   cond (decide (i≥5))
    (
    some ((-1)))
    (
    (XaW (XaD.mk (wI .u64 (s.key.A+(wI .u64 i))) s.key.B) text).bind fun xh=>
    XaU (decide ((0:Int)≤i∧i<(5:Int))) <|
    cond (i.toNat==0)
     (
     (Xas xh (s.rows.m0:Int)).bind fun s1=>
     some (s1))
     (
     cond (i.toNat==1)
      (
      (Xas xh (s.rows.m1:Int)).bind fun s2=>
      some (s2))
      (
      cond (i.toNat==2)
       (
       (Xas xh (s.rows.m2:Int)).bind fun s3=>
       some (s3))
       (
       cond (i.toNat==3)
        (
        (Xas xh (s.rows.m3:Int)).bind fun s4=>
        some (s4))
        (
        cond (i.toNat==4)
         (
         (Xas xh (s.rows.m4:Int)).bind fun s5=>
         some (s5))
         (
         none))))))))
def XrN (x:Int):Xdj:=⟨.int .i64 x,[],[none,none,none,none,none,none,none,none,none,none]⟩
abbrev Xdg:=XaB→Int→(List UInt8)→Option Int
def Xff (g:Xdg):Dec:=dTr 10 (Xb1 0) fun (y0:XaB)=>dV (asI .i64) fun (y1:Int)=>dV asS fun (y2:List UInt8)=>Xfq (ofG (g y0 y1 y2) XrN)
theorem XzJ {g:Xdg} {y0:XaB} {y1:Int} {y2:List UInt8} {x:Int} (hx:g y0 y1 y2=some x):Xff g [.pointer (some ⟨0,0,none⟩),.int .i64 y1,.string ⟨⟨y2⟩⟩] [some [.int .u64 y0.key.A,.int .u64 y0.key.B,.slice (some ⟨1,0,none⟩) 5 1,.int .i64 y0.total],some [.slice (some ⟨2,0,none⟩) y0.rows.m0 1,.slice (some ⟨3,0,none⟩) y0.rows.m1 1,.slice (some ⟨4,0,none⟩) y0.rows.m2 1,.slice (some ⟨5,0,none⟩) y0.rows.m3 1,.slice (some ⟨6,0,none⟩) y0.rows.m4 1],some (vI .i64 y0.rows.e0),some (vI .i64 y0.rows.e1),some (vI .i64 y0.rows.e2),some (vI .i64 y0.rows.e3),some (vI .i64 y0.rows.e4),none,none,none]=some (XrN x):=(Xcx rfl rfl (XeR 0 _)).trans ((XcF (XgS _)).trans ((XcF (Xg1)).trans (Xbx hx)))
abbrev Xx0 (Xas:Xbb) (XaW:Xbh) (Xaa:Xaf):List (Nat×Xc3):=[(46,s46 Xas),(47,s47 XaW),(38,s38 Xaa)]
theorem Xte (Xas:Xbb) (XaW:Xbh) (Xaa:Xaf) (hS:XaL Try.prog (XaY (Xx0 Xas XaW Xaa))) (s:XaB) (i:Int) (text:List UInt8) (res:Int) (h:Xea Xas XaW Xaa s i text=some res) :
 Xa0 Try.prog 20 10 ⟨⟨20,50,[(0,.pointer (some ⟨0,0,none⟩)),(1,.int .i64 i),(2,.string ⟨⟨text⟩⟩)],[.code Xkt],[],false,none⟩,[],[(0,.row false [.int .u64 s.key.A,.int .u64 s.key.B,.slice (some ⟨1,0,none⟩) 5 1,.int .i64 s.total]),(1,.row false [.slice (some ⟨2,0,none⟩) s.rows.m0 1,.slice (some ⟨3,0,none⟩) s.rows.m1 1,.slice (some ⟨4,0,none⟩) s.rows.m2 1,.slice (some ⟨5,0,none⟩) s.rows.m3 1,.slice (some ⟨6,0,none⟩) s.rows.m4 1]),(2,.row false (vI .i64 s.rows.e0)),(3,.row false (vI .i64 s.rows.e1)),(4,.row false (vI .i64 s.rows.e2)),(5,.row false (vI .i64 s.rows.e3)),(6,.row false (vI .i64 s.rows.e4))],10⟩ (fun v H _=>Res 10 (XrN res) v H):=by
 unfold Xea at h
 have R1:=@XlV XaW
 have R2:=@Xl6 Xas
 refine Xa1 XaJ hS true 3000 ?_
 conv=>whnf
 replace h:=XaK.elim h;obtain ⟨x5,hy,h⟩:=h
 refine Xbn.XaO [] (Xar («as»:=[.pointer (some ⟨0,0,none⟩)]) (ws:=[.blk 0 false,.blk 1 false,.blk 2 false,.blk 3 false,.blk 4 false,.blk 5 false,.blk 6 false,.no,.no,.no]) (n:=0) (m:=0) (t':=10) (Xam (Xa6 rfl rfl (Xai rfl rfl rfl rfl (Xai rfl rfl rfl rfl (Xai rfl rfl (Xat) rfl (Xai rfl rfl (Xat) rfl (Xai rfl rfl (Xat) rfl (Xai rfl rfl (Xat) rfl (Xai rfl rfl (Xat) rfl (Xan (Xan (Xan XaR)))))))))) rfl) rfl XaP) rfl (by rfl) (Xkc hy) rfl rfl rfl rfl (Xab rfl (Xab rfl (Xab rfl (Xab rfl (Xab rfl (Xab rfl (Xab rfl (Xab rfl (Xab rfl (Xab rfl XaN)))))))))) XaM rfl) ?_
 conv=>whnf
 exact W
def Xen (Xas:Xbb) (XaW:Xbh) (Xaa:Xaf) (s:Xay) (i:Int) (text:List UInt8):Option Int:=
 (Xaa.v6 s).bind fun x6=>
 cond (!x6)
  (
  some ((-1)))
  (
  cond (decide (i<0))
   (
   some ((-1)))
   (
   cond (decide (i≥6))
    (
    some ((-1)))
    (
    (XaW (XaD.mk (wI .u64 (s.key.A+(wI .u64 i))) s.key.B) text).bind fun xh=>
    XaU (decide ((0:Int)≤i∧i<(6:Int))) <|
    cond (i.toNat==0)
     (
     (Xas xh (s.rows.m0:Int)).bind fun s1=>
     some (s1))
     (
     cond (i.toNat==1)
      (
      (Xas xh (s.rows.m1:Int)).bind fun s2=>
      some (s2))
      (
      cond (i.toNat==2)
       (
       (Xas xh (s.rows.m2:Int)).bind fun s3=>
       some (s3))
       (
       cond (i.toNat==3)
        (
        (Xas xh (s.rows.m3:Int)).bind fun s4=>
        some (s4))
        (
        cond (i.toNat==4)
         (
         (Xas xh (s.rows.m4:Int)).bind fun s5=>
         some (s5))
         (
         cond (i.toNat==5)
          (
          (Xas xh (s.rows.m5:Int)).bind fun s6=>
          some (s6))
          (
          none)))))))))
def XqB (x:Int):Xdj:=⟨.int .i64 x,[],[none,none,none,none,none,none,none,none,none,none]⟩
abbrev Xdd:=Xay→Int→(List UInt8)→Option Int
def XeI (g:Xdd):Dec:=dTr 10 (XbY 0) fun (y0:Xay)=>dV (asI .i64) fun (y1:Int)=>dV asS fun (y2:List UInt8)=>Xfq (ofG (g y0 y1 y2) XqB)
theorem XBq {g:Xdd} {y0:Xay} {y1:Int} {y2:List UInt8} {x:Int} (hx:g y0 y1 y2=some x):XeI g [.pointer (some ⟨0,0,none⟩),.int .i64 y1,.string ⟨⟨y2⟩⟩] [some [.int .u64 y0.key.A,.int .u64 y0.key.B,.slice (some ⟨1,0,none⟩) 6 1,.int .i64 y0.total],some [.slice (some ⟨2,0,none⟩) y0.rows.m0 1,.slice (some ⟨3,0,none⟩) y0.rows.m1 1,.slice (some ⟨4,0,none⟩) y0.rows.m2 1,.slice (some ⟨5,0,none⟩) y0.rows.m3 1,.slice (some ⟨6,0,none⟩) y0.rows.m4 1,.slice (some ⟨7,0,none⟩) y0.rows.m5 1],some (vI .i64 y0.rows.e0),some (vI .i64 y0.rows.e1),some (vI .i64 y0.rows.e2),some (vI .i64 y0.rows.e3),some (vI .i64 y0.rows.e4),some (vI .i64 y0.rows.e5),none,none]=some (XqB x):=(Xcx rfl rfl (XeO 0 _)).trans ((XcF (XgS _)).trans ((XcF (Xg1)).trans (Xbx hx)))
abbrev Xx9 (Xas:Xbb) (XaW:Xbh) (Xaa:Xaf):List (Nat×Xc3):=[(46,s46 Xas),(47,s47 XaW),(38,s38 Xaa)]
theorem XtW (Xas:Xbb) (XaW:Xbh) (Xaa:Xaf) (hS:XaL Try.prog (XaY (Xx9 Xas XaW Xaa))) (s:Xay) (i:Int) (text:List UInt8) (res:Int) (h:Xen Xas XaW Xaa s i text=some res) :
 Xa0 Try.prog 20 10 ⟨⟨20,50,[(0,.pointer (some ⟨0,0,none⟩)),(1,.int .i64 i),(2,.string ⟨⟨text⟩⟩)],[.code Xkt],[],false,none⟩,[],[(0,.row false [.int .u64 s.key.A,.int .u64 s.key.B,.slice (some ⟨1,0,none⟩) 6 1,.int .i64 s.total]),(1,.row false [.slice (some ⟨2,0,none⟩) s.rows.m0 1,.slice (some ⟨3,0,none⟩) s.rows.m1 1,.slice (some ⟨4,0,none⟩) s.rows.m2 1,.slice (some ⟨5,0,none⟩) s.rows.m3 1,.slice (some ⟨6,0,none⟩) s.rows.m4 1,.slice (some ⟨7,0,none⟩) s.rows.m5 1]),(2,.row false (vI .i64 s.rows.e0)),(3,.row false (vI .i64 s.rows.e1)),(4,.row false (vI .i64 s.rows.e2)),(5,.row false (vI .i64 s.rows.e3)),(6,.row false (vI .i64 s.rows.e4)),(7,.row false (vI .i64 s.rows.e5))],10⟩ (fun v H _=>Res 10 (XqB res) v H):=by
 unfold Xen at h
 have R1:=@XlV XaW
 have R2:=@Xl6 Xas
 refine Xa1 XaJ hS true 3000 ?_
 conv=>whnf
 replace h:=XaK.elim h;obtain ⟨x6,hy,h⟩:=h
 refine Xbn.XaO [] (Xar («as»:=[.pointer (some ⟨0,0,none⟩)]) (ws:=[.blk 0 false,.blk 1 false,.blk 2 false,.blk 3 false,.blk 4 false,.blk 5 false,.blk 6 false,.blk 7 false,.no,.no]) (n:=0) (m:=0) (t':=10) (Xam (Xa6 rfl rfl (Xai rfl rfl rfl rfl (Xai rfl rfl rfl rfl (Xai rfl rfl (Xat) rfl (Xai rfl rfl (Xat) rfl (Xai rfl rfl (Xat) rfl (Xai rfl rfl (Xat) rfl (Xai rfl rfl (Xat) rfl (Xai rfl rfl (Xat) rfl (Xan (Xan XaR)))))))))) rfl) rfl XaP) rfl (by rfl) (Xj8 hy) rfl rfl rfl rfl (Xab rfl (Xab rfl (Xab rfl (Xab rfl (Xab rfl (Xab rfl (Xab rfl (Xab rfl (Xab rfl (Xab rfl XaN)))))))))) XaM rfl) ?_
 conv=>whnf
 exact W
def Xed (Xas:Xbb) (XaW:Xbh) (Xaa:Xaf) (s:Xaw) (i:Int) (text:List UInt8):Option Int:=
 (Xaa.v7 s).bind fun x7=>
 cond (!x7)
  (
  some ((-1)))
  (
  cond (decide (i<0))
   (
   some ((-1)))
   (
   cond (decide (i≥7))
    (
    some ((-1)))
    (
    (XaW (XaD.mk (wI .u64 (s.key.A+(wI .u64 i))) s.key.B) text).bind fun xh=>
    XaU (decide ((0:Int)≤i∧i<(7:Int))) <|
    cond (i.toNat==0)
     (
     (Xas xh (s.rows.m0:Int)).bind fun s1=>
     some (s1))
     (
     cond (i.toNat==1)
      (
      (Xas xh (s.rows.m1:Int)).bind fun s2=>
      some (s2))
      (
      cond (i.toNat==2)
       (
       (Xas xh (s.rows.m2:Int)).bind fun s3=>
       some (s3))
       (
       cond (i.toNat==3)
        (
        (Xas xh (s.rows.m3:Int)).bind fun s4=>
        some (s4))
        (
        cond (i.toNat==4)
         (
         (Xas xh (s.rows.m4:Int)).bind fun s5=>
         some (s5))
         (
         cond (i.toNat==5)
          (
          (Xas xh (s.rows.m5:Int)).bind fun s6=>
          some (s6))
          (
          cond (i.toNat==6)
           (
           (Xas xh (s.rows.m6:Int)).bind fun s7=>
           some (s7))
           (
           none))))))))))
def Xrp (x:Int):Xdj:=⟨.int .i64 x,[],[none,none,none,none,none,none,none,none,none,none]⟩
abbrev XdI:=Xaw→Int→(List UInt8)→Option Int
def Xeu (g:XdI):Dec:=dTr 10 (Xb0 0) fun (y0:Xaw)=>dV (asI .i64) fun (y1:Int)=>dV asS fun (y2:List UInt8)=>Xfq (ofG (g y0 y1 y2) Xrp)
theorem XB0 {g:XdI} {y0:Xaw} {y1:Int} {y2:List UInt8} {x:Int} (hx:g y0 y1 y2=some x):Xeu g [.pointer (some ⟨0,0,none⟩),.int .i64 y1,.string ⟨⟨y2⟩⟩] [some [.int .u64 y0.key.A,.int .u64 y0.key.B,.slice (some ⟨1,0,none⟩) 7 1,.int .i64 y0.total],some [.slice (some ⟨2,0,none⟩) y0.rows.m0 1,.slice (some ⟨3,0,none⟩) y0.rows.m1 1,.slice (some ⟨4,0,none⟩) y0.rows.m2 1,.slice (some ⟨5,0,none⟩) y0.rows.m3 1,.slice (some ⟨6,0,none⟩) y0.rows.m4 1,.slice (some ⟨7,0,none⟩) y0.rows.m5 1,.slice (some ⟨8,0,none⟩) y0.rows.m6 1],some (vI .i64 y0.rows.e0),some (vI .i64 y0.rows.e1),some (vI .i64 y0.rows.e2),some (vI .i64 y0.rows.e3),some (vI .i64 y0.rows.e4),some (vI .i64 y0.rows.e5),some (vI .i64 y0.rows.e6),none]=some (Xrp x):=(Xcx rfl rfl (XeS 0 _)).trans ((XcF (XgS _)).trans ((XcF (Xg1)).trans (Xbx hx)))
abbrev XvY (Xas:Xbb) (XaW:Xbh) (Xaa:Xaf):List (Nat×Xc3):=[(46,s46 Xas),(47,s47 XaW),(38,s38 Xaa)]
theorem Xu2 (Xas:Xbb) (XaW:Xbh) (Xaa:Xaf) (hS:XaL Try.prog (XaY (XvY Xas XaW Xaa))) (s:Xaw) (i:Int) (text:List UInt8) (res:Int) (h:Xed Xas XaW Xaa s i text=some res) :
 Xa0 Try.prog 20 10 ⟨⟨20,50,[(0,.pointer (some ⟨0,0,none⟩)),(1,.int .i64 i),(2,.string ⟨⟨text⟩⟩)],[.code Xkt],[],false,none⟩,[],[(0,.row false [.int .u64 s.key.A,.int .u64 s.key.B,.slice (some ⟨1,0,none⟩) 7 1,.int .i64 s.total]),(1,.row false [.slice (some ⟨2,0,none⟩) s.rows.m0 1,.slice (some ⟨3,0,none⟩) s.rows.m1 1,.slice (some ⟨4,0,none⟩) s.rows.m2 1,.slice (some ⟨5,0,none⟩) s.rows.m3 1,.slice (some ⟨6,0,none⟩) s.rows.m4 1,.slice (some ⟨7,0,none⟩) s.rows.m5 1,.slice (some ⟨8,0,none⟩) s.rows.m6 1]),(2,.row false (vI .i64 s.rows.e0)),(3,.row false (vI .i64 s.rows.e1)),(4,.row false (vI .i64 s.rows.e2)),(5,.row false (vI .i64 s.rows.e3)),(6,.row false (vI .i64 s.rows.e4)),(7,.row false (vI .i64 s.rows.e5)),(8,.row false (vI .i64 s.rows.e6))],10⟩ (fun v H _=>Res 10 (Xrp res) v H):=by
 unfold Xed at h
 have R1:=@XlV XaW
 have R2:=@Xl6 Xas
 refine Xa1 XaJ hS true 3000 ?_
 conv=>whnf
 replace h:=XaK.elim h;obtain ⟨x7,hy,h⟩:=h
 refine Xbn.XaO [] (Xar («as»:=[.pointer (some ⟨0,0,none⟩)]) (ws:=[.blk 0 false,.blk 1 false,.blk 2 false,.blk 3 false,.blk 4 false,.blk 5 false,.blk 6 false,.blk 7 false,.blk 8 false,.no]) (n:=0) (m:=0) (t':=10) (Xam (Xa6 rfl rfl (Xai rfl rfl rfl rfl (Xai rfl rfl rfl rfl (Xai rfl rfl (Xat) rfl (Xai rfl rfl (Xat) rfl (Xai rfl rfl (Xat) rfl (Xai rfl rfl (Xat) rfl (Xai rfl rfl (Xat) rfl (Xai rfl rfl (Xat) rfl (Xai rfl rfl (Xat) rfl (Xan XaR)))))))))) rfl) rfl XaP) rfl (by rfl) (Xj1 hy) rfl rfl rfl rfl (Xab rfl (Xab rfl (Xab rfl (Xab rfl (Xab rfl (Xab rfl (Xab rfl (Xab rfl (Xab rfl (Xab rfl XaN)))))))))) XaM rfl) ?_
 conv=>whnf
 exact W
def Xel (Xas:Xbb) (XaW:Xbh) (Xaa:Xaf) (s:Xav) (i:Int) (text:List UInt8):Option Int:=
 (Xaa.v8 s).bind fun x8=>
 cond (!x8)
  (
  some ((-1)))
  (
  cond (decide (i<0))
   (
   some ((-1)))
   (
   cond (decide (i≥8))
    (
    some ((-1)))
    (
    (XaW (XaD.mk (wI .u64 (s.key.A+(wI .u64 i))) s.key.B) text).bind fun xh=>
    XaU (decide ((0:Int)≤i∧i<(8:Int))) <|
    cond (i.toNat==0)
     (
     (Xas xh (s.rows.m0:Int)).bind fun s1=>
     some (s1))
     (
     cond (i.toNat==1)
      (
      (Xas xh (s.rows.m1:Int)).bind fun s2=>
      some (s2))
      (
      cond (i.toNat==2)
       (
       (Xas xh (s.rows.m2:Int)).bind fun s3=>
       some (s3))
       (
       cond (i.toNat==3)
        (
        (Xas xh (s.rows.m3:Int)).bind fun s4=>
        some (s4))
        (
        cond (i.toNat==4)
         (
         (Xas xh (s.rows.m4:Int)).bind fun s5=>
         some (s5))
         (
         cond (i.toNat==5)
          (
          (Xas xh (s.rows.m5:Int)).bind fun s6=>
          some (s6))
          (
          cond (i.toNat==6)
           (
           (Xas xh (s.rows.m6:Int)).bind fun s7=>
           some (s7))
           (
           cond (i.toNat==7)
            (
            (Xas xh (s.rows.m7:Int)).bind fun s8=>
            some (s8))
            (
            none)))))))))))
def Xrn (x:Int):Xdj:=⟨.int .i64 x,[],[none,none,none,none,none,none,none,none,none,none]⟩
abbrev Xdk:=Xav→Int→(List UInt8)→Option Int
def Xev (g:Xdk):Dec:=dTr 10 (Xb3 0) fun (y0:Xav)=>dV (asI .i64) fun (y1:Int)=>dV asS fun (y2:List UInt8)=>Xfq (ofG (g y0 y1 y2) Xrn)
theorem Xz8 {g:Xdk} {y0:Xav} {y1:Int} {y2:List UInt8} {x:Int} (hx:g y0 y1 y2=some x):Xev g [.pointer (some ⟨0,0,none⟩),.int .i64 y1,.string ⟨⟨y2⟩⟩] [some [.int .u64 y0.key.A,.int .u64 y0.key.B,.slice (some ⟨1,0,none⟩) 8 1,.int .i64 y0.total],some [.slice (some ⟨2,0,none⟩) y0.rows.m0 1,.slice (some ⟨3,0,none⟩) y0.rows.m1 1,.slice (some ⟨4,0,none⟩) y0.rows.m2 1,.slice (some ⟨5,0,none⟩) y0.rows.m3 1,.slice (some ⟨6,0,none⟩) y0.rows.m4 1,.slice (some ⟨7,0,none⟩) y0.rows.m5 1,.slice (some ⟨8,0,none⟩) y0.rows.m6 1,.slice (some ⟨9,0,none⟩) y0.rows.m7 1],some (vI .i64 y0.rows.e0),some (vI .i64 y0.rows.e1),some (vI .i64 y0.rows.e2),some (vI .i64 y0.rows.e3),some (vI .i64 y0.rows.e4),some (vI .i64 y0.rows.e5),some (vI .i64 y0.rows.e6),some (vI .i64 y0.rows.e7)]=some (Xrn x):=(Xcx rfl rfl (XeF 0 _)).trans ((XcF (XgS _)).trans ((XcF (Xg1)).trans (Xbx hx)))
abbrev Xws (Xas:Xbb) (XaW:Xbh) (Xaa:Xaf):List (Nat×Xc3):=[(46,s46 Xas),(47,s47 XaW),(38,s38 Xaa)]
theorem Xuq (Xas:Xbb) (XaW:Xbh) (Xaa:Xaf) (hS:XaL Try.prog (XaY (Xws Xas XaW Xaa))) (s:Xav) (i:Int) (text:List UInt8) (res:Int) (h:Xel Xas XaW Xaa s i text=some res) :
 Xa0 Try.prog 20 10 ⟨⟨20,50,[(0,.pointer (some ⟨0,0,none⟩)),(1,.int .i64 i),(2,.string ⟨⟨text⟩⟩)],[.code Xkt],[],false,none⟩,[],[(0,.row false [.int .u64 s.key.A,.int .u64 s.key.B,.slice (some ⟨1,0,none⟩) 8 1,.int .i64 s.total]),(1,.row false [.slice (some ⟨2,0,none⟩) s.rows.m0 1,.slice (some ⟨3,0,none⟩) s.rows.m1 1,.slice (some ⟨4,0,none⟩) s.rows.m2 1,.slice (some ⟨5,0,none⟩) s.rows.m3 1,.slice (some ⟨6,0,none⟩) s.rows.m4 1,.slice (some ⟨7,0,none⟩) s.rows.m5 1,.slice (some ⟨8,0,none⟩) s.rows.m6 1,.slice (some ⟨9,0,none⟩) s.rows.m7 1]),(2,.row false (vI .i64 s.rows.e0)),(3,.row false (vI .i64 s.rows.e1)),(4,.row false (vI .i64 s.rows.e2)),(5,.row false (vI .i64 s.rows.e3)),(6,.row false (vI .i64 s.rows.e4)),(7,.row false (vI .i64 s.rows.e5)),(8,.row false (vI .i64 s.rows.e6)),(9,.row false (vI .i64 s.rows.e7))],10⟩ (fun v H _=>Res 10 (Xrn res) v H):=by
 unfold Xel at h
 have R1:=@XlV XaW
 have R2:=@Xl6 Xas
 refine Xa1 XaJ hS true 3000 ?_
 conv=>whnf
 replace h:=XaK.elim h;obtain ⟨x8,hy,h⟩:=h
 refine Xbn.XaO [] (Xar («as»:=[.pointer (some ⟨0,0,none⟩)]) (ws:=[.blk 0 false,.blk 1 false,.blk 2 false,.blk 3 false,.blk 4 false,.blk 5 false,.blk 6 false,.blk 7 false,.blk 8 false,.blk 9 false]) (n:=0) (m:=0) (t':=10) (Xam (Xa6 rfl rfl (Xai rfl rfl rfl rfl (Xai rfl rfl rfl rfl (Xai rfl rfl (Xat) rfl (Xai rfl rfl (Xat) rfl (Xai rfl rfl (Xat) rfl (Xai rfl rfl (Xat) rfl (Xai rfl rfl (Xat) rfl (Xai rfl rfl (Xat) rfl (Xai rfl rfl (Xat) rfl (Xai rfl rfl (Xat) rfl XaR)))))))))) rfl) rfl XaP) rfl (by rfl) (Xj4 hy) rfl rfl rfl rfl (Xab rfl (Xab rfl (Xab rfl (Xab rfl (Xab rfl (Xab rfl (Xab rfl (Xab rfl (Xab rfl (Xab rfl XaN)))))))))) XaM rfl) ?_
 conv=>whnf
 exact W
structure Xaq where
 vn:XdA
 v1:Xdw
 v2:Xdo
 v3:XdL
 v4:XdH
 v5:Xdg
 v6:Xdd
 v7:XdI
 v8:Xdk
def s20 (g:Xaq):Xc3:=⟨[.tr [⟨none,0,0,0,none⟩,⟨some 0,2,0,0,none⟩,⟨some 1,0,0,0,none⟩,⟨some 1,1,0,0,none⟩,⟨some 1,2,0,0,none⟩,⟨some 1,3,0,0,none⟩,⟨some 1,4,0,0,none⟩,⟨some 1,5,0,0,none⟩,⟨some 1,6,0,0,none⟩,⟨some 1,7,0,0,none⟩],.v,.v],orD (XmD g.vn) (orD (XiE g.v1) (orD (Xhw g.v2) (orD (XgE g.v3) (orD (XfW g.v4) (orD (Xff g.v5) (orD (XeI g.v6) (orD (Xeu g.v7) (Xev g.v8))))))))⟩
theorem XrX {g:Xaq} {y1:Int} {y2:List UInt8} {x:Int} (hx:g.vn y1 y2=some x):(s20 g).run [.pointer none,.int .i64 y1,.string ⟨⟨y2⟩⟩] [none,none,none,none,none,none,none,none,none,none]=some (Xro x):=XeT (a:=XmD g.vn) (b:=orD (XiE g.v1) (orD (Xhw g.v2) (orD (XgE g.v3) (orD (XfW g.v4) (orD (Xff g.v5) (orD (XeI g.v6) (orD (Xeu g.v7) (Xev g.v8)))))))) (XAf hx)
theorem XrP {g:Xaq} {y0:XaH} {y1:Int} {y2:List UInt8} {x:Int} (hx:g.v1 y0 y1 y2=some x):(s20 g).run [.pointer (some ⟨0,0,none⟩),.int .i64 y1,.string ⟨⟨y2⟩⟩] [some [.int .u64 y0.key.A,.int .u64 y0.key.B,.slice (some ⟨1,0,none⟩) 1 1,.int .i64 y0.total],some [.slice (some ⟨2,0,none⟩) y0.rows.m0 1],some (vI .i64 y0.rows.e0),none,none,none,none,none,none,none]=some (XrT x):=XaZ (a:=XmD g.vn) (b:=orD (XiE g.v1) (orD (Xhw g.v2) (orD (XgE g.v3) (orD (XfW g.v4) (orD (Xff g.v5) (orD (XeI g.v6) (orD (Xeu g.v7) (Xev g.v8)))))))) rfl (XeT (a:=XiE g.v1) (b:=orD (Xhw g.v2) (orD (XgE g.v3) (orD (XfW g.v4) (orD (Xff g.v5) (orD (XeI g.v6) (orD (Xeu g.v7) (Xev g.v8))))))) (XBk hx))
theorem Xmj {g:Xaq} {y0:XaG} {y1:Int} {y2:List UInt8} {x:Int} (hx:g.v2 y0 y1 y2=some x):(s20 g).run [.pointer (some ⟨0,0,none⟩),.int .i64 y1,.string ⟨⟨y2⟩⟩] [some [.int .u64 y0.key.A,.int .u64 y0.key.B,.slice (some ⟨1,0,none⟩) 2 1,.int .i64 y0.total],some [.slice (some ⟨2,0,none⟩) y0.rows.m0 1,.slice (some ⟨3,0,none⟩) y0.rows.m1 1],some (vI .i64 y0.rows.e0),some (vI .i64 y0.rows.e1),none,none,none,none,none,none]=some (Xrm x):=XaZ (a:=XmD g.vn) (b:=orD (XiE g.v1) (orD (Xhw g.v2) (orD (XgE g.v3) (orD (XfW g.v4) (orD (Xff g.v5) (orD (XeI g.v6) (orD (Xeu g.v7) (Xev g.v8)))))))) rfl (XaZ (a:=XiE g.v1) (b:=orD (Xhw g.v2) (orD (XgE g.v3) (orD (XfW g.v4) (orD (Xff g.v5) (orD (XeI g.v6) (orD (Xeu g.v7) (Xev g.v8))))))) rfl (XeT (a:=Xhw g.v2) (b:=orD (XgE g.v3) (orD (XfW g.v4) (orD (Xff g.v5) (orD (XeI g.v6) (orD (Xeu g.v7) (Xev g.v8)))))) (XAN hx)))
theorem Xj5 {g:Xaq} {y0:XaF} {y1:Int} {y2:List UInt8} {x:Int} (hx:g.v3 y0 y1 y2=some x):(s20 g).run [.pointer (some ⟨0,0,none⟩),.int .i64 y1,.string ⟨⟨y2⟩⟩] [some [.int .u64 y0.key.A,.int .u64 y0.key.B,.slice (some ⟨1,0,none⟩) 3 1,.int .i64 y0.total],some [.slice (some ⟨2,0,none⟩) y0.rows.m0 1,.slice (some ⟨3,0,none⟩) y0.rows.m1 1,.slice (some ⟨4,0,none⟩) y0.rows.m2 1],some (vI .i64 y0.rows.e0),some (vI .i64 y0.rows.e1),some (vI .i64 y0.rows.e2),none,none,none,none,none]=some (XrD x):=XaZ (a:=XmD g.vn) (b:=orD (XiE g.v1) (orD (Xhw g.v2) (orD (XgE g.v3) (orD (XfW g.v4) (orD (Xff g.v5) (orD (XeI g.v6) (orD (Xeu g.v7) (Xev g.v8)))))))) rfl (XaZ (a:=XiE g.v1) (b:=orD (Xhw g.v2) (orD (XgE g.v3) (orD (XfW g.v4) (orD (Xff g.v5) (orD (XeI g.v6) (orD (Xeu g.v7) (Xev g.v8))))))) rfl (XaZ (a:=Xhw g.v2) (b:=orD (XgE g.v3) (orD (XfW g.v4) (orD (Xff g.v5) (orD (XeI g.v6) (orD (Xeu g.v7) (Xev g.v8)))))) rfl (XeT (a:=XgE g.v3) (b:=orD (XfW g.v4) (orD (Xff g.v5) (orD (XeI g.v6) (orD (Xeu g.v7) (Xev g.v8))))) (Xzq hx))))
theorem XhP {g:Xaq} {y0:XaC} {y1:Int} {y2:List UInt8} {x:Int} (hx:g.v4 y0 y1 y2=some x):(s20 g).run [.pointer (some ⟨0,0,none⟩),.int .i64 y1,.string ⟨⟨y2⟩⟩] [some [.int .u64 y0.key.A,.int .u64 y0.key.B,.slice (some ⟨1,0,none⟩) 4 1,.int .i64 y0.total],some [.slice (some ⟨2,0,none⟩) y0.rows.m0 1,.slice (some ⟨3,0,none⟩) y0.rows.m1 1,.slice (some ⟨4,0,none⟩) y0.rows.m2 1,.slice (some ⟨5,0,none⟩) y0.rows.m3 1],some (vI .i64 y0.rows.e0),some (vI .i64 y0.rows.e1),some (vI .i64 y0.rows.e2),some (vI .i64 y0.rows.e3),none,none,none,none]=some (XrA x):=XaZ (a:=XmD g.vn) (b:=orD (XiE g.v1) (orD (Xhw g.v2) (orD (XgE g.v3) (orD (XfW g.v4) (orD (Xff g.v5) (orD (XeI g.v6) (orD (Xeu g.v7) (Xev g.v8)))))))) rfl (XaZ (a:=XiE g.v1) (b:=orD (Xhw g.v2) (orD (XgE g.v3) (orD (XfW g.v4) (orD (Xff g.v5) (orD (XeI g.v6) (orD (Xeu g.v7) (Xev g.v8))))))) rfl (XaZ (a:=Xhw g.v2) (b:=orD (XgE g.v3) (orD (XfW g.v4) (orD (Xff g.v5) (orD (XeI g.v6) (orD (Xeu g.v7) (Xev g.v8)))))) rfl (XaZ (a:=XgE g.v3) (b:=orD (XfW g.v4) (orD (Xff g.v5) (orD (XeI g.v6) (orD (Xeu g.v7) (Xev g.v8))))) rfl (XeT (a:=XfW g.v4) (b:=orD (Xff g.v5) (orD (XeI g.v6) (orD (Xeu g.v7) (Xev g.v8)))) (XBu hx)))))
theorem Xhl {g:Xaq} {y0:XaB} {y1:Int} {y2:List UInt8} {x:Int} (hx:g.v5 y0 y1 y2=some x):(s20 g).run [.pointer (some ⟨0,0,none⟩),.int .i64 y1,.string ⟨⟨y2⟩⟩] [some [.int .u64 y0.key.A,.int .u64 y0.key.B,.slice (some ⟨1,0,none⟩) 5 1,.int .i64 y0.total],some [.slice (some ⟨2,0,none⟩) y0.rows.m0 1,.slice (some ⟨3,0,none⟩) y0.rows.m1 1,.slice (some ⟨4,0,none⟩) y0.rows.m2 1,.slice (some ⟨5,0,none⟩) y0.rows.m3 1,.slice (some ⟨6,0,none⟩) y0.rows.m4 1],some (vI .i64 y0.rows.e0),some (vI .i64 y0.rows.e1),some (vI .i64 y0.rows.e2),some (vI .i64 y0.rows.e3),some (vI .i64 y0.rows.e4),none,none,none]=some (XrN x):=XaZ (a:=XmD g.vn) (b:=orD (XiE g.v1) (orD (Xhw g.v2) (orD (XgE g.v3) (orD (XfW g.v4) (orD (Xff g.v5) (orD (XeI g.v6) (orD (Xeu g.v7) (Xev g.v8)))))))) rfl (XaZ (a:=XiE g.v1) (b:=orD (Xhw g.v2) (orD (XgE g.v3) (orD (XfW g.v4) (orD (Xff g.v5) (orD (XeI g.v6) (orD (Xeu g.v7) (Xev g.v8))))))) rfl (XaZ (a:=Xhw g.v2) (b:=orD (XgE g.v3) (orD (XfW g.v4) (orD (Xff g.v5) (orD (XeI g.v6) (orD (Xeu g.v7) (Xev g.v8)))))) rfl (XaZ (a:=XgE g.v3) (b:=orD (XfW g.v4) (orD (Xff g.v5) (orD (XeI g.v6) (orD (Xeu g.v7) (Xev g.v8))))) rfl (XaZ (a:=XfW g.v4) (b:=orD (Xff g.v5) (orD (XeI g.v6) (orD (Xeu g.v7) (Xev g.v8)))) rfl (XeT (a:=Xff g.v5) (b:=orD (XeI g.v6) (orD (Xeu g.v7) (Xev g.v8))) (XzJ hx))))))
theorem XgH {g:Xaq} {y0:Xay} {y1:Int} {y2:List UInt8} {x:Int} (hx:g.v6 y0 y1 y2=some x):(s20 g).run [.pointer (some ⟨0,0,none⟩),.int .i64 y1,.string ⟨⟨y2⟩⟩] [some [.int .u64 y0.key.A,.int .u64 y0.key.B,.slice (some ⟨1,0,none⟩) 6 1,.int .i64 y0.total],some [.slice (some ⟨2,0,none⟩) y0.rows.m0 1,.slice (some ⟨3,0,none⟩) y0.rows.m1 1,.slice (some ⟨4,0,none⟩) y0.rows.m2 1,.slice (some ⟨5,0,none⟩) y0.rows.m3 1,.slice (some ⟨6,0,none⟩) y0.rows.m4 1,.slice (some ⟨7,0,none⟩) y0.rows.m5 1],some (vI .i64 y0.rows.e0),some (vI .i64 y0.rows.e1),some (vI .i64 y0.rows.e2),some (vI .i64 y0.rows.e3),some (vI .i64 y0.rows.e4),some (vI .i64 y0.rows.e5),none,none]=some (XqB x):=XaZ (a:=XmD g.vn) (b:=orD (XiE g.v1) (orD (Xhw g.v2) (orD (XgE g.v3) (orD (XfW g.v4) (orD (Xff g.v5) (orD (XeI g.v6) (orD (Xeu g.v7) (Xev g.v8)))))))) rfl (XaZ (a:=XiE g.v1) (b:=orD (Xhw g.v2) (orD (XgE g.v3) (orD (XfW g.v4) (orD (Xff g.v5) (orD (XeI g.v6) (orD (Xeu g.v7) (Xev g.v8))))))) rfl (XaZ (a:=Xhw g.v2) (b:=orD (XgE g.v3) (orD (XfW g.v4) (orD (Xff g.v5) (orD (XeI g.v6) (orD (Xeu g.v7) (Xev g.v8)))))) rfl (XaZ (a:=XgE g.v3) (b:=orD (XfW g.v4) (orD (Xff g.v5) (orD (XeI g.v6) (orD (Xeu g.v7) (Xev g.v8))))) rfl (XaZ (a:=XfW g.v4) (b:=orD (Xff g.v5) (orD (XeI g.v6) (orD (Xeu g.v7) (Xev g.v8)))) rfl (XaZ (a:=Xff g.v5) (b:=orD (XeI g.v6) (orD (Xeu g.v7) (Xev g.v8))) rfl (XeT (a:=XeI g.v6) (b:=orD (Xeu g.v7) (Xev g.v8)) (XBq hx)))))))
theorem Xf2 {g:Xaq} {y0:Xaw} {y1:Int} {y2:List UInt8} {x:Int} (hx:g.v7 y0 y1 y2=some x):(s20 g).run [.pointer (some ⟨0,0,none⟩),.int .i64 y1,.string ⟨⟨y2⟩⟩] [some [.int .u64 y0.key.A,.int .u64 y0.key.B,.slice (some ⟨1,0,none⟩) 7 1,.int .i64 y0.total],some [.slice (some ⟨2,0,none⟩) y0.rows.m0 1,.slice (some ⟨3,0,none⟩) y0.rows.m1 1,.slice (some ⟨4,0,none⟩) y0.rows.m2 1,.slice (some ⟨5,0,none⟩) y0.rows.m3 1,.slice (some ⟨6,0,none⟩) y0.rows.m4 1,.slice (some ⟨7,0,none⟩) y0.rows.m5 1,.slice (some ⟨8,0,none⟩) y0.rows.m6 1],some (vI .i64 y0.rows.e0),some (vI .i64 y0.rows.e1),some (vI .i64 y0.rows.e2),some (vI .i64 y0.rows.e3),some (vI .i64 y0.rows.e4),some (vI .i64 y0.rows.e5),some (vI .i64 y0.rows.e6),none]=some (Xrp x):=XaZ (a:=XmD g.vn) (b:=orD (XiE g.v1) (orD (Xhw g.v2) (orD (XgE g.v3) (orD (XfW g.v4) (orD (Xff g.v5) (orD (XeI g.v6) (orD (Xeu g.v7) (Xev g.v8)))))))) rfl (XaZ (a:=XiE g.v1) (b:=orD (Xhw g.v2) (orD (XgE g.v3) (orD (XfW g.v4) (orD (Xff g.v5) (orD (XeI g.v6) (orD (Xeu g.v7) (Xev g.v8))))))) rfl (XaZ (a:=Xhw g.v2) (b:=orD (XgE g.v3) (orD (XfW g.v4) (orD (Xff g.v5) (orD (XeI g.v6) (orD (Xeu g.v7) (Xev g.v8)))))) rfl (XaZ (a:=XgE g.v3) (b:=orD (XfW g.v4) (orD (Xff g.v5) (orD (XeI g.v6) (orD (Xeu g.v7) (Xev g.v8))))) rfl (XaZ (a:=XfW g.v4) (b:=orD (Xff g.v5) (orD (XeI g.v6) (orD (Xeu g.v7) (Xev g.v8)))) rfl (XaZ (a:=Xff g.v5) (b:=orD (XeI g.v6) (orD (Xeu g.v7) (Xev g.v8))) rfl (XaZ (a:=XeI g.v6) (b:=orD (Xeu g.v7) (Xev g.v8)) rfl (XeT (a:=Xeu g.v7) (b:=Xev g.v8) (XB0 hx))))))))
theorem Xe1 {g:Xaq} {y0:Xav} {y1:Int} {y2:List UInt8} {x:Int} (hx:g.v8 y0 y1 y2=some x):(s20 g).run [.pointer (some ⟨0,0,none⟩),.int .i64 y1,.string ⟨⟨y2⟩⟩] [some [.int .u64 y0.key.A,.int .u64 y0.key.B,.slice (some ⟨1,0,none⟩) 8 1,.int .i64 y0.total],some [.slice (some ⟨2,0,none⟩) y0.rows.m0 1,.slice (some ⟨3,0,none⟩) y0.rows.m1 1,.slice (some ⟨4,0,none⟩) y0.rows.m2 1,.slice (some ⟨5,0,none⟩) y0.rows.m3 1,.slice (some ⟨6,0,none⟩) y0.rows.m4 1,.slice (some ⟨7,0,none⟩) y0.rows.m5 1,.slice (some ⟨8,0,none⟩) y0.rows.m6 1,.slice (some ⟨9,0,none⟩) y0.rows.m7 1],some (vI .i64 y0.rows.e0),some (vI .i64 y0.rows.e1),some (vI .i64 y0.rows.e2),some (vI .i64 y0.rows.e3),some (vI .i64 y0.rows.e4),some (vI .i64 y0.rows.e5),some (vI .i64 y0.rows.e6),some (vI .i64 y0.rows.e7)]=some (Xrn x):=XaZ (a:=XmD g.vn) (b:=orD (XiE g.v1) (orD (Xhw g.v2) (orD (XgE g.v3) (orD (XfW g.v4) (orD (Xff g.v5) (orD (XeI g.v6) (orD (Xeu g.v7) (Xev g.v8)))))))) rfl (XaZ (a:=XiE g.v1) (b:=orD (Xhw g.v2) (orD (XgE g.v3) (orD (XfW g.v4) (orD (Xff g.v5) (orD (XeI g.v6) (orD (Xeu g.v7) (Xev g.v8))))))) rfl (XaZ (a:=Xhw g.v2) (b:=orD (XgE g.v3) (orD (XfW g.v4) (orD (Xff g.v5) (orD (XeI g.v6) (orD (Xeu g.v7) (Xev g.v8)))))) rfl (XaZ (a:=XgE g.v3) (b:=orD (XfW g.v4) (orD (Xff g.v5) (orD (XeI g.v6) (orD (Xeu g.v7) (Xev g.v8))))) rfl (XaZ (a:=XfW g.v4) (b:=orD (Xff g.v5) (orD (XeI g.v6) (orD (Xeu g.v7) (Xev g.v8)))) rfl (XaZ (a:=Xff g.v5) (b:=orD (XeI g.v6) (orD (Xeu g.v7) (Xev g.v8))) rfl (XaZ (a:=XeI g.v6) (b:=orD (Xeu g.v7) (Xev g.v8)) rfl (XaZ (a:=Xeu g.v7) (b:=Xev g.v8) rfl (Xz8 hx))))))))
def Xi7:XdA:=XfV Xaa
def Xga:Xdw:=Xem Xas XaW Xaa
def Xgr:Xdo:=Xeo Xas XaW Xaa
def Xgo:XdL:=Xd4 Xas XaW Xaa
def Xf9:XdH:=Xek Xas XaW Xaa
def Xgf:Xdg:=Xea Xas XaW Xaa
def Xgl:Xdd:=Xen Xas XaW Xaa
def Xgg:XdI:=Xed Xas XaW Xaa
def Xgj:Xdk:=Xel Xas XaW Xaa
def Xae:Xaq:=⟨Xi7,Xga,Xgr,Xgo,Xf9,Xgf,Xgl,Xgg,Xgj⟩
theorem Xhv:Xgx Try.prog 20 (s20 Xae):=by
 have L0:=Xub Xaa (XaL.Xbk ⟨Xcs,trivial⟩)
 have L1:=Xuu Xas XaW Xaa (XaL.Xbk ⟨XlQ,Xl1,Xcs,trivial⟩)
 have L2:=XvE Xas XaW Xaa (XaL.Xbk ⟨XlQ,Xl1,Xcs,trivial⟩)
 have L3:=XtN Xas XaW Xaa (XaL.Xbk ⟨XlQ,Xl1,Xcs,trivial⟩)
 have L4:=Xut Xas XaW Xaa (XaL.Xbk ⟨XlQ,Xl1,Xcs,trivial⟩)
 have L5:=Xte Xas XaW Xaa (XaL.Xbk ⟨XlQ,Xl1,Xcs,trivial⟩)
 have L6:=XtW Xas XaW Xaa (XaL.Xbk ⟨XlQ,Xl1,Xcs,trivial⟩)
 have L7:=Xu2 Xas XaW Xaa (XaL.Xbk ⟨XlQ,Xl1,Xcs,trivial⟩)
 have L8:=Xuq Xas XaW Xaa (XaL.Xbk ⟨XlQ,Xl1,Xcs,trivial⟩)
 refine Xgx.XiG XaJ (fun ar os r ha hr=>?_) ⟨Try.f20,rfl,by decide,rfl⟩
 generalize hc:XhF os=C at hr
 replace hr:=orD.elim hr;rcases hr with hr|hr
 ·skip
  have hq:=dNl.elim hr;clear hr;obtain ⟨l1,C,rfl,rfl,hr⟩:=hq;simp only [List.replicate,List.nil_append,List.cons_append] at hc
  replace hr:=dV.elim hr;obtain ⟨v1,l2,y1,rfl,e1,hr⟩:=hr;obtain rfl:=Xgu _ _ _ e1
  replace hr:=dV.elim hr;obtain ⟨v2,l3,y2,rfl,e2,hr⟩:=hr;obtain rfl:=Xd1 _ _ e2
  replace hr:=Xhd hr;obtain ⟨rfl,rfl,x,h,rfl⟩:=hr
  replace ha:=Xaj ha hc;obtain ⟨os,rfl,ha,hc⟩:=ha
  replace ha:=Xaj ha hc;obtain ⟨os,rfl,ha,hc⟩:=ha
  replace ha:=Xaj ha hc;obtain ⟨os,rfl,ha,hc⟩:=ha
  replace ha:=Xaj ha hc;obtain ⟨os,rfl,ha,hc⟩:=ha
  replace ha:=Xaj ha hc;obtain ⟨os,rfl,ha,hc⟩:=ha
  replace ha:=Xaj ha hc;obtain ⟨os,rfl,ha,hc⟩:=ha
  replace ha:=Xaj ha hc;obtain ⟨os,rfl,ha,hc⟩:=ha
  replace ha:=Xaj ha hc;obtain ⟨os,rfl,ha,hc⟩:=ha
  replace ha:=Xaj ha hc;obtain ⟨os,rfl,ha,hc⟩:=ha
  replace ha:=Xaj ha hc;obtain ⟨os,rfl,ha,hc⟩:=ha
  obtain rfl:=Xa5 hc
  exact ⟨_,rfl,L0 _ _ x h⟩
 replace hr:=orD.elim hr;rcases hr with hr|hr
 ·skip
  have hq:=dTr.elim hr;clear hr;obtain ⟨v0,l1,c0,C,y0,rfl,rfl,e0,hr⟩:=hq;obtain ⟨rfl,rfl⟩:=Xcn e0;simp only [List.nil_append,List.cons_append] at hc
  replace hr:=dV.elim hr;obtain ⟨v1,l2,y1,rfl,e1,hr⟩:=hr;obtain rfl:=Xgu _ _ _ e1
  replace hr:=dV.elim hr;obtain ⟨v2,l3,y2,rfl,e2,hr⟩:=hr;obtain rfl:=Xd1 _ _ e2
  replace hr:=Xhd hr;obtain ⟨rfl,rfl,x,h,rfl⟩:=hr
  replace ha:=Xag ha hc;obtain ⟨os,rfl,ha,hc⟩:=ha
  replace ha:=Xag ha hc;obtain ⟨os,rfl,ha,hc⟩:=ha
  replace ha:=Xag ha hc;obtain ⟨os,rfl,ha,hc⟩:=ha
  replace ha:=Xaj ha hc;obtain ⟨os,rfl,ha,hc⟩:=ha
  replace ha:=Xaj ha hc;obtain ⟨os,rfl,ha,hc⟩:=ha
  replace ha:=Xaj ha hc;obtain ⟨os,rfl,ha,hc⟩:=ha
  replace ha:=Xaj ha hc;obtain ⟨os,rfl,ha,hc⟩:=ha
  replace ha:=Xaj ha hc;obtain ⟨os,rfl,ha,hc⟩:=ha
  replace ha:=Xaj ha hc;obtain ⟨os,rfl,ha,hc⟩:=ha
  replace ha:=Xaj ha hc;obtain ⟨os,rfl,ha,hc⟩:=ha
  obtain rfl:=Xa5 hc
  exact ⟨_,rfl,L1 _ _ _ x h⟩
 replace hr:=orD.elim hr;rcases hr with hr|hr
 ·skip
  have hq:=dTr.elim hr;clear hr;obtain ⟨v0,l1,c0,C,y0,rfl,rfl,e0,hr⟩:=hq;obtain ⟨rfl,rfl⟩:=Xcp e0;simp only [List.nil_append,List.cons_append] at hc
  replace hr:=dV.elim hr;obtain ⟨v1,l2,y1,rfl,e1,hr⟩:=hr;obtain rfl:=Xgu _ _ _ e1
  replace hr:=dV.elim hr;obtain ⟨v2,l3,y2,rfl,e2,hr⟩:=hr;obtain rfl:=Xd1 _ _ e2
  replace hr:=Xhd hr;obtain ⟨rfl,rfl,x,h,rfl⟩:=hr
  replace ha:=Xag ha hc;obtain ⟨os,rfl,ha,hc⟩:=ha
  replace ha:=Xag ha hc;obtain ⟨os,rfl,ha,hc⟩:=ha
  replace ha:=Xag ha hc;obtain ⟨os,rfl,ha,hc⟩:=ha
  replace ha:=Xag ha hc;obtain ⟨os,rfl,ha,hc⟩:=ha
  replace ha:=Xaj ha hc;obtain ⟨os,rfl,ha,hc⟩:=ha
  replace ha:=Xaj ha hc;obtain ⟨os,rfl,ha,hc⟩:=ha
  replace ha:=Xaj ha hc;obtain ⟨os,rfl,ha,hc⟩:=ha
  replace ha:=Xaj ha hc;obtain ⟨os,rfl,ha,hc⟩:=ha
  replace ha:=Xaj ha hc;obtain ⟨os,rfl,ha,hc⟩:=ha
  replace ha:=Xaj ha hc;obtain ⟨os,rfl,ha,hc⟩:=ha
  obtain rfl:=Xa5 hc
  exact ⟨_,rfl,L2 _ _ _ x h⟩
 replace hr:=orD.elim hr;rcases hr with hr|hr
 ·skip
  have hq:=dTr.elim hr;clear hr;obtain ⟨v0,l1,c0,C,y0,rfl,rfl,e0,hr⟩:=hq;obtain ⟨rfl,rfl⟩:=Xce e0;simp only [List.nil_append,List.cons_append] at hc
  replace hr:=dV.elim hr;obtain ⟨v1,l2,y1,rfl,e1,hr⟩:=hr;obtain rfl:=Xgu _ _ _ e1
  replace hr:=dV.elim hr;obtain ⟨v2,l3,y2,rfl,e2,hr⟩:=hr;obtain rfl:=Xd1 _ _ e2
  replace hr:=Xhd hr;obtain ⟨rfl,rfl,x,h,rfl⟩:=hr
  replace ha:=Xag ha hc;obtain ⟨os,rfl,ha,hc⟩:=ha
  replace ha:=Xag ha hc;obtain ⟨os,rfl,ha,hc⟩:=ha
  replace ha:=Xag ha hc;obtain ⟨os,rfl,ha,hc⟩:=ha
  replace ha:=Xag ha hc;obtain ⟨os,rfl,ha,hc⟩:=ha
  replace ha:=Xag ha hc;obtain ⟨os,rfl,ha,hc⟩:=ha
  replace ha:=Xaj ha hc;obtain ⟨os,rfl,ha,hc⟩:=ha
  replace ha:=Xaj ha hc;obtain ⟨os,rfl,ha,hc⟩:=ha
  replace ha:=Xaj ha hc;obtain ⟨os,rfl,ha,hc⟩:=ha
  replace ha:=Xaj ha hc;obtain ⟨os,rfl,ha,hc⟩:=ha
  replace ha:=Xaj ha hc;obtain ⟨os,rfl,ha,hc⟩:=ha
  obtain rfl:=Xa5 hc
  exact ⟨_,rfl,L3 _ _ _ x h⟩
 replace hr:=orD.elim hr;rcases hr with hr|hr
 ·skip
  have hq:=dTr.elim hr;clear hr;obtain ⟨v0,l1,c0,C,y0,rfl,rfl,e0,hr⟩:=hq;obtain ⟨rfl,rfl⟩:=Xci e0;simp only [List.nil_append,List.cons_append] at hc
  replace hr:=dV.elim hr;obtain ⟨v1,l2,y1,rfl,e1,hr⟩:=hr;obtain rfl:=Xgu _ _ _ e1
  replace hr:=dV.elim hr;obtain ⟨v2,l3,y2,rfl,e2,hr⟩:=hr;obtain rfl:=Xd1 _ _ e2
  replace hr:=Xhd hr;obtain ⟨rfl,rfl,x,h,rfl⟩:=hr
  replace ha:=Xag ha hc;obtain ⟨os,rfl,ha,hc⟩:=ha
  replace ha:=Xag ha hc;obtain ⟨os,rfl,ha,hc⟩:=ha
  replace ha:=Xag ha hc;obtain ⟨os,rfl,ha,hc⟩:=ha
  replace ha:=Xag ha hc;obtain ⟨os,rfl,ha,hc⟩:=ha
  replace ha:=Xag ha hc;obtain ⟨os,rfl,ha,hc⟩:=ha
  replace ha:=Xag ha hc;obtain ⟨os,rfl,ha,hc⟩:=ha
  replace ha:=Xaj ha hc;obtain ⟨os,rfl,ha,hc⟩:=ha
  replace ha:=Xaj ha hc;obtain ⟨os,rfl,ha,hc⟩:=ha
  replace ha:=Xaj ha hc;obtain ⟨os,rfl,ha,hc⟩:=ha
  replace ha:=Xaj ha hc;obtain ⟨os,rfl,ha,hc⟩:=ha
  obtain rfl:=Xa5 hc
  exact ⟨_,rfl,L4 _ _ _ x h⟩
 replace hr:=orD.elim hr;rcases hr with hr|hr
 ·skip
  have hq:=dTr.elim hr;clear hr;obtain ⟨v0,l1,c0,C,y0,rfl,rfl,e0,hr⟩:=hq;obtain ⟨rfl,rfl⟩:=Xcg e0;simp only [List.nil_append,List.cons_append] at hc
  replace hr:=dV.elim hr;obtain ⟨v1,l2,y1,rfl,e1,hr⟩:=hr;obtain rfl:=Xgu _ _ _ e1
  replace hr:=dV.elim hr;obtain ⟨v2,l3,y2,rfl,e2,hr⟩:=hr;obtain rfl:=Xd1 _ _ e2
  replace hr:=Xhd hr;obtain ⟨rfl,rfl,x,h,rfl⟩:=hr
  replace ha:=Xag ha hc;obtain ⟨os,rfl,ha,hc⟩:=ha
  replace ha:=Xag ha hc;obtain ⟨os,rfl,ha,hc⟩:=ha
  replace ha:=Xag ha hc;obtain ⟨os,rfl,ha,hc⟩:=ha
  replace ha:=Xag ha hc;obtain ⟨os,rfl,ha,hc⟩:=ha
  replace ha:=Xag ha hc;obtain ⟨os,rfl,ha,hc⟩:=ha
  replace ha:=Xag ha hc;obtain ⟨os,rfl,ha,hc⟩:=ha
  replace ha:=Xag ha hc;obtain ⟨os,rfl,ha,hc⟩:=ha
  replace ha:=Xaj ha hc;obtain ⟨os,rfl,ha,hc⟩:=ha
  replace ha:=Xaj ha hc;obtain ⟨os,rfl,ha,hc⟩:=ha
  replace ha:=Xaj ha hc;obtain ⟨os,rfl,ha,hc⟩:=ha
  obtain rfl:=Xa5 hc
  exact ⟨_,rfl,L5 _ _ _ x h⟩
 replace hr:=orD.elim hr;rcases hr with hr|hr
 ·skip
  have hq:=dTr.elim hr;clear hr;obtain ⟨v0,l1,c0,C,y0,rfl,rfl,e0,hr⟩:=hq;obtain ⟨rfl,rfl⟩:=Xcc e0;simp only [List.nil_append,List.cons_append] at hc
  replace hr:=dV.elim hr;obtain ⟨v1,l2,y1,rfl,e1,hr⟩:=hr;obtain rfl:=Xgu _ _ _ e1
  replace hr:=dV.elim hr;obtain ⟨v2,l3,y2,rfl,e2,hr⟩:=hr;obtain rfl:=Xd1 _ _ e2
  replace hr:=Xhd hr;obtain ⟨rfl,rfl,x,h,rfl⟩:=hr
  replace ha:=Xag ha hc;obtain ⟨os,rfl,ha,hc⟩:=ha
  replace ha:=Xag ha hc;obtain ⟨os,rfl,ha,hc⟩:=ha
  replace ha:=Xag ha hc;obtain ⟨os,rfl,ha,hc⟩:=ha
  replace ha:=Xag ha hc;obtain ⟨os,rfl,ha,hc⟩:=ha
  replace ha:=Xag ha hc;obtain ⟨os,rfl,ha,hc⟩:=ha
  replace ha:=Xag ha hc;obtain ⟨os,rfl,ha,hc⟩:=ha
  replace ha:=Xag ha hc;obtain ⟨os,rfl,ha,hc⟩:=ha
  replace ha:=Xag ha hc;obtain ⟨os,rfl,ha,hc⟩:=ha
  replace ha:=Xaj ha hc;obtain ⟨os,rfl,ha,hc⟩:=ha
  replace ha:=Xaj ha hc;obtain ⟨os,rfl,ha,hc⟩:=ha
  obtain rfl:=Xa5 hc
  exact ⟨_,rfl,L6 _ _ _ x h⟩
 replace hr:=orD.elim hr;rcases hr with hr|hr
 ·skip
  have hq:=dTr.elim hr;clear hr;obtain ⟨v0,l1,c0,C,y0,rfl,rfl,e0,hr⟩:=hq;obtain ⟨rfl,rfl⟩:=Xcd e0;simp only [List.nil_append,List.cons_append] at hc
  replace hr:=dV.elim hr;obtain ⟨v1,l2,y1,rfl,e1,hr⟩:=hr;obtain rfl:=Xgu _ _ _ e1
  replace hr:=dV.elim hr;obtain ⟨v2,l3,y2,rfl,e2,hr⟩:=hr;obtain rfl:=Xd1 _ _ e2
  replace hr:=Xhd hr;obtain ⟨rfl,rfl,x,h,rfl⟩:=hr
  replace ha:=Xag ha hc;obtain ⟨os,rfl,ha,hc⟩:=ha
  replace ha:=Xag ha hc;obtain ⟨os,rfl,ha,hc⟩:=ha
  replace ha:=Xag ha hc;obtain ⟨os,rfl,ha,hc⟩:=ha
  replace ha:=Xag ha hc;obtain ⟨os,rfl,ha,hc⟩:=ha
  replace ha:=Xag ha hc;obtain ⟨os,rfl,ha,hc⟩:=ha
  replace ha:=Xag ha hc;obtain ⟨os,rfl,ha,hc⟩:=ha
  replace ha:=Xag ha hc;obtain ⟨os,rfl,ha,hc⟩:=ha
  replace ha:=Xag ha hc;obtain ⟨os,rfl,ha,hc⟩:=ha
  replace ha:=Xag ha hc;obtain ⟨os,rfl,ha,hc⟩:=ha
  replace ha:=Xaj ha hc;obtain ⟨os,rfl,ha,hc⟩:=ha
  obtain rfl:=Xa5 hc
  exact ⟨_,rfl,L7 _ _ _ x h⟩
 have hq:=dTr.elim hr;clear hr;obtain ⟨v0,l1,c0,C,y0,rfl,rfl,e0,hr⟩:=hq;obtain ⟨rfl,rfl⟩:=Xck e0;simp only [List.nil_append,List.cons_append] at hc
 replace hr:=dV.elim hr;obtain ⟨v1,l2,y1,rfl,e1,hr⟩:=hr;obtain rfl:=Xgu _ _ _ e1
 replace hr:=dV.elim hr;obtain ⟨v2,l3,y2,rfl,e2,hr⟩:=hr;obtain rfl:=Xd1 _ _ e2
 replace hr:=Xhd hr;obtain ⟨rfl,rfl,x,h,rfl⟩:=hr
 replace ha:=Xag ha hc;obtain ⟨os,rfl,ha,hc⟩:=ha
 replace ha:=Xag ha hc;obtain ⟨os,rfl,ha,hc⟩:=ha
 replace ha:=Xag ha hc;obtain ⟨os,rfl,ha,hc⟩:=ha
 replace ha:=Xag ha hc;obtain ⟨os,rfl,ha,hc⟩:=ha
 replace ha:=Xag ha hc;obtain ⟨os,rfl,ha,hc⟩:=ha
 replace ha:=Xag ha hc;obtain ⟨os,rfl,ha,hc⟩:=ha
 replace ha:=Xag ha hc;obtain ⟨os,rfl,ha,hc⟩:=ha
 replace ha:=Xag ha hc;obtain ⟨os,rfl,ha,hc⟩:=ha
 replace ha:=Xag ha hc;obtain ⟨os,rfl,ha,hc⟩:=ha
 replace ha:=Xag ha hc;obtain ⟨os,rfl,ha,hc⟩:=ha
 obtain rfl:=Xa5 hc
 exact ⟨_,rfl,L8 _ _ _ x h⟩
def Xgy (Xaa:Xaf) (text:List UInt8) (n:Int):Option Bool:=
 (Xaa.vn).bind fun n1=>
 cond (!n1)
  (
  some (false))
  (
  cond (decide (n<0))
   (
   some (false))
   (
   cond (decide (n>1048576))
    (
    some (false))
    (
    none)))
def XrZ (x:Bool):Xdj:=⟨.bool x,[],[none,none,none,none,none,none,none,none,none,none]⟩
abbrev Xd5:=(List UInt8)→Int→Option Bool
def Xl8 (g:Xd5):Dec:=dNl 10<|dV asS fun (y1:List UInt8)=>dV (asI .i64) fun (y2:Int)=>Xfq (ofG (g y1 y2) XrZ)
theorem XBp {g:Xd5} {y1:List UInt8} {y2:Int} {x:Bool} (hx:g y1 y2=some x):Xl8 g [.pointer none,.string ⟨⟨y1⟩⟩,.int .i64 y2] [none,none,none,none,none,none,none,none,none,none]=some (XrZ x):=(Xr3).trans ((XcF (Xg1)).trans ((XcF (XgS _)).trans (Xbx hx)))
abbrev XvR (Xaa:Xaf):List (Nat×Xc3):=[(38,s38 Xaa)]
theorem XtM (Xaa:Xaf) (hS:XaL Try.prog (XaY (XvR Xaa))) (text:List UInt8) (n:Int) (res:Bool) (h:Xgy Xaa text n=some res) :
 Xa0 Try.prog 12 10 ⟨⟨12,27,[(0,.pointer none),(1,.string ⟨⟨text⟩⟩),(2,.int .i64 n)],[.code XjS],[],false,none⟩,[],[],10⟩ (fun v H _=>Res 10 (XrZ res) v H):=by
 unfold Xgy at h
 refine Xa1 XaJ hS true 3000 ?_
 conv=>whnf
 replace h:=XaK.elim h;obtain ⟨n1,hy,h⟩:=h
 refine Xbn.XaO [] (Xar («as»:=[.pointer none]) (ws:=[.no,.no,.no,.no,.no,.no,.no,.no,.no,.no]) (n:=0) (m:=0) (t':=11) (Xam rfl rfl XaP) rfl (by rfl) (Xn5 hy) rfl rfl rfl rfl (Xab rfl (Xab rfl (Xab rfl (Xab rfl (Xab rfl (Xab rfl (Xab rfl (Xab rfl (Xab rfl (Xab rfl XaN)))))))))) XaM rfl) ?_
 conv=>whnf
 exact W
def Xd7 (s:Xax) (text:List UInt8) (n:Int):Option (Sum Unit (Bool×Xax)):=
 let t:=if (wI .i64 (s.total+n))<1099511627776 then wI .i64 (s.total+n) else 1099511627776
 some (.inr ((true,Xax.mk s.key Xbr.mk t)))
def Xgv (Xaa:Xaf) (s:Xax) (text:List UInt8) (n:Int):Option (Bool×Xax):=
 (Xaa.v0 (Xax.mk s.key Xbr.mk s.total)).bind fun x0=>
 cond (!x0)
  (
  some ((false,Xax.mk s.key Xbr.mk s.total)))
  (
  cond (decide (n<0))
   (
   some ((false,Xax.mk s.key Xbr.mk s.total)))
   (
   cond (decide (n>1048576))
    (
    some ((false,Xax.mk s.key Xbr.mk s.total)))
    (
    iter (fun _=>Xd7 s text n) FUEL ())))
def Xnq (x:Bool×Xax):Xdj:=⟨.bool x.1,[],[some [.int .u64 x.2.key.A,.int .u64 x.2.key.B,.slice none 0 0,.int .i64 x.2.total],none,none,none,none,none,none,none,none,none]⟩
abbrev Xd3:=Xax→(List UInt8)→Int→Option (Bool×Xax)
def Xib (g:Xd3):Dec:=dTr 10 (XcE 0) fun (y0:Xax)=>dV asS fun (y1:List UInt8)=>dV (asI .i64) fun (y2:Int)=>Xfq (ofG (g y0 y1 y2) Xnq)
theorem XAB {g:Xd3} {y0:Xax} {y1:List UInt8} {y2:Int} {x:Bool×Xax} (hx:g y0 y1 y2=some x):Xib g [.pointer (some ⟨0,0,none⟩),.string ⟨⟨y1⟩⟩,.int .i64 y2] [some [.int .u64 y0.key.A,.int .u64 y0.key.B,.slice none 0 0,.int .i64 y0.total],none,none,none,none,none,none,none,none,none]=some (Xnq x):=(Xcx rfl rfl (XeQ 0 _)).trans ((XcF (Xg1)).trans ((XcF (XgS _)).trans (Xbx hx)))
abbrev Xr5 (Xaa:Xaf):List (Nat×Xc3):=[(38,s38 Xaa)]
def Xkb (s:Xax) (text:List UInt8) (n:Int):VM:=
 ⟨⟨39,30,[(0,.pointer (some ⟨0,0,none⟩)),(1,.string ⟨⟨text⟩⟩),(2,.func (.func 40) ⟨[]⟩ ⟨[.pointer (some ⟨10,0,none⟩)]⟩),(11,.int .i64 0),(12,.int .i64 0)],[.code XtX,.inLoop XtX,.inBlock 0],[],false,none⟩,[⟨12,27,[(0,.pointer (some ⟨0,0,none⟩)),(5,.pointer (some ⟨10,0,none⟩))],[.inReg (opsD XC0 3),.code XyD],[],false,none⟩],[(0,.cells [.int .u64 s.key.A,.int .u64 s.key.B,.slice none 0 0,.int .i64 s.total]),(10,.cells [.int .i64 n])],11⟩
theorem Xsg (Xaa:Xaf) (hS:XaL Try.prog (XaY (Xr5 Xaa))) (s:Xax) (text:List UInt8) (n:Int) (res:Bool×Xax):∀ fuel (st:Unit) (o:Bool×Xax),iter (fun _=>Xd7 s text n) fuel st=some o→(o=res) →
 Xa0 Try.prog 12 10 (Xkb s text n ) (fun v H _=>Res 10 (Xnq res) v H):=by
 intro fuel st o h hc
 refine Xbl (head:=fun st=>Xkb s text n ) (C:=fun o=>(o=res)) ?_ fuel st o h hc
 clear h hc o st fuel
 intro st o h hc
 replace h:Xd7 s text n=some o:=h
 show Xa0 Try.prog 12 10 (Xkb s text n ) (fun v H _=>Res 10 (Xnq res) v H)
 unfold Xd7 at h
 refine Xa1 XaJ hS true 3000 ?_
 conv=>whnf
 exact W
theorem XtG (Xaa:Xaf) (hS:XaL Try.prog (XaY (Xr5 Xaa))) (s:Xax) (text:List UInt8) (n:Int) (res:Bool×Xax) (h:Xgv Xaa s text n=some res) :
 Xa0 Try.prog 12 10 ⟨⟨12,27,[(0,.pointer (some ⟨0,0,none⟩)),(1,.string ⟨⟨text⟩⟩),(2,.int .i64 n)],[.code XjS],[],false,none⟩,[],[(0,.cells [.int .u64 s.key.A,.int .u64 s.key.B,.slice none 0 0,.int .i64 s.total])],10⟩ (fun v H _=>Res 10 (Xnq res) v H):=by
 unfold Xgv at h
 refine Xa1 XaJ hS true 3000 ?_
 conv=>whnf
 replace h:=XaK.elim h;obtain ⟨x0,hy,h⟩:=h
 refine Xbn.XaO [] (Xar («as»:=[.pointer (some ⟨0,0,none⟩)]) (ws:=[.blk 0 false,.no,.no,.no,.no,.no,.no,.no,.no,.no]) (n:=0) (m:=0) (t':=11) (Xam (Xa6 rfl rfl (Xai rfl rfl rfl rfl (Xan (Xan (Xan (Xan (Xan (Xan (Xan (Xan (Xan XaR)))))))))) rfl) rfl XaP) rfl (by rfl) (Xme hy) rfl rfl rfl rfl (Xab rfl (Xab rfl (Xab rfl (Xab rfl (Xab rfl (Xab rfl (Xab rfl (Xab rfl (Xab rfl (Xab rfl XaN)))))))))) XaM rfl) ?_
 conv=>whnf
 refine br.h h (by rfl) ?_ ?_
 ·clear h;intro hb h;conv=>whnf
  exact W
 clear h;intro hb h;conv=>whnf
 refine br.h h (by rfl) ?_ ?_
 ·clear h;intro hb h;conv=>whnf
  exact W
 clear h;intro hb h;conv=>whnf
 refine br.h h (by rfl) ?_ ?_
 ·clear h;intro hb h;conv=>whnf
  exact W
 clear h;intro hb h;conv=>whnf
 have hl:=Xsg Xaa hS _ _ _ res _ _ _ h rfl;simp only [Xkb] at hl
 exact lrA1 hl [(0,0),(1,1),(2,2),(3,3),(4,4),(5,5),(6,6),(7,7),(8,8),(9,9),(10,10)] rfl
def XeZ (Xae:Xaq) (Xaa:Xaf) (s:XaH) (text:List UInt8) (n:Int):Option (Bool×XaH):=
 (Xaa.v1 s).bind fun x1=>
 cond (!x1)
  (
  some ((false,s)))
  (
  cond (decide (n<0))
   (
   some ((false,s)))
   (
   cond (decide (n>1048576))
    (
    some ((false,s)))
    (
    (Xae.v1 s 0 text).bind fun x11=>
    XaU (decide ((0:Int)≤x11∧x11<(s.rows.m0:Int))) <|
    (s.rows.e0[x11.toNat]?).bind fun (e:Int)=>
    let t:=if (wI .i64 (e+n))<1099511627776 then wI .i64 (e+n) else 1099511627776
    XaU (decide (x11.toNat<s.rows.e0.length)) <|
    let row:=s.rows.e0.set x11.toNat t
    let t1:=if (wI .i64 (s.total+n))<1099511627776 then wI .i64 (s.total+n) else 1099511627776
    some ((true,XaH.mk s.key (XdW.mk row s.rows.m0) t1)))))
def Xr4 (x:Bool×XaH):Xdj:=⟨.bool x.1,[(vI .i64 x.2.rows.e0)],[some [.int .u64 x.2.key.A,.int .u64 x.2.key.B,.slice (some ⟨2,0,none⟩) 1 1,.int .i64 x.2.total],some [.slice (some ⟨0,0,none⟩) x.2.rows.m0 1],none,none,none,none,none,none,none,none]⟩
abbrev Xeh:=XaH→(List UInt8)→Int→Option (Bool×XaH)
def Xg8 (g:Xeh):Dec:=dTr 10 (XbX 0) fun (y0:XaH)=>dV asS fun (y1:List UInt8)=>dV (asI .i64) fun (y2:Int)=>Xfq (ofG (g y0 y1 y2) Xr4)
theorem XCb {g:Xeh} {y0:XaH} {y1:List UInt8} {y2:Int} {x:Bool×XaH} (hx:g y0 y1 y2=some x):Xg8 g [.pointer (some ⟨0,0,none⟩),.string ⟨⟨y1⟩⟩,.int .i64 y2] [some [.int .u64 y0.key.A,.int .u64 y0.key.B,.slice (some ⟨1,0,none⟩) 1 1,.int .i64 y0.total],some [.slice (some ⟨2,0,none⟩) y0.rows.m0 1],some (vI .i64 y0.rows.e0),none,none,none,none,none,none,none]=some (Xr4 x):=(Xcx rfl rfl (XeP 0 _)).trans ((XcF (Xg1)).trans ((XcF (XgS _)).trans (Xbx hx)))
abbrev XwG (Xae:Xaq) (Xaa:Xaf):List (Nat×Xc3):=[(20,s20 Xae),(38,s38 Xaa)]
theorem Xtb (Xae:Xaq) (Xaa:Xaf) (hS:XaL Try.prog (XaY (XwG Xae Xaa))) (s:XaH) (text:List UInt8) (n:Int) (res:Bool×XaH) (h:XeZ Xae Xaa s text n=some res) :
 Xa0 Try.prog 12 10 ⟨⟨12,27,[(0,.pointer (some ⟨0,0,none⟩)),(1,.string ⟨⟨text⟩⟩),(2,.int .i64 n)],[.code XjS],[],false,none⟩,[],[(0,.cells [.int .u64 s.key.A,.int .u64 s.key.B,.slice (some ⟨1,0,none⟩) 1 1,.int .i64 s.total]),(1,.cells [.slice (some ⟨2,0,none⟩) s.rows.m0 1]),(2,.row true (vI .i64 s.rows.e0))],10⟩ (fun v H _=>Res 10 (Xr4 res) v H):=by
 unfold XeZ at h
 refine Xa1 XaJ hS true 3000 ?_
 conv=>whnf
 replace h:=XaK.elim h;obtain ⟨x1,hy,h⟩:=h
 refine Xbn.XaO [] (Xar («as»:=[.pointer (some ⟨0,0,none⟩)]) (ws:=[.blk 0 false,.blk 1 false,.blk 2 false,.no,.no,.no,.no,.no,.no,.no]) (n:=0) (m:=0) (t':=11) (Xam (Xa6 rfl rfl (Xai rfl rfl rfl rfl (Xai rfl rfl rfl rfl (Xai rfl rfl (Xat) rfl (Xan (Xan (Xan (Xan (Xan (Xan (Xan XaR)))))))))) rfl) rfl XaP) rfl (by rfl) (XjX hy) rfl rfl rfl rfl (Xab rfl (Xab rfl (Xab rfl (Xab rfl (Xab rfl (Xab rfl (Xab rfl (Xab rfl (Xab rfl (Xab rfl XaN)))))))))) XaM rfl) ?_
 conv=>whnf
 refine br.h h (by rfl) ?_ ?_
 ·clear h;intro hb h;conv=>whnf
  exact W
 clear h;intro hb h;conv=>whnf
 refine br.h h (by rfl) ?_ ?_
 ·clear h;intro hb h;conv=>whnf
  exact W
 clear h;intro hb h;conv=>whnf
 refine br.h h (by rfl) ?_ ?_
 ·clear h;intro hb h;conv=>whnf
  exact W
 clear h;intro hb h;conv=>whnf
 refine Xa1 XaJ hS true 3000 ?_
 conv=>whnf
 replace h:=XaK.elim h;obtain ⟨x11,hy,h⟩:=h
 refine Xbn.XaO [] (Xar («as»:=[.pointer (some ⟨0,0,none⟩),.int .i64 0,.string ⟨⟨text⟩⟩]) (ws:=[.blk 0 false,.blk 1 false,.blk 2 false,.no,.no,.no,.no,.no,.no,.no]) (n:=0) (m:=0) (t':=22) (Xam (Xa6 rfl rfl (Xai rfl rfl rfl rfl (Xai rfl rfl rfl rfl (Xai rfl rfl (Xat) rfl (Xan (Xan (Xan (Xan (Xan (Xan (Xan XaR)))))))))) rfl) rfl (Xam rfl rfl (Xam rfl rfl XaP))) rfl (by rfl) (XrP hy) rfl rfl rfl rfl (Xab rfl (Xab rfl (Xab rfl (Xab rfl (Xab rfl (Xab rfl (Xab rfl (Xab rfl (Xab rfl (Xab rfl XaN)))))))))) XaM rfl) ?_
 conv=>whnf
 exact W
def Xe4 (Xae:Xaq) (Xaa:Xaf) (s:XaG) (text:List UInt8) (n:Int):Option (Bool×XaG):=
 (Xaa.v2 s).bind fun x2=>
 cond (!x2)
  (
  some ((false,s)))
  (
  cond (decide (n<0))
   (
   some ((false,s)))
   (
   cond (decide (n>1048576))
    (
    some ((false,s)))
    (
    (Xae.v2 s 0 text).bind fun x21=>
    XaU (decide ((0:Int)≤x21∧x21<(s.rows.m0:Int))) <|
    (s.rows.e0[x21.toNat]?).bind fun (e:Int)=>
    let t:=if (wI .i64 (e+n))<1099511627776 then wI .i64 (e+n) else 1099511627776
    XaU (decide (x21.toNat<s.rows.e0.length)) <|
    let row:=s.rows.e0.set x21.toNat t
    (Xae.v2 (XaG.mk s.key (Xc5.mk row s.rows.e1 s.rows.m0 s.rows.m1) s.total) 1 text).bind fun x22=>
    XaU (decide ((0:Int)≤x22∧x22<(s.rows.m1:Int))) <|
    (s.rows.e1[x22.toNat]?).bind fun (e1:Int)=>
    let t1:=if (wI .i64 (e1+n))<1099511627776 then wI .i64 (e1+n) else 1099511627776
    XaU (decide (x22.toNat<s.rows.e1.length)) <|
    let row1:=s.rows.e1.set x22.toNat t1
    let t2:=if (wI .i64 (s.total+n))<1099511627776 then wI .i64 (s.total+n) else 1099511627776
    some ((true,XaG.mk s.key (Xc5.mk row row1 s.rows.m0 s.rows.m1) t2)))))
def XrK (x:Bool×XaG):Xdj:=⟨.bool x.1,[(vI .i64 x.2.rows.e0),(vI .i64 x.2.rows.e1)],[some [.int .u64 x.2.key.A,.int .u64 x.2.key.B,.slice (some ⟨3,0,none⟩) 2 1,.int .i64 x.2.total],some [.slice (some ⟨0,0,none⟩) x.2.rows.m0 1,.slice (some ⟨1,0,none⟩) x.2.rows.m1 1],none,none,none,none,none,none,none,none]⟩
abbrev Xd8:=XaG→(List UInt8)→Int→Option (Bool×XaG)
def Xf5 (g:Xd8):Dec:=dTr 10 (Xb4 0) fun (y0:XaG)=>dV asS fun (y1:List UInt8)=>dV (asI .i64) fun (y2:Int)=>Xfq (ofG (g y0 y1 y2) XrK)
theorem XCg {g:Xd8} {y0:XaG} {y1:List UInt8} {y2:Int} {x:Bool×XaG} (hx:g y0 y1 y2=some x):Xf5 g [.pointer (some ⟨0,0,none⟩),.string ⟨⟨y1⟩⟩,.int .i64 y2] [some [.int .u64 y0.key.A,.int .u64 y0.key.B,.slice (some ⟨1,0,none⟩) 2 1,.int .i64 y0.total],some [.slice (some ⟨2,0,none⟩) y0.rows.m0 1,.slice (some ⟨3,0,none⟩) y0.rows.m1 1],some (vI .i64 y0.rows.e0),some (vI .i64 y0.rows.e1),none,none,none,none,none,none]=some (XrK x):=(Xcx rfl rfl (XeE 0 _)).trans ((XcF (Xg1)).trans ((XcF (XgS _)).trans (Xbx hx)))
abbrev Xxe (Xae:Xaq) (Xaa:Xaf):List (Nat×Xc3):=[(20,s20 Xae),(38,s38 Xaa)]
theorem Xur (Xae:Xaq) (Xaa:Xaf) (hS:XaL Try.prog (XaY (Xxe Xae Xaa))) (s:XaG) (text:List UInt8) (n:Int) (res:Bool×XaG) (h:Xe4 Xae Xaa s text n=some res) :
 Xa0 Try.prog 12 10 ⟨⟨12,27,[(0,.pointer (some ⟨0,0,none⟩)),(1,.string ⟨⟨text⟩⟩),(2,.int .i64 n)],[.code XjS],[],false,none⟩,[],[(0,.cells [.int .u64 s.key.A,.int .u64 s.key.B,.slice (some ⟨1,0,none⟩) 2 1,.int .i64 s.total]),(1,.cells [.slice (some ⟨2,0,none⟩) s.rows.m0 1,.slice (some ⟨3,0,none⟩) s.rows.m1 1]),(2,.row true (vI .i64 s.rows.e0)),(3,.row true (vI .i64 s.rows.e1))],10⟩ (fun v H _=>Res 10 (XrK res) v H):=by
 unfold Xe4 at h
 refine Xa1 XaJ hS true 3000 ?_
 conv=>whnf
 replace h:=XaK.elim h;obtain ⟨x2,hy,h⟩:=h
 refine Xbn.XaO [] (Xar («as»:=[.pointer (some ⟨0,0,none⟩)]) (ws:=[.blk 0 false,.blk 1 false,.blk 2 false,.blk 3 false,.no,.no,.no,.no,.no,.no]) (n:=0) (m:=0) (t':=11) (Xam (Xa6 rfl rfl (Xai rfl rfl rfl rfl (Xai rfl rfl rfl rfl (Xai rfl rfl (Xat) rfl (Xai rfl rfl (Xat) rfl (Xan (Xan (Xan (Xan (Xan (Xan XaR)))))))))) rfl) rfl XaP) rfl (by rfl) (Xj2 hy) rfl rfl rfl rfl (Xab rfl (Xab rfl (Xab rfl (Xab rfl (Xab rfl (Xab rfl (Xab rfl (Xab rfl (Xab rfl (Xab rfl XaN)))))))))) XaM rfl) ?_
 conv=>whnf
 refine br.h h (by rfl) ?_ ?_
 ·clear h;intro hb h;conv=>whnf
  exact W
 clear h;intro hb h;conv=>whnf
 refine br.h h (by rfl) ?_ ?_
 ·clear h;intro hb h;conv=>whnf
  exact W
 clear h;intro hb h;conv=>whnf
 refine br.h h (by rfl) ?_ ?_
 ·clear h;intro hb h;conv=>whnf
  exact W
 clear h;intro hb h;conv=>whnf
 refine Xa1 XaJ hS true 3000 ?_
 conv=>whnf
 replace h:=XaK.elim h;obtain ⟨x21,hy,h⟩:=h
 refine Xbn.XaO [] (Xar («as»:=[.pointer (some ⟨0,0,none⟩),.int .i64 0,.string ⟨⟨text⟩⟩]) (ws:=[.blk 0 false,.blk 1 false,.blk 2 false,.blk 3 false,.no,.no,.no,.no,.no,.no]) (n:=0) (m:=0) (t':=22) (Xam (Xa6 rfl rfl (Xai rfl rfl rfl rfl (Xai rfl rfl rfl rfl (Xai rfl rfl (Xat) rfl (Xai rfl rfl (Xat) rfl (Xan (Xan (Xan (Xan (Xan (Xan XaR)))))))))) rfl) rfl (Xam rfl rfl (Xam rfl rfl XaP))) rfl (by rfl) (Xmj hy) rfl rfl rfl rfl (Xab rfl (Xab rfl (Xab rfl (Xab rfl (Xab rfl (Xab rfl (Xab rfl (Xab rfl (Xab rfl (Xab rfl XaN)))))))))) XaM rfl) ?_
 conv=>whnf
 replace h:=XaU.elim h;obtain ⟨hb,h⟩:=h
 try (refine req.intro hb ?_;conv=>whnf)
 replace h:=XaK.elim h;obtain ⟨e,hy,h⟩:=h
 refine rd.I hy (by first|rfl|(rw [Nat.zero_add,Nat.mul_one];try rfl;done)|omega) ?_
 conv=>whnf
 let t:Int:=if (wI .i64 (e+n))<1099511627776 then wI .i64 (e+n) else 1099511627776
 replace h:=XaU.elim h;obtain ⟨hb,h⟩:=h
 refine Xk5 hb (by first|rfl|(rw [Nat.zero_add,Nat.mul_one];try rfl;done)|omega) ?_
 conv=>whnf
 let row:List Int:=s.rows.e0.set x21.toNat t
 refine Xa1 XaJ hS true 3000 ?_
 conv=>whnf
 replace h:=XaK.elim h;obtain ⟨x22,hy,h⟩:=h
 refine Xbn.XaO [] (Xar («as»:=[.pointer (some ⟨0,0,none⟩),.int .i64 1,.string ⟨⟨text⟩⟩]) (ws:=[.blk 0 false,.blk 1 false,.blk 2 false,.blk 3 false,.no,.no,.no,.no,.no,.no]) (n:=0) (m:=0) (t':=35) (Xam (Xa6 rfl rfl (Xai rfl rfl rfl rfl (Xai rfl rfl rfl rfl (Xai rfl rfl (Xat) rfl (Xai rfl rfl (Xat) rfl (Xan (Xan (Xan (Xan (Xan (Xan XaR)))))))))) rfl) rfl (Xam rfl rfl (Xam rfl rfl XaP))) rfl (by rfl) (Xmj hy) rfl rfl rfl rfl (Xab rfl (Xab rfl (Xab rfl (Xab rfl (Xab rfl (Xab rfl (Xab rfl (Xab rfl (Xab rfl (Xab rfl XaN)))))))))) XaM rfl) ?_
 conv=>whnf
 exact W
def XeW (Xae:Xaq) (Xaa:Xaf) (s:XaF) (text:List UInt8) (n:Int):Option (Bool×XaF):=
 (Xaa.v3 s).bind fun x3=>
 cond (!x3)
  (
  some ((false,s)))
  (
  cond (decide (n<0))
   (
   some ((false,s)))
   (
   cond (decide (n>1048576))
    (
    some ((false,s)))
    (
    (Xae.v3 s 0 text).bind fun x31=>
    XaU (decide ((0:Int)≤x31∧x31<(s.rows.m0:Int))) <|
    (s.rows.e0[x31.toNat]?).bind fun (e:Int)=>
    let t:=if (wI .i64 (e+n))<1099511627776 then wI .i64 (e+n) else 1099511627776
    XaU (decide (x31.toNat<s.rows.e0.length)) <|
    let row:=s.rows.e0.set x31.toNat t
    (Xae.v3 (XaF.mk s.key (XcN.mk row s.rows.e1 s.rows.e2 s.rows.m0 s.rows.m1 s.rows.m2) s.total) 1 text).bind fun x32=>
    XaU (decide ((0:Int)≤x32∧x32<(s.rows.m1:Int))) <|
    (s.rows.e1[x32.toNat]?).bind fun (e1:Int)=>
    let t1:=if (wI .i64 (e1+n))<1099511627776 then wI .i64 (e1+n) else 1099511627776
    XaU (decide (x32.toNat<s.rows.e1.length)) <|
    let row1:=s.rows.e1.set x32.toNat t1
    (Xae.v3 (XaF.mk s.key (XcN.mk row row1 s.rows.e2 s.rows.m0 s.rows.m1 s.rows.m2) s.total) 2 text).bind fun x33=>
    XaU (decide ((0:Int)≤x33∧x33<(s.rows.m2:Int))) <|
    (s.rows.e2[x33.toNat]?).bind fun (e2:Int)=>
    let t2:=if (wI .i64 (e2+n))<1099511627776 then wI .i64 (e2+n) else 1099511627776
    XaU (decide (x33.toNat<s.rows.e2.length)) <|
    let row2:=s.rows.e2.set x33.toNat t2
    let t3:=if (wI .i64 (s.total+n))<1099511627776 then wI .i64 (s.total+n) else 1099511627776
    some ((true,XaF.mk s.key (XcN.mk row row1 row2 s.rows.m0 s.rows.m1 s.rows.m2) t3)))))
def Xq1 (x:Bool×XaF):Xdj:=⟨.bool x.1,[(vI .i64 x.2.rows.e0),(vI .i64 x.2.rows.e1),(vI .i64 x.2.rows.e2)],[some [.int .u64 x.2.key.A,.int .u64 x.2.key.B,.slice (some ⟨4,0,none⟩) 3 1,.int .i64 x.2.total],some [.slice (some ⟨0,0,none⟩) x.2.rows.m0 1,.slice (some ⟨1,0,none⟩) x.2.rows.m1 1,.slice (some ⟨2,0,none⟩) x.2.rows.m2 1],none,none,none,none,none,none,none,none]⟩
abbrev Xeq:=XaF→(List UInt8)→Int→Option (Bool×XaF)
def XeU (g:Xeq):Dec:=dTr 10 (XbW 0) fun (y0:XaF)=>dV asS fun (y1:List UInt8)=>dV (asI .i64) fun (y2:Int)=>Xfq (ofG (g y0 y1 y2) Xq1)
theorem XB5 {g:Xeq} {y0:XaF} {y1:List UInt8} {y2:Int} {x:Bool×XaF} (hx:g y0 y1 y2=some x):XeU g [.pointer (some ⟨0,0,none⟩),.string ⟨⟨y1⟩⟩,.int .i64 y2] [some [.int .u64 y0.key.A,.int .u64 y0.key.B,.slice (some ⟨1,0,none⟩) 3 1,.int .i64 y0.total],some [.slice (some ⟨2,0,none⟩) y0.rows.m0 1,.slice (some ⟨3,0,none⟩) y0.rows.m1 1,.slice (some ⟨4,0,none⟩) y0.rows.m2 1],some (vI .i64 y0.rows.e0),some (vI .i64 y0.rows.e1),some (vI .i64 y0.rows.e2),none,none,none,none,none]=some (Xq1 x):=(Xcx rfl rfl (XeM 0 _)).trans ((XcF (Xg1)).trans ((XcF (XgS _)).trans (Xbx hx)))
abbrev XwZ (Xae:Xaq) (Xaa:Xaf):List (Nat×Xc3):=[(20,s20 Xae),(38,s38 Xaa)]
theorem XuC (Xae:Xaq) (Xaa:Xaf) (hS:XaL Try.prog (XaY (XwZ Xae Xaa))) (s:XaF) (text:List UInt8) (n:Int) (res:Bool×XaF) (h:XeW Xae Xaa s text n=some res) :
 Xa0 Try.prog 12 10 ⟨⟨12,27,[(0,.pointer (some ⟨0,0,none⟩)),(1,.string ⟨⟨text⟩⟩),(2,.int .i64 n)],[.code XjS],[],false,none⟩,[],[(0,.cells [.int .u64 s.key.A,.int .u64 s.key.B,.slice (some ⟨1,0,none⟩) 3 1,.int .i64 s.total]),(1,.cells [.slice (some ⟨2,0,none⟩) s.rows.m0 1,.slice (some ⟨3,0,none⟩) s.rows.m1 1,.slice (some ⟨4,0,none⟩) s.rows.m2 1]),(2,.row true (vI .i64 s.rows.e0)),(3,.row true (vI .i64 s.rows.e1)),(4,.row true (vI .i64 s.rows.e2))],10⟩ (fun v H _=>Res 10 (Xq1 res) v H):=by
 unfold XeW at h
 refine Xa1 XaJ hS true 3000 ?_
 conv=>whnf
 replace h:=XaK.elim h;obtain ⟨x3,hy,h⟩:=h
 refine Xbn.XaO [] (Xar («as»:=[.pointer (some ⟨0,0,none⟩)]) (ws:=[.blk 0 false,.blk 1 false,.blk 2 false,.blk 3 false,.blk 4 false,.no,.no,.no,.no,.no]) (n:=0) (m:=0) (t':=11) (Xam (Xa6 rfl rfl (Xai rfl rfl rfl rfl (Xai rfl rfl rfl rfl (Xai rfl rfl (Xat) rfl (Xai rfl rfl (Xat) rfl (Xai rfl rfl (Xat) rfl (Xan (Xan (Xan (Xan (Xan XaR)))))))))) rfl) rfl XaP) rfl (by rfl) (Xj6 hy) rfl rfl rfl rfl (Xab rfl (Xab rfl (Xab rfl (Xab rfl (Xab rfl (Xab rfl (Xab rfl (Xab rfl (Xab rfl (Xab rfl XaN)))))))))) XaM rfl) ?_
 conv=>whnf
 refine br.h h (by rfl) ?_ ?_
 ·clear h;intro hb h;conv=>whnf
  exact W
 clear h;intro hb h;conv=>whnf
 refine br.h h (by rfl) ?_ ?_
 ·clear h;intro hb h;conv=>whnf
  exact W
 clear h;intro hb h;conv=>whnf
 refine br.h h (by rfl) ?_ ?_
 ·clear h;intro hb h;conv=>whnf
  exact W
 clear h;intro hb h;conv=>whnf
 refine Xa1 XaJ hS true 3000 ?_
 conv=>whnf
 replace h:=XaK.elim h;obtain ⟨x31,hy,h⟩:=h
 refine Xbn.XaO [] (Xar («as»:=[.pointer (some ⟨0,0,none⟩),.int .i64 0,.string ⟨⟨text⟩⟩]) (ws:=[.blk 0 false,.blk 1 false,.blk 2 false,.blk 3 false,.blk 4 false,.no,.no,.no,.no,.no]) (n:=0) (m:=0) (t':=22) (Xam (Xa6 rfl rfl (Xai rfl rfl rfl rfl (Xai rfl rfl rfl rfl (Xai rfl rfl (Xat) rfl (Xai rfl rfl (Xat) rfl (Xai rfl rfl (Xat) rfl (Xan (Xan (Xan (Xan (Xan XaR)))))))))) rfl) rfl (Xam rfl rfl (Xam rfl rfl XaP))) rfl (by rfl) (Xj5 hy) rfl rfl rfl rfl (Xab rfl (Xab rfl (Xab rfl (Xab rfl (Xab rfl (Xab rfl (Xab rfl (Xab rfl (Xab rfl (Xab rfl XaN)))))))))) XaM rfl) ?_
 conv=>whnf
 replace h:=XaU.elim h;obtain ⟨hb,h⟩:=h
 try (refine req.intro hb ?_;conv=>whnf)
 replace h:=XaK.elim h;obtain ⟨e,hy,h⟩:=h
 refine rd.I hy (by first|rfl|(rw [Nat.zero_add,Nat.mul_one];try rfl;done)|omega) ?_
 conv=>whnf
 let t:Int:=if (wI .i64 (e+n))<1099511627776 then wI .i64 (e+n) else 1099511627776
 replace h:=XaU.elim h;obtain ⟨hb,h⟩:=h
 refine Xk5 hb (by first|rfl|(rw [Nat.zero_add,Nat.mul_one];try rfl;done)|omega) ?_
 conv=>whnf
 let row:List Int:=s.rows.e0.set x31.toNat t
 refine Xa1 XaJ hS true 3000 ?_
 conv=>whnf
 replace h:=XaK.elim h;obtain ⟨x32,hy,h⟩:=h
 refine Xbn.XaO [] (Xar («as»:=[.pointer (some ⟨0,0,none⟩),.int .i64 1,.string ⟨⟨text⟩⟩]) (ws:=[.blk 0 false,.blk 1 false,.blk 2 false,.blk 3 false,.blk 4 false,.no,.no,.no,.no,.no]) (n:=0) (m:=0) (t':=35) (Xam (Xa6 rfl rfl (Xai rfl rfl rfl rfl (Xai rfl rfl rfl rfl (Xai rfl rfl (Xat) rfl (Xai rfl rfl (Xat) rfl (Xai rfl rfl (Xat) rfl (Xan (Xan (Xan (Xan (Xan XaR)))))))))) rfl) rfl (Xam rfl rfl (Xam rfl rfl XaP))) rfl (by rfl) (Xj5 hy) rfl rfl rfl rfl (Xab rfl (Xab rfl (Xab rfl (Xab rfl (Xab rfl (Xab rfl (Xab rfl (Xab rfl (Xab rfl (Xab rfl XaN)))))))))) XaM rfl) ?_
 conv=>whnf
 replace h:=XaU.elim h;obtain ⟨hb,h⟩:=h
 try (refine req.intro hb ?_;conv=>whnf)
 replace h:=XaK.elim h;obtain ⟨e1,hy,h⟩:=h
 refine rd.I hy (by first|rfl|(rw [Nat.zero_add,Nat.mul_one];try rfl;done)|omega) ?_
 conv=>whnf
 let t1:Int:=if (wI .i64 (e1+n))<1099511627776 then wI .i64 (e1+n) else 1099511627776
 replace h:=XaU.elim h;obtain ⟨hb,h⟩:=h
 refine Xk5 hb (by first|rfl|(rw [Nat.zero_add,Nat.mul_one];try rfl;done)|omega) ?_
 conv=>whnf
 let row1:List Int:=s.rows.e1.set x32.toNat t1
 refine Xa1 XaJ hS true 3000 ?_
 conv=>whnf
 replace h:=XaK.elim h;obtain ⟨x33,hy,h⟩:=h
 refine Xbn.XaO [] (Xar («as»:=[.pointer (some ⟨0,0,none⟩),.int .i64 2,.string ⟨⟨text⟩⟩]) (ws:=[.blk 0 false,.blk 1 false,.blk 2 false,.blk 3 false,.blk 4 false,.no,.no,.no,.no,.no]) (n:=0) (m:=0) (t':=48) (Xam (Xa6 rfl rfl (Xai rfl rfl rfl rfl (Xai rfl rfl rfl rfl (Xai rfl rfl (Xat) rfl (Xai rfl rfl (Xat) rfl (Xai rfl rfl (Xat) rfl (Xan (Xan (Xan (Xan (Xan XaR)))))))))) rfl) rfl (Xam rfl rfl (Xam rfl rfl XaP))) rfl (by rfl) (Xj5 hy) rfl rfl rfl rfl (Xab rfl (Xab rfl (Xab rfl (Xab rfl (Xab rfl (Xab rfl (Xab rfl (Xab rfl (Xab rfl (Xab rfl XaN)))))))))) XaM rfl) ?_
 conv=>whnf
 exact W
def Xe5 (Xae:Xaq) (Xaa:Xaf) (s:XaC) (text:List UInt8) (n:Int):Option (Bool×XaC):=
 (Xaa.v4 s).bind fun x4=>
 cond (!x4)
  (
  some ((false,s)))
  (
  cond (decide (n<0))
   (
   some ((false,s)))
   (
   cond (decide (n>1048576))
    (
    some ((false,s)))
    (
    (Xae.v4 s 0 text).bind fun x41=>
    XaU (decide ((0:Int)≤x41∧x41<(s.rows.m0:Int))) <|
    (s.rows.e0[x41.toNat]?).bind fun (e:Int)=>
    let t:=if (wI .i64 (e+n))<1099511627776 then wI .i64 (e+n) else 1099511627776
    XaU (decide (x41.toNat<s.rows.e0.length)) <|
    let row:=s.rows.e0.set x41.toNat t
    (Xae.v4 (XaC.mk s.key (XcD.mk row s.rows.e1 s.rows.e2 s.rows.e3 s.rows.m0 s.rows.m1 s.rows.m2 s.rows.m3) s.total) 1 text).bind fun x42=>
    XaU (decide ((0:Int)≤x42∧x42<(s.rows.m1:Int))) <|
    (s.rows.e1[x42.toNat]?).bind fun (e1:Int)=>
    let t1:=if (wI .i64 (e1+n))<1099511627776 then wI .i64 (e1+n) else 1099511627776
    XaU (decide (x42.toNat<s.rows.e1.length)) <|
    let row1:=s.rows.e1.set x42.toNat t1
    (Xae.v4 (XaC.mk s.key (XcD.mk row row1 s.rows.e2 s.rows.e3 s.rows.m0 s.rows.m1 s.rows.m2 s.rows.m3) s.total) 2 text).bind fun x43=>
    XaU (decide ((0:Int)≤x43∧x43<(s.rows.m2:Int))) <|
    (s.rows.e2[x43.toNat]?).bind fun (e2:Int)=>
    let t2:=if (wI .i64 (e2+n))<1099511627776 then wI .i64 (e2+n) else 1099511627776
    XaU (decide (x43.toNat<s.rows.e2.length)) <|
    let row2:=s.rows.e2.set x43.toNat t2
    (Xae.v4 (XaC.mk s.key (XcD.mk row row1 row2 s.rows.e3 s.rows.m0 s.rows.m1 s.rows.m2 s.rows.m3) s.total) 3 text).bind fun x44=>
    XaU (decide ((0:Int)≤x44∧x44<(s.rows.m3:Int))) <|
    (s.rows.e3[x44.toNat]?).bind fun (e3:Int)=>
    let t3:=if (wI .i64 (e3+n))<1099511627776 then wI .i64 (e3+n) else 1099511627776
    XaU (decide (x44.toNat<s.rows.e3.length)) <|
    let row3:=s.rows.e3.set x44.toNat t3
    let t4:=if (wI .i64 (s.total+n))<1099511627776 then wI .i64 (s.total+n) else 1099511627776
    some ((true,XaC.mk s.key (XcD.mk row row1 row2 row3 s.rows.m0 s.rows.m1 s.rows.m2 s.rows.m3) t4)))))
def Xre (x:Bool×XaC):Xdj:=⟨.bool x.1,[(vI .i64 x.2.rows.e0),(vI .i64 x.2.rows.e1),(vI .i64 x.2.rows.e2),(vI .i64 x.2.rows.e3)],[some [.int .u64 x.2.key.A,.int .u64 x.2.key.B,.slice (some ⟨5,0,none⟩) 4 1,.int .i64 x.2.total],some [.slice (some ⟨0,0,none⟩) x.2.rows.m0 1,.slice (some ⟨1,0,none⟩) x.2.rows.m1 1,.slice (some ⟨2,0,none⟩) x.2.rows.m2 1,.slice (some ⟨3,0,none⟩) x.2.rows.m3 1],none,none,none,none,none,none,none,none]⟩
abbrev Xeb:=XaC→(List UInt8)→Int→Option (Bool×XaC)
def XdZ (g:Xeb):Dec:=dTr 10 (Xb2 0) fun (y0:XaC)=>dV asS fun (y1:List UInt8)=>dV (asI .i64) fun (y2:Int)=>Xfq (ofG (g y0 y1 y2) Xre)
theorem XB1 {g:Xeb} {y0:XaC} {y1:List UInt8} {y2:Int} {x:Bool×XaC} (hx:g y0 y1 y2=some x):XdZ g [.pointer (some ⟨0,0,none⟩),.string ⟨⟨y1⟩⟩,.int .i64 y2] [some [.int .u64 y0.key.A,.int .u64 y0.key.B,.slice (some ⟨1,0,none⟩) 4 1,.int .i64 y0.total],some [.slice (some ⟨2,0,none⟩) y0.rows.m0 1,.slice (some ⟨3,0,none⟩) y0.rows.m1 1,.slice (some ⟨4,0,none⟩) y0.rows.m2 1,.slice (some ⟨5,0,none⟩) y0.rows.m3 1],some (vI .i64 y0.rows.e0),some (vI .i64 y0.rows.e1),some (vI .i64 y0.rows.e2),some (vI .i64 y0.rows.e3),none,none,none,none]=some (Xre x):=(Xcx rfl rfl (XeL 0 _)).trans ((XcF (Xg1)).trans ((XcF (XgS _)).trans (Xbx hx)))
abbrev Xxh (Xae:Xaq) (Xaa:Xaf):List (Nat×Xc3):=[(20,s20 Xae),(38,s38 Xaa)]
theorem XuY (Xae:Xaq) (Xaa:Xaf) (hS:XaL Try.prog (XaY (Xxh Xae Xaa))) (s:XaC) (text:List UInt8) (n:Int) (res:Bool×XaC) (h:Xe5 Xae Xaa s text n=some res) :
 Xa0 Try.prog 12 10 ⟨⟨12,27,[(0,.pointer (some ⟨0,0,none⟩)),(1,.string ⟨⟨text⟩⟩),(2,.int .i64 n)],[.code XjS],[],false,none⟩,[],[(0,.cells [.int .u64 s.key.A,.int .u64 s.key.B,.slice (some ⟨1,0,none⟩) 4 1,.int .i64 s.total]),(1,.cells [.slice (some ⟨2,0,none⟩) s.rows.m0 1,.slice (some ⟨3,0,none⟩) s.rows.m1 1,.slice (some ⟨4,0,none⟩) s.rows.m2 1,.slice (some ⟨5,0,none⟩) s.rows.m3 1]),(2,.row true (vI .i64 s.rows.e0)),(3,.row true (vI .i64 s.rows.e1)),(4,.row true (vI .i64 s.rows.e2)),(5,.row true (vI .i64 s.rows.e3))],10⟩ (fun v H _=>Res 10 (Xre res) v H):=by
 unfold Xe5 at h
 refine Xa1 XaJ hS true 3000 ?_
 conv=>whnf
 replace h:=XaK.elim h;obtain ⟨x4,hy,h⟩:=h
 refine Xbn.XaO [] (Xar («as»:=[.pointer (some ⟨0,0,none⟩)]) (ws:=[.blk 0 false,.blk 1 false,.blk 2 false,.blk 3 false,.blk 4 false,.blk 5 false,.no,.no,.no,.no]) (n:=0) (m:=0) (t':=11) (Xam (Xa6 rfl rfl (Xai rfl rfl rfl rfl (Xai rfl rfl rfl rfl (Xai rfl rfl (Xat) rfl (Xai rfl rfl (Xat) rfl (Xai rfl rfl (Xat) rfl (Xai rfl rfl (Xat) rfl (Xan (Xan (Xan (Xan XaR)))))))))) rfl) rfl XaP) rfl (by rfl) (Xkd hy) rfl rfl rfl rfl (Xab rfl (Xab rfl (Xab rfl (Xab rfl (Xab rfl (Xab rfl (Xab rfl (Xab rfl (Xab rfl (Xab rfl XaN)))))))))) XaM rfl) ?_
 conv=>whnf
 refine br.h h (by rfl) ?_ ?_
 ·clear h;intro hb h;conv=>whnf
  exact W
 clear h;intro hb h;conv=>whnf
 refine br.h h (by rfl) ?_ ?_
 ·clear h;intro hb h;conv=>whnf
  exact W
 clear h;intro hb h;conv=>whnf
 refine br.h h (by rfl) ?_ ?_
 ·clear h;intro hb h;conv=>whnf
  exact W
 clear h;intro hb h;conv=>whnf
 refine Xa1 XaJ hS true 3000 ?_
 conv=>whnf
 replace h:=XaK.elim h;obtain ⟨x41,hy,h⟩:=h
 refine Xbn.XaO [] (Xar («as»:=[.pointer (some ⟨0,0,none⟩),.int .i64 0,.string ⟨⟨text⟩⟩]) (ws:=[.blk 0 false,.blk 1 false,.blk 2 false,.blk 3 false,.blk 4 false,.blk 5 false,.no,.no,.no,.no]) (n:=0) (m:=0) (t':=22) (Xam (Xa6 rfl rfl (Xai rfl rfl rfl rfl (Xai rfl rfl rfl rfl (Xai rfl rfl (Xat) rfl (Xai rfl rfl (Xat) rfl (Xai rfl rfl (Xat) rfl (Xai rfl rfl (Xat) rfl (Xan (Xan (Xan (Xan XaR)))))))))) rfl) rfl (Xam rfl rfl (Xam rfl rfl XaP))) rfl (by rfl) (XhP hy) rfl rfl rfl rfl (Xab rfl (Xab rfl (Xab rfl (Xab rfl (Xab rfl (Xab rfl (Xab rfl (Xab rfl (Xab rfl (Xab rfl XaN)))))))))) XaM rfl) ?_
 conv=>whnf
 replace h:=XaU.elim h;obtain ⟨hb,h⟩:=h
 try (refine req.intro hb ?_;conv=>whnf)
 replace h:=XaK.elim h;obtain ⟨e,hy,h⟩:=h
 refine rd.I hy (by first|rfl|(rw [Nat.zero_add,Nat.mul_one];try rfl;done)|omega) ?_
 conv=>whnf
 let t:Int:=if (wI .i64 (e+n))<1099511627776 then wI .i64 (e+n) else 1099511627776
 replace h:=XaU.elim h;obtain ⟨hb,h⟩:=h
 refine Xk5 hb (by first|rfl|(rw [Nat.zero_add,Nat.mul_one];try rfl;done)|omega) ?_
 conv=>whnf
 let row:List Int:=s.rows.e0.set x41.toNat t
 refine Xa1 XaJ hS true 3000 ?_
 conv=>whnf
 replace h:=XaK.elim h;obtain ⟨x42,hy,h⟩:=h
 refine Xbn.XaO [] (Xar («as»:=[.pointer (some ⟨0,0,none⟩),.int .i64 1,.string ⟨⟨text⟩⟩]) (ws:=[.blk 0 false,.blk 1 false,.blk 2 false,.blk 3 false,.blk 4 false,.blk 5 false,.no,.no,.no,.no]) (n:=0) (m:=0) (t':=35) (Xam (Xa6 rfl rfl (Xai rfl rfl rfl rfl (Xai rfl rfl rfl rfl (Xai rfl rfl (Xat) rfl (Xai rfl rfl (Xat) rfl (Xai rfl rfl (Xat) rfl (Xai rfl rfl (Xat) rfl (Xan (Xan (Xan (Xan XaR)))))))))) rfl) rfl (Xam rfl rfl (Xam rfl rfl XaP))) rfl (by rfl) (XhP hy) rfl rfl rfl rfl (Xab rfl (Xab rfl (Xab rfl (Xab rfl (Xab rfl (Xab rfl (Xab rfl (Xab rfl (Xab rfl (Xab rfl XaN)))))))))) XaM rfl) ?_
 conv=>whnf
 replace h:=XaU.elim h;obtain ⟨hb,h⟩:=h
 try (refine req.intro hb ?_;conv=>whnf)
 replace h:=XaK.elim h;obtain ⟨e1,hy,h⟩:=h
 refine rd.I hy (by first|rfl|(rw [Nat.zero_add,Nat.mul_one];try rfl;done)|omega) ?_
 conv=>whnf
 let t1:Int:=if (wI .i64 (e1+n))<1099511627776 then wI .i64 (e1+n) else 1099511627776
 replace h:=XaU.elim h;obtain ⟨hb,h⟩:=h
 refine Xk5 hb (by first|rfl|(rw [Nat.zero_add,Nat.mul_one];try rfl;done)|omega) ?_
 conv=>whnf
 let row1:List Int:=s.rows.e1.set x42.toNat t1
 refine Xa1 XaJ hS true 3000 ?_
 conv=>whnf
 replace h:=XaK.elim h;obtain ⟨x43,hy,h⟩:=h
 refine Xbn.XaO [] (Xar («as»:=[.pointer (some ⟨0,0,none⟩),.int .i64 2,.string ⟨⟨text⟩⟩]) (ws:=[.blk 0 false,.blk 1 false,.blk 2 false,.blk 3 false,.blk 4 false,.blk 5 false,.no,.no,.no,.no]) (n:=0) (m:=0) (t':=48) (Xam (Xa6 rfl rfl (Xai rfl rfl rfl rfl (Xai rfl rfl rfl rfl (Xai rfl rfl (Xat) rfl (Xai rfl rfl (Xat) rfl (Xai rfl rfl (Xat) rfl (Xai rfl rfl (Xat) rfl (Xan (Xan (Xan (Xan XaR)))))))))) rfl) rfl (Xam rfl rfl (Xam rfl rfl XaP))) rfl (by rfl) (XhP hy) rfl rfl rfl rfl (Xab rfl (Xab rfl (Xab rfl (Xab rfl (Xab rfl (Xab rfl (Xab rfl (Xab rfl (Xab rfl (Xab rfl XaN)))))))))) XaM rfl) ?_
 conv=>whnf
 replace h:=XaU.elim h;obtain ⟨hb,h⟩:=h
 try (refine req.intro hb ?_;conv=>whnf)
 replace h:=XaK.elim h;obtain ⟨e2,hy,h⟩:=h
 refine rd.I hy (by first|rfl|(rw [Nat.zero_add,Nat.mul_one];try rfl;done)|omega) ?_
 conv=>whnf
 let t2:Int:=if (wI .i64 (e2+n))<1099511627776 then wI .i64 (e2+n) else 1099511627776
 replace h:=XaU.elim h;obtain ⟨hb,h⟩:=h
 refine Xk5 hb (by first|rfl|(rw [Nat.zero_add,Nat.mul_one];try rfl;done)|omega) ?_
 conv=>whnf
 let row2:List Int:=s.rows.e2.set x43.toNat t2
 refine Xa1 XaJ hS true 3000 ?_
 conv=>whnf
 replace h:=XaK.elim h;obtain ⟨x44,hy,h⟩:=h
 refine Xbn.XaO [] (Xar («as»:=[.pointer (some ⟨0,0,none⟩),.int .i64 3,.string ⟨⟨text⟩⟩]) (ws:=[.blk 0 false,.blk 1 false,.blk 2 false,.blk 3 false,.blk 4 false,.blk 5 false,.no,.no,.no,.no]) (n:=0) (m:=0) (t':=61) (Xam (Xa6 rfl rfl (Xai rfl rfl rfl rfl (Xai rfl rfl rfl rfl (Xai rfl rfl (Xat) rfl (Xai rfl rfl (Xat) rfl (Xai rfl rfl (Xat) rfl (Xai rfl rfl (Xat) rfl (Xan (Xan (Xan (Xan XaR)))))))))) rfl) rfl (Xam rfl rfl (Xam rfl rfl XaP))) rfl (by rfl) (XhP hy) rfl rfl rfl rfl (Xab rfl (Xab rfl (Xab rfl (Xab rfl (Xab rfl (Xab rfl (Xab rfl (Xab rfl (Xab rfl (Xab rfl XaN)))))))))) XaM rfl) ?_
 conv=>whnf
 exact W
def Xe2 (Xae:Xaq) (Xaa:Xaf) (s:XaB) (text:List UInt8) (n:Int):Option (Bool×XaB):=
 (Xaa.v5 s).bind fun x5=>
 cond (!x5)
  (
  some ((false,s)))
  (
  cond (decide (n<0))
   (
   some ((false,s)))
   (
   cond (decide (n>1048576))
    (
    some ((false,s)))
    (
    (Xae.v5 s 0 text).bind fun x51=>
    XaU (decide ((0:Int)≤x51∧x51<(s.rows.m0:Int))) <|
    (s.rows.e0[x51.toNat]?).bind fun (e:Int)=>
    let t:=if (wI .i64 (e+n))<1099511627776 then wI .i64 (e+n) else 1099511627776
    XaU (decide (x51.toNat<s.rows.e0.length)) <|
    let row:=s.rows.e0.set x51.toNat t
    (Xae.v5 (XaB.mk s.key (Xcr.mk row s.rows.e1 s.rows.e2 s.rows.e3 s.rows.e4 s.rows.m0 s.rows.m1 s.rows.m2 s.rows.m3 s.rows.m4) s.total) 1 text).bind fun x52=>
    XaU (decide ((0:Int)≤x52∧x52<(s.rows.m1:Int))) <|
    (s.rows.e1[x52.toNat]?).bind fun (e1:Int)=>
    let t1:=if (wI .i64 (e1+n))<1099511627776 then wI .i64 (e1+n) else 1099511627776
    XaU (decide (x52.toNat<s.rows.e1.length)) <|
    let row1:=s.rows.e1.set x52.toNat t1
    (Xae.v5 (XaB.mk s.key (Xcr.mk row row1 s.rows.e2 s.rows.e3 s.rows.e4 s.rows.m0 s.rows.m1 s.rows.m2 s.rows.m3 s.rows.m4) s.total) 2 text).bind fun x53=>
    XaU (decide ((0:Int)≤x53∧x53<(s.rows.m2:Int))) <|
    (s.rows.e2[x53.toNat]?).bind fun (e2:Int)=>
    let t2:=if (wI .i64 (e2+n))<1099511627776 then wI .i64 (e2+n) else 1099511627776
    XaU (decide (x53.toNat<s.rows.e2.length)) <|
    let row2:=s.rows.e2.set x53.toNat t2
    (Xae.v5 (XaB.mk s.key (Xcr.mk row row1 row2 s.rows.e3 s.rows.e4 s.rows.m0 s.rows.m1 s.rows.m2 s.rows.m3 s.rows.m4) s.total) 3 text).bind fun x54=>
    XaU (decide ((0:Int)≤x54∧x54<(s.rows.m3:Int))) <|
    (s.rows.e3[x54.toNat]?).bind fun (e3:Int)=>
    let t3:=if (wI .i64 (e3+n))<1099511627776 then wI .i64 (e3+n) else 1099511627776
    XaU (decide (x54.toNat<s.rows.e3.length)) <|
    let row3:=s.rows.e3.set x54.toNat t3
    (Xae.v5 (XaB.mk s.key (Xcr.mk row row1 row2 row3 s.rows.e4 s.rows.m0 s.rows.m1 s.rows.m2 s.rows.m3 s.rows.m4) s.total) 4 text).bind fun x55=>
    XaU (decide ((0:Int)≤x55∧x55<(s.rows.m4:Int))) <|
    (s.rows.e4[x55.toNat]?).bind fun (e4:Int)=>
    let t4:=if (wI .i64 (e4+n))<1099511627776 then wI .i64 (e4+n) else 1099511627776
    XaU (decide (x55.toNat<s.rows.e4.length)) <|
    let row4:=s.rows.e4.set x55.toNat t4
    let t5:=if (wI .i64 (s.total+n))<1099511627776 then wI .i64 (s.total+n) else 1099511627776
    some ((true,XaB.mk s.key (Xcr.mk row row1 row2 row3 row4 s.rows.m0 s.rows.m1 s.rows.m2 s.rows.m3 s.rows.m4) t5)))))
def Xr1 (x:Bool×XaB):Xdj:=⟨.bool x.1,[(vI .i64 x.2.rows.e0),(vI .i64 x.2.rows.e1),(vI .i64 x.2.rows.e2),(vI .i64 x.2.rows.e3),(vI .i64 x.2.rows.e4)],[some [.int .u64 x.2.key.A,.int .u64 x.2.key.B,.slice (some ⟨6,0,none⟩) 5 1,.int .i64 x.2.total],some [.slice (some ⟨0,0,none⟩) x.2.rows.m0 1,.slice (some ⟨1,0,none⟩) x.2.rows.m1 1,.slice (some ⟨2,0,none⟩) x.2.rows.m2 1,.slice (some ⟨3,0,none⟩) x.2.rows.m3 1,.slice (some ⟨4,0,none⟩) x.2.rows.m4 1],none,none,none,none,none,none,none,none]⟩
abbrev Xef:=XaB→(List UInt8)→Int→Option (Bool×XaB)
def XdO (g:Xef):Dec:=dTr 10 (Xb1 0) fun (y0:XaB)=>dV asS fun (y1:List UInt8)=>dV (asI .i64) fun (y2:Int)=>Xfq (ofG (g y0 y1 y2) Xr1)
theorem XA2 {g:Xef} {y0:XaB} {y1:List UInt8} {y2:Int} {x:Bool×XaB} (hx:g y0 y1 y2=some x):XdO g [.pointer (some ⟨0,0,none⟩),.string ⟨⟨y1⟩⟩,.int .i64 y2] [some [.int .u64 y0.key.A,.int .u64 y0.key.B,.slice (some ⟨1,0,none⟩) 5 1,.int .i64 y0.total],some [.slice (some ⟨2,0,none⟩) y0.rows.m0 1,.slice (some ⟨3,0,none⟩) y0.rows.m1 1,.slice (some ⟨4,0,none⟩) y0.rows.m2 1,.slice (some ⟨5,0,none⟩) y0.rows.m3 1,.slice (some ⟨6,0,none⟩) y0.rows.m4 1],some (vI .i64 y0.rows.e0),some (vI .i64 y0.rows.e1),some (vI .i64 y0.rows.e2),some (vI .i64 y0.rows.e3),some (vI .i64 y0.rows.e4),none,none,none]=some (Xr1 x):=(Xcx rfl rfl (XeR 0 _)).trans ((XcF (Xg1)).trans ((XcF (XgS _)).trans (Xbx hx)))
abbrev Xwk (Xae:Xaq) (Xaa:Xaf):List (Nat×Xc3):=[(20,s20 Xae),(38,s38 Xaa)]
theorem Xts (Xae:Xaq) (Xaa:Xaf) (hS:XaL Try.prog (XaY (Xwk Xae Xaa))) (s:XaB) (text:List UInt8) (n:Int) (res:Bool×XaB) (h:Xe2 Xae Xaa s text n=some res) :
 Xa0 Try.prog 12 10 ⟨⟨12,27,[(0,.pointer (some ⟨0,0,none⟩)),(1,.string ⟨⟨text⟩⟩),(2,.int .i64 n)],[.code XjS],[],false,none⟩,[],[(0,.cells [.int .u64 s.key.A,.int .u64 s.key.B,.slice (some ⟨1,0,none⟩) 5 1,.int .i64 s.total]),(1,.cells [.slice (some ⟨2,0,none⟩) s.rows.m0 1,.slice (some ⟨3,0,none⟩) s.rows.m1 1,.slice (some ⟨4,0,none⟩) s.rows.m2 1,.slice (some ⟨5,0,none⟩) s.rows.m3 1,.slice (some ⟨6,0,none⟩) s.rows.m4 1]),(2,.row true (vI .i64 s.rows.e0)),(3,.row true (vI .i64 s.rows.e1)),(4,.row true (vI .i64 s.rows.e2)),(5,.row true (vI .i64 s.rows.e3)),(6,.row true (vI .i64 s.rows.e4))],10⟩ (fun v H _=>Res 10 (Xr1 res) v H):=by
 unfold Xe2 at h
 refine Xa1 XaJ hS true 3000 ?_
 conv=>whnf
 replace h:=XaK.elim h;obtain ⟨x5,hy,h⟩:=h
 refine Xbn.XaO [] (Xar («as»:=[.pointer (some ⟨0,0,none⟩)]) (ws:=[.blk 0 false,.blk 1 false,.blk 2 false,.blk 3 false,.blk 4 false,.blk 5 false,.blk 6 false,.no,.no,.no]) (n:=0) (m:=0) (t':=11) (Xam (Xa6 rfl rfl (Xai rfl rfl rfl rfl (Xai rfl rfl rfl rfl (Xai rfl rfl (Xat) rfl (Xai rfl rfl (Xat) rfl (Xai rfl rfl (Xat) rfl (Xai rfl rfl (Xat) rfl (Xai rfl rfl (Xat) rfl (Xan (Xan (Xan XaR)))))))))) rfl) rfl XaP) rfl (by rfl) (Xkc hy) rfl rfl rfl rfl (Xab rfl (Xab rfl (Xab rfl (Xab rfl (Xab rfl (Xab rfl (Xab rfl (Xab rfl (Xab rfl (Xab rfl XaN)))))))))) XaM rfl) ?_
 conv=>whnf
 refine br.h h (by rfl) ?_ ?_
 ·clear h;intro hb h;conv=>whnf
  exact W
 clear h;intro hb h;conv=>whnf
 refine br.h h (by rfl) ?_ ?_
 ·clear h;intro hb h;conv=>whnf
  exact W
 clear h;intro hb h;conv=>whnf
 refine br.h h (by rfl) ?_ ?_
 ·clear h;intro hb h;conv=>whnf
  exact W
 clear h;intro hb h;conv=>whnf
 refine Xa1 XaJ hS true 3000 ?_
 conv=>whnf
 replace h:=XaK.elim h;obtain ⟨x51,hy,h⟩:=h
 refine Xbn.XaO [] (Xar («as»:=[.pointer (some ⟨0,0,none⟩),.int .i64 0,.string ⟨⟨text⟩⟩]) (ws:=[.blk 0 false,.blk 1 false,.blk 2 false,.blk 3 false,.blk 4 false,.blk 5 false,.blk 6 false,.no,.no,.no]) (n:=0) (m:=0) (t':=22) (Xam (Xa6 rfl rfl (Xai rfl rfl rfl rfl (Xai rfl rfl rfl rfl (Xai rfl rfl (Xat) rfl (Xai rfl rfl (Xat) rfl (Xai rfl rfl (Xat) rfl (Xai rfl rfl (Xat) rfl (Xai rfl rfl (Xat) rfl (Xan (Xan (Xan XaR)))))))))) rfl) rfl (Xam rfl rfl (Xam rfl rfl XaP))) rfl (by rfl) (Xhl hy) rfl rfl rfl rfl (Xab rfl (Xab rfl (Xab rfl (Xab rfl (Xab rfl (Xab rfl (Xab rfl (Xab rfl (Xab rfl (Xab rfl XaN)))))))))) XaM rfl) ?_
 conv=>whnf
 replace h:=XaU.elim h;obtain ⟨hb,h⟩:=h
 try (refine req.intro hb ?_;conv=>whnf)
 replace h:=XaK.elim h;obtain ⟨e,hy,h⟩:=h
 refine rd.I hy (by first|rfl|(rw [Nat.zero_add,Nat.mul_one];try rfl;done)|omega) ?_
 conv=>whnf
 let t:Int:=if (wI .i64 (e+n))<1099511627776 then wI .i64 (e+n) else 1099511627776
 replace h:=XaU.elim h;obtain ⟨hb,h⟩:=h
 refine Xk5 hb (by first|rfl|(rw [Nat.zero_add,Nat.mul_one];try rfl;done)|omega) ?_
 conv=>whnf
 let row:List Int:=s.rows.e0.set x51.toNat t
 refine Xa1 XaJ hS true 3000 ?_
 conv=>whnf
 replace h:=XaK.elim h;obtain ⟨x52,hy,h⟩:=h
 refine Xbn.XaO [] (Xar («as»:=[.pointer (some ⟨0,0,none⟩),.int .i64 1,.string ⟨⟨text⟩⟩]) (ws:=[.blk 0 false,.blk 1 false,.blk 2 false,.blk 3 false,.blk 4 false,.blk 5 false,.blk 6 false,.no,.no,.no]) (n:=0) (m:=0) (t':=35) (Xam (Xa6 rfl rfl (Xai rfl rfl rfl rfl (Xai rfl rfl rfl rfl (Xai rfl rfl (Xat) rfl (Xai rfl rfl (Xat) rfl (Xai rfl rfl (Xat) rfl (Xai rfl rfl (Xat) rfl (Xai rfl rfl (Xat) rfl (Xan (Xan (Xan XaR)))))))))) rfl) rfl (Xam rfl rfl (Xam rfl rfl XaP))) rfl (by rfl) (Xhl hy) rfl rfl rfl rfl (Xab rfl (Xab rfl (Xab rfl (Xab rfl (Xab rfl (Xab rfl (Xab rfl (Xab rfl (Xab rfl (Xab rfl XaN)))))))))) XaM rfl) ?_
 conv=>whnf
 replace h:=XaU.elim h;obtain ⟨hb,h⟩:=h
 try (refine req.intro hb ?_;conv=>whnf)
 replace h:=XaK.elim h;obtain ⟨e1,hy,h⟩:=h
 refine rd.I hy (by first|rfl|(rw [Nat.zero_add,Nat.mul_one];try rfl;done)|omega) ?_
 conv=>whnf
 let t1:Int:=if (wI .i64 (e1+n))<1099511627776 then wI .i64 (e1+n) else 1099511627776
 replace h:=XaU.elim h;obtain ⟨hb,h⟩:=h
 refine Xk5 hb (by first|rfl|(rw [Nat.zero_add,Nat.mul_one];try rfl;done)|omega) ?_
 conv=>whnf
 let row1:List Int:=s.rows.e1.set x52.toNat t1
 refine Xa1 XaJ hS true 3000 ?_
 conv=>whnf
 replace h:=XaK.elim h;obtain ⟨x53,hy,h⟩:=h
 refine Xbn.XaO [] (Xar («as»:=[.pointer (some ⟨0,0,none⟩),.int .i64 2,.string ⟨⟨text⟩⟩]) (ws:=[.blk 0 false,.blk 1 false,.blk 2 false,.blk 3 false,.blk 4 false,.blk 5 false,.blk 6 false,.no,.no,.no]) (n:=0) (m:=0) (t':=48) (Xam (Xa6 rfl rfl (Xai rfl rfl rfl rfl (Xai rfl rfl rfl rfl (Xai rfl rfl (Xat) rfl (Xai rfl rfl (Xat) rfl (Xai rfl rfl (Xat) rfl (Xai rfl rfl (Xat) rfl (Xai rfl rfl (Xat) rfl (Xan (Xan (Xan XaR)))))))))) rfl) rfl (Xam rfl rfl (Xam rfl rfl XaP))) rfl (by rfl) (Xhl hy) rfl rfl rfl rfl (Xab rfl (Xab rfl (Xab rfl (Xab rfl (Xab rfl (Xab rfl (Xab rfl (Xab rfl (Xab rfl (Xab rfl XaN)))))))))) XaM rfl) ?_
 conv=>whnf
 replace h:=XaU.elim h;obtain ⟨hb,h⟩:=h
 try (refine req.intro hb ?_;conv=>whnf)
 replace h:=XaK.elim h;obtain ⟨e2,hy,h⟩:=h
 refine rd.I hy (by first|rfl|(rw [Nat.zero_add,Nat.mul_one];try rfl;done)|omega) ?_
 conv=>whnf
 let t2:Int:=if (wI .i64 (e2+n))<1099511627776 then wI .i64 (e2+n) else 1099511627776
 replace h:=XaU.elim h;obtain ⟨hb,h⟩:=h
 refine Xk5 hb (by first|rfl|(rw [Nat.zero_add,Nat.mul_one];try rfl;done)|omega) ?_
 conv=>whnf
 let row2:List Int:=s.rows.e2.set x53.toNat t2
 refine Xa1 XaJ hS true 3000 ?_
 conv=>whnf
 replace h:=XaK.elim h;obtain ⟨x54,hy,h⟩:=h
 refine Xbn.XaO [] (Xar («as»:=[.pointer (some ⟨0,0,none⟩),.int .i64 3,.string ⟨⟨text⟩⟩]) (ws:=[.blk 0 false,.blk 1 false,.blk 2 false,.blk 3 false,.blk 4 false,.blk 5 false,.blk 6 false,.no,.no,.no]) (n:=0) (m:=0) (t':=61) (Xam (Xa6 rfl rfl (Xai rfl rfl rfl rfl (Xai rfl rfl rfl rfl (Xai rfl rfl (Xat) rfl (Xai rfl rfl (Xat) rfl (Xai rfl rfl (Xat) rfl (Xai rfl rfl (Xat) rfl (Xai rfl rfl (Xat) rfl (Xan (Xan (Xan XaR)))))))))) rfl) rfl (Xam rfl rfl (Xam rfl rfl XaP))) rfl (by rfl) (Xhl hy) rfl rfl rfl rfl (Xab rfl (Xab rfl (Xab rfl (Xab rfl (Xab rfl (Xab rfl (Xab rfl (Xab rfl (Xab rfl (Xab rfl XaN)))))))))) XaM rfl) ?_
 conv=>whnf
 replace h:=XaU.elim h;obtain ⟨hb,h⟩:=h
 try (refine req.intro hb ?_;conv=>whnf)
 replace h:=XaK.elim h;obtain ⟨e3,hy,h⟩:=h
 refine rd.I hy (by first|rfl|(rw [Nat.zero_add,Nat.mul_one];try rfl;done)|omega) ?_
 conv=>whnf
 let t3:Int:=if (wI .i64 (e3+n))<1099511627776 then wI .i64 (e3+n) else 1099511627776
 replace h:=XaU.elim h;obtain ⟨hb,h⟩:=h
 refine Xk5 hb (by first|rfl|(rw [Nat.zero_add,Nat.mul_one];try rfl;done)|omega) ?_
 conv=>whnf
 let row3:List Int:=s.rows.e3.set x54.toNat t3
 refine Xa1 XaJ hS true 3000 ?_
 conv=>whnf
 replace h:=XaK.elim h;obtain ⟨x55,hy,h⟩:=h
 refine Xbn.XaO [] (Xar («as»:=[.pointer (some ⟨0,0,none⟩),.int .i64 4,.string ⟨⟨text⟩⟩]) (ws:=[.blk 0 false,.blk 1 false,.blk 2 false,.blk 3 false,.blk 4 false,.blk 5 false,.blk 6 false,.no,.no,.no]) (n:=0) (m:=0) (t':=74) (Xam (Xa6 rfl rfl (Xai rfl rfl rfl rfl (Xai rfl rfl rfl rfl (Xai rfl rfl (Xat) rfl (Xai rfl rfl (Xat) rfl (Xai rfl rfl (Xat) rfl (Xai rfl rfl (Xat) rfl (Xai rfl rfl (Xat) rfl (Xan (Xan (Xan XaR)))))))))) rfl) rfl (Xam rfl rfl (Xam rfl rfl XaP))) rfl (by rfl) (Xhl hy) rfl rfl rfl rfl (Xab rfl (Xab rfl (Xab rfl (Xab rfl (Xab rfl (Xab rfl (Xab rfl (Xab rfl (Xab rfl (Xab rfl XaN)))))))))) XaM rfl) ?_
 conv=>whnf
 exact W
def Xe0 (Xae:Xaq) (Xaa:Xaf) (s:Xay) (text:List UInt8) (n:Int):Option (Bool×Xay):=
 (Xaa.v6 s).bind fun x6=>
 cond (!x6)
  (
  some ((false,s)))
  (
  cond (decide (n<0))
   (
   some ((false,s)))
   (
   cond (decide (n>1048576))
    (
    some ((false,s)))
    (
    (Xae.v6 s 0 text).bind fun x61=>
    XaU (decide ((0:Int)≤x61∧x61<(s.rows.m0:Int))) <|
    (s.rows.e0[x61.toNat]?).bind fun (e:Int)=>
    let t:=if (wI .i64 (e+n))<1099511627776 then wI .i64 (e+n) else 1099511627776
    XaU (decide (x61.toNat<s.rows.e0.length)) <|
    let row:=s.rows.e0.set x61.toNat t
    (Xae.v6 (Xay.mk s.key (Xb5.mk row s.rows.e1 s.rows.e2 s.rows.e3 s.rows.e4 s.rows.e5 s.rows.m0 s.rows.m1 s.rows.m2 s.rows.m3 s.rows.m4 s.rows.m5) s.total) 1 text).bind fun x62=>
    XaU (decide ((0:Int)≤x62∧x62<(s.rows.m1:Int))) <|
    (s.rows.e1[x62.toNat]?).bind fun (e1:Int)=>
    let t1:=if (wI .i64 (e1+n))<1099511627776 then wI .i64 (e1+n) else 1099511627776
    XaU (decide (x62.toNat<s.rows.e1.length)) <|
    let row1:=s.rows.e1.set x62.toNat t1
    (Xae.v6 (Xay.mk s.key (Xb5.mk row row1 s.rows.e2 s.rows.e3 s.rows.e4 s.rows.e5 s.rows.m0 s.rows.m1 s.rows.m2 s.rows.m3 s.rows.m4 s.rows.m5) s.total) 2 text).bind fun x63=>
    XaU (decide ((0:Int)≤x63∧x63<(s.rows.m2:Int))) <|
    (s.rows.e2[x63.toNat]?).bind fun (e2:Int)=>
    let t2:=if (wI .i64 (e2+n))<1099511627776 then wI .i64 (e2+n) else 1099511627776
    XaU (decide (x63.toNat<s.rows.e2.length)) <|
    let row2:=s.rows.e2.set x63.toNat t2
    (Xae.v6 (Xay.mk s.key (Xb5.mk row row1 row2 s.rows.e3 s.rows.e4 s.rows.e5 s.rows.m0 s.rows.m1 s.rows.m2 s.rows.m3 s.rows.m4 s.rows.m5) s.total) 3 text).bind fun x64=>
    XaU (decide ((0:Int)≤x64∧x64<(s.rows.m3:Int))) <|
    (s.rows.e3[x64.toNat]?).bind fun (e3:Int)=>
    let t3:=if (wI .i64 (e3+n))<1099511627776 then wI .i64 (e3+n) else 1099511627776
    XaU (decide (x64.toNat<s.rows.e3.length)) <|
    let row3:=s.rows.e3.set x64.toNat t3
    (Xae.v6 (Xay.mk s.key (Xb5.mk row row1 row2 row3 s.rows.e4 s.rows.e5 s.rows.m0 s.rows.m1 s.rows.m2 s.rows.m3 s.rows.m4 s.rows.m5) s.total) 4 text).bind fun x65=>
    XaU (decide ((0:Int)≤x65∧x65<(s.rows.m4:Int))) <|
    (s.rows.e4[x65.toNat]?).bind fun (e4:Int)=>
    let t4:=if (wI .i64 (e4+n))<1099511627776 then wI .i64 (e4+n) else 1099511627776
    XaU (decide (x65.toNat<s.rows.e4.length)) <|
    let row4:=s.rows.e4.set x65.toNat t4
    (Xae.v6 (Xay.mk s.key (Xb5.mk row row1 row2 row3 row4 s.rows.e5 s.rows.m0 s.rows.m1 s.rows.m2 s.rows.m3 s.rows.m4 s.rows.m5) s.total) 5 text).bind fun x66=>
    XaU (decide ((0:Int)≤x66∧x66<(s.rows.m5:Int))) <|
    (s.rows.e5[x66.toNat]?).bind fun (e5:Int)=>
    let t5:=if (wI .i64 (e5+n))<1099511627776 then wI .i64 (e5+n) else 1099511627776
    XaU (decide (x66.toNat<s.rows.e5.length)) <|
    let row5:=s.rows.e5.set x66.toNat t5
    let t6:=if (wI .i64 (s.total+n))<1099511627776 then wI .i64 (s.total+n) else 1099511627776
    some ((true,Xay.mk s.key (Xb5.mk row row1 row2 row3 row4 row5 s.rows.m0 s.rows.m1 s.rows.m2 s.rows.m3 s.rows.m4 s.rows.m5) t6)))))
def Xrj (x:Bool×Xay):Xdj:=⟨.bool x.1,[(vI .i64 x.2.rows.e0),(vI .i64 x.2.rows.e1),(vI .i64 x.2.rows.e2),(vI .i64 x.2.rows.e3),(vI .i64 x.2.rows.e4),(vI .i64 x.2.rows.e5)],[some [.int .u64 x.2.key.A,.int .u64 x.2.key.B,.slice (some ⟨7,0,none⟩) 6 1,.int .i64 x.2.total],some [.slice (some ⟨0,0,none⟩) x.2.rows.m0 1,.slice (some ⟨1,0,none⟩) x.2.rows.m1 1,.slice (some ⟨2,0,none⟩) x.2.rows.m2 1,.slice (some ⟨3,0,none⟩) x.2.rows.m3 1,.slice (some ⟨4,0,none⟩) x.2.rows.m4 1,.slice (some ⟨5,0,none⟩) x.2.rows.m5 1],none,none,none,none,none,none,none,none]⟩
abbrev Xeg:=Xay→(List UInt8)→Int→Option (Bool×Xay)
def Xc7 (g:Xeg):Dec:=dTr 10 (XbY 0) fun (y0:Xay)=>dV asS fun (y1:List UInt8)=>dV (asI .i64) fun (y2:Int)=>Xfq (ofG (g y0 y1 y2) Xrj)
theorem XBC {g:Xeg} {y0:Xay} {y1:List UInt8} {y2:Int} {x:Bool×Xay} (hx:g y0 y1 y2=some x):Xc7 g [.pointer (some ⟨0,0,none⟩),.string ⟨⟨y1⟩⟩,.int .i64 y2] [some [.int .u64 y0.key.A,.int .u64 y0.key.B,.slice (some ⟨1,0,none⟩) 6 1,.int .i64 y0.total],some [.slice (some ⟨2,0,none⟩) y0.rows.m0 1,.slice (some ⟨3,0,none⟩) y0.rows.m1 1,.slice (some ⟨4,0,none⟩) y0.rows.m2 1,.slice (some ⟨5,0,none⟩) y0.rows.m3 1,.slice (some ⟨6,0,none⟩) y0.rows.m4 1,.slice (some ⟨7,0,none⟩) y0.rows.m5 1],some (vI .i64 y0.rows.e0),some (vI .i64 y0.rows.e1),some (vI .i64 y0.rows.e2),some (vI .i64 y0.rows.e3),some (vI .i64 y0.rows.e4),some (vI .i64 y0.rows.e5),none,none]=some (Xrj x):=(Xcx rfl rfl (XeO 0 _)).trans ((XcF (Xg1)).trans ((XcF (XgS _)).trans (Xbx hx)))
abbrev XvS (Xae:Xaq) (Xaa:Xaf):List (Nat×Xc3):=[(20,s20 Xae),(38,s38 Xaa)]
theorem Xu7 (Xae:Xaq) (Xaa:Xaf) (hS:XaL Try.prog (XaY (XvS Xae Xaa))) (s:Xay) (text:List UInt8) (n:Int) (res:Bool×Xay) (h:Xe0 Xae Xaa s text n=some res) :
 Xa0 Try.prog 12 10 ⟨⟨12,27,[(0,.pointer (some ⟨0,0,none⟩)),(1,.string ⟨⟨text⟩⟩),(2,.int .i64 n)],[.code XjS],[],false,none⟩,[],[(0,.cells [.int .u64 s.key.A,.int .u64 s.key.B,.slice (some ⟨1,0,none⟩) 6 1,.int .i64 s.total]),(1,.cells [.slice (some ⟨2,0,none⟩) s.rows.m0 1,.slice (some ⟨3,0,none⟩) s.rows.m1 1,.slice (some ⟨4,0,none⟩) s.rows.m2 1,.slice (some ⟨5,0,none⟩) s.rows.m3 1,.slice (some ⟨6,0,none⟩) s.rows.m4 1,.slice (some ⟨7,0,none⟩) s.rows.m5 1]),(2,.row true (vI .i64 s.rows.e0)),(3,.row true (vI .i64 s.rows.e1)),(4,.row true (vI .i64 s.rows.e2)),(5,.row true (vI .i64 s.rows.e3)),(6,.row true (vI .i64 s.rows.e4)),(7,.row true (vI .i64 s.rows.e5))],10⟩ (fun v H _=>Res 10 (Xrj res) v H):=by
 unfold Xe0 at h
 refine Xa1 XaJ hS true 3000 ?_
 conv=>whnf
 replace h:=XaK.elim h;obtain ⟨x6,hy,h⟩:=h
 refine Xbn.XaO [] (Xar («as»:=[.pointer (some ⟨0,0,none⟩)]) (ws:=[.blk 0 false,.blk 1 false,.blk 2 false,.blk 3 false,.blk 4 false,.blk 5 false,.blk 6 false,.blk 7 false,.no,.no]) (n:=0) (m:=0) (t':=11) (Xam (Xa6 rfl rfl (Xai rfl rfl rfl rfl (Xai rfl rfl rfl rfl (Xai rfl rfl (Xat) rfl (Xai rfl rfl (Xat) rfl (Xai rfl rfl (Xat) rfl (Xai rfl rfl (Xat) rfl (Xai rfl rfl (Xat) rfl (Xai rfl rfl (Xat) rfl (Xan (Xan XaR)))))))))) rfl) rfl XaP) rfl (by rfl) (Xj8 hy) rfl rfl rfl rfl (Xab rfl (Xab rfl (Xab rfl (Xab rfl (Xab rfl (Xab rfl (Xab rfl (Xab rfl (Xab rfl (Xab rfl XaN)))))))))) XaM rfl) ?_
 conv=>whnf
 refine br.h h (by rfl) ?_ ?_
 ·clear h;intro hb h;conv=>whnf
  exact W
 clear h;intro hb h;conv=>whnf
 refine br.h h (by rfl) ?_ ?_
 ·clear h;intro hb h;conv=>whnf
  exact W
 clear h;intro hb h;conv=>whnf
 refine br.h h (by rfl) ?_ ?_
 ·clear h;intro hb h;conv=>whnf
  exact W
 clear h;intro hb h;conv=>whnf
 refine Xa1 XaJ hS true 3000 ?_
 conv=>whnf
 replace h:=XaK.elim h;obtain ⟨x61,hy,h⟩:=h
 refine Xbn.XaO [] (Xar («as»:=[.pointer (some ⟨0,0,none⟩),.int .i64 0,.string ⟨⟨text⟩⟩]) (ws:=[.blk 0 false,.blk 1 false,.blk 2 false,.blk 3 false,.blk 4 false,.blk 5 false,.blk 6 false,.blk 7 false,.no,.no]) (n:=0) (m:=0) (t':=22) (Xam (Xa6 rfl rfl (Xai rfl rfl rfl rfl (Xai rfl rfl rfl rfl (Xai rfl rfl (Xat) rfl (Xai rfl rfl (Xat) rfl (Xai rfl rfl (Xat) rfl (Xai rfl rfl (Xat) rfl (Xai rfl rfl (Xat) rfl (Xai rfl rfl (Xat) rfl (Xan (Xan XaR)))))))))) rfl) rfl (Xam rfl rfl (Xam rfl rfl XaP))) rfl (by rfl) (XgH hy) rfl rfl rfl rfl (Xab rfl (Xab rfl (Xab rfl (Xab rfl (Xab rfl (Xab rfl (Xab rfl (Xab rfl (Xab rfl (Xab rfl XaN)))))))))) XaM rfl) ?_
 conv=>whnf
 replace h:=XaU.elim h;obtain ⟨hb,h⟩:=h
 try (refine req.intro hb ?_;conv=>whnf)
 replace h:=XaK.elim h;obtain ⟨e,hy,h⟩:=h
 refine rd.I hy (by first|rfl|(rw [Nat.zero_add,Nat.mul_one];try rfl;done)|omega) ?_
 conv=>whnf
 let t:Int:=if (wI .i64 (e+n))<1099511627776 then wI .i64 (e+n) else 1099511627776
 replace h:=XaU.elim h;obtain ⟨hb,h⟩:=h
 refine Xk5 hb (by first|rfl|(rw [Nat.zero_add,Nat.mul_one];try rfl;done)|omega) ?_
 conv=>whnf
 let row:List Int:=s.rows.e0.set x61.toNat t
 refine Xa1 XaJ hS true 3000 ?_
 conv=>whnf
 replace h:=XaK.elim h;obtain ⟨x62,hy,h⟩:=h
 refine Xbn.XaO [] (Xar («as»:=[.pointer (some ⟨0,0,none⟩),.int .i64 1,.string ⟨⟨text⟩⟩]) (ws:=[.blk 0 false,.blk 1 false,.blk 2 false,.blk 3 false,.blk 4 false,.blk 5 false,.blk 6 false,.blk 7 false,.no,.no]) (n:=0) (m:=0) (t':=35) (Xam (Xa6 rfl rfl (Xai rfl rfl rfl rfl (Xai rfl rfl rfl rfl (Xai rfl rfl (Xat) rfl (Xai rfl rfl (Xat) rfl (Xai rfl rfl (Xat) rfl (Xai rfl rfl (Xat) rfl (Xai rfl rfl (Xat) rfl (Xai rfl rfl (Xat) rfl (Xan (Xan XaR)))))))))) rfl) rfl (Xam rfl rfl (Xam rfl rfl XaP))) rfl (by rfl) (XgH hy) rfl rfl rfl rfl (Xab rfl (Xab rfl (Xab rfl (Xab rfl (Xab rfl (Xab rfl (Xab rfl (Xab rfl (Xab rfl (Xab rfl XaN)))))))))) XaM rfl) ?_
 conv=>whnf
 replace h:=XaU.elim h;obtain ⟨hb,h⟩:=h
 try (refine req.intro hb ?_;conv=>whnf)
 replace h:=XaK.elim h;obtain ⟨e1,hy,h⟩:=h
 refine rd.I hy (by first|rfl|(rw [Nat.zero_add,Nat.mul_one];try rfl;done)|omega) ?_
 conv=>whnf
 let t1:Int:=if (wI .i64 (e1+n))<1099511627776 then wI .i64 (e1+n) else 1099511627776
 replace h:=XaU.elim h;obtain ⟨hb,h⟩:=h
 refine Xk5 hb (by first|rfl|(rw [Nat.zero_add,Nat.mul_one];try rfl;done)|omega) ?_
 conv=>whnf
 let row1:List Int:=s.rows.e1.set x62.toNat t1
 refine Xa1 XaJ hS true 3000 ?_
 conv=>whnf
 replace h:=XaK.elim h;obtain ⟨x63,hy,h⟩:=h
 refine Xbn.XaO [] (Xar («as»:=[.pointer (some ⟨0,0,none⟩),.int .i64 2,.string ⟨⟨text⟩⟩]) (ws:=[.blk 0 false,.blk 1 false,.blk 2 false,.blk 3 false,.blk 4 false,.blk 5 false,.blk 6 false,.blk 7 false,.no,.no]) (n:=0) (m:=0) (t':=48) (Xam (Xa6 rfl rfl (Xai rfl rfl rfl rfl (Xai rfl rfl rfl rfl (Xai rfl rfl (Xat) rfl (Xai rfl rfl (Xat) rfl (Xai rfl rfl (Xat) rfl (Xai rfl rfl (Xat) rfl (Xai rfl rfl (Xat) rfl (Xai rfl rfl (Xat) rfl (Xan (Xan XaR)))))))))) rfl) rfl (Xam rfl rfl (Xam rfl rfl XaP))) rfl (by rfl) (XgH hy) rfl rfl rfl rfl (Xab rfl (Xab rfl (Xab rfl (Xab rfl (Xab rfl (Xab rfl (Xab rfl (Xab rfl (Xab rfl (Xab rfl XaN)))))))))) XaM rfl) ?_
 conv=>whnf
 replace h:=XaU.elim h;obtain ⟨hb,h⟩:=h
 try (refine req.intro hb ?_;conv=>whnf)
 replace h:=XaK.elim h;obtain ⟨e2,hy,h⟩:=h
 refine rd.I hy (by first|rfl|(rw [Nat.zero_add,Nat.mul_one];try rfl;done)|omega) ?_
 conv=>whnf
 let t2:Int:=if (wI .i64 (e2+n))<1099511627776 then wI .i64 (e2+n) else 1099511627776
 replace h:=XaU.elim h;obtain ⟨hb,h⟩:=h
 refine Xk5 hb (by first|rfl|(rw [Nat.zero_add,Nat.mul_one];try rfl;done)|omega) ?_
 conv=>whnf
 let row2:List Int:=s.rows.e2.set x63.toNat t2
 refine Xa1 XaJ hS true 3000 ?_
 conv=>whnf
 replace h:=XaK.elim h;obtain ⟨x64,hy,h⟩:=h
 refine Xbn.XaO [] (Xar («as»:=[.pointer (some ⟨0,0,none⟩),.int .i64 3,.string ⟨⟨text⟩⟩]) (ws:=[.blk 0 false,.blk 1 false,.blk 2 false,.blk 3 false,.blk 4 false,.blk 5 false,.blk 6 false,.blk 7 false,.no,.no]) (n:=0) (m:=0) (t':=61) (Xam (Xa6 rfl rfl (Xai rfl rfl rfl rfl (Xai rfl rfl rfl rfl (Xai rfl rfl (Xat) rfl (Xai rfl rfl (Xat) rfl (Xai rfl rfl (Xat) rfl (Xai rfl rfl (Xat) rfl (Xai rfl rfl (Xat) rfl (Xai rfl rfl (Xat) rfl (Xan (Xan XaR)))))))))) rfl) rfl (Xam rfl rfl (Xam rfl rfl XaP))) rfl (by rfl) (XgH hy) rfl rfl rfl rfl (Xab rfl (Xab rfl (Xab rfl (Xab rfl (Xab rfl (Xab rfl (Xab rfl (Xab rfl (Xab rfl (Xab rfl XaN)))))))))) XaM rfl) ?_
 conv=>whnf
 replace h:=XaU.elim h;obtain ⟨hb,h⟩:=h
 try (refine req.intro hb ?_;conv=>whnf)
 replace h:=XaK.elim h;obtain ⟨e3,hy,h⟩:=h
 refine rd.I hy (by first|rfl|(rw [Nat.zero_add,Nat.mul_one];try rfl;done)|omega) ?_
 conv=>whnf
 let t3:Int:=if (wI .i64 (e3+n))<1099511627776 then wI .i64 (e3+n) else 1099511627776
 replace h:=XaU.elim h;obtain ⟨hb,h⟩:=h
 refine Xk5 hb (by first|rfl|(rw [Nat.zero_add,Nat.mul_one];try rfl;done)|omega) ?_
 conv=>whnf
 let row3:List Int:=s.rows.e3.set x64.toNat t3
 refine Xa1 XaJ hS true 3000 ?_
 conv=>whnf
 replace h:=XaK.elim h;obtain ⟨x65,hy,h⟩:=h
 refine Xbn.XaO [] (Xar («as»:=[.pointer (some ⟨0,0,none⟩),.int .i64 4,.string ⟨⟨text⟩⟩]) (ws:=[.blk 0 false,.blk 1 false,.blk 2 false,.blk 3 false,.blk 4 false,.blk 5 false,.blk 6 false,.blk 7 false,.no,.no]) (n:=0) (m:=0) (t':=74) (Xam (Xa6 rfl rfl (Xai rfl rfl rfl rfl (Xai rfl rfl rfl rfl (Xai rfl rfl (Xat) rfl (Xai rfl rfl (Xat) rfl (Xai rfl rfl (Xat) rfl (Xai rfl rfl (Xat) rfl (Xai rfl rfl (Xat) rfl (Xai rfl rfl (Xat) rfl (Xan (Xan XaR)))))))))) rfl) rfl (Xam rfl rfl (Xam rfl rfl XaP))) rfl (by rfl) (XgH hy) rfl rfl rfl rfl (Xab rfl (Xab rfl (Xab rfl (Xab rfl (Xab rfl (Xab rfl (Xab rfl (Xab rfl (Xab rfl (Xab rfl XaN)))))))))) XaM rfl) ?_
 conv=>whnf
 replace h:=XaU.elim h;obtain ⟨hb,h⟩:=h
 try (refine req.intro hb ?_;conv=>whnf)
 replace h:=XaK.elim h;obtain ⟨e4,hy,h⟩:=h
 refine rd.I hy (by first|rfl|(rw [Nat.zero_add,Nat.mul_one];try rfl;done)|omega) ?_
 conv=>whnf
 let t4:Int:=if (wI .i64 (e4+n))<1099511627776 then wI .i64 (e4+n) else 1099511627776
 replace h:=XaU.elim h;obtain ⟨hb,h⟩:=h
 refine Xk5 hb (by first|rfl|(rw [Nat.zero_add,Nat.mul_one];try rfl;done)|omega) ?_
 conv=>whnf
 let row4:List Int:=s.rows.e4.set x65.toNat t4
 refine Xa1 XaJ hS true 3000 ?_
 conv=>whnf
 replace h:=XaK.elim h;obtain ⟨x66,hy,h⟩:=h
 refine Xbn.XaO [] (Xar («as»:=[.pointer (some ⟨0,0,none⟩),.int .i64 5,.string ⟨⟨text⟩⟩]) (ws:=[.blk 0 false,.blk 1 false,.blk 2 false,.blk 3 false,.blk 4 false,.blk 5 false,.blk 6 false,.blk 7 false,.no,.no]) (n:=0) (m:=0) (t':=87) (Xam (Xa6 rfl rfl (Xai rfl rfl rfl rfl (Xai rfl rfl rfl rfl (Xai rfl rfl (Xat) rfl (Xai rfl rfl (Xat) rfl (Xai rfl rfl (Xat) rfl (Xai rfl rfl (Xat) rfl (Xai rfl rfl (Xat) rfl (Xai rfl rfl (Xat) rfl (Xan (Xan XaR)))))))))) rfl) rfl (Xam rfl rfl (Xam rfl rfl XaP))) rfl (by rfl) (XgH hy) rfl rfl rfl rfl (Xab rfl (Xab rfl (Xab rfl (Xab rfl (Xab rfl (Xab rfl (Xab rfl (Xab rfl (Xab rfl (Xab rfl XaN)))))))))) XaM rfl) ?_
 conv=>whnf
 exact W
def XeY (Xae:Xaq) (Xaa:Xaf) (s:Xaw) (text:List UInt8) (n:Int):Option (Bool×Xaw):=
 (Xaa.v7 s).bind fun x7=>
 cond (!x7)
  (
  some ((false,s)))
  (
  cond (decide (n<0))
   (
   some ((false,s)))
   (
   cond (decide (n>1048576))
    (
    some ((false,s)))
    (
    (Xae.v7 s 0 text).bind fun x71=>
    XaU (decide ((0:Int)≤x71∧x71<(s.rows.m0:Int))) <|
    (s.rows.e0[x71.toNat]?).bind fun (e:Int)=>
    let t:=if (wI .i64 (e+n))<1099511627776 then wI .i64 (e+n) else 1099511627776
    XaU (decide (x71.toNat<s.rows.e0.length)) <|
    let row:=s.rows.e0.set x71.toNat t
    (Xae.v7 (Xaw.mk s.key (XbT.mk row s.rows.e1 s.rows.e2 s.rows.e3 s.rows.e4 s.rows.e5 s.rows.e6 s.rows.m0 s.rows.m1 s.rows.m2 s.rows.m3 s.rows.m4 s.rows.m5 s.rows.m6) s.total) 1 text).bind fun x72=>
    XaU (decide ((0:Int)≤x72∧x72<(s.rows.m1:Int))) <|
    (s.rows.e1[x72.toNat]?).bind fun (e1:Int)=>
    let t1:=if (wI .i64 (e1+n))<1099511627776 then wI .i64 (e1+n) else 1099511627776
    XaU (decide (x72.toNat<s.rows.e1.length)) <|
    let row1:=s.rows.e1.set x72.toNat t1
    (Xae.v7 (Xaw.mk s.key (XbT.mk row row1 s.rows.e2 s.rows.e3 s.rows.e4 s.rows.e5 s.rows.e6 s.rows.m0 s.rows.m1 s.rows.m2 s.rows.m3 s.rows.m4 s.rows.m5 s.rows.m6) s.total) 2 text).bind fun x73=>
    XaU (decide ((0:Int)≤x73∧x73<(s.rows.m2:Int))) <|
    (s.rows.e2[x73.toNat]?).bind fun (e2:Int)=>
    let t2:=if (wI .i64 (e2+n))<1099511627776 then wI .i64 (e2+n) else 1099511627776
    XaU (decide (x73.toNat<s.rows.e2.length)) <|
    let row2:=s.rows.e2.set x73.toNat t2
    (Xae.v7 (Xaw.mk s.key (XbT.mk row row1 row2 s.rows.e3 s.rows.e4 s.rows.e5 s.rows.e6 s.rows.m0 s.rows.m1 s.rows.m2 s.rows.m3 s.rows.m4 s.rows.m5 s.rows.m6) s.total) 3 text).bind fun x74=>
    XaU (decide ((0:Int)≤x74∧x74<(s.rows.m3:Int))) <|
    (s.rows.e3[x74.toNat]?).bind fun (e3:Int)=>
    let t3:=if (wI .i64 (e3+n))<1099511627776 then wI .i64 (e3+n) else 1099511627776
    XaU (decide (x74.toNat<s.rows.e3.length)) <|
    let row3:=s.rows.e3.set x74.toNat t3
    (Xae.v7 (Xaw.mk s.key (XbT.mk row row1 row2 row3 s.rows.e4 s.rows.e5 s.rows.e6 s.rows.m0 s.rows.m1 s.rows.m2 s.rows.m3 s.rows.m4 s.rows.m5 s.rows.m6) s.total) 4 text).bind fun x75=>
    XaU (decide ((0:Int)≤x75∧x75<(s.rows.m4:Int))) <|
    (s.rows.e4[x75.toNat]?).bind fun (e4:Int)=>
    let t4:=if (wI .i64 (e4+n))<1099511627776 then wI .i64 (e4+n) else 1099511627776
    XaU (decide (x75.toNat<s.rows.e4.length)) <|
    let row4:=s.rows.e4.set x75.toNat t4
    (Xae.v7 (Xaw.mk s.key (XbT.mk row row1 row2 row3 row4 s.rows.e5 s.rows.e6 s.rows.m0 s.rows.m1 s.rows.m2 s.rows.m3 s.rows.m4 s.rows.m5 s.rows.m6) s.total) 5 text).bind fun x76=>
    XaU (decide ((0:Int)≤x76∧x76<(s.rows.m5:Int))) <|
    (s.rows.e5[x76.toNat]?).bind fun (e5:Int)=>
    let t5:=if (wI .i64 (e5+n))<1099511627776 then wI .i64 (e5+n) else 1099511627776
    XaU (decide (x76.toNat<s.rows.e5.length)) <|
    let row5:=s.rows.e5.set x76.toNat t5
    (Xae.v7 (Xaw.mk s.key (XbT.mk row row1 row2 row3 row4 row5 s.rows.e6 s.rows.m0 s.rows.m1 s.rows.m2 s.rows.m3 s.rows.m4 s.rows.m5 s.rows.m6) s.total) 6 text).bind fun x77=>
    XaU (decide ((0:Int)≤x77∧x77<(s.rows.m6:Int))) <|
    (s.rows.e6[x77.toNat]?).bind fun (e6:Int)=>
    let t6:=if (wI .i64 (e6+n))<1099511627776 then wI .i64 (e6+n) else 1099511627776
    XaU (decide (x77.toNat<s.rows.e6.length)) <|
    let row6:=s.rows.e6.set x77.toNat t6
    let t7:=if (wI .i64 (s.total+n))<1099511627776 then wI .i64 (s.total+n) else 1099511627776
    some ((true,Xaw.mk s.key (XbT.mk row row1 row2 row3 row4 row5 row6 s.rows.m0 s.rows.m1 s.rows.m2 s.rows.m3 s.rows.m4 s.rows.m5 s.rows.m6) t7)))))
def Xr9 (x:Bool×Xaw):Xdj:=⟨.bool x.1,[(vI .i64 x.2.rows.e0),(vI .i64 x.2.rows.e1),(vI .i64 x.2.rows.e2),(vI .i64 x.2.rows.e3),(vI .i64 x.2.rows.e4),(vI .i64 x.2.rows.e5),(vI .i64 x.2.rows.e6)],[some [.int .u64 x.2.key.A,.int .u64 x.2.key.B,.slice (some ⟨8,0,none⟩) 7 1,.int .i64 x.2.total],some [.slice (some ⟨0,0,none⟩) x.2.rows.m0 1,.slice (some ⟨1,0,none⟩) x.2.rows.m1 1,.slice (some ⟨2,0,none⟩) x.2.rows.m2 1,.slice (some ⟨3,0,none⟩) x.2.rows.m3 1,.slice (some ⟨4,0,none⟩) x.2.rows.m4 1,.slice (some ⟨5,0,none⟩) x.2.rows.m5 1,.slice (some ⟨6,0,none⟩) x.2.rows.m6 1],none,none,none,none,none,none,none,none]⟩
abbrev Xes:=Xaw→(List UInt8)→Int→Option (Bool×Xaw)
def XcX (g:Xes):Dec:=dTr 10 (Xb0 0) fun (y0:Xaw)=>dV asS fun (y1:List UInt8)=>dV (asI .i64) fun (y2:Int)=>Xfq (ofG (g y0 y1 y2) Xr9)
theorem XBw {g:Xes} {y0:Xaw} {y1:List UInt8} {y2:Int} {x:Bool×Xaw} (hx:g y0 y1 y2=some x):XcX g [.pointer (some ⟨0,0,none⟩),.string ⟨⟨y1⟩⟩,.int .i64 y2] [some [.int .u64 y0.key.A,.int .u64 y0.key.B,.slice (some ⟨1,0,none⟩) 7 1,.int .i64 y0.total],some [.slice (some ⟨2,0,none⟩) y0.rows.m0 1,.slice (some ⟨3,0,none⟩) y0.rows.m1 1,.slice (some ⟨4,0,none⟩) y0.rows.m2 1,.slice (some ⟨5,0,none⟩) y0.rows.m3 1,.slice (some ⟨6,0,none⟩) y0.rows.m4 1,.slice (some ⟨7,0,none⟩) y0.rows.m5 1,.slice (some ⟨8,0,none⟩) y0.rows.m6 1],some (vI .i64 y0.rows.e0),some (vI .i64 y0.rows.e1),some (vI .i64 y0.rows.e2),some (vI .i64 y0.rows.e3),some (vI .i64 y0.rows.e4),some (vI .i64 y0.rows.e5),some (vI .i64 y0.rows.e6),none]=some (Xr9 x):=(Xcx rfl rfl (XeS 0 _)).trans ((XcF (Xg1)).trans ((XcF (XgS _)).trans (Xbx hx)))
abbrev Xwx (Xae:Xaq) (Xaa:Xaf):List (Nat×Xc3):=[(20,s20 Xae),(38,s38 Xaa)]
theorem XuI (Xae:Xaq) (Xaa:Xaf) (hS:XaL Try.prog (XaY (Xwx Xae Xaa))) (s:Xaw) (text:List UInt8) (n:Int) (res:Bool×Xaw) (h:XeY Xae Xaa s text n=some res) :
 Xa0 Try.prog 12 10 ⟨⟨12,27,[(0,.pointer (some ⟨0,0,none⟩)),(1,.string ⟨⟨text⟩⟩),(2,.int .i64 n)],[.code XjS],[],false,none⟩,[],[(0,.cells [.int .u64 s.key.A,.int .u64 s.key.B,.slice (some ⟨1,0,none⟩) 7 1,.int .i64 s.total]),(1,.cells [.slice (some ⟨2,0,none⟩) s.rows.m0 1,.slice (some ⟨3,0,none⟩) s.rows.m1 1,.slice (some ⟨4,0,none⟩) s.rows.m2 1,.slice (some ⟨5,0,none⟩) s.rows.m3 1,.slice (some ⟨6,0,none⟩) s.rows.m4 1,.slice (some ⟨7,0,none⟩) s.rows.m5 1,.slice (some ⟨8,0,none⟩) s.rows.m6 1]),(2,.row true (vI .i64 s.rows.e0)),(3,.row true (vI .i64 s.rows.e1)),(4,.row true (vI .i64 s.rows.e2)),(5,.row true (vI .i64 s.rows.e3)),(6,.row true (vI .i64 s.rows.e4)),(7,.row true (vI .i64 s.rows.e5)),(8,.row true (vI .i64 s.rows.e6))],10⟩ (fun v H _=>Res 10 (Xr9 res) v H):=by
 unfold XeY at h
 refine Xa1 XaJ hS true 3000 ?_
 conv=>whnf
 replace h:=XaK.elim h;obtain ⟨x7,hy,h⟩:=h
 refine Xbn.XaO [] (Xar («as»:=[.pointer (some ⟨0,0,none⟩)]) (ws:=[.blk 0 false,.blk 1 false,.blk 2 false,.blk 3 false,.blk 4 false,.blk 5 false,.blk 6 false,.blk 7 false,.blk 8 false,.no]) (n:=0) (m:=0) (t':=11) (Xam (Xa6 rfl rfl (Xai rfl rfl rfl rfl (Xai rfl rfl rfl rfl (Xai rfl rfl (Xat) rfl (Xai rfl rfl (Xat) rfl (Xai rfl rfl (Xat) rfl (Xai rfl rfl (Xat) rfl (Xai rfl rfl (Xat) rfl (Xai rfl rfl (Xat) rfl (Xai rfl rfl (Xat) rfl (Xan XaR)))))))))) rfl) rfl XaP) rfl (by rfl) (Xj1 hy) rfl rfl rfl rfl (Xab rfl (Xab rfl (Xab rfl (Xab rfl (Xab rfl (Xab rfl (Xab rfl (Xab rfl (Xab rfl (Xab rfl XaN)))))))))) XaM rfl) ?_
 conv=>whnf
 refine br.h h (by rfl) ?_ ?_
 ·clear h;intro hb h;conv=>whnf
  exact W
 clear h;intro hb h;conv=>whnf
 refine br.h h (by rfl) ?_ ?_
 ·clear h;intro hb h;conv=>whnf
  exact W
 clear h;intro hb h;conv=>whnf
 refine br.h h (by rfl) ?_ ?_
 ·clear h;intro hb h;conv=>whnf
  exact W
 clear h;intro hb h;conv=>whnf
 refine Xa1 XaJ hS true 3000 ?_
 conv=>whnf
 replace h:=XaK.elim h;obtain ⟨x71,hy,h⟩:=h
 refine Xbn.XaO [] (Xar («as»:=[.pointer (some ⟨0,0,none⟩),.int .i64 0,.string ⟨⟨text⟩⟩]) (ws:=[.blk 0 false,.blk 1 false,.blk 2 false,.blk 3 false,.blk 4 false,.blk 5 false,.blk 6 false,.blk 7 false,.blk 8 false,.no]) (n:=0) (m:=0) (t':=22) (Xam (Xa6 rfl rfl (Xai rfl rfl rfl rfl (Xai rfl rfl rfl rfl (Xai rfl rfl (Xat) rfl (Xai rfl rfl (Xat) rfl (Xai rfl rfl (Xat) rfl (Xai rfl rfl (Xat) rfl (Xai rfl rfl (Xat) rfl (Xai rfl rfl (Xat) rfl (Xai rfl rfl (Xat) rfl (Xan XaR)))))))))) rfl) rfl (Xam rfl rfl (Xam rfl rfl XaP))) rfl (by rfl) (Xf2 hy) rfl rfl rfl rfl (Xab rfl (Xab rfl (Xab rfl (Xab rfl (Xab rfl (Xab rfl (Xab rfl (Xab rfl (Xab rfl (Xab rfl XaN)))))))))) XaM rfl) ?_
 conv=>whnf
 replace h:=XaU.elim h;obtain ⟨hb,h⟩:=h
 try (refine req.intro hb ?_;conv=>whnf)
 replace h:=XaK.elim h;obtain ⟨e,hy,h⟩:=h
 refine rd.I hy (by first|rfl|(rw [Nat.zero_add,Nat.mul_one];try rfl;done)|omega) ?_
 conv=>whnf
 let t:Int:=if (wI .i64 (e+n))<1099511627776 then wI .i64 (e+n) else 1099511627776
 replace h:=XaU.elim h;obtain ⟨hb,h⟩:=h
 refine Xk5 hb (by first|rfl|(rw [Nat.zero_add,Nat.mul_one];try rfl;done)|omega) ?_
 conv=>whnf
 let row:List Int:=s.rows.e0.set x71.toNat t
 refine Xa1 XaJ hS true 3000 ?_
 conv=>whnf
 replace h:=XaK.elim h;obtain ⟨x72,hy,h⟩:=h
 refine Xbn.XaO [] (Xar («as»:=[.pointer (some ⟨0,0,none⟩),.int .i64 1,.string ⟨⟨text⟩⟩]) (ws:=[.blk 0 false,.blk 1 false,.blk 2 false,.blk 3 false,.blk 4 false,.blk 5 false,.blk 6 false,.blk 7 false,.blk 8 false,.no]) (n:=0) (m:=0) (t':=35) (Xam (Xa6 rfl rfl (Xai rfl rfl rfl rfl (Xai rfl rfl rfl rfl (Xai rfl rfl (Xat) rfl (Xai rfl rfl (Xat) rfl (Xai rfl rfl (Xat) rfl (Xai rfl rfl (Xat) rfl (Xai rfl rfl (Xat) rfl (Xai rfl rfl (Xat) rfl (Xai rfl rfl (Xat) rfl (Xan XaR)))))))))) rfl) rfl (Xam rfl rfl (Xam rfl rfl XaP))) rfl (by rfl) (Xf2 hy) rfl rfl rfl rfl (Xab rfl (Xab rfl (Xab rfl (Xab rfl (Xab rfl (Xab rfl (Xab rfl (Xab rfl (Xab rfl (Xab rfl XaN)))))))))) XaM rfl) ?_
 conv=>whnf
 replace h:=XaU.elim h;obtain ⟨hb,h⟩:=h
 try (refine req.intro hb ?_;conv=>whnf)
 replace h:=XaK.elim h;obtain ⟨e1,hy,h⟩:=h
 refine rd.I hy (by first|rfl|(rw [Nat.zero_add,Nat.mul_one];try rfl;done)|omega) ?_
 conv=>whnf
 let t1:Int:=if (wI .i64 (e1+n))<1099511627776 then wI .i64 (e1+n) else 1099511627776
 replace h:=XaU.elim h;obtain ⟨hb,h⟩:=h
 refine Xk5 hb (by first|rfl|(rw [Nat.zero_add,Nat.mul_one];try rfl;done)|omega) ?_
 conv=>whnf
 let row1:List Int:=s.rows.e1.set x72.toNat t1
 refine Xa1 XaJ hS true 3000 ?_
 conv=>whnf
 replace h:=XaK.elim h;obtain ⟨x73,hy,h⟩:=h
 refine Xbn.XaO [] (Xar («as»:=[.pointer (some ⟨0,0,none⟩),.int .i64 2,.string ⟨⟨text⟩⟩]) (ws:=[.blk 0 false,.blk 1 false,.blk 2 false,.blk 3 false,.blk 4 false,.blk 5 false,.blk 6 false,.blk 7 false,.blk 8 false,.no]) (n:=0) (m:=0) (t':=48) (Xam (Xa6 rfl rfl (Xai rfl rfl rfl rfl (Xai rfl rfl rfl rfl (Xai rfl rfl (Xat) rfl (Xai rfl rfl (Xat) rfl (Xai rfl rfl (Xat) rfl (Xai rfl rfl (Xat) rfl (Xai rfl rfl (Xat) rfl (Xai rfl rfl (Xat) rfl (Xai rfl rfl (Xat) rfl (Xan XaR)))))))))) rfl) rfl (Xam rfl rfl (Xam rfl rfl XaP))) rfl (by rfl) (Xf2 hy) rfl rfl rfl rfl (Xab rfl (Xab rfl (Xab rfl (Xab rfl (Xab rfl (Xab rfl (Xab rfl (Xab rfl (Xab rfl (Xab rfl XaN)))))))))) XaM rfl) ?_
 conv=>whnf
 replace h:=XaU.elim h;obtain ⟨hb,h⟩:=h
 try (refine req.intro hb ?_;conv=>whnf)
 replace h:=XaK.elim h;obtain ⟨e2,hy,h⟩:=h
 refine rd.I hy (by first|rfl|(rw [Nat.zero_add,Nat.mul_one];try rfl;done)|omega) ?_
 conv=>whnf
 let t2:Int:=if (wI .i64 (e2+n))<1099511627776 then wI .i64 (e2+n) else 1099511627776
 replace h:=XaU.elim h;obtain ⟨hb,h⟩:=h
 refine Xk5 hb (by first|rfl|(rw [Nat.zero_add,Nat.mul_one];try rfl;done)|omega) ?_
 conv=>whnf
 let row2:List Int:=s.rows.e2.set x73.toNat t2
 refine Xa1 XaJ hS true 3000 ?_
 conv=>whnf
 replace h:=XaK.elim h;obtain ⟨x74,hy,h⟩:=h
 refine Xbn.XaO [] (Xar («as»:=[.pointer (some ⟨0,0,none⟩),.int .i64 3,.string ⟨⟨text⟩⟩]) (ws:=[.blk 0 false,.blk 1 false,.blk 2 false,.blk 3 false,.blk 4 false,.blk 5 false,.blk 6 false,.blk 7 false,.blk 8 false,.no]) (n:=0) (m:=0) (t':=61) (Xam (Xa6 rfl rfl (Xai rfl rfl rfl rfl (Xai rfl rfl rfl rfl (Xai rfl rfl (Xat) rfl (Xai rfl rfl (Xat) rfl (Xai rfl rfl (Xat) rfl (Xai rfl rfl (Xat) rfl (Xai rfl rfl (Xat) rfl (Xai rfl rfl (Xat) rfl (Xai rfl rfl (Xat) rfl (Xan XaR)))))))))) rfl) rfl (Xam rfl rfl (Xam rfl rfl XaP))) rfl (by rfl) (Xf2 hy) rfl rfl rfl rfl (Xab rfl (Xab rfl (Xab rfl (Xab rfl (Xab rfl (Xab rfl (Xab rfl (Xab rfl (Xab rfl (Xab rfl XaN)))))))))) XaM rfl) ?_
 conv=>whnf
 replace h:=XaU.elim h;obtain ⟨hb,h⟩:=h
 try (refine req.intro hb ?_;conv=>whnf)
 replace h:=XaK.elim h;obtain ⟨e3,hy,h⟩:=h
 refine rd.I hy (by first|rfl|(rw [Nat.zero_add,Nat.mul_one];try rfl;done)|omega) ?_
 conv=>whnf
 let t3:Int:=if (wI .i64 (e3+n))<1099511627776 then wI .i64 (e3+n) else 1099511627776
 replace h:=XaU.elim h;obtain ⟨hb,h⟩:=h
 refine Xk5 hb (by first|rfl|(rw [Nat.zero_add,Nat.mul_one];try rfl;done)|omega) ?_
 conv=>whnf
 let row3:List Int:=s.rows.e3.set x74.toNat t3
 refine Xa1 XaJ hS true 3000 ?_
 conv=>whnf
 replace h:=XaK.elim h;obtain ⟨x75,hy,h⟩:=h
 refine Xbn.XaO [] (Xar («as»:=[.pointer (some ⟨0,0,none⟩),.int .i64 4,.string ⟨⟨text⟩⟩]) (ws:=[.blk 0 false,.blk 1 false,.blk 2 false,.blk 3 false,.blk 4 false,.blk 5 false,.blk 6 false,.blk 7 false,.blk 8 false,.no]) (n:=0) (m:=0) (t':=74) (Xam (Xa6 rfl rfl (Xai rfl rfl rfl rfl (Xai rfl rfl rfl rfl (Xai rfl rfl (Xat) rfl (Xai rfl rfl (Xat) rfl (Xai rfl rfl (Xat) rfl (Xai rfl rfl (Xat) rfl (Xai rfl rfl (Xat) rfl (Xai rfl rfl (Xat) rfl (Xai rfl rfl (Xat) rfl (Xan XaR)))))))))) rfl) rfl (Xam rfl rfl (Xam rfl rfl XaP))) rfl (by rfl) (Xf2 hy) rfl rfl rfl rfl (Xab rfl (Xab rfl (Xab rfl (Xab rfl (Xab rfl (Xab rfl (Xab rfl (Xab rfl (Xab rfl (Xab rfl XaN)))))))))) XaM rfl) ?_
 conv=>whnf
 replace h:=XaU.elim h;obtain ⟨hb,h⟩:=h
 try (refine req.intro hb ?_;conv=>whnf)
 replace h:=XaK.elim h;obtain ⟨e4,hy,h⟩:=h
 refine rd.I hy (by first|rfl|(rw [Nat.zero_add,Nat.mul_one];try rfl;done)|omega) ?_
 conv=>whnf
 let t4:Int:=if (wI .i64 (e4+n))<1099511627776 then wI .i64 (e4+n) else 1099511627776
 replace h:=XaU.elim h;obtain ⟨hb,h⟩:=h
 refine Xk5 hb (by first|rfl|(rw [Nat.zero_add,Nat.mul_one];try rfl;done)|omega) ?_
 conv=>whnf
 let row4:List Int:=s.rows.e4.set x75.toNat t4
 refine Xa1 XaJ hS true 3000 ?_
 conv=>whnf
 replace h:=XaK.elim h;obtain ⟨x76,hy,h⟩:=h
 refine Xbn.XaO [] (Xar («as»:=[.pointer (some ⟨0,0,none⟩),.int .i64 5,.string ⟨⟨text⟩⟩]) (ws:=[.blk 0 false,.blk 1 false,.blk 2 false,.blk 3 false,.blk 4 false,.blk 5 false,.blk 6 false,.blk 7 false,.blk 8 false,.no]) (n:=0) (m:=0) (t':=87) (Xam (Xa6 rfl rfl (Xai rfl rfl rfl rfl (Xai rfl rfl rfl rfl (Xai rfl rfl (Xat) rfl (Xai rfl rfl (Xat) rfl (Xai rfl rfl (Xat) rfl (Xai rfl rfl (Xat) rfl (Xai rfl rfl (Xat) rfl (Xai rfl rfl (Xat) rfl (Xai rfl rfl (Xat) rfl (Xan XaR)))))))))) rfl) rfl (Xam rfl rfl (Xam rfl rfl XaP))) rfl (by rfl) (Xf2 hy) rfl rfl rfl rfl (Xab rfl (Xab rfl (Xab rfl (Xab rfl (Xab rfl (Xab rfl (Xab rfl (Xab rfl (Xab rfl (Xab rfl XaN)))))))))) XaM rfl) ?_
 conv=>whnf
 replace h:=XaU.elim h;obtain ⟨hb,h⟩:=h
 try (refine req.intro hb ?_;conv=>whnf)
 replace h:=XaK.elim h;obtain ⟨e5,hy,h⟩:=h
 refine rd.I hy (by first|rfl|(rw [Nat.zero_add,Nat.mul_one];try rfl;done)|omega) ?_
 conv=>whnf
 let t5:Int:=if (wI .i64 (e5+n))<1099511627776 then wI .i64 (e5+n) else 1099511627776
 replace h:=XaU.elim h;obtain ⟨hb,h⟩:=h
 refine Xk5 hb (by first|rfl|(rw [Nat.zero_add,Nat.mul_one];try rfl;done)|omega) ?_
 conv=>whnf
 let row5:List Int:=s.rows.e5.set x76.toNat t5
 refine Xa1 XaJ hS true 3000 ?_
 conv=>whnf
 replace h:=XaK.elim h;obtain ⟨x77,hy,h⟩:=h
 refine Xbn.XaO [] (Xar («as»:=[.pointer (some ⟨0,0,none⟩),.int .i64 6,.string ⟨⟨text⟩⟩]) (ws:=[.blk 0 false,.blk 1 false,.blk 2 false,.blk 3 false,.blk 4 false,.blk 5 false,.blk 6 false,.blk 7 false,.blk 8 false,.no]) (n:=0) (m:=0) (t':=100) (Xam (Xa6 rfl rfl (Xai rfl rfl rfl rfl (Xai rfl rfl rfl rfl (Xai rfl rfl (Xat) rfl (Xai rfl rfl (Xat) rfl (Xai rfl rfl (Xat) rfl (Xai rfl rfl (Xat) rfl (Xai rfl rfl (Xat) rfl (Xai rfl rfl (Xat) rfl (Xai rfl rfl (Xat) rfl (Xan XaR)))))))))) rfl) rfl (Xam rfl rfl (Xam rfl rfl XaP))) rfl (by rfl) (Xf2 hy) rfl rfl rfl rfl (Xab rfl (Xab rfl (Xab rfl (Xab rfl (Xab rfl (Xab rfl (Xab rfl (Xab rfl (Xab rfl (Xab rfl XaN)))))))))) XaM rfl) ?_
 conv=>whnf
 exact W
def XeX (Xae:Xaq) (Xaa:Xaf) (s:Xav) (text:List UInt8) (n:Int):Option (Bool×Xav):=
 (Xaa.v8 s).bind fun x8=>
 cond (!x8)
  (
  some ((false,s)))
  (
  cond (decide (n<0))
   (
   some ((false,s)))
   (
   cond (decide (n>1048576))
    (
    some ((false,s)))
    (
    (Xae.v8 s 0 text).bind fun x81=>
    XaU (decide ((0:Int)≤x81∧x81<(s.rows.m0:Int))) <|
    (s.rows.e0[x81.toNat]?).bind fun (e:Int)=>
    let t:=if (wI .i64 (e+n))<1099511627776 then wI .i64 (e+n) else 1099511627776
    XaU (decide (x81.toNat<s.rows.e0.length)) <|
    let row:=s.rows.e0.set x81.toNat t
    (Xae.v8 (Xav.mk s.key (XbQ.mk row s.rows.e1 s.rows.e2 s.rows.e3 s.rows.e4 s.rows.e5 s.rows.e6 s.rows.e7 s.rows.m0 s.rows.m1 s.rows.m2 s.rows.m3 s.rows.m4 s.rows.m5 s.rows.m6 s.rows.m7) s.total) 1 text).bind fun x82=>
    XaU (decide ((0:Int)≤x82∧x82<(s.rows.m1:Int))) <|
    (s.rows.e1[x82.toNat]?).bind fun (e1:Int)=>
    let t1:=if (wI .i64 (e1+n))<1099511627776 then wI .i64 (e1+n) else 1099511627776
    XaU (decide (x82.toNat<s.rows.e1.length)) <|
    let row1:=s.rows.e1.set x82.toNat t1
    (Xae.v8 (Xav.mk s.key (XbQ.mk row row1 s.rows.e2 s.rows.e3 s.rows.e4 s.rows.e5 s.rows.e6 s.rows.e7 s.rows.m0 s.rows.m1 s.rows.m2 s.rows.m3 s.rows.m4 s.rows.m5 s.rows.m6 s.rows.m7) s.total) 2 text).bind fun x83=>
    XaU (decide ((0:Int)≤x83∧x83<(s.rows.m2:Int))) <|
    (s.rows.e2[x83.toNat]?).bind fun (e2:Int)=>
    let t2:=if (wI .i64 (e2+n))<1099511627776 then wI .i64 (e2+n) else 1099511627776
    XaU (decide (x83.toNat<s.rows.e2.length)) <|
    let row2:=s.rows.e2.set x83.toNat t2
    (Xae.v8 (Xav.mk s.key (XbQ.mk row row1 row2 s.rows.e3 s.rows.e4 s.rows.e5 s.rows.e6 s.rows.e7 s.rows.m0 s.rows.m1 s.rows.m2 s.rows.m3 s.rows.m4 s.rows.m5 s.rows.m6 s.rows.m7) s.total) 3 text).bind fun x84=>
    XaU (decide ((0:Int)≤x84∧x84<(s.rows.m3:Int))) <|
    (s.rows.e3[x84.toNat]?).bind fun (e3:Int)=>
    let t3:=if (wI .i64 (e3+n))<1099511627776 then wI .i64 (e3+n) else 1099511627776
    XaU (decide (x84.toNat<s.rows.e3.length)) <|
    let row3:=s.rows.e3.set x84.toNat t3
    (Xae.v8 (Xav.mk s.key (XbQ.mk row row1 row2 row3 s.rows.e4 s.rows.e5 s.rows.e6 s.rows.e7 s.rows.m0 s.rows.m1 s.rows.m2 s.rows.m3 s.rows.m4 s.rows.m5 s.rows.m6 s.rows.m7) s.total) 4 text).bind fun x85=>
    XaU (decide ((0:Int)≤x85∧x85<(s.rows.m4:Int))) <|
    (s.rows.e4[x85.toNat]?).bind fun (e4:Int)=>
    let t4:=if (wI .i64 (e4+n))<1099511627776 then wI .i64 (e4+n) else 1099511627776
    XaU (decide (x85.toNat<s.rows.e4.length)) <|
    let row4:=s.rows.e4.set x85.toNat t4
    (Xae.v8 (Xav.mk s.key (XbQ.mk row row1 row2 row3 row4 s.rows.e5 s.rows.e6 s.rows.e7 s.rows.m0 s.rows.m1 s.rows.m2 s.rows.m3 s.rows.m4 s.rows.m5 s.rows.m6 s.rows.m7) s.total) 5 text).bind fun x86=>
    XaU (decide ((0:Int)≤x86∧x86<(s.rows.m5:Int))) <|
    (s.rows.e5[x86.toNat]?).bind fun (e5:Int)=>
    let t5:=if (wI .i64 (e5+n))<1099511627776 then wI .i64 (e5+n) else 1099511627776
    XaU (decide (x86.toNat<s.rows.e5.length)) <|
    let row5:=s.rows.e5.set x86.toNat t5
    (Xae.v8 (Xav.mk s.key (XbQ.mk row row1 row2 row3 row4 row5 s.rows.e6 s.rows.e7 s.rows.m0 s.rows.m1 s.rows.m2 s.rows.m3 s.rows.m4 s.rows.m5 s.rows.m6 s.rows.m7) s.total) 6 text).bind fun x87=>
    XaU (decide ((0:Int)≤x87∧x87<(s.rows.m6:Int))) <|
    (s.rows.e6[x87.toNat]?).bind fun (e6:Int)=>
    let t6:=if (wI .i64 (e6+n))<1099511627776 then wI .i64 (e6+n) else 1099511627776
    XaU (decide (x87.toNat<s.rows.e6.length)) <|
    let row6:=s.rows.e6.set x87.toNat t6
    (Xae.v8 (Xav.mk s.key (XbQ.mk row row1 row2 row3 row4 row5 row6 s.rows.e7 s.rows.m0 s.rows.m1 s.rows.m2 s.rows.m3 s.rows.m4 s.rows.m5 s.rows.m6 s.rows.m7) s.total) 7 text).bind fun x88=>
    XaU (decide ((0:Int)≤x88∧x88<(s.rows.m7:Int))) <|
    (s.rows.e7[x88.toNat]?).bind fun (e7:Int)=>
    let t7:=if (wI .i64 (e7+n))<1099511627776 then wI .i64 (e7+n) else 1099511627776
    XaU (decide (x88.toNat<s.rows.e7.length)) <|
    let row7:=s.rows.e7.set x88.toNat t7
    let t8:=if (wI .i64 (s.total+n))<1099511627776 then wI .i64 (s.total+n) else 1099511627776
    some ((true,Xav.mk s.key (XbQ.mk row row1 row2 row3 row4 row5 row6 row7 s.rows.m0 s.rows.m1 s.rows.m2 s.rows.m3 s.rows.m4 s.rows.m5 s.rows.m6 s.rows.m7) t8)))))
def Xq3 (x:Bool×Xav):Xdj:=⟨.bool x.1,[(vI .i64 x.2.rows.e0),(vI .i64 x.2.rows.e1),(vI .i64 x.2.rows.e2),(vI .i64 x.2.rows.e3),(vI .i64 x.2.rows.e4),(vI .i64 x.2.rows.e5),(vI .i64 x.2.rows.e6),(vI .i64 x.2.rows.e7)],[some [.int .u64 x.2.key.A,.int .u64 x.2.key.B,.slice (some ⟨9,0,none⟩) 8 1,.int .i64 x.2.total],some [.slice (some ⟨0,0,none⟩) x.2.rows.m0 1,.slice (some ⟨1,0,none⟩) x.2.rows.m1 1,.slice (some ⟨2,0,none⟩) x.2.rows.m2 1,.slice (some ⟨3,0,none⟩) x.2.rows.m3 1,.slice (some ⟨4,0,none⟩) x.2.rows.m4 1,.slice (some ⟨5,0,none⟩) x.2.rows.m5 1,.slice (some ⟨6,0,none⟩) x.2.rows.m6 1,.slice (some ⟨7,0,none⟩) x.2.rows.m7 1],none,none,none,none,none,none,none,none]⟩
abbrev Xep:=Xav→(List UInt8)→Int→Option (Bool×Xav)
def XcV (g:Xep):Dec:=dTr 10 (Xb3 0) fun (y0:Xav)=>dV asS fun (y1:List UInt8)=>dV (asI .i64) fun (y2:Int)=>Xfq (ofG (g y0 y1 y2) Xq3)
theorem XBe {g:Xep} {y0:Xav} {y1:List UInt8} {y2:Int} {x:Bool×Xav} (hx:g y0 y1 y2=some x):XcV g [.pointer (some ⟨0,0,none⟩),.string ⟨⟨y1⟩⟩,.int .i64 y2] [some [.int .u64 y0.key.A,.int .u64 y0.key.B,.slice (some ⟨1,0,none⟩) 8 1,.int .i64 y0.total],some [.slice (some ⟨2,0,none⟩) y0.rows.m0 1,.slice (some ⟨3,0,none⟩) y0.rows.m1 1,.slice (some ⟨4,0,none⟩) y0.rows.m2 1,.slice (some ⟨5,0,none⟩) y0.rows.m3 1,.slice (some ⟨6,0,none⟩) y0.rows.m4 1,.slice (some ⟨7,0,none⟩) y0.rows.m5 1,.slice (some ⟨8,0,none⟩) y0.rows.m6 1,.slice (some ⟨9,0,none⟩) y0.rows.m7 1],some (vI .i64 y0.rows.e0),some (vI .i64 y0.rows.e1),some (vI .i64 y0.rows.e2),some (vI .i64 y0.rows.e3),some (vI .i64 y0.rows.e4),some (vI .i64 y0.rows.e5),some (vI .i64 y0.rows.e6),some (vI .i64 y0.rows.e7)]=some (Xq3 x):=(Xcx rfl rfl (XeF 0 _)).trans ((XcF (Xg1)).trans ((XcF (XgS _)).trans (Xbx hx)))
abbrev Xv2 (Xae:Xaq) (Xaa:Xaf):List (Nat×Xc3):=[(20,s20 Xae),(38,s38 Xaa)]
theorem XtD (Xae:Xaq) (Xaa:Xaf) (hS:XaL Try.prog (XaY (Xv2 Xae Xaa))) (s:Xav) (text:List UInt8) (n:Int) (res:Bool×Xav) (h:XeX Xae Xaa s text n=some res) :
 Xa0 Try.prog 12 10 ⟨⟨12,27,[(0,.pointer (some ⟨0,0,none⟩)),(1,.string ⟨⟨text⟩⟩),(2,.int .i64 n)],[.code XjS],[],false,none⟩,[],[(0,.cells [.int .u64 s.key.A,.int .u64 s.key.B,.slice (some ⟨1,0,none⟩) 8 1,.int .i64 s.total]),(1,.cells [.slice (some ⟨2,0,none⟩) s.rows.m0 1,.slice (some ⟨3,0,none⟩) s.rows.m1 1,.slice (some ⟨4,0,none⟩) s.rows.m2 1,.slice (some ⟨5,0,none⟩) s.rows.m3 1,.slice (some ⟨6,0,none⟩) s.rows.m4 1,.slice (some ⟨7,0,none⟩) s.rows.m5 1,.slice (some ⟨8,0,none⟩) s.rows.m6 1,.slice (some ⟨9,0,none⟩) s.rows.m7 1]),(2,.row true (vI .i64 s.rows.e0)),(3,.row true (vI .i64 s.rows.e1)),(4,.row true (vI .i64 s.rows.e2)),(5,.row true (vI .i64 s.rows.e3)),(6,.row true (vI .i64 s.rows.e4)),(7,.row true (vI .i64 s.rows.e5)),(8,.row true (vI .i64 s.rows.e6)),(9,.row true (vI .i64 s.rows.e7))],10⟩ (fun v H _=>Res 10 (Xq3 res) v H):=by
 unfold XeX at h
 refine Xa1 XaJ hS true 3000 ?_
 conv=>whnf
 replace h:=XaK.elim h;obtain ⟨x8,hy,h⟩:=h
 refine Xbn.XaO [] (Xar («as»:=[.pointer (some ⟨0,0,none⟩)]) (ws:=[.blk 0 false,.blk 1 false,.blk 2 false,.blk 3 false,.blk 4 false,.blk 5 false,.blk 6 false,.blk 7 false,.blk 8 false,.blk 9 false]) (n:=0) (m:=0) (t':=11) (Xam (Xa6 rfl rfl (Xai rfl rfl rfl rfl (Xai rfl rfl rfl rfl (Xai rfl rfl (Xat) rfl (Xai rfl rfl (Xat) rfl (Xai rfl rfl (Xat) rfl (Xai rfl rfl (Xat) rfl (Xai rfl rfl (Xat) rfl (Xai rfl rfl (Xat) rfl (Xai rfl rfl (Xat) rfl (Xai rfl rfl (Xat) rfl XaR)))))))))) rfl) rfl XaP) rfl (by rfl) (Xj4 hy) rfl rfl rfl rfl (Xab rfl (Xab rfl (Xab rfl (Xab rfl (Xab rfl (Xab rfl (Xab rfl (Xab rfl (Xab rfl (Xab rfl XaN)))))))))) XaM rfl) ?_
 conv=>whnf
 refine br.h h (by rfl) ?_ ?_
 ·clear h;intro hb h;conv=>whnf
  exact W
 clear h;intro hb h;conv=>whnf
 refine br.h h (by rfl) ?_ ?_
 ·clear h;intro hb h;conv=>whnf
  exact W
 clear h;intro hb h;conv=>whnf
 refine br.h h (by rfl) ?_ ?_
 ·clear h;intro hb h;conv=>whnf
  exact W
 clear h;intro hb h;conv=>whnf
 refine Xa1 XaJ hS true 3000 ?_
 conv=>whnf
 replace h:=XaK.elim h;obtain ⟨x81,hy,h⟩:=h
 refine Xbn.XaO [] (Xar («as»:=[.pointer (some ⟨0,0,none⟩),.int .i64 0,.string ⟨⟨text⟩⟩]) (ws:=[.blk 0 false,.blk 1 false,.blk 2 false,.blk 3 false,.blk 4 false,.blk 5 false,.blk 6 false,.blk 7 false,.blk 8 false,.blk 9 false]) (n:=0) (m:=0) (t':=22) (Xam (Xa6 rfl rfl (Xai rfl rfl rfl rfl (Xai rfl rfl rfl rfl (Xai rfl rfl (Xat) rfl (Xai rfl rfl (Xat) rfl (Xai rfl rfl (Xat) rfl (Xai rfl rfl (Xat) rfl (Xai rfl rfl (Xat) rfl (Xai rfl rfl (Xat) rfl (Xai rfl rfl (Xat) rfl (Xai rfl rfl (Xat) rfl XaR)))))))))) rfl) rfl (Xam rfl rfl (Xam rfl rfl XaP))) rfl (by rfl) (Xe1 hy) rfl rfl rfl rfl (Xab rfl (Xab rfl (Xab rfl (Xab rfl (Xab rfl (Xab rfl (Xab rfl (Xab rfl (Xab rfl (Xab rfl XaN)))))))))) XaM rfl) ?_
 conv=>whnf
 replace h:=XaU.elim h;obtain ⟨hb,h⟩:=h
 try (refine req.intro hb ?_;conv=>whnf)
 replace h:=XaK.elim h;obtain ⟨e,hy,h⟩:=h
 refine rd.I hy (by first|rfl|(rw [Nat.zero_add,Nat.mul_one];try rfl;done)|omega) ?_
 conv=>whnf
 let t:Int:=if (wI .i64 (e+n))<1099511627776 then wI .i64 (e+n) else 1099511627776
 replace h:=XaU.elim h;obtain ⟨hb,h⟩:=h
 refine Xk5 hb (by first|rfl|(rw [Nat.zero_add,Nat.mul_one];try rfl;done)|omega) ?_
 conv=>whnf
 let row:List Int:=s.rows.e0.set x81.toNat t
 refine Xa1 XaJ hS true 3000 ?_
 conv=>whnf
 replace h:=XaK.elim h;obtain ⟨x82,hy,h⟩:=h
 refine Xbn.XaO [] (Xar («as»:=[.pointer (some ⟨0,0,none⟩),.int .i64 1,.string ⟨⟨text⟩⟩]) (ws:=[.blk 0 false,.blk 1 false,.blk 2 false,.blk 3 false,.blk 4 false,.blk 5 false,.blk 6 false,.blk 7 false,.blk 8 false,.blk 9 false]) (n:=0) (m:=0) (t':=35) (Xam (Xa6 rfl rfl (Xai rfl rfl rfl rfl (Xai rfl rfl rfl rfl (Xai rfl rfl (Xat) rfl (Xai rfl rfl (Xat) rfl (Xai rfl rfl (Xat) rfl (Xai rfl rfl (Xat) rfl (Xai rfl rfl (Xat) rfl (Xai rfl rfl (Xat) rfl (Xai rfl rfl (Xat) rfl (Xai rfl rfl (Xat) rfl XaR)))))))))) rfl) rfl (Xam rfl rfl (Xam rfl rfl XaP))) rfl (by rfl) (Xe1 hy) rfl rfl rfl rfl (Xab rfl (Xab rfl (Xab rfl (Xab rfl (Xab rfl (Xab rfl (Xab rfl (Xab rfl (Xab rfl (Xab rfl XaN)))))))))) XaM rfl) ?_
 conv=>whnf
 replace h:=XaU.elim h;obtain ⟨hb,h⟩:=h
 try (refine req.intro hb ?_;conv=>whnf)
 replace h:=XaK.elim h;obtain ⟨e1,hy,h⟩:=h
 refine rd.I hy (by first|rfl|(rw [Nat.zero_add,Nat.mul_one];try rfl;done)|omega) ?_
 conv=>whnf
 let t1:Int:=if (wI .i64 (e1+n))<1099511627776 then wI .i64 (e1+n) else 1099511627776
 replace h:=XaU.elim h;obtain ⟨hb,h⟩:=h
 refine Xk5 hb (by first|rfl|(rw [Nat.zero_add,Nat.mul_one];try rfl;done)|omega) ?_
 conv=>whnf
 let row1:List Int:=s.rows.e1.set x82.toNat t1
 refine Xa1 XaJ hS true 3000 ?_
 conv=>whnf
 replace h:=XaK.elim h;obtain ⟨x83,hy,h⟩:=h
 refine Xbn.XaO [] (Xar («as»:=[.pointer (some ⟨0,0,none⟩),.int .i64 2,.string ⟨⟨text⟩⟩]) (ws:=[.blk 0 false,.blk 1 false,.blk 2 false,.blk 3 false,.blk 4 false,.blk 5 false,.blk 6 false,.blk 7 false,.blk 8 false,.blk 9 false]) (n:=0) (m:=0) (t':=48) (Xam (Xa6 rfl rfl (Xai rfl rfl rfl rfl (Xai rfl rfl rfl rfl (Xai rfl rfl (Xat) rfl (Xai rfl rfl (Xat) rfl (Xai rfl rfl (Xat) rfl (Xai rfl rfl (Xat) rfl (Xai rfl rfl (Xat) rfl (Xai rfl rfl (Xat) rfl (Xai rfl rfl (Xat) rfl (Xai rfl rfl (Xat) rfl XaR)))))))))) rfl) rfl (Xam rfl rfl (Xam rfl rfl XaP))) rfl (by rfl) (Xe1 hy) rfl rfl rfl rfl (Xab rfl (Xab rfl (Xab rfl (Xab rfl (Xab rfl (Xab rfl (Xab rfl (Xab rfl (Xab rfl (Xab rfl XaN)))))))))) XaM rfl) ?_
 conv=>whnf
 replace h:=XaU.elim h;obtain ⟨hb,h⟩:=h
 try (refine req.intro hb ?_;conv=>whnf)
 replace h:=XaK.elim h;obtain ⟨e2,hy,h⟩:=h
 refine rd.I hy (by first|rfl|(rw [Nat.zero_add,Nat.mul_one];try rfl;done)|omega) ?_
 conv=>whnf
 let t2:Int:=if (wI .i64 (e2+n))<1099511627776 then wI .i64 (e2+n) else 1099511627776
 replace h:=XaU.elim h;obtain ⟨hb,h⟩:=h
 refine Xk5 hb (by first|rfl|(rw [Nat.zero_add,Nat.mul_one];try rfl;done)|omega) ?_
 conv=>whnf
 let row2:List Int:=s.rows.e2.set x83.toNat t2
 refine Xa1 XaJ hS true 3000 ?_
 conv=>whnf
 replace h:=XaK.elim h;obtain ⟨x84,hy,h⟩:=h
 refine Xbn.XaO [] (Xar («as»:=[.pointer (some ⟨0,0,none⟩),.int .i64 3,.string ⟨⟨text⟩⟩]) (ws:=[.blk 0 false,.blk 1 false,.blk 2 false,.blk 3 false,.blk 4 false,.blk 5 false,.blk 6 false,.blk 7 false,.blk 8 false,.blk 9 false]) (n:=0) (m:=0) (t':=61) (Xam (Xa6 rfl rfl (Xai rfl rfl rfl rfl (Xai rfl rfl rfl rfl (Xai rfl rfl (Xat) rfl (Xai rfl rfl (Xat) rfl (Xai rfl rfl (Xat) rfl (Xai rfl rfl (Xat) rfl (Xai rfl rfl (Xat) rfl (Xai rfl rfl (Xat) rfl (Xai rfl rfl (Xat) rfl (Xai rfl rfl (Xat) rfl XaR)))))))))) rfl) rfl (Xam rfl rfl (Xam rfl rfl XaP))) rfl (by rfl) (Xe1 hy) rfl rfl rfl rfl (Xab rfl (Xab rfl (Xab rfl (Xab rfl (Xab rfl (Xab rfl (Xab rfl (Xab rfl (Xab rfl (Xab rfl XaN)))))))))) XaM rfl) ?_
 conv=>whnf
 replace h:=XaU.elim h;obtain ⟨hb,h⟩:=h
 try (refine req.intro hb ?_;conv=>whnf)
 replace h:=XaK.elim h;obtain ⟨e3,hy,h⟩:=h
 refine rd.I hy (by first|rfl|(rw [Nat.zero_add,Nat.mul_one];try rfl;done)|omega) ?_
 conv=>whnf
 let t3:Int:=if (wI .i64 (e3+n))<1099511627776 then wI .i64 (e3+n) else 1099511627776
 replace h:=XaU.elim h;obtain ⟨hb,h⟩:=h
 refine Xk5 hb (by first|rfl|(rw [Nat.zero_add,Nat.mul_one];try rfl;done)|omega) ?_
 conv=>whnf
 let row3:List Int:=s.rows.e3.set x84.toNat t3
 refine Xa1 XaJ hS true 3000 ?_
 conv=>whnf
 replace h:=XaK.elim h;obtain ⟨x85,hy,h⟩:=h
 refine Xbn.XaO [] (Xar («as»:=[.pointer (some ⟨0,0,none⟩),.int .i64 4,.string ⟨⟨text⟩⟩]) (ws:=[.blk 0 false,.blk 1 false,.blk 2 false,.blk 3 false,.blk 4 false,.blk 5 false,.blk 6 false,.blk 7 false,.blk 8 false,.blk 9 false]) (n:=0) (m:=0) (t':=74) (Xam (Xa6 rfl rfl (Xai rfl rfl rfl rfl (Xai rfl rfl rfl rfl (Xai rfl rfl (Xat) rfl (Xai rfl rfl (Xat) rfl (Xai rfl rfl (Xat) rfl (Xai rfl rfl (Xat) rfl (Xai rfl rfl (Xat) rfl (Xai rfl rfl (Xat) rfl (Xai rfl rfl (Xat) rfl (Xai rfl rfl (Xat) rfl XaR)))))))))) rfl) rfl (Xam rfl rfl (Xam rfl rfl XaP))) rfl (by rfl) (Xe1 hy) rfl rfl rfl rfl (Xab rfl (Xab rfl (Xab rfl (Xab rfl (Xab rfl (Xab rfl (Xab rfl (Xab rfl (Xab rfl (Xab rfl XaN)))))))))) XaM rfl) ?_
 conv=>whnf
 replace h:=XaU.elim h;obtain ⟨hb,h⟩:=h
 try (refine req.intro hb ?_;conv=>whnf)
 replace h:=XaK.elim h;obtain ⟨e4,hy,h⟩:=h
 refine rd.I hy (by first|rfl|(rw [Nat.zero_add,Nat.mul_one];try rfl;done)|omega) ?_
 conv=>whnf
 let t4:Int:=if (wI .i64 (e4+n))<1099511627776 then wI .i64 (e4+n) else 1099511627776
 replace h:=XaU.elim h;obtain ⟨hb,h⟩:=h
 refine Xk5 hb (by first|rfl|(rw [Nat.zero_add,Nat.mul_one];try rfl;done)|omega) ?_
 conv=>whnf
 let row4:List Int:=s.rows.e4.set x85.toNat t4
 refine Xa1 XaJ hS true 3000 ?_
 conv=>whnf
 replace h:=XaK.elim h;obtain ⟨x86,hy,h⟩:=h
 refine Xbn.XaO [] (Xar («as»:=[.pointer (some ⟨0,0,none⟩),.int .i64 5,.string ⟨⟨text⟩⟩]) (ws:=[.blk 0 false,.blk 1 false,.blk 2 false,.blk 3 false,.blk 4 false,.blk 5 false,.blk 6 false,.blk 7 false,.blk 8 false,.blk 9 false]) (n:=0) (m:=0) (t':=87) (Xam (Xa6 rfl rfl (Xai rfl rfl rfl rfl (Xai rfl rfl rfl rfl (Xai rfl rfl (Xat) rfl (Xai rfl rfl (Xat) rfl (Xai rfl rfl (Xat) rfl (Xai rfl rfl (Xat) rfl (Xai rfl rfl (Xat) rfl (Xai rfl rfl (Xat) rfl (Xai rfl rfl (Xat) rfl (Xai rfl rfl (Xat) rfl XaR)))))))))) rfl) rfl (Xam rfl rfl (Xam rfl rfl XaP))) rfl (by rfl) (Xe1 hy) rfl rfl rfl rfl (Xab rfl (Xab rfl (Xab rfl (Xab rfl (Xab rfl (Xab rfl (Xab rfl (Xab rfl (Xab rfl (Xab rfl XaN)))))))))) XaM rfl) ?_
 conv=>whnf
 replace h:=XaU.elim h;obtain ⟨hb,h⟩:=h
 try (refine req.intro hb ?_;conv=>whnf)
 replace h:=XaK.elim h;obtain ⟨e5,hy,h⟩:=h
 refine rd.I hy (by first|rfl|(rw [Nat.zero_add,Nat.mul_one];try rfl;done)|omega) ?_
 conv=>whnf
 let t5:Int:=if (wI .i64 (e5+n))<1099511627776 then wI .i64 (e5+n) else 1099511627776
 replace h:=XaU.elim h;obtain ⟨hb,h⟩:=h
 refine Xk5 hb (by first|rfl|(rw [Nat.zero_add,Nat.mul_one];try rfl;done)|omega) ?_
 conv=>whnf
 let row5:List Int:=s.rows.e5.set x86.toNat t5
 refine Xa1 XaJ hS true 3000 ?_
 conv=>whnf
 replace h:=XaK.elim h;obtain ⟨x87,hy,h⟩:=h
 refine Xbn.XaO [] (Xar («as»:=[.pointer (some ⟨0,0,none⟩),.int .i64 6,.string ⟨⟨text⟩⟩]) (ws:=[.blk 0 false,.blk 1 false,.blk 2 false,.blk 3 false,.blk 4 false,.blk 5 false,.blk 6 false,.blk 7 false,.blk 8 false,.blk 9 false]) (n:=0) (m:=0) (t':=100) (Xam (Xa6 rfl rfl (Xai rfl rfl rfl rfl (Xai rfl rfl rfl rfl (Xai rfl rfl (Xat) rfl (Xai rfl rfl (Xat) rfl (Xai rfl rfl (Xat) rfl (Xai rfl rfl (Xat) rfl (Xai rfl rfl (Xat) rfl (Xai rfl rfl (Xat) rfl (Xai rfl rfl (Xat) rfl (Xai rfl rfl (Xat) rfl XaR)))))))))) rfl) rfl (Xam rfl rfl (Xam rfl rfl XaP))) rfl (by rfl) (Xe1 hy) rfl rfl rfl rfl (Xab rfl (Xab rfl (Xab rfl (Xab rfl (Xab rfl (Xab rfl (Xab rfl (Xab rfl (Xab rfl (Xab rfl XaN)))))))))) XaM rfl) ?_
 conv=>whnf
 replace h:=XaU.elim h;obtain ⟨hb,h⟩:=h
 try (refine req.intro hb ?_;conv=>whnf)
 replace h:=XaK.elim h;obtain ⟨e6,hy,h⟩:=h
 refine rd.I hy (by first|rfl|(rw [Nat.zero_add,Nat.mul_one];try rfl;done)|omega) ?_
 conv=>whnf
 let t6:Int:=if (wI .i64 (e6+n))<1099511627776 then wI .i64 (e6+n) else 1099511627776
 replace h:=XaU.elim h;obtain ⟨hb,h⟩:=h
 refine Xk5 hb (by first|rfl|(rw [Nat.zero_add,Nat.mul_one];try rfl;done)|omega) ?_
 conv=>whnf
 let row6:List Int:=s.rows.e6.set x87.toNat t6
 refine Xa1 XaJ hS true 3000 ?_
 conv=>whnf
 replace h:=XaK.elim h;obtain ⟨x88,hy,h⟩:=h
 refine Xbn.XaO [] (Xar («as»:=[.pointer (some ⟨0,0,none⟩),.int .i64 7,.string ⟨⟨text⟩⟩]) (ws:=[.blk 0 false,.blk 1 false,.blk 2 false,.blk 3 false,.blk 4 false,.blk 5 false,.blk 6 false,.blk 7 false,.blk 8 false,.blk 9 false]) (n:=0) (m:=0) (t':=113) (Xam (Xa6 rfl rfl (Xai rfl rfl rfl rfl (Xai rfl rfl rfl rfl (Xai rfl rfl (Xat) rfl (Xai rfl rfl (Xat) rfl (Xai rfl rfl (Xat) rfl (Xai rfl rfl (Xat) rfl (Xai rfl rfl (Xat) rfl (Xai rfl rfl (Xat) rfl (Xai rfl rfl (Xat) rfl (Xai rfl rfl (Xat) rfl XaR)))))))))) rfl) rfl (Xam rfl rfl (Xam rfl rfl XaP))) rfl (by rfl) (Xe1 hy) rfl rfl rfl rfl (Xab rfl (Xab rfl (Xab rfl (Xab rfl (Xab rfl (Xab rfl (Xab rfl (Xab rfl (Xab rfl (Xab rfl XaN)))))))))) XaM rfl) ?_
 conv=>whnf
 exact W
structure Xau where
 vn:Xd5
 v0:Xd3
 v1:Xeh
 v2:Xd8
 v3:Xeq
 v4:Xeb
 v5:Xef
 v6:Xeg
 v7:Xes
 v8:Xep
def s12 (g:Xau):Xc3:=⟨[.tr [⟨none,0,0,1,none⟩,⟨some 0,2,0,1,none⟩,⟨some 1,0,0,2,none⟩,⟨some 1,1,0,2,none⟩,⟨some 1,2,0,2,none⟩,⟨some 1,3,0,2,none⟩,⟨some 1,4,0,2,none⟩,⟨some 1,5,0,2,none⟩,⟨some 1,6,0,2,none⟩,⟨some 1,7,0,2,none⟩],.v,.v],orD (Xl8 g.vn) (orD (Xib g.v0) (orD (Xg8 g.v1) (orD (Xf5 g.v2) (orD (XeU g.v3) (orD (XdZ g.v4) (orD (XdO g.v5) (orD (Xc7 g.v6) (orD (XcX g.v7) (XcV g.v8)))))))))⟩
theorem Xqr {g:Xau} {y1:List UInt8} {y2:Int} {x:Bool} (hx:g.vn y1 y2=some x):(s12 g).run [.pointer none,.string ⟨⟨y1⟩⟩,.int .i64 y2] [none,none,none,none,none,none,none,none,none,none]=some (XrZ x):=XeT (a:=Xl8 g.vn) (b:=orD (Xib g.v0) (orD (Xg8 g.v1) (orD (Xf5 g.v2) (orD (XeU g.v3) (orD (XdZ g.v4) (orD (XdO g.v5) (orD (Xc7 g.v6) (orD (XcX g.v7) (XcV g.v8))))))))) (XBp hx)
theorem XrS {g:Xau} {y0:Xax} {y1:List UInt8} {y2:Int} {x:Bool×Xax} (hx:g.v0 y0 y1 y2=some x):(s12 g).run [.pointer (some ⟨0,0,none⟩),.string ⟨⟨y1⟩⟩,.int .i64 y2] [some [.int .u64 y0.key.A,.int .u64 y0.key.B,.slice none 0 0,.int .i64 y0.total],none,none,none,none,none,none,none,none,none]=some (Xnq x):=XaZ (a:=Xl8 g.vn) (b:=orD (Xib g.v0) (orD (Xg8 g.v1) (orD (Xf5 g.v2) (orD (XeU g.v3) (orD (XdZ g.v4) (orD (XdO g.v5) (orD (Xc7 g.v6) (orD (XcX g.v7) (XcV g.v8))))))))) rfl (XeT (a:=Xib g.v0) (b:=orD (Xg8 g.v1) (orD (Xf5 g.v2) (orD (XeU g.v3) (orD (XdZ g.v4) (orD (XdO g.v5) (orD (Xc7 g.v6) (orD (XcX g.v7) (XcV g.v8)))))))) (XAB hx))
theorem Xwd {g:Xau} {y0:XaH} {y1:List UInt8} {y2:Int} {x:Bool×XaH} (hx:g.v1 y0 y1 y2=some x):(s12 g).run [.pointer (some ⟨0,0,none⟩),.string ⟨⟨y1⟩⟩,.int .i64 y2] [some [.int .u64 y0.key.A,.int .u64 y0.key.B,.slice (some ⟨1,0,none⟩) 1 1,.int .i64 y0.total],some [.slice (some ⟨2,0,none⟩) y0.rows.m0 1],some (vI .i64 y0.rows.e0),none,none,none,none,none,none,none]=some (Xr4 x):=XaZ (a:=Xl8 g.vn) (b:=orD (Xib g.v0) (orD (Xg8 g.v1) (orD (Xf5 g.v2) (orD (XeU g.v3) (orD (XdZ g.v4) (orD (XdO g.v5) (orD (Xc7 g.v6) (orD (XcX g.v7) (XcV g.v8))))))))) rfl (XaZ (a:=Xib g.v0) (b:=orD (Xg8 g.v1) (orD (Xf5 g.v2) (orD (XeU g.v3) (orD (XdZ g.v4) (orD (XdO g.v5) (orD (Xc7 g.v6) (orD (XcX g.v7) (XcV g.v8)))))))) rfl (XeT (a:=Xg8 g.v1) (b:=orD (Xf5 g.v2) (orD (XeU g.v3) (orD (XdZ g.v4) (orD (XdO g.v5) (orD (Xc7 g.v6) (orD (XcX g.v7) (XcV g.v8))))))) (XCb hx)))
theorem Xmm {g:Xau} {y0:XaG} {y1:List UInt8} {y2:Int} {x:Bool×XaG} (hx:g.v2 y0 y1 y2=some x):(s12 g).run [.pointer (some ⟨0,0,none⟩),.string ⟨⟨y1⟩⟩,.int .i64 y2] [some [.int .u64 y0.key.A,.int .u64 y0.key.B,.slice (some ⟨1,0,none⟩) 2 1,.int .i64 y0.total],some [.slice (some ⟨2,0,none⟩) y0.rows.m0 1,.slice (some ⟨3,0,none⟩) y0.rows.m1 1],some (vI .i64 y0.rows.e0),some (vI .i64 y0.rows.e1),none,none,none,none,none,none]=some (XrK x):=XaZ (a:=Xl8 g.vn) (b:=orD (Xib g.v0) (orD (Xg8 g.v1) (orD (Xf5 g.v2) (orD (XeU g.v3) (orD (XdZ g.v4) (orD (XdO g.v5) (orD (Xc7 g.v6) (orD (XcX g.v7) (XcV g.v8))))))))) rfl (XaZ (a:=Xib g.v0) (b:=orD (Xg8 g.v1) (orD (Xf5 g.v2) (orD (XeU g.v3) (orD (XdZ g.v4) (orD (XdO g.v5) (orD (Xc7 g.v6) (orD (XcX g.v7) (XcV g.v8)))))))) rfl (XaZ (a:=Xg8 g.v1) (b:=orD (Xf5 g.v2) (orD (XeU g.v3) (orD (XdZ g.v4) (orD (XdO g.v5) (orD (Xc7 g.v6) (orD (XcX g.v7) (XcV g.v8))))))) rfl (XeT (a:=Xf5 g.v2) (b:=orD (XeU g.v3) (orD (XdZ g.v4) (orD (XdO g.v5) (orD (Xc7 g.v6) (orD (XcX g.v7) (XcV g.v8)))))) (XCg hx))))
theorem Xw2 {g:Xau} {y0:XaF} {y1:List UInt8} {y2:Int} {x:Bool×XaF} (hx:g.v3 y0 y1 y2=some x):(s12 g).run [.pointer (some ⟨0,0,none⟩),.string ⟨⟨y1⟩⟩,.int .i64 y2] [some [.int .u64 y0.key.A,.int .u64 y0.key.B,.slice (some ⟨1,0,none⟩) 3 1,.int .i64 y0.total],some [.slice (some ⟨2,0,none⟩) y0.rows.m0 1,.slice (some ⟨3,0,none⟩) y0.rows.m1 1,.slice (some ⟨4,0,none⟩) y0.rows.m2 1],some (vI .i64 y0.rows.e0),some (vI .i64 y0.rows.e1),some (vI .i64 y0.rows.e2),none,none,none,none,none]=some (Xq1 x):=XaZ (a:=Xl8 g.vn) (b:=orD (Xib g.v0) (orD (Xg8 g.v1) (orD (Xf5 g.v2) (orD (XeU g.v3) (orD (XdZ g.v4) (orD (XdO g.v5) (orD (Xc7 g.v6) (orD (XcX g.v7) (XcV g.v8))))))))) rfl (XaZ (a:=Xib g.v0) (b:=orD (Xg8 g.v1) (orD (Xf5 g.v2) (orD (XeU g.v3) (orD (XdZ g.v4) (orD (XdO g.v5) (orD (Xc7 g.v6) (orD (XcX g.v7) (XcV g.v8)))))))) rfl (XaZ (a:=Xg8 g.v1) (b:=orD (Xf5 g.v2) (orD (XeU g.v3) (orD (XdZ g.v4) (orD (XdO g.v5) (orD (Xc7 g.v6) (orD (XcX g.v7) (XcV g.v8))))))) rfl (XaZ (a:=Xf5 g.v2) (b:=orD (XeU g.v3) (orD (XdZ g.v4) (orD (XdO g.v5) (orD (Xc7 g.v6) (orD (XcX g.v7) (XcV g.v8)))))) rfl (XeT (a:=XeU g.v3) (b:=orD (XdZ g.v4) (orD (XdO g.v5) (orD (Xc7 g.v6) (orD (XcX g.v7) (XcV g.v8))))) (XB5 hx)))))
theorem Xv9 {g:Xau} {y0:XaC} {y1:List UInt8} {y2:Int} {x:Bool×XaC} (hx:g.v4 y0 y1 y2=some x):(s12 g).run [.pointer (some ⟨0,0,none⟩),.string ⟨⟨y1⟩⟩,.int .i64 y2] [some [.int .u64 y0.key.A,.int .u64 y0.key.B,.slice (some ⟨1,0,none⟩) 4 1,.int .i64 y0.total],some [.slice (some ⟨2,0,none⟩) y0.rows.m0 1,.slice (some ⟨3,0,none⟩) y0.rows.m1 1,.slice (some ⟨4,0,none⟩) y0.rows.m2 1,.slice (some ⟨5,0,none⟩) y0.rows.m3 1],some (vI .i64 y0.rows.e0),some (vI .i64 y0.rows.e1),some (vI .i64 y0.rows.e2),some (vI .i64 y0.rows.e3),none,none,none,none]=some (Xre x):=XaZ (a:=Xl8 g.vn) (b:=orD (Xib g.v0) (orD (Xg8 g.v1) (orD (Xf5 g.v2) (orD (XeU g.v3) (orD (XdZ g.v4) (orD (XdO g.v5) (orD (Xc7 g.v6) (orD (XcX g.v7) (XcV g.v8))))))))) rfl (XaZ (a:=Xib g.v0) (b:=orD (Xg8 g.v1) (orD (Xf5 g.v2) (orD (XeU g.v3) (orD (XdZ g.v4) (orD (XdO g.v5) (orD (Xc7 g.v6) (orD (XcX g.v7) (XcV g.v8)))))))) rfl (XaZ (a:=Xg8 g.v1) (b:=orD (Xf5 g.v2) (orD (XeU g.v3) (orD (XdZ g.v4) (orD (XdO g.v5) (orD (Xc7 g.v6) (orD (XcX g.v7) (XcV g.v8))))))) rfl (XaZ (a:=Xf5 g.v2) (b:=orD (XeU g.v3) (orD (XdZ g.v4) (orD (XdO g.v5) (orD (Xc7 g.v6) (orD (XcX g.v7) (XcV g.v8)))))) rfl (XaZ (a:=XeU g.v3) (b:=orD (XdZ g.v4) (orD (XdO g.v5) (orD (Xc7 g.v6) (orD (XcX g.v7) (XcV g.v8))))) rfl (XeT (a:=XdZ g.v4) (b:=orD (XdO g.v5) (orD (Xc7 g.v6) (orD (XcX g.v7) (XcV g.v8)))) (XB1 hx))))))
theorem XwO {g:Xau} {y0:XaB} {y1:List UInt8} {y2:Int} {x:Bool×XaB} (hx:g.v5 y0 y1 y2=some x):(s12 g).run [.pointer (some ⟨0,0,none⟩),.string ⟨⟨y1⟩⟩,.int .i64 y2] [some [.int .u64 y0.key.A,.int .u64 y0.key.B,.slice (some ⟨1,0,none⟩) 5 1,.int .i64 y0.total],some [.slice (some ⟨2,0,none⟩) y0.rows.m0 1,.slice (some ⟨3,0,none⟩) y0.rows.m1 1,.slice (some ⟨4,0,none⟩) y0.rows.m2 1,.slice (some ⟨5,0,none⟩) y0.rows.m3 1,.slice (some ⟨6,0,none⟩) y0.rows.m4 1],some (vI .i64 y0.rows.e0),some (vI .i64 y0.rows.e1),some (vI .i64 y0.rows.e2),some (vI .i64 y0.rows.e3),some (vI .i64 y0.rows.e4),none,none,none]=some (Xr1 x):=XaZ (a:=Xl8 g.vn) (b:=orD (Xib g.v0) (orD (Xg8 g.v1) (orD (Xf5 g.v2) (orD (XeU g.v3) (orD (XdZ g.v4) (orD (XdO g.v5) (orD (Xc7 g.v6) (orD (XcX g.v7) (XcV g.v8))))))))) rfl (XaZ (a:=Xib g.v0) (b:=orD (Xg8 g.v1) (orD (Xf5 g.v2) (orD (XeU g.v3) (orD (XdZ g.v4) (orD (XdO g.v5) (orD (Xc7 g.v6) (orD (XcX g.v7) (XcV g.v8)))))))) rfl (XaZ (a:=Xg8 g.v1) (b:=orD (Xf5 g.v2) (orD (XeU g.v3) (orD (XdZ g.v4) (orD (XdO g.v5) (orD (Xc7 g.v6) (orD (XcX g.v7) (XcV g.v8))))))) rfl (XaZ (a:=Xf5 g.v2) (b:=orD (XeU g.v3) (orD (XdZ g.v4) (orD (XdO g.v5) (orD (Xc7 g.v6) (orD (XcX g.v7) (XcV g.v8)))))) rfl (XaZ (a:=XeU g.v3) (b:=orD (XdZ g.v4) (orD (XdO g.v5) (orD (Xc7 g.v6) (orD (XcX g.v7) (XcV g.v8))))) rfl (XaZ (a:=XdZ g.v4) (b:=orD (XdO g.v5) (orD (Xc7 g.v6) (orD (XcX g.v7) (XcV g.v8)))) rfl (XeT (a:=XdO g.v5) (b:=orD (Xc7 g.v6) (orD (XcX g.v7) (XcV g.v8))) (XA2 hx)))))))
theorem Xwc {g:Xau} {y0:Xay} {y1:List UInt8} {y2:Int} {x:Bool×Xay} (hx:g.v6 y0 y1 y2=some x):(s12 g).run [.pointer (some ⟨0,0,none⟩),.string ⟨⟨y1⟩⟩,.int .i64 y2] [some [.int .u64 y0.key.A,.int .u64 y0.key.B,.slice (some ⟨1,0,none⟩) 6 1,.int .i64 y0.total],some [.slice (some ⟨2,0,none⟩) y0.rows.m0 1,.slice (some ⟨3,0,none⟩) y0.rows.m1 1,.slice (some ⟨4,0,none⟩) y0.rows.m2 1,.slice (some ⟨5,0,none⟩) y0.rows.m3 1,.slice (some ⟨6,0,none⟩) y0.rows.m4 1,.slice (some ⟨7,0,none⟩) y0.rows.m5 1],some (vI .i64 y0.rows.e0),some (vI .i64 y0.rows.e1),some (vI .i64 y0.rows.e2),some (vI .i64 y0.rows.e3),some (vI .i64 y0.rows.e4),some (vI .i64 y0.rows.e5),none,none]=some (Xrj x):=XaZ (a:=Xl8 g.vn) (b:=orD (Xib g.v0) (orD (Xg8 g.v1) (orD (Xf5 g.v2) (orD (XeU g.v3) (orD (XdZ g.v4) (orD (XdO g.v5) (orD (Xc7 g.v6) (orD (XcX g.v7) (XcV g.v8))))))))) rfl (XaZ (a:=Xib g.v0) (b:=orD (Xg8 g.v1) (orD (Xf5 g.v2) (orD (XeU g.v3) (orD (XdZ g.v4) (orD (XdO g.v5) (orD (Xc7 g.v6) (orD (XcX g.v7) (XcV g.v8)))))))) rfl (XaZ (a:=Xg8 g.v1) (b:=orD (Xf5 g.v2) (orD (XeU g.v3) (orD (XdZ g.v4) (orD (XdO g.v5) (orD (Xc7 g.v6) (orD (XcX g.v7) (XcV g.v8))))))) rfl (XaZ (a:=Xf5 g.v2) (b:=orD (XeU g.v3) (orD (XdZ g.v4) (orD (XdO g.v5) (orD (Xc7 g.v6) (orD (XcX g.v7) (XcV g.v8)))))) rfl (XaZ (a:=XeU g.v3) (b:=orD (XdZ g.v4) (orD (XdO g.v5) (orD (Xc7 g.v6) (orD (XcX g.v7) (XcV g.v8))))) rfl (XaZ (a:=XdZ g.v4) (b:=orD (XdO g.v5) (orD (Xc7 g.v6) (orD (XcX g.v7) (XcV g.v8)))) rfl (XaZ (a:=XdO g.v5) (b:=orD (Xc7 g.v6) (orD (XcX g.v7) (XcV g.v8))) rfl (XeT (a:=Xc7 g.v6) (b:=orD (XcX g.v7) (XcV g.v8)) (XBC hx))))))))
theorem Xwn {g:Xau} {y0:Xaw} {y1:List UInt8} {y2:Int} {x:Bool×Xaw} (hx:g.v7 y0 y1 y2=some x):(s12 g).run [.pointer (some ⟨0,0,none⟩),.string ⟨⟨y1⟩⟩,.int .i64 y2] [some [.int .u64 y0.key.A,.int .u64 y0.key.B,.slice (some ⟨1,0,none⟩) 7 1,.int .i64 y0.total],some [.slice (some ⟨2,0,none⟩) y0.rows.m0 1,.slice (some ⟨3,0,none⟩) y0.rows.m1 1,.slice (some ⟨4,0,none⟩) y0.rows.m2 1,.slice (some ⟨5,0,none⟩) y0.rows.m3 1,.slice (some ⟨6,0,none⟩) y0.rows.m4 1,.slice (some ⟨7,0,none⟩) y0.rows.m5 1,.slice (some ⟨8,0,none⟩) y0.rows.m6 1],some (vI .i64 y0.rows.e0),some (vI .i64 y0.rows.e1),some (vI .i64 y0.rows.e2),some (vI .i64 y0.rows.e3),some (vI .i64 y0.rows.e4),some (vI .i64 y0.rows.e5),some (vI .i64 y0.rows.e6),none]=some (Xr9 x):=XaZ (a:=Xl8 g.vn) (b:=orD (Xib g.v0) (orD (Xg8 g.v1) (orD (Xf5 g.v2) (orD (XeU g.v3) (orD (XdZ g.v4) (orD (XdO g.v5) (orD (Xc7 g.v6) (orD (XcX g.v7) (XcV g.v8))))))))) rfl (XaZ (a:=Xib g.v0) (b:=orD (Xg8 g.v1) (orD (Xf5 g.v2) (orD (XeU g.v3) (orD (XdZ g.v4) (orD (XdO g.v5) (orD (Xc7 g.v6) (orD (XcX g.v7) (XcV g.v8)))))))) rfl (XaZ (a:=Xg8 g.v1) (b:=orD (Xf5 g.v2) (orD (XeU g.v3) (orD (XdZ g.v4) (orD (XdO g.v5) (orD (Xc7 g.v6) (orD (XcX g.v7) (XcV g.v8))))))) rfl (XaZ (a:=Xf5 g.v2) (b:=orD (XeU g.v3) (orD (XdZ g.v4) (orD (XdO g.v5) (orD (Xc7 g.v6) (orD (XcX g.v7) (XcV g.v8)))))) rfl (XaZ (a:=XeU g.v3) (b:=orD (XdZ g.v4) (orD (XdO g.v5) (orD (Xc7 g.v6) (orD (XcX g.v7) (XcV g.v8))))) rfl (XaZ (a:=XdZ g.v4) (b:=orD (XdO g.v5) (orD (Xc7 g.v6) (orD (XcX g.v7) (XcV g.v8)))) rfl (XaZ (a:=XdO g.v5) (b:=orD (Xc7 g.v6) (orD (XcX g.v7) (XcV g.v8))) rfl (XaZ (a:=Xc7 g.v6) (b:=orD (XcX g.v7) (XcV g.v8)) rfl (XeT (a:=XcX g.v7) (b:=XcV g.v8) (XBw hx)))))))))
theorem Xxz {g:Xau} {y0:Xav} {y1:List UInt8} {y2:Int} {x:Bool×Xav} (hx:g.v8 y0 y1 y2=some x):(s12 g).run [.pointer (some ⟨0,0,none⟩),.string ⟨⟨y1⟩⟩,.int .i64 y2] [some [.int .u64 y0.key.A,.int .u64 y0.key.B,.slice (some ⟨1,0,none⟩) 8 1,.int .i64 y0.total],some [.slice (some ⟨2,0,none⟩) y0.rows.m0 1,.slice (some ⟨3,0,none⟩) y0.rows.m1 1,.slice (some ⟨4,0,none⟩) y0.rows.m2 1,.slice (some ⟨5,0,none⟩) y0.rows.m3 1,.slice (some ⟨6,0,none⟩) y0.rows.m4 1,.slice (some ⟨7,0,none⟩) y0.rows.m5 1,.slice (some ⟨8,0,none⟩) y0.rows.m6 1,.slice (some ⟨9,0,none⟩) y0.rows.m7 1],some (vI .i64 y0.rows.e0),some (vI .i64 y0.rows.e1),some (vI .i64 y0.rows.e2),some (vI .i64 y0.rows.e3),some (vI .i64 y0.rows.e4),some (vI .i64 y0.rows.e5),some (vI .i64 y0.rows.e6),some (vI .i64 y0.rows.e7)]=some (Xq3 x):=XaZ (a:=Xl8 g.vn) (b:=orD (Xib g.v0) (orD (Xg8 g.v1) (orD (Xf5 g.v2) (orD (XeU g.v3) (orD (XdZ g.v4) (orD (XdO g.v5) (orD (Xc7 g.v6) (orD (XcX g.v7) (XcV g.v8))))))))) rfl (XaZ (a:=Xib g.v0) (b:=orD (Xg8 g.v1) (orD (Xf5 g.v2) (orD (XeU g.v3) (orD (XdZ g.v4) (orD (XdO g.v5) (orD (Xc7 g.v6) (orD (XcX g.v7) (XcV g.v8)))))))) rfl (XaZ (a:=Xg8 g.v1) (b:=orD (Xf5 g.v2) (orD (XeU g.v3) (orD (XdZ g.v4) (orD (XdO g.v5) (orD (Xc7 g.v6) (orD (XcX g.v7) (XcV g.v8))))))) rfl (XaZ (a:=Xf5 g.v2) (b:=orD (XeU g.v3) (orD (XdZ g.v4) (orD (XdO g.v5) (orD (Xc7 g.v6) (orD (XcX g.v7) (XcV g.v8)))))) rfl (XaZ (a:=XeU g.v3) (b:=orD (XdZ g.v4) (orD (XdO g.v5) (orD (Xc7 g.v6) (orD (XcX g.v7) (XcV g.v8))))) rfl (XaZ (a:=XdZ g.v4) (b:=orD (XdO g.v5) (orD (Xc7 g.v6) (orD (XcX g.v7) (XcV g.v8)))) rfl (XaZ (a:=XdO g.v5) (b:=orD (Xc7 g.v6) (orD (XcX g.v7) (XcV g.v8))) rfl (XaZ (a:=Xc7 g.v6) (b:=orD (XcX g.v7) (XcV g.v8)) rfl (XaZ (a:=XcX g.v7) (b:=XcV g.v8) rfl (XBe hx)))))))))
def XkF:Xd5:=Xgy Xaa
def XkE:Xd3:=Xgv Xaa
def XgU:Xeh:=XeZ Xae Xaa
def XgN:Xd8:=Xe4 Xae Xaa
def XgK:Xeq:=XeW Xae Xaa
def XgO:Xeb:=Xe5 Xae Xaa
def XgP:Xef:=Xe2 Xae Xaa
def XgR:Xeg:=Xe0 Xae Xaa
def XgM:Xes:=XeY Xae Xaa
def XgT:Xep:=XeX Xae Xaa
def Xah:Xau:=⟨XkF,XkE,XgU,XgN,XgK,XgO,XgP,XgR,XgM,XgT⟩
theorem XCV:Xgx Try.prog 12 (s12 Xah):=by
 have L0:=XtM Xaa (XaL.Xbk ⟨Xcs,trivial⟩)
 have L1:=XtG Xaa (XaL.Xbk ⟨Xcs,trivial⟩)
 have L2:=Xtb Xae Xaa (XaL.Xbk ⟨Xhv,Xcs,trivial⟩)
 have L3:=Xur Xae Xaa (XaL.Xbk ⟨Xhv,Xcs,trivial⟩)
 have L4:=XuC Xae Xaa (XaL.Xbk ⟨Xhv,Xcs,trivial⟩)
 have L5:=XuY Xae Xaa (XaL.Xbk ⟨Xhv,Xcs,trivial⟩)
 have L6:=Xts Xae Xaa (XaL.Xbk ⟨Xhv,Xcs,trivial⟩)
 have L7:=Xu7 Xae Xaa (XaL.Xbk ⟨Xhv,Xcs,trivial⟩)
 have L8:=XuI Xae Xaa (XaL.Xbk ⟨Xhv,Xcs,trivial⟩)
 have L9:=XtD Xae Xaa (XaL.Xbk ⟨Xhv,Xcs,trivial⟩)
 refine Xgx.XiG XaJ (fun ar os r ha hr=>?_) ⟨Try.f12,rfl,by decide,rfl⟩
 generalize hc:XhF os=C at hr
 replace hr:=orD.elim hr;rcases hr with hr|hr
 ·skip
  have hq:=dNl.elim hr;clear hr;obtain ⟨l1,C,rfl,rfl,hr⟩:=hq;simp only [List.replicate,List.nil_append,List.cons_append] at hc
  replace hr:=dV.elim hr;obtain ⟨v1,l2,y1,rfl,e1,hr⟩:=hr;obtain rfl:=Xd1 _ _ e1
  replace hr:=dV.elim hr;obtain ⟨v2,l3,y2,rfl,e2,hr⟩:=hr;obtain rfl:=Xgu _ _ _ e2
  replace hr:=Xhd hr;obtain ⟨rfl,rfl,x,h,rfl⟩:=hr
  replace ha:=Xaj ha hc;obtain ⟨os,rfl,ha,hc⟩:=ha
  replace ha:=Xaj ha hc;obtain ⟨os,rfl,ha,hc⟩:=ha
  replace ha:=Xaj ha hc;obtain ⟨os,rfl,ha,hc⟩:=ha
  replace ha:=Xaj ha hc;obtain ⟨os,rfl,ha,hc⟩:=ha
  replace ha:=Xaj ha hc;obtain ⟨os,rfl,ha,hc⟩:=ha
  replace ha:=Xaj ha hc;obtain ⟨os,rfl,ha,hc⟩:=ha
  replace ha:=Xaj ha hc;obtain ⟨os,rfl,ha,hc⟩:=ha
  replace ha:=Xaj ha hc;obtain ⟨os,rfl,ha,hc⟩:=ha
  replace ha:=Xaj ha hc;obtain ⟨os,rfl,ha,hc⟩:=ha
  replace ha:=Xaj ha hc;obtain ⟨os,rfl,ha,hc⟩:=ha
  obtain rfl:=Xa5 hc
  exact ⟨_,rfl,L0 _ _ x h⟩
 replace hr:=orD.elim hr;rcases hr with hr|hr
 ·skip
  have hq:=dTr.elim hr;clear hr;obtain ⟨v0,l1,c0,C,y0,rfl,rfl,e0,hr⟩:=hq;obtain ⟨rfl,rfl⟩:=Xc1 e0;simp only [List.nil_append,List.cons_append] at hc
  replace hr:=dV.elim hr;obtain ⟨v1,l2,y1,rfl,e1,hr⟩:=hr;obtain rfl:=Xd1 _ _ e1
  replace hr:=dV.elim hr;obtain ⟨v2,l3,y2,rfl,e2,hr⟩:=hr;obtain rfl:=Xgu _ _ _ e2
  replace hr:=Xhd hr;obtain ⟨rfl,rfl,x,h,rfl⟩:=hr
  replace ha:=Xag ha hc;obtain ⟨os,rfl,ha,hc⟩:=ha
  replace ha:=Xaj ha hc;obtain ⟨os,rfl,ha,hc⟩:=ha
  replace ha:=Xaj ha hc;obtain ⟨os,rfl,ha,hc⟩:=ha
  replace ha:=Xaj ha hc;obtain ⟨os,rfl,ha,hc⟩:=ha
  replace ha:=Xaj ha hc;obtain ⟨os,rfl,ha,hc⟩:=ha
  replace ha:=Xaj ha hc;obtain ⟨os,rfl,ha,hc⟩:=ha
  replace ha:=Xaj ha hc;obtain ⟨os,rfl,ha,hc⟩:=ha
  replace ha:=Xaj ha hc;obtain ⟨os,rfl,ha,hc⟩:=ha
  replace ha:=Xaj ha hc;obtain ⟨os,rfl,ha,hc⟩:=ha
  replace ha:=Xaj ha hc;obtain ⟨os,rfl,ha,hc⟩:=ha
  obtain rfl:=Xa5 hc
  exact ⟨_,rfl,L1 _ _ _ x h⟩
 replace hr:=orD.elim hr;rcases hr with hr|hr
 ·skip
  have hq:=dTr.elim hr;clear hr;obtain ⟨v0,l1,c0,C,y0,rfl,rfl,e0,hr⟩:=hq;obtain ⟨rfl,rfl⟩:=Xcn e0;simp only [List.nil_append,List.cons_append] at hc
  replace hr:=dV.elim hr;obtain ⟨v1,l2,y1,rfl,e1,hr⟩:=hr;obtain rfl:=Xd1 _ _ e1
  replace hr:=dV.elim hr;obtain ⟨v2,l3,y2,rfl,e2,hr⟩:=hr;obtain rfl:=Xgu _ _ _ e2
  replace hr:=Xhd hr;obtain ⟨rfl,rfl,x,h,rfl⟩:=hr
  replace ha:=Xag ha hc;obtain ⟨os,rfl,ha,hc⟩:=ha
  replace ha:=Xag ha hc;obtain ⟨os,rfl,ha,hc⟩:=ha
  replace ha:=Xag ha hc;obtain ⟨os,rfl,ha,hc⟩:=ha
  replace ha:=Xaj ha hc;obtain ⟨os,rfl,ha,hc⟩:=ha
  replace ha:=Xaj ha hc;obtain ⟨os,rfl,ha,hc⟩:=ha
  replace ha:=Xaj ha hc;obtain ⟨os,rfl,ha,hc⟩:=ha
  replace ha:=Xaj ha hc;obtain ⟨os,rfl,ha,hc⟩:=ha
  replace ha:=Xaj ha hc;obtain ⟨os,rfl,ha,hc⟩:=ha
  replace ha:=Xaj ha hc;obtain ⟨os,rfl,ha,hc⟩:=ha
  replace ha:=Xaj ha hc;obtain ⟨os,rfl,ha,hc⟩:=ha
  obtain rfl:=Xa5 hc
  exact ⟨_,rfl,L2 _ _ _ x h⟩
 replace hr:=orD.elim hr;rcases hr with hr|hr
 ·skip
  have hq:=dTr.elim hr;clear hr;obtain ⟨v0,l1,c0,C,y0,rfl,rfl,e0,hr⟩:=hq;obtain ⟨rfl,rfl⟩:=Xcp e0;simp only [List.nil_append,List.cons_append] at hc
  replace hr:=dV.elim hr;obtain ⟨v1,l2,y1,rfl,e1,hr⟩:=hr;obtain rfl:=Xd1 _ _ e1
  replace hr:=dV.elim hr;obtain ⟨v2,l3,y2,rfl,e2,hr⟩:=hr;obtain rfl:=Xgu _ _ _ e2
  replace hr:=Xhd hr;obtain ⟨rfl,rfl,x,h,rfl⟩:=hr
  replace ha:=Xag ha hc;obtain ⟨os,rfl,ha,hc⟩:=ha
  replace ha:=Xag ha hc;obtain ⟨os,rfl,ha,hc⟩:=ha
  replace ha:=Xag ha hc;obtain ⟨os,rfl,ha,hc⟩:=ha
  replace ha:=Xag ha hc;obtain ⟨os,rfl,ha,hc⟩:=ha
  replace ha:=Xaj ha hc;obtain ⟨os,rfl,ha,hc⟩:=ha
  replace ha:=Xaj ha hc;obtain ⟨os,rfl,ha,hc⟩:=ha
  replace ha:=Xaj ha hc;obtain ⟨os,rfl,ha,hc⟩:=ha
  replace ha:=Xaj ha hc;obtain ⟨os,rfl,ha,hc⟩:=ha
  replace ha:=Xaj ha hc;obtain ⟨os,rfl,ha,hc⟩:=ha
  replace ha:=Xaj ha hc;obtain ⟨os,rfl,ha,hc⟩:=ha
  obtain rfl:=Xa5 hc
  exact ⟨_,rfl,L3 _ _ _ x h⟩
 replace hr:=orD.elim hr;rcases hr with hr|hr
 ·skip
  have hq:=dTr.elim hr;clear hr;obtain ⟨v0,l1,c0,C,y0,rfl,rfl,e0,hr⟩:=hq;obtain ⟨rfl,rfl⟩:=Xce e0;simp only [List.nil_append,List.cons_append] at hc
  replace hr:=dV.elim hr;obtain ⟨v1,l2,y1,rfl,e1,hr⟩:=hr;obtain rfl:=Xd1 _ _ e1
  replace hr:=dV.elim hr;obtain ⟨v2,l3,y2,rfl,e2,hr⟩:=hr;obtain rfl:=Xgu _ _ _ e2
  replace hr:=Xhd hr;obtain ⟨rfl,rfl,x,h,rfl⟩:=hr
  replace ha:=Xag ha hc;obtain ⟨os,rfl,ha,hc⟩:=ha
  replace ha:=Xag ha hc;obtain ⟨os,rfl,ha,hc⟩:=ha
  replace ha:=Xag ha hc;obtain ⟨os,rfl,ha,hc⟩:=ha
  replace ha:=Xag ha hc;obtain ⟨os,rfl,ha,hc⟩:=ha
  replace ha:=Xag ha hc;obtain ⟨os,rfl,ha,hc⟩:=ha
  replace ha:=Xaj ha hc;obtain ⟨os,rfl,ha,hc⟩:=ha
  replace ha:=Xaj ha hc;obtain ⟨os,rfl,ha,hc⟩:=ha
  replace ha:=Xaj ha hc;obtain ⟨os,rfl,ha,hc⟩:=ha
  replace ha:=Xaj ha hc;obtain ⟨os,rfl,ha,hc⟩:=ha
  replace ha:=Xaj ha hc;obtain ⟨os,rfl,ha,hc⟩:=ha
  obtain rfl:=Xa5 hc
  exact ⟨_,rfl,L4 _ _ _ x h⟩
 replace hr:=orD.elim hr;rcases hr with hr|hr
 ·skip
  have hq:=dTr.elim hr;clear hr;obtain ⟨v0,l1,c0,C,y0,rfl,rfl,e0,hr⟩:=hq;obtain ⟨rfl,rfl⟩:=Xci e0;simp only [List.nil_append,List.cons_append] at hc
  replace hr:=dV.elim hr;obtain ⟨v1,l2,y1,rfl,e1,hr⟩:=hr;obtain rfl:=Xd1 _ _ e1
  replace hr:=dV.elim hr;obtain ⟨v2,l3,y2,rfl,e2,hr⟩:=hr;obtain rfl:=Xgu _ _ _ e2
  replace hr:=Xhd hr;obtain ⟨rfl,rfl,x,h,rfl⟩:=hr
  replace ha:=Xag ha hc;obtain ⟨os,rfl,ha,hc⟩:=ha
  replace ha:=Xag ha hc;obtain ⟨os,rfl,ha,hc⟩:=ha
  replace ha:=Xag ha hc;obtain ⟨os,rfl,ha,hc⟩:=ha
  replace ha:=Xag ha hc;obtain ⟨os,rfl,ha,hc⟩:=ha
  replace ha:=Xag ha hc;obtain ⟨os,rfl,ha,hc⟩:=ha
  replace ha:=Xag ha hc;obtain ⟨os,rfl,ha,hc⟩:=ha
  replace ha:=Xaj ha hc;obtain ⟨os,rfl,ha,hc⟩:=ha
  replace ha:=Xaj ha hc;obtain ⟨os,rfl,ha,hc⟩:=ha
  replace ha:=Xaj ha hc;obtain ⟨os,rfl,ha,hc⟩:=ha
  replace ha:=Xaj ha hc;obtain ⟨os,rfl,ha,hc⟩:=ha
  obtain rfl:=Xa5 hc
  exact ⟨_,rfl,L5 _ _ _ x h⟩
 replace hr:=orD.elim hr;rcases hr with hr|hr
 ·skip
  have hq:=dTr.elim hr;clear hr;obtain ⟨v0,l1,c0,C,y0,rfl,rfl,e0,hr⟩:=hq;obtain ⟨rfl,rfl⟩:=Xcg e0;simp only [List.nil_append,List.cons_append] at hc
  replace hr:=dV.elim hr;obtain ⟨v1,l2,y1,rfl,e1,hr⟩:=hr;obtain rfl:=Xd1 _ _ e1
  replace hr:=dV.elim hr;obtain ⟨v2,l3,y2,rfl,e2,hr⟩:=hr;obtain rfl:=Xgu _ _ _ e2
  replace hr:=Xhd hr;obtain ⟨rfl,rfl,x,h,rfl⟩:=hr
  replace ha:=Xag ha hc;obtain ⟨os,rfl,ha,hc⟩:=ha
  replace ha:=Xag ha hc;obtain ⟨os,rfl,ha,hc⟩:=ha
  replace ha:=Xag ha hc;obtain ⟨os,rfl,ha,hc⟩:=ha
  replace ha:=Xag ha hc;obtain ⟨os,rfl,ha,hc⟩:=ha
  replace ha:=Xag ha hc;obtain ⟨os,rfl,ha,hc⟩:=ha
  replace ha:=Xag ha hc;obtain ⟨os,rfl,ha,hc⟩:=ha
  replace ha:=Xag ha hc;obtain ⟨os,rfl,ha,hc⟩:=ha
  replace ha:=Xaj ha hc;obtain ⟨os,rfl,ha,hc⟩:=ha
  replace ha:=Xaj ha hc;obtain ⟨os,rfl,ha,hc⟩:=ha
  replace ha:=Xaj ha hc;obtain ⟨os,rfl,ha,hc⟩:=ha
  obtain rfl:=Xa5 hc
  exact ⟨_,rfl,L6 _ _ _ x h⟩
 replace hr:=orD.elim hr;rcases hr with hr|hr
 ·skip
  have hq:=dTr.elim hr;clear hr;obtain ⟨v0,l1,c0,C,y0,rfl,rfl,e0,hr⟩:=hq;obtain ⟨rfl,rfl⟩:=Xcc e0;simp only [List.nil_append,List.cons_append] at hc
  replace hr:=dV.elim hr;obtain ⟨v1,l2,y1,rfl,e1,hr⟩:=hr;obtain rfl:=Xd1 _ _ e1
  replace hr:=dV.elim hr;obtain ⟨v2,l3,y2,rfl,e2,hr⟩:=hr;obtain rfl:=Xgu _ _ _ e2
  replace hr:=Xhd hr;obtain ⟨rfl,rfl,x,h,rfl⟩:=hr
  replace ha:=Xag ha hc;obtain ⟨os,rfl,ha,hc⟩:=ha
  replace ha:=Xag ha hc;obtain ⟨os,rfl,ha,hc⟩:=ha
  replace ha:=Xag ha hc;obtain ⟨os,rfl,ha,hc⟩:=ha
  replace ha:=Xag ha hc;obtain ⟨os,rfl,ha,hc⟩:=ha
  replace ha:=Xag ha hc;obtain ⟨os,rfl,ha,hc⟩:=ha
  replace ha:=Xag ha hc;obtain ⟨os,rfl,ha,hc⟩:=ha
  replace ha:=Xag ha hc;obtain ⟨os,rfl,ha,hc⟩:=ha
  replace ha:=Xag ha hc;obtain ⟨os,rfl,ha,hc⟩:=ha
  replace ha:=Xaj ha hc;obtain ⟨os,rfl,ha,hc⟩:=ha
  replace ha:=Xaj ha hc;obtain ⟨os,rfl,ha,hc⟩:=ha
  obtain rfl:=Xa5 hc
  exact ⟨_,rfl,L7 _ _ _ x h⟩
 replace hr:=orD.elim hr;rcases hr with hr|hr
 ·skip
  have hq:=dTr.elim hr;clear hr;obtain ⟨v0,l1,c0,C,y0,rfl,rfl,e0,hr⟩:=hq;obtain ⟨rfl,rfl⟩:=Xcd e0;simp only [List.nil_append,List.cons_append] at hc
  replace hr:=dV.elim hr;obtain ⟨v1,l2,y1,rfl,e1,hr⟩:=hr;obtain rfl:=Xd1 _ _ e1
  replace hr:=dV.elim hr;obtain ⟨v2,l3,y2,rfl,e2,hr⟩:=hr;obtain rfl:=Xgu _ _ _ e2
  replace hr:=Xhd hr;obtain ⟨rfl,rfl,x,h,rfl⟩:=hr
  replace ha:=Xag ha hc;obtain ⟨os,rfl,ha,hc⟩:=ha
  replace ha:=Xag ha hc;obtain ⟨os,rfl,ha,hc⟩:=ha
  replace ha:=Xag ha hc;obtain ⟨os,rfl,ha,hc⟩:=ha
  replace ha:=Xag ha hc;obtain ⟨os,rfl,ha,hc⟩:=ha
  replace ha:=Xag ha hc;obtain ⟨os,rfl,ha,hc⟩:=ha
  replace ha:=Xag ha hc;obtain ⟨os,rfl,ha,hc⟩:=ha
  replace ha:=Xag ha hc;obtain ⟨os,rfl,ha,hc⟩:=ha
  replace ha:=Xag ha hc;obtain ⟨os,rfl,ha,hc⟩:=ha
  replace ha:=Xag ha hc;obtain ⟨os,rfl,ha,hc⟩:=ha
  replace ha:=Xaj ha hc;obtain ⟨os,rfl,ha,hc⟩:=ha
  obtain rfl:=Xa5 hc
  exact ⟨_,rfl,L8 _ _ _ x h⟩
 have hq:=dTr.elim hr;clear hr;obtain ⟨v0,l1,c0,C,y0,rfl,rfl,e0,hr⟩:=hq;obtain ⟨rfl,rfl⟩:=Xck e0;simp only [List.nil_append,List.cons_append] at hc
 replace hr:=dV.elim hr;obtain ⟨v1,l2,y1,rfl,e1,hr⟩:=hr;obtain rfl:=Xd1 _ _ e1
 replace hr:=dV.elim hr;obtain ⟨v2,l3,y2,rfl,e2,hr⟩:=hr;obtain rfl:=Xgu _ _ _ e2
 replace hr:=Xhd hr;obtain ⟨rfl,rfl,x,h,rfl⟩:=hr
 replace ha:=Xag ha hc;obtain ⟨os,rfl,ha,hc⟩:=ha
 replace ha:=Xag ha hc;obtain ⟨os,rfl,ha,hc⟩:=ha
 replace ha:=Xag ha hc;obtain ⟨os,rfl,ha,hc⟩:=ha
 replace ha:=Xag ha hc;obtain ⟨os,rfl,ha,hc⟩:=ha
 replace ha:=Xag ha hc;obtain ⟨os,rfl,ha,hc⟩:=ha
 replace ha:=Xag ha hc;obtain ⟨os,rfl,ha,hc⟩:=ha
 replace ha:=Xag ha hc;obtain ⟨os,rfl,ha,hc⟩:=ha
 replace ha:=Xag ha hc;obtain ⟨os,rfl,ha,hc⟩:=ha
 replace ha:=Xag ha hc;obtain ⟨os,rfl,ha,hc⟩:=ha
 replace ha:=Xag ha hc;obtain ⟨os,rfl,ha,hc⟩:=ha
 obtain rfl:=Xa5 hc
 exact ⟨_,rfl,L9 _ _ _ x h⟩
end Go.Vm.Code
