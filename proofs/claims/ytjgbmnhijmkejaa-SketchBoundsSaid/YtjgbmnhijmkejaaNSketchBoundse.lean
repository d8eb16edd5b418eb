import Derived.Test.YtjgbmnhijmkejaaNSketchBoundsd
namespace Go.Vm.Code
open Go Go.Vm Go.Proofs
set_option maxRecDepth 100000
set_option maxHeartbeats 4000000
set_option linter.unusedVariables false
def Xfz (Xaa:Xaf) (text:List UInt8):Option Int:=
 (Xaa.vn).bind fun n=>
 cond (!n)
  (
  some (0))
  (
  none)
def Xq4 (x:Int):Xdj:=⟨.int .i64 x,[],[none,none,none,none,none,none,none,none,none,none]⟩
abbrev Xds:=(List UInt8)→Option Int
def XmJ (g:Xds):Dec:=dNl 10<|dV asS fun (y1:List UInt8)=>Xfq (ofG (g y1) Xq4)
theorem XBo {g:Xds} {y1:List UInt8} {x:Int} (hx:g y1=some x):XmJ g [.pointer none,.string ⟨⟨y1⟩⟩] [none,none,none,none,none,none,none,none,none,none]=some (Xq4 x):=(Xr3).trans ((XcF (Xg1)).trans (Xbx hx))
abbrev Xv4 (Xaa:Xaf):List (Nat×Xc3):=[(38,s38 Xaa)]
theorem Xvk (Xaa:Xaf) (hS:XaL Try.prog (XaY (Xv4 Xaa))) (text:List UInt8) (res:Int) (h:Xfz Xaa text=some res) :
 Xa0 Try.prog 16 10 ⟨⟨16,14,[(0,.pointer none),(1,.string ⟨⟨text⟩⟩)],[.code Xkk],[],false,none⟩,[],[],10⟩ (fun v H _=>Res 10 (Xq4 res) v H):=by
 unfold Xfz at h
 refine Xa1 XaJ hS true 3000 ?_
 conv=>whnf
 replace h:=XaK.elim h;obtain ⟨n,hy,h⟩:=h
 refine Xbn.XaO [] (Xar («as»:=[.pointer none]) (ws:=[.no,.no,.no,.no,.no,.no,.no,.no,.no,.no]) (n:=0) (m:=0) (t':=10) (Xam rfl rfl XaP) rfl (by rfl) (Xn5 hy) rfl rfl rfl rfl (Xab rfl (Xab rfl (Xab rfl (Xab rfl (Xab rfl (Xab rfl (Xab rfl (Xab rfl (Xab rfl (Xab rfl XaN)))))))))) XaM rfl) ?_
 conv=>whnf
 exact W
def Xd9 (Xae:Xaq) (Xaa:Xaf) (s:XaH) (text:List UInt8):Option Int:=
 (Xaa.v1 s).bind fun x1=>
 cond (!x1)
  (
  some (0))
  (
  (Xae.v1 s 0 text).bind fun x11=>
  XaU (decide ((0:Int)≤x11∧x11<(s.rows.m0:Int))) <|
  (s.rows.e0[x11.toNat]?).bind fun (e:Int)=>
  let t:=if e<1099511627776 then e else 1099511627776
  some (t))
def Xrs (x:Int):Xdj:=⟨.int .i64 x,[],[none,none,none,none,none,none,none,none,none,none]⟩
abbrev Xdx:=XaH→(List UInt8)→Option Int
def Xiu (g:Xdx):Dec:=dTr 10 (XbX 0) fun (y0:XaH)=>dV asS fun (y1:List UInt8)=>Xfq (ofG (g y0 y1) Xrs)
theorem XBt {g:Xdx} {y0:XaH} {y1:List UInt8} {x:Int} (hx:g y0 y1=some x):Xiu g [.pointer (some ⟨0,0,none⟩),.string ⟨⟨y1⟩⟩] [some [.int .u64 y0.key.A,.int .u64 y0.key.B,.slice (some ⟨1,0,none⟩) 1 1,.int .i64 y0.total],some [.slice (some ⟨2,0,none⟩) y0.rows.m0 1],some (vI .i64 y0.rows.e0),none,none,none,none,none,none,none]=some (Xrs x):=(Xcx rfl rfl (XeP 0 _)).trans ((XcF (Xg1)).trans (Xbx hx))
abbrev Xwu (Xae:Xaq) (Xaa:Xaf):List (Nat×Xc3):=[(20,s20 Xae),(38,s38 Xaa)]
theorem XuZ (Xae:Xaq) (Xaa:Xaf) (hS:XaL Try.prog (XaY (Xwu Xae Xaa))) (s:XaH) (text:List UInt8) (res:Int) (h:Xd9 Xae Xaa s text=some res) :
 Xa0 Try.prog 16 10 ⟨⟨16,14,[(0,.pointer (some ⟨0,0,none⟩)),(1,.string ⟨⟨text⟩⟩)],[.code Xkk],[],false,none⟩,[],[(0,.row false [.int .u64 s.key.A,.int .u64 s.key.B,.slice (some ⟨1,0,none⟩) 1 1,.int .i64 s.total]),(1,.row false [.slice (some ⟨2,0,none⟩) s.rows.m0 1]),(2,.row false (vI .i64 s.rows.e0))],10⟩ (fun v H _=>Res 10 (Xrs res) v H):=by
 unfold Xd9 at h
 refine Xa1 XaJ hS true 3000 ?_
 conv=>whnf
 replace h:=XaK.elim h;obtain ⟨x1,hy,h⟩:=h
 refine Xbn.XaO [] (Xar («as»:=[.pointer (some ⟨0,0,none⟩)]) (ws:=[.blk 0 false,.blk 1 false,.blk 2 false,.no,.no,.no,.no,.no,.no,.no]) (n:=0) (m:=0) (t':=10) (Xam (Xa6 rfl rfl (Xai rfl rfl rfl rfl (Xai rfl rfl rfl rfl (Xai rfl rfl (Xat) rfl (Xan (Xan (Xan (Xan (Xan (Xan (Xan XaR)))))))))) rfl) rfl XaP) rfl (by rfl) (XjX hy) rfl rfl rfl rfl (Xab rfl (Xab rfl (Xab rfl (Xab rfl (Xab rfl (Xab rfl (Xab rfl (Xab rfl (Xab rfl (Xab rfl XaN)))))))))) XaM rfl) ?_
 conv=>whnf
 refine br.h h (by rfl) ?_ ?_
 ·clear h;intro hb h;conv=>whnf
  exact W
 clear h;intro hb h;conv=>whnf
 refine Xa1 XaJ hS true 3000 ?_
 conv=>whnf
 replace h:=XaK.elim h;obtain ⟨x11,hy,h⟩:=h
 refine Xbn.XaO [] (Xar («as»:=[.pointer (some ⟨0,0,none⟩),.int .i64 0,.string ⟨⟨text⟩⟩]) (ws:=[.blk 0 false,.blk 1 false,.blk 2 false,.no,.no,.no,.no,.no,.no,.no]) (n:=0) (m:=0) (t':=22) (Xam (Xa6 rfl rfl (Xai rfl rfl rfl rfl (Xai rfl rfl rfl rfl (Xai rfl rfl (Xat) rfl (Xan (Xan (Xan (Xan (Xan (Xan (Xan XaR)))))))))) rfl) rfl (Xam rfl rfl (Xam rfl rfl XaP))) rfl (by rfl) (XrP hy) rfl rfl rfl rfl (Xab rfl (Xab rfl (Xab rfl (Xab rfl (Xab rfl (Xab rfl (Xab rfl (Xab rfl (Xab rfl (Xab rfl XaN)))))))))) XaM rfl) ?_
 conv=>whnf
 exact W
def Xec (Xae:Xaq) (Xaa:Xaf) (s:XaG) (text:List UInt8):Option Int:=
 (Xaa.v2 s).bind fun x2=>
 cond (!x2)
  (
  some (0))
  (
  (Xae.v2 s 0 text).bind fun x21=>
  XaU (decide ((0:Int)≤x21∧x21<(s.rows.m0:Int))) <|
  (s.rows.e0[x21.toNat]?).bind fun (e:Int)=>
  let t:=if e<1099511627776 then e else 1099511627776
  (Xae.v2 s 1 text).bind fun x22=>
  XaU (decide ((0:Int)≤x22∧x22<(s.rows.m1:Int))) <|
  (s.rows.e1[x22.toNat]?).bind fun (e1:Int)=>
  some (if e1<t then e1 else t))
def XqM (x:Int):Xdj:=⟨.int .i64 x,[],[none,none,none,none,none,none,none,none,none,none]⟩
abbrev Xdt:=XaG→(List UInt8)→Option Int
def Xht (g:Xdt):Dec:=dTr 10 (Xb4 0) fun (y0:XaG)=>dV asS fun (y1:List UInt8)=>Xfq (ofG (g y0 y1) XqM)
theorem Xzm {g:Xdt} {y0:XaG} {y1:List UInt8} {x:Int} (hx:g y0 y1=some x):Xht g [.pointer (some ⟨0,0,none⟩),.string ⟨⟨y1⟩⟩] [some [.int .u64 y0.key.A,.int .u64 y0.key.B,.slice (some ⟨1,0,none⟩) 2 1,.int .i64 y0.total],some [.slice (some ⟨2,0,none⟩) y0.rows.m0 1,.slice (some ⟨3,0,none⟩) y0.rows.m1 1],some (vI .i64 y0.rows.e0),some (vI .i64 y0.rows.e1),none,none,none,none,none,none]=some (XqM x):=(Xcx rfl rfl (XeE 0 _)).trans ((XcF (Xg1)).trans (Xbx hx))
abbrev Xxo (Xae:Xaq) (Xaa:Xaf):List (Nat×Xc3):=[(20,s20 Xae),(38,s38 Xaa)]
theorem Xu3 (Xae:Xaq) (Xaa:Xaf) (hS:XaL Try.prog (XaY (Xxo Xae Xaa))) (s:XaG) (text:List UInt8) (res:Int) (h:Xec Xae Xaa s text=some res) :
 Xa0 Try.prog 16 10 ⟨⟨16,14,[(0,.pointer (some ⟨0,0,none⟩)),(1,.string ⟨⟨text⟩⟩)],[.code Xkk],[],false,none⟩,[],[(0,.row false [.int .u64 s.key.A,.int .u64 s.key.B,.slice (some ⟨1,0,none⟩) 2 1,.int .i64 s.total]),(1,.row false [.slice (some ⟨2,0,none⟩) s.rows.m0 1,.slice (some ⟨3,0,none⟩) s.rows.m1 1]),(2,.row false (vI .i64 s.rows.e0)),(3,.row false (vI .i64 s.rows.e1))],10⟩ (fun v H _=>Res 10 (XqM res) v H):=by
 unfold Xec at h
 refine Xa1 XaJ hS true 3000 ?_
 conv=>whnf
 replace h:=XaK.elim h;obtain ⟨x2,hy,h⟩:=h
 refine Xbn.XaO [] (Xar («as»:=[.pointer (some ⟨0,0,none⟩)]) (ws:=[.blk 0 false,.blk 1 false,.blk 2 false,.blk 3 false,.no,.no,.no,.no,.no,.no]) (n:=0) (m:=0) (t':=10) (Xam (Xa6 rfl rfl (Xai rfl rfl rfl rfl (Xai rfl rfl rfl rfl (Xai rfl rfl (Xat) rfl (Xai rfl rfl (Xat) rfl (Xan (Xan (Xan (Xan (Xan (Xan XaR)))))))))) rfl) rfl XaP) rfl (by rfl) (Xj2 hy) rfl rfl rfl rfl (Xab rfl (Xab rfl (Xab rfl (Xab rfl (Xab rfl (Xab rfl (Xab rfl (Xab rfl (Xab rfl (Xab rfl XaN)))))))))) XaM rfl) ?_
 conv=>whnf
 refine br.h h (by rfl) ?_ ?_
 ·clear h;intro hb h;conv=>whnf
  exact W
 clear h;intro hb h;conv=>whnf
 refine Xa1 XaJ hS true 3000 ?_
 conv=>whnf
 replace h:=XaK.elim h;obtain ⟨x21,hy,h⟩:=h
 refine Xbn.XaO [] (Xar («as»:=[.pointer (some ⟨0,0,none⟩),.int .i64 0,.string ⟨⟨text⟩⟩]) (ws:=[.blk 0 false,.blk 1 false,.blk 2 false,.blk 3 false,.no,.no,.no,.no,.no,.no]) (n:=0) (m:=0) (t':=22) (Xam (Xa6 rfl rfl (Xai rfl rfl rfl rfl (Xai rfl rfl rfl rfl (Xai rfl rfl (Xat) rfl (Xai rfl rfl (Xat) rfl (Xan (Xan (Xan (Xan (Xan (Xan XaR)))))))))) rfl) rfl (Xam rfl rfl (Xam rfl rfl XaP))) rfl (by rfl) (Xmj hy) rfl rfl rfl rfl (Xab rfl (Xab rfl (Xab rfl (Xab rfl (Xab rfl (Xab rfl (Xab rfl (Xab rfl (Xab rfl (Xab rfl XaN)))))))))) XaM rfl) ?_
 conv=>whnf
 replace h:=XaU.elim h;obtain ⟨hb,h⟩:=h
 try (refine req.intro hb ?_;conv=>whnf)
 replace h:=XaK.elim h;obtain ⟨e,hy,h⟩:=h
 refine rd.I hy (by first|rfl|(rw [Nat.zero_add,Nat.mul_one];try rfl;done)|omega) ?_
 conv=>whnf
 let t:Int:=if e<1099511627776 then e else 1099511627776
 refine Xa1 XaJ hS true 3000 ?_
 conv=>whnf
 replace h:=XaK.elim h;obtain ⟨x22,hy,h⟩:=h
 refine Xbn.XaO [] (Xar («as»:=[.pointer (some ⟨0,0,none⟩),.int .i64 1,.string ⟨⟨text⟩⟩]) (ws:=[.blk 0 false,.blk 1 false,.blk 2 false,.blk 3 false,.no,.no,.no,.no,.no,.no]) (n:=0) (m:=0) (t':=39) (Xam (Xa6 rfl rfl (Xai rfl rfl rfl rfl (Xai rfl rfl rfl rfl (Xai rfl rfl (Xat) rfl (Xai rfl rfl (Xat) rfl (Xan (Xan (Xan (Xan (Xan (Xan XaR)))))))))) rfl) rfl (Xam rfl rfl (Xam rfl rfl XaP))) rfl (by rfl) (Xmj hy) rfl rfl rfl rfl (Xab rfl (Xab rfl (Xab rfl (Xab rfl (Xab rfl (Xab rfl (Xab rfl (Xab rfl (Xab rfl (Xab rfl XaN)))))))))) XaM rfl) ?_
 conv=>whnf
 exact W
def Xei (Xae:Xaq) (Xaa:Xaf) (s:XaF) (text:List UInt8):Option Int:=
 (Xaa.v3 s).bind fun x3=>
 cond (!x3)
  (
  some (0))
  (
  (Xae.v3 s 0 text).bind fun x31=>
  XaU (decide ((0:Int)≤x31∧x31<(s.rows.m0:Int))) <|
  (s.rows.e0[x31.toNat]?).bind fun (e:Int)=>
  let t:=if e<1099511627776 then e else 1099511627776
  (Xae.v3 s 1 text).bind fun x32=>
  XaU (decide ((0:Int)≤x32∧x32<(s.rows.m1:Int))) <|
  (s.rows.e1[x32.toNat]?).bind fun (e1:Int)=>
  (Xae.v3 s 2 text).bind fun x33=>
  XaU (decide ((0:Int)≤x33∧x33<(s.rows.m2:Int))) <|
  (s.rows.e2[x33.toNat]?).bind fun (e2:Int)=>
  let t1:=if e2<(if e1<t then e1 else t) then e2 else if e1<t then e1 else t
  some (t1))
def Xrb (x:Int):Xdj:=⟨.int .i64 x,[],[none,none,none,none,none,none,none,none,none,none]⟩
abbrev XdF:=XaF→(List UInt8)→Option Int
def XgD (g:XdF):Dec:=dTr 10 (XbW 0) fun (y0:XaF)=>dV asS fun (y1:List UInt8)=>Xfq (ofG (g y0 y1) Xrb)
theorem XAv {g:XdF} {y0:XaF} {y1:List UInt8} {x:Int} (hx:g y0 y1=some x):XgD g [.pointer (some ⟨0,0,none⟩),.string ⟨⟨y1⟩⟩] [some [.int .u64 y0.key.A,.int .u64 y0.key.B,.slice (some ⟨1,0,none⟩) 3 1,.int .i64 y0.total],some [.slice (some ⟨2,0,none⟩) y0.rows.m0 1,.slice (some ⟨3,0,none⟩) y0.rows.m1 1,.slice (some ⟨4,0,none⟩) y0.rows.m2 1],some (vI .i64 y0.rows.e0),some (vI .i64 y0.rows.e1),some (vI .i64 y0.rows.e2),none,none,none,none,none]=some (Xrb x):=(Xcx rfl rfl (XeM 0 _)).trans ((XcF (Xg1)).trans (Xbx hx))
abbrev XwY (Xae:Xaq) (Xaa:Xaf):List (Nat×Xc3):=[(20,s20 Xae),(38,s38 Xaa)]
theorem Xtv (Xae:Xaq) (Xaa:Xaf) (hS:XaL Try.prog (XaY (XwY Xae Xaa))) (s:XaF) (text:List UInt8) (res:Int) (h:Xei Xae Xaa s text=some res) :
 Xa0 Try.prog 16 10 ⟨⟨16,14,[(0,.pointer (some ⟨0,0,none⟩)),(1,.string ⟨⟨text⟩⟩)],[.code Xkk],[],false,none⟩,[],[(0,.row false [.int .u64 s.key.A,.int .u64 s.key.B,.slice (some ⟨1,0,none⟩) 3 1,.int .i64 s.total]),(1,.row false [.slice (some ⟨2,0,none⟩) s.rows.m0 1,.slice (some ⟨3,0,none⟩) s.rows.m1 1,.slice (some ⟨4,0,none⟩) s.rows.m2 1]),(2,.row false (vI .i64 s.rows.e0)),(3,.row false (vI .i64 s.rows.e1)),(4,.row false (vI .i64 s.rows.e2))],10⟩ (fun v H _=>Res 10 (Xrb res) v H):=by
 unfold Xei at h
 refine Xa1 XaJ hS true 3000 ?_
 conv=>whnf
 replace h:=XaK.elim h;obtain ⟨x3,hy,h⟩:=h
 refine Xbn.XaO [] (Xar («as»:=[.pointer (some ⟨0,0,none⟩)]) (ws:=[.blk 0 false,.blk 1 false,.blk 2 false,.blk 3 false,.blk 4 false,.no,.no,.no,.no,.no]) (n:=0) (m:=0) (t':=10) (Xam (Xa6 rfl rfl (Xai rfl rfl rfl rfl (Xai rfl rfl rfl rfl (Xai rfl rfl (Xat) rfl (Xai rfl rfl (Xat) rfl (Xai rfl rfl (Xat) rfl (Xan (Xan (Xan (Xan (Xan XaR)))))))))) rfl) rfl XaP) rfl (by rfl) (Xj6 hy) rfl rfl rfl rfl (Xab rfl (Xab rfl (Xab rfl (Xab rfl (Xab rfl (Xab rfl (Xab rfl (Xab rfl (Xab rfl (Xab rfl XaN)))))))))) XaM rfl) ?_
 conv=>whnf
 refine br.h h (by rfl) ?_ ?_
 ·clear h;intro hb h;conv=>whnf
  exact W
 clear h;intro hb h;conv=>whnf
 refine Xa1 XaJ hS true 3000 ?_
 conv=>whnf
 replace h:=XaK.elim h;obtain ⟨x31,hy,h⟩:=h
 refine Xbn.XaO [] (Xar («as»:=[.pointer (some ⟨0,0,none⟩),.int .i64 0,.string ⟨⟨text⟩⟩]) (ws:=[.blk 0 false,.blk 1 false,.blk 2 false,.blk 3 false,.blk 4 false,.no,.no,.no,.no,.no]) (n:=0) (m:=0) (t':=22) (Xam (Xa6 rfl rfl (Xai rfl rfl rfl rfl (Xai rfl rfl rfl rfl (Xai rfl rfl (Xat) rfl (Xai rfl rfl (Xat) rfl (Xai rfl rfl (Xat) rfl (Xan (Xan (Xan (Xan (Xan XaR)))))))))) rfl) rfl (Xam rfl rfl (Xam rfl rfl XaP))) rfl (by rfl) (Xj5 hy) rfl rfl rfl rfl (Xab rfl (Xab rfl (Xab rfl (Xab rfl (Xab rfl (Xab rfl (Xab rfl (Xab rfl (Xab rfl (Xab rfl XaN)))))))))) XaM rfl) ?_
 conv=>whnf
 replace h:=XaU.elim h;obtain ⟨hb,h⟩:=h
 try (refine req.intro hb ?_;conv=>whnf)
 replace h:=XaK.elim h;obtain ⟨e,hy,h⟩:=h
 refine rd.I hy (by first|rfl|(rw [Nat.zero_add,Nat.mul_one];try rfl;done)|omega) ?_
 conv=>whnf
 let t:Int:=if e<1099511627776 then e else 1099511627776
 refine Xa1 XaJ hS true 3000 ?_
 conv=>whnf
 replace h:=XaK.elim h;obtain ⟨x32,hy,h⟩:=h
 refine Xbn.XaO [] (Xar («as»:=[.pointer (some ⟨0,0,none⟩),.int .i64 1,.string ⟨⟨text⟩⟩]) (ws:=[.blk 0 false,.blk 1 false,.blk 2 false,.blk 3 false,.blk 4 false,.no,.no,.no,.no,.no]) (n:=0) (m:=0) (t':=39) (Xam (Xa6 rfl rfl (Xai rfl rfl rfl rfl (Xai rfl rfl rfl rfl (Xai rfl rfl (Xat) rfl (Xai rfl rfl (Xat) rfl (Xai rfl rfl (Xat) rfl (Xan (Xan (Xan (Xan (Xan XaR)))))))))) rfl) rfl (Xam rfl rfl (Xam rfl rfl XaP))) rfl (by rfl) (Xj5 hy) rfl rfl rfl rfl (Xab rfl (Xab rfl (Xab rfl (Xab rfl (Xab rfl (Xab rfl (Xab rfl (Xab rfl (Xab rfl (Xab rfl XaN)))))))))) XaM rfl) ?_
 conv=>whnf
 replace h:=XaU.elim h;obtain ⟨hb,h⟩:=h
 try (refine req.intro hb ?_;conv=>whnf)
 replace h:=XaK.elim h;obtain ⟨e1,hy,h⟩:=h
 refine rd.I hy (by first|rfl|(rw [Nat.zero_add,Nat.mul_one];try rfl;done)|omega) ?_
 conv=>whnf
 refine Xa1 XaJ hS true 3000 ?_
 conv=>whnf
 replace h:=XaK.elim h;obtain ⟨x33,hy,h⟩:=h
 refine Xbn.XaO [] (Xar («as»:=[.pointer (some ⟨0,0,none⟩),.int .i64 2,.string ⟨⟨text⟩⟩]) (ws:=[.blk 0 false,.blk 1 false,.blk 2 false,.blk 3 false,.blk 4 false,.no,.no,.no,.no,.no]) (n:=0) (m:=0) (t':=56) (Xam (Xa6 rfl rfl (Xai rfl rfl rfl rfl (Xai rfl rfl rfl rfl (Xai rfl rfl (Xat) rfl (Xai rfl rfl (Xat) rfl (Xai rfl rfl (Xat) rfl (Xan (Xan (Xan (Xan (Xan XaR)))))))))) rfl) rfl (Xam rfl rfl (Xam rfl rfl XaP))) rfl (by rfl) (Xj5 hy) rfl rfl rfl rfl (Xab rfl (Xab rfl (Xab rfl (Xab rfl (Xab rfl (Xab rfl (Xab rfl (Xab rfl (Xab rfl (Xab rfl XaN)))))))))) XaM rfl) ?_
 conv=>whnf
 exact W
def Xet (Xae:Xaq) (Xaa:Xaf) (s:XaC) (text:List UInt8):Option Int:=
 (Xaa.v4 s).bind fun x4=>
 cond (!x4)
  (
  some (0))
  (
  (Xae.v4 s 0 text).bind fun x41=>
  XaU (decide ((0:Int)≤x41∧x41<(s.rows.m0:Int))) <|
  (s.rows.e0[x41.toNat]?).bind fun (e:Int)=>
  let t:=if e<1099511627776 then e else 1099511627776
  (Xae.v4 s 1 text).bind fun x42=>
  XaU (decide ((0:Int)≤x42∧x42<(s.rows.m1:Int))) <|
  (s.rows.e1[x42.toNat]?).bind fun (e1:Int)=>
  (Xae.v4 s 2 text).bind fun x43=>
  XaU (decide ((0:Int)≤x43∧x43<(s.rows.m2:Int))) <|
  (s.rows.e2[x43.toNat]?).bind fun (e2:Int)=>
  let t1:=if e2<(if e1<t then e1 else t) then e2 else if e1<t then e1 else t
  (Xae.v4 s 3 text).bind fun x44=>
  XaU (decide ((0:Int)≤x44∧x44<(s.rows.m3:Int))) <|
  (s.rows.e3[x44.toNat]?).bind fun (e3:Int)=>
  some (if e3<t1 then e3 else t1))
def XqY (x:Int):Xdj:=⟨.int .i64 x,[],[none,none,none,none,none,none,none,none,none,none]⟩
abbrev XdJ:=XaC→(List UInt8)→Option Int
def XfI (g:XdJ):Dec:=dTr 10 (Xb2 0) fun (y0:XaC)=>dV asS fun (y1:List UInt8)=>Xfq (ofG (g y0 y1) XqY)
theorem XAh {g:XdJ} {y0:XaC} {y1:List UInt8} {x:Int} (hx:g y0 y1=some x):XfI g [.pointer (some ⟨0,0,none⟩),.string ⟨⟨y1⟩⟩] [some [.int .u64 y0.key.A,.int .u64 y0.key.B,.slice (some ⟨1,0,none⟩) 4 1,.int .i64 y0.total],some [.slice (some ⟨2,0,none⟩) y0.rows.m0 1,.slice (some ⟨3,0,none⟩) y0.rows.m1 1,.slice (some ⟨4,0,none⟩) y0.rows.m2 1,.slice (some ⟨5,0,none⟩) y0.rows.m3 1],some (vI .i64 y0.rows.e0),some (vI .i64 y0.rows.e1),some (vI .i64 y0.rows.e2),some (vI .i64 y0.rows.e3),none,none,none,none]=some (XqY x):=(Xcx rfl rfl (XeL 0 _)).trans ((XcF (Xg1)).trans (Xbx hx))
abbrev Xxw (Xae:Xaq) (Xaa:Xaf):List (Nat×Xc3):=[(20,s20 Xae),(38,s38 Xaa)]
theorem Xt9 (Xae:Xaq) (Xaa:Xaf) (hS:XaL Try.prog (XaY (Xxw Xae Xaa))) (s:XaC) (text:List UInt8) (res:Int) (h:Xet Xae Xaa s text=some res) :
 Xa0 Try.prog 16 10 ⟨⟨16,14,[(0,.pointer (some ⟨0,0,none⟩)),(1,.string ⟨⟨text⟩⟩)],[.code Xkk],[],false,none⟩,[],[(0,.row false [.int .u64 s.key.A,.int .u64 s.key.B,.slice (some ⟨1,0,none⟩) 4 1,.int .i64 s.total]),(1,.row false [.slice (some ⟨2,0,none⟩) s.rows.m0 1,.slice (some ⟨3,0,none⟩) s.rows.m1 1,.slice (some ⟨4,0,none⟩) s.rows.m2 1,.slice (some ⟨5,0,none⟩) s.rows.m3 1]),(2,.row false (vI .i64 s.rows.e0)),(3,.row false (vI .i64 s.rows.e1)),(4,.row false (vI .i64 s.rows.e2)),(5,.row false (vI .i64 s.rows.e3))],10⟩ (fun v H _=>Res 10 (XqY res) v H):=by
 unfold Xet at h
 refine Xa1 XaJ hS true 3000 ?_
 conv=>whnf
 replace h:=XaK.elim h;obtain ⟨x4,hy,h⟩:=h
 refine Xbn.XaO [] (Xar («as»:=[.pointer (some ⟨0,0,none⟩)]) (ws:=[.blk 0 false,.blk 1 false,.blk 2 false,.blk 3 false,.blk 4 false,.blk 5 false,.no,.no,.no,.no]) (n:=0) (m:=0) (t':=10) (Xam (Xa6 rfl rfl (Xai rfl rfl rfl rfl (Xai rfl rfl rfl rfl (Xai rfl rfl (Xat) rfl (Xai rfl rfl (Xat) rfl (Xai rfl rfl (Xat) rfl (Xai rfl rfl (Xat) rfl (Xan (Xan (Xan (Xan XaR)))))))))) rfl) rfl XaP) rfl (by rfl) (Xkd hy) rfl rfl rfl rfl (Xab rfl (Xab rfl (Xab rfl (Xab rfl (Xab rfl (Xab rfl (Xab rfl (Xab rfl (Xab rfl (Xab rfl XaN)))))))))) XaM rfl) ?_
 conv=>whnf
 refine br.h h (by rfl) ?_ ?_
 ·clear h;intro hb h;conv=>whnf
  exact W
 clear h;intro hb h;conv=>whnf
 refine Xa1 XaJ hS true 3000 ?_
 conv=>whnf
 replace h:=XaK.elim h;obtain ⟨x41,hy,h⟩:=h
 refine Xbn.XaO [] (Xar («as»:=[.pointer (some ⟨0,0,none⟩),.int .i64 0,.string ⟨⟨text⟩⟩]) (ws:=[.blk 0 false,.blk 1 false,.blk 2 false,.blk 3 false,.blk 4 false,.blk 5 false,.no,.no,.no,.no]) (n:=0) (m:=0) (t':=22) (Xam (Xa6 rfl rfl (Xai rfl rfl rfl rfl (Xai rfl rfl rfl rfl (Xai rfl rfl (Xat) rfl (Xai rfl rfl (Xat) rfl (Xai rfl rfl (Xat) rfl (Xai rfl rfl (Xat) rfl (Xan (Xan (Xan (Xan XaR)))))))))) rfl) rfl (Xam rfl rfl (Xam rfl rfl XaP))) rfl (by rfl) (XhP hy) rfl rfl rfl rfl (Xab rfl (Xab rfl (Xab rfl (Xab rfl (Xab rfl (Xab rfl (Xab rfl (Xab rfl (Xab rfl (Xab rfl XaN)))))))))) XaM rfl) ?_
 conv=>whnf
 replace h:=XaU.elim h;obtain ⟨hb,h⟩:=h
 try (refine req.intro hb ?_;conv=>whnf)
 replace h:=XaK.elim h;obtain ⟨e,hy,h⟩:=h
 refine rd.I hy (by first|rfl|(rw [Nat.zero_add,Nat.mul_one];try rfl;done)|omega) ?_
 conv=>whnf
 let t:Int:=if e<1099511627776 then e else 1099511627776
 refine Xa1 XaJ hS true 3000 ?_
 conv=>whnf
 replace h:=XaK.elim h;obtain ⟨x42,hy,h⟩:=h
 refine Xbn.XaO [] (Xar («as»:=[.pointer (some ⟨0,0,none⟩),.int .i64 1,.string ⟨⟨text⟩⟩]) (ws:=[.blk 0 false,.blk 1 false,.blk 2 false,.blk 3 false,.blk 4 false,.blk 5 false,.no,.no,.no,.no]) (n:=0) (m:=0) (t':=39) (Xam (Xa6 rfl rfl (Xai rfl rfl rfl rfl (Xai rfl rfl rfl rfl (Xai rfl rfl (Xat) rfl (Xai rfl rfl (Xat) rfl (Xai rfl rfl (Xat) rfl (Xai rfl rfl (Xat) rfl (Xan (Xan (Xan (Xan XaR)))))))))) rfl) rfl (Xam rfl rfl (Xam rfl rfl XaP))) rfl (by rfl) (XhP hy) rfl rfl rfl rfl (Xab rfl (Xab rfl (Xab rfl (Xab rfl (Xab rfl (Xab rfl (Xab rfl (Xab rfl (Xab rfl (Xab rfl XaN)))))))))) XaM rfl) ?_
 conv=>whnf
 replace h:=XaU.elim h;obtain ⟨hb,h⟩:=h
 try (refine req.intro hb ?_;conv=>whnf)
 replace h:=XaK.elim h;obtain ⟨e1,hy,h⟩:=h
 refine rd.I hy (by first|rfl|(rw [Nat.zero_add,Nat.mul_one];try rfl;done)|omega) ?_
 conv=>whnf
 refine Xa1 XaJ hS true 3000 ?_
 conv=>whnf
 replace h:=XaK.elim h;obtain ⟨x43,hy,h⟩:=h
 refine Xbn.XaO [] (Xar («as»:=[.pointer (some ⟨0,0,none⟩),.int .i64 2,.string ⟨⟨text⟩⟩]) (ws:=[.blk 0 false,.blk 1 false,.blk 2 false,.blk 3 false,.blk 4 false,.blk 5 false,.no,.no,.no,.no]) (n:=0) (m:=0) (t':=56) (Xam (Xa6 rfl rfl (Xai rfl rfl rfl rfl (Xai rfl rfl rfl rfl (Xai rfl rfl (Xat) rfl (Xai rfl rfl (Xat) rfl (Xai rfl rfl (Xat) rfl (Xai rfl rfl (Xat) rfl (Xan (Xan (Xan (Xan XaR)))))))))) rfl) rfl (Xam rfl rfl (Xam rfl rfl XaP))) rfl (by rfl) (XhP hy) rfl rfl rfl rfl (Xab rfl (Xab rfl (Xab rfl (Xab rfl (Xab rfl (Xab rfl (Xab rfl (Xab rfl (Xab rfl (Xab rfl XaN)))))))))) XaM rfl) ?_
 conv=>whnf
 replace h:=XaU.elim h;obtain ⟨hb,h⟩:=h
 try (refine req.intro hb ?_;conv=>whnf)
 replace h:=XaK.elim h;obtain ⟨e2,hy,h⟩:=h
 refine rd.I hy (by first|rfl|(rw [Nat.zero_add,Nat.mul_one];try rfl;done)|omega) ?_
 conv=>whnf
 let t1:Int:=if e2<(if e1<t then e1 else t) then e2 else if e1<t then e1 else t
 refine Xa1 XaJ hS true 3000 ?_
 conv=>whnf
 replace h:=XaK.elim h;obtain ⟨x44,hy,h⟩:=h
 refine Xbn.XaO [] (Xar («as»:=[.pointer (some ⟨0,0,none⟩),.int .i64 3,.string ⟨⟨text⟩⟩]) (ws:=[.blk 0 false,.blk 1 false,.blk 2 false,.blk 3 false,.blk 4 false,.blk 5 false,.no,.no,.no,.no]) (n:=0) (m:=0) (t':=73) (Xam (Xa6 rfl rfl (Xai rfl rfl rfl rfl (Xai rfl rfl rfl rfl (Xai rfl rfl (Xat) rfl (Xai rfl rfl (Xat) rfl (Xai rfl rfl (Xat) rfl (Xai rfl rfl (Xat) rfl (Xan (Xan (Xan (Xan XaR)))))))))) rfl) rfl (Xam rfl rfl (Xam rfl rfl XaP))) rfl (by rfl) (XhP hy) rfl rfl rfl rfl (Xab rfl (Xab rfl (Xab rfl (Xab rfl (Xab rfl (Xab rfl (Xab rfl (Xab rfl (Xab rfl (Xab rfl XaN)))))))))) XaM rfl) ?_
 conv=>whnf
 exact W
def Xej (Xae:Xaq) (Xaa:Xaf) (s:XaB) (text:List UInt8):Option Int:=
 (Xaa.v5 s).bind fun x5=>
 cond (!x5)
  (
  some (0))
  (
  (Xae.v5 s 0 text).bind fun x51=>
  XaU (decide ((0:Int)≤x51∧x51<(s.rows.m0:Int))) <|
  (s.rows.e0[x51.toNat]?).bind fun (e:Int)=>
  let t:=if e<1099511627776 then e else 1099511627776
  (Xae.v5 s 1 text).bind fun x52=>
  XaU (decide ((0:Int)≤x52∧x52<(s.rows.m1:Int))) <|
  (s.rows.e1[x52.toNat]?).bind fun (e1:Int)=>
  (Xae.v5 s 2 text).bind fun x53=>
  XaU (decide ((0:Int)≤x53∧x53<(s.rows.m2:Int))) <|
  (s.rows.e2[x53.toNat]?).bind fun (e2:Int)=>
  let t1:=if e2<(if e1<t then e1 else t) then e2 else if e1<t then e1 else t
  (Xae.v5 s 3 text).bind fun x54=>
  XaU (decide ((0:Int)≤x54∧x54<(s.rows.m3:Int))) <|
  (s.rows.e3[x54.toNat]?).bind fun (e3:Int)=>
  (Xae.v5 s 4 text).bind fun x55=>
  XaU (decide ((0:Int)≤x55∧x55<(s.rows.m4:Int))) <|
  (s.rows.e4[x55.toNat]?).bind fun (e4:Int)=>
  let t2:=if e4<(if e3<t1 then e3 else t1) then e4 else if e3<t1 then e3 else t1
  some (t2))
def Xqx (x:Int):Xdj:=⟨.int .i64 x,[],[none,none,none,none,none,none,none,none,none,none]⟩
abbrev XdM:=XaB→(List UInt8)→Option Int
def Xfe (g:XdM):Dec:=dTr 10 (Xb1 0) fun (y0:XaB)=>dV asS fun (y1:List UInt8)=>Xfq (ofG (g y0 y1) Xqx)
theorem XA7 {g:XdM} {y0:XaB} {y1:List UInt8} {x:Int} (hx:g y0 y1=some x):Xfe g [.pointer (some ⟨0,0,none⟩),.string ⟨⟨y1⟩⟩] [some [.int .u64 y0.key.A,.int .u64 y0.key.B,.slice (some ⟨1,0,none⟩) 5 1,.int .i64 y0.total],some [.slice (some ⟨2,0,none⟩) y0.rows.m0 1,.slice (some ⟨3,0,none⟩) y0.rows.m1 1,.slice (some ⟨4,0,none⟩) y0.rows.m2 1,.slice (some ⟨5,0,none⟩) y0.rows.m3 1,.slice (some ⟨6,0,none⟩) y0.rows.m4 1],some (vI .i64 y0.rows.e0),some (vI .i64 y0.rows.e1),some (vI .i64 y0.rows.e2),some (vI .i64 y0.rows.e3),some (vI .i64 y0.rows.e4),none,none,none]=some (Xqx x):=(Xcx rfl rfl (XeR 0 _)).trans ((XcF (Xg1)).trans (Xbx hx))
abbrev XwW (Xae:Xaq) (Xaa:Xaf):List (Nat×Xc3):=[(20,s20 Xae),(38,s38 Xaa)]
theorem Xu4 (Xae:Xaq) (Xaa:Xaf) (hS:XaL Try.prog (XaY (XwW Xae Xaa))) (s:XaB) (text:List UInt8) (res:Int) (h:Xej Xae Xaa s text=some res) :
 Xa0 Try.prog 16 10 ⟨⟨16,14,[(0,.pointer (some ⟨0,0,none⟩)),(1,.string ⟨⟨text⟩⟩)],[.code Xkk],[],false,none⟩,[],[(0,.row false [.int .u64 s.key.A,.int .u64 s.key.B,.slice (some ⟨1,0,none⟩) 5 1,.int .i64 s.total]),(1,.row false [.slice (some ⟨2,0,none⟩) s.rows.m0 1,.slice (some ⟨3,0,none⟩) s.rows.m1 1,.slice (some ⟨4,0,none⟩) s.rows.m2 1,.slice (some ⟨5,0,none⟩) s.rows.m3 1,.slice (some ⟨6,0,none⟩) s.rows.m4 1]),(2,.row false (vI .i64 s.rows.e0)),(3,.row false (vI .i64 s.rows.e1)),(4,.row false (vI .i64 s.rows.e2)),(5,.row false (vI .i64 s.rows.e3)),(6,.row false (vI .i64 s.rows.e4))],10⟩ (fun v H _=>Res 10 (Xqx res) v H):=by
 unfold Xej at h
 refine Xa1 XaJ hS true 3000 ?_
 conv=>whnf
 replace h:=XaK.elim h;obtain ⟨x5,hy,h⟩:=h
 refine Xbn.XaO [] (Xar («as»:=[.pointer (some ⟨0,0,none⟩)]) (ws:=[.blk 0 false,.blk 1 false,.blk 2 false,.blk 3 false,.blk 4 false,.blk 5 false,.blk 6 false,.no,.no,.no]) (n:=0) (m:=0) (t':=10) (Xam (Xa6 rfl rfl (Xai rfl rfl rfl rfl (Xai rfl rfl rfl rfl (Xai rfl rfl (Xat) rfl (Xai rfl rfl (Xat) rfl (Xai rfl rfl (Xat) rfl (Xai rfl rfl (Xat) rfl (Xai rfl rfl (Xat) rfl (Xan (Xan (Xan XaR)))))))))) rfl) rfl XaP) rfl (by rfl) (Xkc hy) rfl rfl rfl rfl (Xab rfl (Xab rfl (Xab rfl (Xab rfl (Xab rfl (Xab rfl (Xab rfl (Xab rfl (Xab rfl (Xab rfl XaN)))))))))) XaM rfl) ?_
 conv=>whnf
 refine br.h h (by rfl) ?_ ?_
 ·clear h;intro hb h;conv=>whnf
  exact W
 clear h;intro hb h;conv=>whnf
 refine Xa1 XaJ hS true 3000 ?_
 conv=>whnf
 replace h:=XaK.elim h;obtain ⟨x51,hy,h⟩:=h
 refine Xbn.XaO [] (Xar («as»:=[.pointer (some ⟨0,0,none⟩),.int .i64 0,.string ⟨⟨text⟩⟩]) (ws:=[.blk 0 false,.blk 1 false,.blk 2 false,.blk 3 false,.blk 4 false,.blk 5 false,.blk 6 false,.no,.no,.no]) (n:=0) (m:=0) (t':=22) (Xam (Xa6 rfl rfl (Xai rfl rfl rfl rfl (Xai rfl rfl rfl rfl (Xai rfl rfl (Xat) rfl (Xai rfl rfl (Xat) rfl (Xai rfl rfl (Xat) rfl (Xai rfl rfl (Xat) rfl (Xai rfl rfl (Xat) rfl (Xan (Xan (Xan XaR)))))))))) rfl) rfl (Xam rfl rfl (Xam rfl rfl XaP))) rfl (by rfl) (Xhl hy) rfl rfl rfl rfl (Xab rfl (Xab rfl (Xab rfl (Xab rfl (Xab rfl (Xab rfl (Xab rfl (Xab rfl (Xab rfl (Xab rfl XaN)))))))))) XaM rfl) ?_
 conv=>whnf
 replace h:=XaU.elim h;obtain ⟨hb,h⟩:=h
 try (refine req.intro hb ?_;conv=>whnf)
 replace h:=XaK.elim h;obtain ⟨e,hy,h⟩:=h
 refine rd.I hy (by first|rfl|(rw [Nat.zero_add,Nat.mul_one];try rfl;done)|omega) ?_
 conv=>whnf
 let t:Int:=if e<1099511627776 then e else 1099511627776
 refine Xa1 XaJ hS true 3000 ?_
 conv=>whnf
 replace h:=XaK.elim h;obtain ⟨x52,hy,h⟩:=h
 refine Xbn.XaO [] (Xar («as»:=[.pointer (some ⟨0,0,none⟩),.int .i64 1,.string ⟨⟨text⟩⟩]) (ws:=[.blk 0 false,.blk 1 false,.blk 2 false,.blk 3 false,.blk 4 false,.blk 5 false,.blk 6 false,.no,.no,.no]) (n:=0) (m:=0) (t':=39) (Xam (Xa6 rfl rfl (Xai rfl rfl rfl rfl (Xai rfl rfl rfl rfl (Xai rfl rfl (Xat) rfl (Xai rfl rfl (Xat) rfl (Xai rfl rfl (Xat) rfl (Xai rfl rfl (Xat) rfl (Xai rfl rfl (Xat) rfl (Xan (Xan (Xan XaR)))))))))) rfl) rfl (Xam rfl rfl (Xam rfl rfl XaP))) rfl (by rfl) (Xhl hy) rfl rfl rfl rfl (Xab rfl (Xab rfl (Xab rfl (Xab rfl (Xab rfl (Xab rfl (Xab rfl (Xab rfl (Xab rfl (Xab rfl XaN)))))))))) XaM rfl) ?_
 conv=>whnf
 replace h:=XaU.elim h;obtain ⟨hb,h⟩:=h
 try (refine req.intro hb ?_;conv=>whnf)
 replace h:=XaK.elim h;obtain ⟨e1,hy,h⟩:=h
 refine rd.I hy (by first|rfl|(rw [Nat.zero_add,Nat.mul_one];try rfl;done)|omega) ?_
 conv=>whnf
 refine Xa1 XaJ hS true 3000 ?_
 conv=>whnf
 replace h:=XaK.elim h;obtain ⟨x53,hy,h⟩:=h
 refine Xbn.XaO [] (Xar («as»:=[.pointer (some ⟨0,0,none⟩),.int .i64 2,.string ⟨⟨text⟩⟩]) (ws:=[.blk 0 false,.blk 1 false,.blk 2 false,.blk 3 false,.blk 4 false,.blk 5 false,.blk 6 false,.no,.no,.no]) (n:=0) (m:=0) (t':=56) (Xam (Xa6 rfl rfl (Xai rfl rfl rfl rfl (Xai rfl rfl rfl rfl (Xai rfl rfl (Xat) rfl (Xai rfl rfl (Xat) rfl (Xai rfl rfl (Xat) rfl (Xai rfl rfl (Xat) rfl (Xai rfl rfl (Xat) rfl (Xan (Xan (Xan XaR)))))))))) rfl) rfl (Xam rfl rfl (Xam rfl rfl XaP))) rfl (by rfl) (Xhl hy) rfl rfl rfl rfl (Xab rfl (Xab rfl (Xab rfl (Xab rfl (Xab rfl (Xab rfl (Xab rfl (Xab rfl (Xab rfl (Xab rfl XaN)))))))))) XaM rfl) ?_
 conv=>whnf
 replace h:=XaU.elim h;obtain ⟨hb,h⟩:=h
 try (refine req.intro hb ?_;conv=>whnf)
 replace h:=XaK.elim h;obtain ⟨e2,hy,h⟩:=h
 refine rd.I hy (by first|rfl|(rw [Nat.zero_add,Nat.mul_one];try rfl;done)|omega) ?_
 conv=>whnf
 let t1:Int:=if e2<(if e1<t then e1 else t) then e2 else if e1<t then e1 else t
 refine Xa1 XaJ hS true 3000 ?_
 conv=>whnf
 replace h:=XaK.elim h;obtain ⟨x54,hy,h⟩:=h
 refine Xbn.XaO [] (Xar («as»:=[.pointer (some ⟨0,0,none⟩),.int .i64 3,.string ⟨⟨text⟩⟩]) (ws:=[.blk 0 false,.blk 1 false,.blk 2 false,.blk 3 false,.blk 4 false,.blk 5 false,.blk 6 false,.no,.no,.no]) (n:=0) (m:=0) (t':=73) (Xam (Xa6 rfl rfl (Xai rfl rfl rfl rfl (Xai rfl rfl rfl rfl (Xai rfl rfl (Xat) rfl (Xai rfl rfl (Xat) rfl (Xai rfl rfl (Xat) rfl (Xai rfl rfl (Xat) rfl (Xai rfl rfl (Xat) rfl (Xan (Xan (Xan XaR)))))))))) rfl) rfl (Xam rfl rfl (Xam rfl rfl XaP))) rfl (by rfl) (Xhl hy) rfl rfl rfl rfl (Xab rfl (Xab rfl (Xab rfl (Xab rfl (Xab rfl (Xab rfl (Xab rfl (Xab rfl (Xab rfl (Xab rfl XaN)))))))))) XaM rfl) ?_
 conv=>whnf
 replace h:=XaU.elim h;obtain ⟨hb,h⟩:=h
 try (refine req.intro hb ?_;conv=>whnf)
 replace h:=XaK.elim h;obtain ⟨e3,hy,h⟩:=h
 refine rd.I hy (by first|rfl|(rw [Nat.zero_add,Nat.mul_one];try rfl;done)|omega) ?_
 conv=>whnf
 refine Xa1 XaJ hS true 3000 ?_
 conv=>whnf
 replace h:=XaK.elim h;obtain ⟨x55,hy,h⟩:=h
 refine Xbn.XaO [] (Xar («as»:=[.pointer (some ⟨0,0,none⟩),.int .i64 4,.string ⟨⟨text⟩⟩]) (ws:=[.blk 0 false,.blk 1 false,.blk 2 false,.blk 3 false,.blk 4 false,.blk 5 false,.blk 6 false,.no,.no,.no]) (n:=0) (m:=0) (t':=90) (Xam (Xa6 rfl rfl (Xai rfl rfl rfl rfl (Xai rfl rfl rfl rfl (Xai rfl rfl (Xat) rfl (Xai rfl rfl (Xat) rfl (Xai rfl rfl (Xat) rfl (Xai rfl rfl (Xat) rfl (Xai rfl rfl (Xat) rfl (Xan (Xan (Xan XaR)))))))))) rfl) rfl (Xam rfl rfl (Xam rfl rfl XaP))) rfl (by rfl) (Xhl hy) rfl rfl rfl rfl (Xab rfl (Xab rfl (Xab rfl (Xab rfl (Xab rfl (Xab rfl (Xab rfl (Xab rfl (Xab rfl (Xab rfl XaN)))))))))) XaM rfl) ?_
 conv=>whnf
 exact W
def Xd6 (Xae:Xaq) (Xaa:Xaf) (s:Xay) (text:List UInt8):Option Int:=
 (Xaa.v6 s).bind fun x6=>
 cond (!x6)
  (
  some (0))
  (
  (Xae.v6 s 0 text).bind fun x61=>
  XaU (decide ((0:Int)≤x61∧x61<(s.rows.m0:Int))) <|
  (s.rows.e0[x61.toNat]?).bind fun (e:Int)=>
  let t:=if e<1099511627776 then e else 1099511627776
  (Xae.v6 s 1 text).bind fun x62=>
  XaU (decide ((0:Int)≤x62∧x62<(s.rows.m1:Int))) <|
  (s.rows.e1[x62.toNat]?).bind fun (e1:Int)=>
  (Xae.v6 s 2 text).bind fun x63=>
  XaU (decide ((0:Int)≤x63∧x63<(s.rows.m2:Int))) <|
  (s.rows.e2[x63.toNat]?).bind fun (e2:Int)=>
  let t1:=if e2<(if e1<t then e1 else t) then e2 else if e1<t then e1 else t
  (Xae.v6 s 3 text).bind fun x64=>
  XaU (decide ((0:Int)≤x64∧x64<(s.rows.m3:Int))) <|
  (s.rows.e3[x64.toNat]?).bind fun (e3:Int)=>
  (Xae.v6 s 4 text).bind fun x65=>
  XaU (decide ((0:Int)≤x65∧x65<(s.rows.m4:Int))) <|
  (s.rows.e4[x65.toNat]?).bind fun (e4:Int)=>
  let t2:=if e4<(if e3<t1 then e3 else t1) then e4 else if e3<t1 then e3 else t1
  (Xae.v6 s 5 text).bind fun x66=>
  XaU (decide ((0:Int)≤x66∧x66<(s.rows.m5:Int))) <|
  (s.rows.e5[x66.toNat]?).bind fun (e5:Int)=>
  some (if e5<t2 then e5 else t2))
def XqN (x:Int):Xdj:=⟨.int .i64 x,[],[none,none,none,none,none,none,none,none,none,none]⟩
abbrev Xdu:=Xay→(List UInt8)→Option Int
def XeK (g:Xdu):Dec:=dTr 10 (XbY 0) fun (y0:Xay)=>dV asS fun (y1:List UInt8)=>Xfq (ofG (g y0 y1) XqN)
theorem XA5 {g:Xdu} {y0:Xay} {y1:List UInt8} {x:Int} (hx:g y0 y1=some x):XeK g [.pointer (some ⟨0,0,none⟩),.string ⟨⟨y1⟩⟩] [some [.int .u64 y0.key.A,.int .u64 y0.key.B,.slice (some ⟨1,0,none⟩) 6 1,.int .i64 y0.total],some [.slice (some ⟨2,0,none⟩) y0.rows.m0 1,.slice (some ⟨3,0,none⟩) y0.rows.m1 1,.slice (some ⟨4,0,none⟩) y0.rows.m2 1,.slice (some ⟨5,0,none⟩) y0.rows.m3 1,.slice (some ⟨6,0,none⟩) y0.rows.m4 1,.slice (some ⟨7,0,none⟩) y0.rows.m5 1],some (vI .i64 y0.rows.e0),some (vI .i64 y0.rows.e1),some (vI .i64 y0.rows.e2),some (vI .i64 y0.rows.e3),some (vI .i64 y0.rows.e4),some (vI .i64 y0.rows.e5),none,none]=some (XqN x):=(Xcx rfl rfl (XeO 0 _)).trans ((XcF (Xg1)).trans (Xbx hx))
abbrev XvX (Xae:Xaq) (Xaa:Xaf):List (Nat×Xc3):=[(20,s20 Xae),(38,s38 Xaa)]
theorem XtL (Xae:Xaq) (Xaa:Xaf) (hS:XaL Try.prog (XaY (XvX Xae Xaa))) (s:Xay) (text:List UInt8) (res:Int) (h:Xd6 Xae Xaa s text=some res) :
 Xa0 Try.prog 16 10 ⟨⟨16,14,[(0,.pointer (some ⟨0,0,none⟩)),(1,.string ⟨⟨text⟩⟩)],[.code Xkk],[],false,none⟩,[],[(0,.row false [.int .u64 s.key.A,.int .u64 s.key.B,.slice (some ⟨1,0,none⟩) 6 1,.int .i64 s.total]),(1,.row false [.slice (some ⟨2,0,none⟩) s.rows.m0 1,.slice (some ⟨3,0,none⟩) s.rows.m1 1,.slice (some ⟨4,0,none⟩) s.rows.m2 1,.slice (some ⟨5,0,none⟩) s.rows.m3 1,.slice (some ⟨6,0,none⟩) s.rows.m4 1,.slice (some ⟨7,0,none⟩) s.rows.m5 1]),(2,.row false (vI .i64 s.rows.e0)),(3,.row false (vI .i64 s.rows.e1)),(4,.row false (vI .i64 s.rows.e2)),(5,.row false (vI .i64 s.rows.e3)),(6,.row false (vI .i64 s.rows.e4)),(7,.row false (vI .i64 s.rows.e5))],10⟩ (fun v H _=>Res 10 (XqN res) v H):=by
 unfold Xd6 at h
 refine Xa1 XaJ hS true 3000 ?_
 conv=>whnf
 replace h:=XaK.elim h;obtain ⟨x6,hy,h⟩:=h
 refine Xbn.XaO [] (Xar («as»:=[.pointer (some ⟨0,0,none⟩)]) (ws:=[.blk 0 false,.blk 1 false,.blk 2 false,.blk 3 false,.blk 4 false,.blk 5 false,.blk 6 false,.blk 7 false,.no,.no]) (n:=0) (m:=0) (t':=10) (Xam (Xa6 rfl rfl (Xai rfl rfl rfl rfl (Xai rfl rfl rfl rfl (Xai rfl rfl (Xat) rfl (Xai rfl rfl (Xat) rfl (Xai rfl rfl (Xat) rfl (Xai rfl rfl (Xat) rfl (Xai rfl rfl (Xat) rfl (Xai rfl rfl (Xat) rfl (Xan (Xan XaR)))))))))) rfl) rfl XaP) rfl (by rfl) (Xj8 hy) rfl rfl rfl rfl (Xab rfl (Xab rfl (Xab rfl (Xab rfl (Xab rfl (Xab rfl (Xab rfl (Xab rfl (Xab rfl (Xab rfl XaN)))))))))) XaM rfl) ?_
 conv=>whnf
 refine br.h h (by rfl) ?_ ?_
 ·clear h;intro hb h;conv=>whnf
  exact W
 clear h;intro hb h;conv=>whnf
 refine Xa1 XaJ hS true 3000 ?_
 conv=>whnf
 replace h:=XaK.elim h;obtain ⟨x61,hy,h⟩:=h
 refine Xbn.XaO [] (Xar («as»:=[.pointer (some ⟨0,0,none⟩),.int .i64 0,.string ⟨⟨text⟩⟩]) (ws:=[.blk 0 false,.blk 1 false,.blk 2 false,.blk 3 false,.blk 4 false,.blk 5 false,.blk 6 false,.blk 7 false,.no,.no]) (n:=0) (m:=0) (t':=22) (Xam (Xa6 rfl rfl (Xai rfl rfl rfl rfl (Xai rfl rfl rfl rfl (Xai rfl rfl (Xat) rfl (Xai rfl rfl (Xat) rfl (Xai rfl rfl (Xat) rfl (Xai rfl rfl (Xat) rfl (Xai rfl rfl (Xat) rfl (Xai rfl rfl (Xat) rfl (Xan (Xan XaR)))))))))) rfl) rfl (Xam rfl rfl (Xam rfl rfl XaP))) rfl (by rfl) (XgH hy) rfl rfl rfl rfl (Xab rfl (Xab rfl (Xab rfl (Xab rfl (Xab rfl (Xab rfl (Xab rfl (Xab rfl (Xab rfl (Xab rfl XaN)))))))))) XaM rfl) ?_
 conv=>whnf
 replace h:=XaU.elim h;obtain ⟨hb,h⟩:=h
 try (refine req.intro hb ?_;conv=>whnf)
 replace h:=XaK.elim h;obtain ⟨e,hy,h⟩:=h
 refine rd.I hy (by first|rfl|(rw [Nat.zero_add,Nat.mul_one];try rfl;done)|omega) ?_
 conv=>whnf
 let t:Int:=if e<1099511627776 then e else 1099511627776
 refine Xa1 XaJ hS true 3000 ?_
 conv=>whnf
 replace h:=XaK.elim h;obtain ⟨x62,hy,h⟩:=h
 refine Xbn.XaO [] (Xar («as»:=[.pointer (some ⟨0,0,none⟩),.int .i64 1,.string ⟨⟨text⟩⟩]) (ws:=[.blk 0 false,.blk 1 false,.blk 2 false,.blk 3 false,.blk 4 false,.blk 5 false,.blk 6 false,.blk 7 false,.no,.no]) (n:=0) (m:=0) (t':=39) (Xam (Xa6 rfl rfl (Xai rfl rfl rfl rfl (Xai rfl rfl rfl rfl (Xai rfl rfl (Xat) rfl (Xai rfl rfl (Xat) rfl (Xai rfl rfl (Xat) rfl (Xai rfl rfl (Xat) rfl (Xai rfl rfl (Xat) rfl (Xai rfl rfl (Xat) rfl (Xan (Xan XaR)))))))))) rfl) rfl (Xam rfl rfl (Xam rfl rfl XaP))) rfl (by rfl) (XgH hy) rfl rfl rfl rfl (Xab rfl (Xab rfl (Xab rfl (Xab rfl (Xab rfl (Xab rfl (Xab rfl (Xab rfl (Xab rfl (Xab rfl XaN)))))))))) XaM rfl) ?_
 conv=>whnf
 replace h:=XaU.elim h;obtain ⟨hb,h⟩:=h
 try (refine req.intro hb ?_;conv=>whnf)
 replace h:=XaK.elim h;obtain ⟨e1,hy,h⟩:=h
 refine rd.I hy (by first|rfl|(rw [Nat.zero_add,Nat.mul_one];try rfl;done)|omega) ?_
 conv=>whnf
 refine Xa1 XaJ hS true 3000 ?_
 conv=>whnf
 replace h:=XaK.elim h;obtain ⟨x63,hy,h⟩:=h
 refine Xbn.XaO [] (Xar («as»:=[.pointer (some ⟨0,0,none⟩),.int .i64 2,.string ⟨⟨text⟩⟩]) (ws:=[.blk 0 false,.blk 1 false,.blk 2 false,.blk 3 false,.blk 4 false,.blk 5 false,.blk 6 false,.blk 7 false,.no,.no]) (n:=0) (m:=0) (t':=56) (Xam (Xa6 rfl rfl (Xai rfl rfl rfl rfl (Xai rfl rfl rfl rfl (Xai rfl rfl (Xat) rfl (Xai rfl rfl (Xat) rfl (Xai rfl rfl (Xat) rfl (Xai rfl rfl (Xat) rfl (Xai rfl rfl (Xat) rfl (Xai rfl rfl (Xat) rfl (Xan (Xan XaR)))))))))) rfl) rfl (Xam rfl rfl (Xam rfl rfl XaP))) rfl (by rfl) (XgH hy) rfl rfl rfl rfl (Xab rfl (Xab rfl (Xab rfl (Xab rfl (Xab rfl (Xab rfl (Xab rfl (Xab rfl (Xab rfl (Xab rfl XaN)))))))))) XaM rfl) ?_
 conv=>whnf
 replace h:=XaU.elim h;obtain ⟨hb,h⟩:=h
 try (refine req.intro hb ?_;conv=>whnf)
 replace h:=XaK.elim h;obtain ⟨e2,hy,h⟩:=h
 refine rd.I hy (by first|rfl|(rw [Nat.zero_add,Nat.mul_one];try rfl;done)|omega) ?_
 conv=>whnf
 let t1:Int:=if e2<(if e1<t then e1 else t) then e2 else if e1<t then e1 else t
 refine Xa1 XaJ hS true 3000 ?_
 conv=>whnf
 replace h:=XaK.elim h;obtain ⟨x64,hy,h⟩:=h
 refine Xbn.XaO [] (Xar («as»:=[.pointer (some ⟨0,0,none⟩),.int .i64 3,.string ⟨⟨text⟩⟩]) (ws:=[.blk 0 false,.blk 1 false,.blk 2 false,.blk 3 false,.blk 4 false,.blk 5 false,.blk 6 false,.blk 7 false,.no,.no]) (n:=0) (m:=0) (t':=73) (Xam (Xa6 rfl rfl (Xai rfl rfl rfl rfl (Xai rfl rfl rfl rfl (Xai rfl rfl (Xat) rfl (Xai rfl rfl (Xat) rfl (Xai rfl rfl (Xat) rfl (Xai rfl rfl (Xat) rfl (Xai rfl rfl (Xat) rfl (Xai rfl rfl (Xat) rfl (Xan (Xan XaR)))))))))) rfl) rfl (Xam rfl rfl (Xam rfl rfl XaP))) rfl (by rfl) (XgH hy) rfl rfl rfl rfl (Xab rfl (Xab rfl (Xab rfl (Xab rfl (Xab rfl (Xab rfl (Xab rfl (Xab rfl (Xab rfl (Xab rfl XaN)))))))))) XaM rfl) ?_
 conv=>whnf
 replace h:=XaU.elim h;obtain ⟨hb,h⟩:=h
 try (refine req.intro hb ?_;conv=>whnf)
 replace h:=XaK.elim h;obtain ⟨e3,hy,h⟩:=h
 refine rd.I hy (by first|rfl|(rw [Nat.zero_add,Nat.mul_one];try rfl;done)|omega) ?_
 conv=>whnf
 refine Xa1 XaJ hS true 3000 ?_
 conv=>whnf
 replace h:=XaK.elim h;obtain ⟨x65,hy,h⟩:=h
 refine Xbn.XaO [] (Xar («as»:=[.pointer (some ⟨0,0,none⟩),.int .i64 4,.string ⟨⟨text⟩⟩]) (ws:=[.blk 0 false,.blk 1 false,.blk 2 false,.blk 3 false,.blk 4 false,.blk 5 false,.blk 6 false,.blk 7 false,.no,.no]) (n:=0) (m:=0) (t':=90) (Xam (Xa6 rfl rfl (Xai rfl rfl rfl rfl (Xai rfl rfl rfl rfl (Xai rfl rfl (Xat) rfl (Xai rfl rfl (Xat) rfl (Xai rfl rfl (Xat) rfl (Xai rfl rfl (Xat) rfl (Xai rfl rfl (Xat) rfl (Xai rfl rfl (Xat) rfl (Xan (Xan XaR)))))))))) rfl) rfl (Xam rfl rfl (Xam rfl rfl XaP))) rfl (by rfl) (XgH hy) rfl rfl rfl rfl (Xab rfl (Xab rfl (Xab rfl (Xab rfl (Xab rfl (Xab rfl (Xab rfl (Xab rfl (Xab rfl (Xab rfl XaN)))))))))) XaM rfl) ?_
 conv=>whnf
 replace h:=XaU.elim h;obtain ⟨hb,h⟩:=h
 try (refine req.intro hb ?_;conv=>whnf)
 replace h:=XaK.elim h;obtain ⟨e4,hy,h⟩:=h
 refine rd.I hy (by first|rfl|(rw [Nat.zero_add,Nat.mul_one];try rfl;done)|omega) ?_
 conv=>whnf
 let t2:Int:=if e4<(if e3<t1 then e3 else t1) then e4 else if e3<t1 then e3 else t1
 refine Xa1 XaJ hS true 3000 ?_
 conv=>whnf
 replace h:=XaK.elim h;obtain ⟨x66,hy,h⟩:=h
 refine Xbn.XaO [] (Xar («as»:=[.pointer (some ⟨0,0,none⟩),.int .i64 5,.string ⟨⟨text⟩⟩]) (ws:=[.blk 0 false,.blk 1 false,.blk 2 false,.blk 3 false,.blk 4 false,.blk 5 false,.blk 6 false,.blk 7 false,.no,.no]) (n:=0) (m:=0) (t':=107) (Xam (Xa6 rfl rfl (Xai rfl rfl rfl rfl (Xai rfl rfl rfl rfl (Xai rfl rfl (Xat) rfl (Xai rfl rfl (Xat) rfl (Xai rfl rfl (Xat) rfl (Xai rfl rfl (Xat) rfl (Xai rfl rfl (Xat) rfl (Xai rfl rfl (Xat) rfl (Xan (Xan XaR)))))))))) rfl) rfl (Xam rfl rfl (Xam rfl rfl XaP))) rfl (by rfl) (XgH hy) rfl rfl rfl rfl (Xab rfl (Xab rfl (Xab rfl (Xab rfl (Xab rfl (Xab rfl (Xab rfl (Xab rfl (Xab rfl (Xab rfl XaN)))))))))) XaM rfl) ?_
 conv=>whnf
 exact W
def Xee (Xae:Xaq) (Xaa:Xaf) (s:Xaw) (text:List UInt8):Option Int:=
 (Xaa.v7 s).bind fun x7=>
 cond (!x7)
  (
  some (0))
  (
  (Xae.v7 s 0 text).bind fun x71=>
  XaU (decide ((0:Int)≤x71∧x71<(s.rows.m0:Int))) <|
  (s.rows.e0[x71.toNat]?).bind fun (e:Int)=>
  let t:=if e<1099511627776 then e else 1099511627776
  (Xae.v7 s 1 text).bind fun x72=>
  XaU (decide ((0:Int)≤x72∧x72<(s.rows.m1:Int))) <|
  (s.rows.e1[x72.toNat]?).bind fun (e1:Int)=>
  (Xae.v7 s 2 text).bind fun x73=>
  XaU (decide ((0:Int)≤x73∧x73<(s.rows.m2:Int))) <|
  (s.rows.e2[x73.toNat]?).bind fun (e2:Int)=>
  let t1:=if e2<(if e1<t then e1 else t) then e2 else if e1<t then e1 else t
  (Xae.v7 s 3 text).bind fun x74=>
  XaU (decide ((0:Int)≤x74∧x74<(s.rows.m3:Int))) <|
  (s.rows.e3[x74.toNat]?).bind fun (e3:Int)=>
  (Xae.v7 s 4 text).bind fun x75=>
  XaU (decide ((0:Int)≤x75∧x75<(s.rows.m4:Int))) <|
  (s.rows.e4[x75.toNat]?).bind fun (e4:Int)=>
  let t2:=if e4<(if e3<t1 then e3 else t1) then e4 else if e3<t1 then e3 else t1
  (Xae.v7 s 5 text).bind fun x76=>
  XaU (decide ((0:Int)≤x76∧x76<(s.rows.m5:Int))) <|
  (s.rows.e5[x76.toNat]?).bind fun (e5:Int)=>
  (Xae.v7 s 6 text).bind fun x77=>
  XaU (decide ((0:Int)≤x77∧x77<(s.rows.m6:Int))) <|
  (s.rows.e6[x77.toNat]?).bind fun (e6:Int)=>
  let t3:=if e6<(if e5<t2 then e5 else t2) then e6 else if e5<t2 then e5 else t2
  some (t3))
def Xrw (x:Int):Xdj:=⟨.int .i64 x,[],[none,none,none,none,none,none,none,none,none,none]⟩
abbrev Xdf:=Xaw→(List UInt8)→Option Int
def Xey (g:Xdf):Dec:=dTr 10 (Xb0 0) fun (y0:Xaw)=>dV asS fun (y1:List UInt8)=>Xfq (ofG (g y0 y1) Xrw)
theorem Xzw {g:Xdf} {y0:Xaw} {y1:List UInt8} {x:Int} (hx:g y0 y1=some x):Xey g [.pointer (some ⟨0,0,none⟩),.string ⟨⟨y1⟩⟩] [some [.int .u64 y0.key.A,.int .u64 y0.key.B,.slice (some ⟨1,0,none⟩) 7 1,.int .i64 y0.total],some [.slice (some ⟨2,0,none⟩) y0.rows.m0 1,.slice (some ⟨3,0,none⟩) y0.rows.m1 1,.slice (some ⟨4,0,none⟩) y0.rows.m2 1,.slice (some ⟨5,0,none⟩) y0.rows.m3 1,.slice (some ⟨6,0,none⟩) y0.rows.m4 1,.slice (some ⟨7,0,none⟩) y0.rows.m5 1,.slice (some ⟨8,0,none⟩) y0.rows.m6 1],some (vI .i64 y0.rows.e0),some (vI .i64 y0.rows.e1),some (vI .i64 y0.rows.e2),some (vI .i64 y0.rows.e3),some (vI .i64 y0.rows.e4),some (vI .i64 y0.rows.e5),some (vI .i64 y0.rows.e6),none]=some (Xrw x):=(Xcx rfl rfl (XeS 0 _)).trans ((XcF (Xg1)).trans (Xbx hx))
abbrev XxH (Xae:Xaq) (Xaa:Xaf):List (Nat×Xc3):=[(20,s20 Xae),(38,s38 Xaa)]
theorem Xvy (Xae:Xaq) (Xaa:Xaf) (hS:XaL Try.prog (XaY (XxH Xae Xaa))) (s:Xaw) (text:List UInt8) (res:Int) (h:Xee Xae Xaa s text=some res) :
 Xa0 Try.prog 16 10 ⟨⟨16,14,[(0,.pointer (some ⟨0,0,none⟩)),(1,.string ⟨⟨text⟩⟩)],[.code Xkk],[],false,none⟩,[],[(0,.row false [.int .u64 s.key.A,.int .u64 s.key.B,.slice (some ⟨1,0,none⟩) 7 1,.int .i64 s.total]),(1,.row false [.slice (some ⟨2,0,none⟩) s.rows.m0 1,.slice (some ⟨3,0,none⟩) s.rows.m1 1,.slice (some ⟨4,0,none⟩) s.rows.m2 1,.slice (some ⟨5,0,none⟩) s.rows.m3 1,.slice (some ⟨6,0,none⟩) s.rows.m4 1,.slice (some ⟨7,0,none⟩) s.rows.m5 1,.slice (some ⟨8,0,none⟩) s.rows.m6 1]),(2,.row false (vI .i64 s.rows.e0)),(3,.row false (vI .i64 s.rows.e1)),(4,.row false (vI .i64 s.rows.e2)),(5,.row false (vI .i64 s.rows.e3)),(6,.row false (vI .i64 s.rows.e4)),(7,.row false (vI .i64 s.rows.e5)),(8,.row false (vI .i64 s.rows.e6))],10⟩ (fun v H _=>Res 10 (Xrw res) v H):=by
 unfold Xee at h
 refine Xa1 XaJ hS true 3000 ?_
 conv=>whnf
 replace h:=XaK.elim h;obtain ⟨x7,hy,h⟩:=h
 refine Xbn.XaO [] (Xar («as»:=[.pointer (some ⟨0,0,none⟩)]) (ws:=[.blk 0 false,.blk 1 false,.blk 2 false,.blk 3 false,.blk 4 false,.blk 5 false,.blk 6 false,.blk 7 false,.blk 8 false,.no]) (n:=0) (m:=0) (t':=10) (Xam (Xa6 rfl rfl (Xai rfl rfl rfl rfl (Xai rfl rfl rfl rfl (Xai rfl rfl (Xat) rfl (Xai rfl rfl (Xat) rfl (Xai rfl rfl (Xat) rfl (Xai rfl rfl (Xat) rfl (Xai rfl rfl (Xat) rfl (Xai rfl rfl (Xat) rfl (Xai rfl rfl (Xat) rfl (Xan XaR)))))))))) rfl) rfl XaP) rfl (by rfl) (Xj1 hy) rfl rfl rfl rfl (Xab rfl (Xab rfl (Xab rfl (Xab rfl (Xab rfl (Xab rfl (Xab rfl (Xab rfl (Xab rfl (Xab rfl XaN)))))))))) XaM rfl) ?_
 conv=>whnf
 refine br.h h (by rfl) ?_ ?_
 ·clear h;intro hb h;conv=>whnf
  exact W
 clear h;intro hb h;conv=>whnf
 refine Xa1 XaJ hS true 3000 ?_
 conv=>whnf
 replace h:=XaK.elim h;obtain ⟨x71,hy,h⟩:=h
 refine Xbn.XaO [] (Xar («as»:=[.pointer (some ⟨0,0,none⟩),.int .i64 0,.string ⟨⟨text⟩⟩]) (ws:=[.blk 0 false,.blk 1 false,.blk 2 false,.blk 3 false,.blk 4 false,.blk 5 false,.blk 6 false,.blk 7 false,.blk 8 false,.no]) (n:=0) (m:=0) (t':=22) (Xam (Xa6 rfl rfl (Xai rfl rfl rfl rfl (Xai rfl rfl rfl rfl (Xai rfl rfl (Xat) rfl (Xai rfl rfl (Xat) rfl (Xai rfl rfl (Xat) rfl (Xai rfl rfl (Xat) rfl (Xai rfl rfl (Xat) rfl (Xai rfl rfl (Xat) rfl (Xai rfl rfl (Xat) rfl (Xan XaR)))))))))) rfl) rfl (Xam rfl rfl (Xam rfl rfl XaP))) rfl (by rfl) (Xf2 hy) rfl rfl rfl rfl (Xab rfl (Xab rfl (Xab rfl (Xab rfl (Xab rfl (Xab rfl (Xab rfl (Xab rfl (Xab rfl (Xab rfl XaN)))))))))) XaM rfl) ?_
 conv=>whnf
 replace h:=XaU.elim h;obtain ⟨hb,h⟩:=h
 try (refine req.intro hb ?_;conv=>whnf)
 replace h:=XaK.elim h;obtain ⟨e,hy,h⟩:=h
 refine rd.I hy (by first|rfl|(rw [Nat.zero_add,Nat.mul_one];try rfl;done)|omega) ?_
 conv=>whnf
 let t:Int:=if e<1099511627776 then e else 1099511627776
 refine Xa1 XaJ hS true 3000 ?_
 conv=>whnf
 replace h:=XaK.elim h;obtain ⟨x72,hy,h⟩:=h
 refine Xbn.XaO [] (Xar («as»:=[.pointer (some ⟨0,0,none⟩),.int .i64 1,.string ⟨⟨text⟩⟩]) (ws:=[.blk 0 false,.blk 1 false,.blk 2 false,.blk 3 false,.blk 4 false,.blk 5 false,.blk 6 false,.blk 7 false,.blk 8 false,.no]) (n:=0) (m:=0) (t':=39) (Xam (Xa6 rfl rfl (Xai rfl rfl rfl rfl (Xai rfl rfl rfl rfl (Xai rfl rfl (Xat) rfl (Xai rfl rfl (Xat) rfl (Xai rfl rfl (Xat) rfl (Xai rfl rfl (Xat) rfl (Xai rfl rfl (Xat) rfl (Xai rfl rfl (Xat) rfl (Xai rfl rfl (Xat) rfl (Xan XaR)))))))))) rfl) rfl (Xam rfl rfl (Xam rfl rfl XaP))) rfl (by rfl) (Xf2 hy) rfl rfl rfl rfl (Xab rfl (Xab rfl (Xab rfl (Xab rfl (Xab rfl (Xab rfl (Xab rfl (Xab rfl (Xab rfl (Xab rfl XaN)))))))))) XaM rfl) ?_
 conv=>whnf
 replace h:=XaU.elim h;obtain ⟨hb,h⟩:=h
 try (refine req.intro hb ?_;conv=>whnf)
 replace h:=XaK.elim h;obtain ⟨e1,hy,h⟩:=h
 refine rd.I hy (by first|rfl|(rw [Nat.zero_add,Nat.mul_one];try rfl;done)|omega) ?_
 conv=>whnf
 refine Xa1 XaJ hS true 3000 ?_
 conv=>whnf
 replace h:=XaK.elim h;obtain ⟨x73,hy,h⟩:=h
 refine Xbn.XaO [] (Xar («as»:=[.pointer (some ⟨0,0,none⟩),.int .i64 2,.string ⟨⟨text⟩⟩]) (ws:=[.blk 0 false,.blk 1 false,.blk 2 false,.blk 3 false,.blk 4 false,.blk 5 false,.blk 6 false,.blk 7 false,.blk 8 false,.no]) (n:=0) (m:=0) (t':=56) (Xam (Xa6 rfl rfl (Xai rfl rfl rfl rfl (Xai rfl rfl rfl rfl (Xai rfl rfl (Xat) rfl (Xai rfl rfl (Xat) rfl (Xai rfl rfl (Xat) rfl (Xai rfl rfl (Xat) rfl (Xai rfl rfl (Xat) rfl (Xai rfl rfl (Xat) rfl (Xai rfl rfl (Xat) rfl (Xan XaR)))))))))) rfl) rfl (Xam rfl rfl (Xam rfl rfl XaP))) rfl (by rfl) (Xf2 hy) rfl rfl rfl rfl (Xab rfl (Xab rfl (Xab rfl (Xab rfl (Xab rfl (Xab rfl (Xab rfl (Xab rfl (Xab rfl (Xab rfl XaN)))))))))) XaM rfl) ?_
 conv=>whnf
 replace h:=XaU.elim h;obtain ⟨hb,h⟩:=h
 try (refine req.intro hb ?_;conv=>whnf)
 replace h:=XaK.elim h;obtain ⟨e2,hy,h⟩:=h
 refine rd.I hy (by first|rfl|(rw [Nat.zero_add,Nat.mul_one];try rfl;done)|omega) ?_
 conv=>whnf
 let t1:Int:=if e2<(if e1<t then e1 else t) then e2 else if e1<t then e1 else t
 refine Xa1 XaJ hS true 3000 ?_
 conv=>whnf
 replace h:=XaK.elim h;obtain ⟨x74,hy,h⟩:=h
 refine Xbn.XaO [] (Xar («as»:=[.pointer (some ⟨0,0,none⟩),.int .i64 3,.string ⟨⟨text⟩⟩]) (ws:=[.blk 0 false,.blk 1 false,.blk 2 false,.blk 3 false,.blk 4 false,.blk 5 false,.blk 6 false,.blk 7 false,.blk 8 false,.no]) (n:=0) (m:=0) (t':=73) (Xam (Xa6 rfl rfl (Xai rfl rfl rfl rfl (Xai rfl rfl rfl rfl (Xai rfl rfl (Xat) rfl (Xai rfl rfl (Xat) rfl (Xai rfl rfl (Xat) rfl (Xai rfl rfl (Xat) rfl (Xai rfl rfl (Xat) rfl (Xai rfl rfl (Xat) rfl (Xai rfl rfl (Xat) rfl (Xan XaR)))))))))) rfl) rfl (Xam rfl rfl (Xam rfl rfl XaP))) rfl (by rfl) (Xf2 hy) rfl rfl rfl rfl (Xab rfl (Xab rfl (Xab rfl (Xab rfl (Xab rfl (Xab rfl (Xab rfl (Xab rfl (Xab rfl (Xab rfl XaN)))))))))) XaM rfl) ?_
 conv=>whnf
 replace h:=XaU.elim h;obtain ⟨hb,h⟩:=h
 try (refine req.intro hb ?_;conv=>whnf)
 replace h:=XaK.elim h;obtain ⟨e3,hy,h⟩:=h
 refine rd.I hy (by first|rfl|(rw [Nat.zero_add,Nat.mul_one];try rfl;done)|omega) ?_
 conv=>whnf
 refine Xa1 XaJ hS true 3000 ?_
 conv=>whnf
 replace h:=XaK.elim h;obtain ⟨x75,hy,h⟩:=h
 refine Xbn.XaO [] (Xar («as»:=[.pointer (some ⟨0,0,none⟩),.int .i64 4,.string ⟨⟨text⟩⟩]) (ws:=[.blk 0 false,.blk 1 false,.blk 2 false,.blk 3 false,.blk 4 false,.blk 5 false,.blk 6 false,.blk 7 false,.blk 8 false,.no]) (n:=0) (m:=0) (t':=90) (Xam (Xa6 rfl rfl (Xai rfl rfl rfl rfl (Xai rfl rfl rfl rfl (Xai rfl rfl (Xat) rfl (Xai rfl rfl (Xat) rfl (Xai rfl rfl (Xat) rfl (Xai rfl rfl (Xat) rfl (Xai rfl rfl (Xat) rfl (Xai rfl rfl (Xat) rfl (Xai rfl rfl (Xat) rfl (Xan XaR)))))))))) rfl) rfl (Xam rfl rfl (Xam rfl rfl XaP))) rfl (by rfl) (Xf2 hy) rfl rfl rfl rfl (Xab rfl (Xab rfl (Xab rfl (Xab rfl (Xab rfl (Xab rfl (Xab rfl (Xab rfl (Xab rfl (Xab rfl XaN)))))))))) XaM rfl) ?_
 conv=>whnf
 replace h:=XaU.elim h;obtain ⟨hb,h⟩:=h
 try (refine req.intro hb ?_;conv=>whnf)
 replace h:=XaK.elim h;obtain ⟨e4,hy,h⟩:=h
 refine rd.I hy (by first|rfl|(rw [Nat.zero_add,Nat.mul_one];try rfl;done)|omega) ?_
 conv=>whnf
 let t2:Int:=if e4<(if e3<t1 then e3 else t1) then e4 else if e3<t1 then e3 else t1
 refine Xa1 XaJ hS true 3000 ?_
 conv=>whnf
 replace h:=XaK.elim h;obtain ⟨x76,hy,h⟩:=h
 refine Xbn.XaO [] (Xar («as»:=[.pointer (some ⟨0,0,none⟩),.int .i64 5,.string ⟨⟨text⟩⟩]) (ws:=[.blk 0 false,.blk 1 false,.blk 2 false,.blk 3 false,.blk 4 false,.blk 5 false,.blk 6 false,.blk 7 false,.blk 8 false,.no]) (n:=0) (m:=0) (t':=107) (Xam (Xa6 rfl rfl (Xai rfl rfl rfl rfl (Xai rfl rfl rfl rfl (Xai rfl rfl (Xat) rfl (Xai rfl rfl (Xat) rfl (Xai rfl rfl (Xat) rfl (Xai rfl rfl (Xat) rfl (Xai rfl rfl (Xat) rfl (Xai rfl rfl (Xat) rfl (Xai rfl rfl (Xat) rfl (Xan XaR)))))))))) rfl) rfl (Xam rfl rfl (Xam rfl rfl XaP))) rfl (by rfl) (Xf2 hy) rfl rfl rfl rfl (Xab rfl (Xab rfl (Xab rfl (Xab rfl (Xab rfl (Xab rfl (Xab rfl (Xab rfl (Xab rfl (Xab rfl XaN)))))))))) XaM rfl) ?_
 conv=>whnf
 replace h:=XaU.elim h;obtain ⟨hb,h⟩:=h
 try (refine req.intro hb ?_;conv=>whnf)
 replace h:=XaK.elim h;obtain ⟨e5,hy,h⟩:=h
 refine rd.I hy (by first|rfl|(rw [Nat.zero_add,Nat.mul_one];try rfl;done)|omega) ?_
 conv=>whnf
 refine Xa1 XaJ hS true 3000 ?_
 conv=>whnf
 replace h:=XaK.elim h;obtain ⟨x77,hy,h⟩:=h
 refine Xbn.XaO [] (Xar («as»:=[.pointer (some ⟨0,0,none⟩),.int .i64 6,.string ⟨⟨text⟩⟩]) (ws:=[.blk 0 false,.blk 1 false,.blk 2 false,.blk 3 false,.blk 4 false,.blk 5 false,.blk 6 false,.blk 7 false,.blk 8 false,.no]) (n:=0) (m:=0) (t':=124) (Xam (Xa6 rfl rfl (Xai rfl rfl rfl rfl (Xai rfl rfl rfl rfl (Xai rfl rfl (Xat) rfl (Xai rfl rfl (Xat) rfl (Xai rfl rfl (Xat) rfl (Xai rfl rfl (Xat) rfl (Xai rfl rfl (Xat) rfl (Xai rfl rfl (Xat) rfl (Xai rfl rfl (Xat) rfl (Xan XaR)))))))))) rfl) rfl (Xam rfl rfl (Xam rfl rfl XaP))) rfl (by rfl) (Xf2 hy) rfl rfl rfl rfl (Xab rfl (Xab rfl (Xab rfl (Xab rfl (Xab rfl (Xab rfl (Xab rfl (Xab rfl (Xab rfl (Xab rfl XaN)))))))))) XaM rfl) ?_
 conv=>whnf
 exact W
def Xer (Xae:Xaq) (Xaa:Xaf) (s:Xav) (text:List UInt8):Option Int:=
 (Xaa.v8 s).bind fun x8=>
 cond (!x8)
  (
  some (0))
  (
  (Xae.v8 s 0 text).bind fun x81=>
  XaU (decide ((0:Int)≤x81∧x81<(s.rows.m0:Int))) <|
  (s.rows.e0[x81.toNat]?).bind fun (e:Int)=>
  let t:=if e<1099511627776 then e else 1099511627776
  (Xae.v8 s 1 text).bind fun x82=>
  XaU (decide ((0:Int)≤x82∧x82<(s.rows.m1:Int))) <|
  (s.rows.e1[x82.toNat]?).bind fun (e1:Int)=>
  (Xae.v8 s 2 text).bind fun x83=>
  XaU (decide ((0:Int)≤x83∧x83<(s.rows.m2:Int))) <|
  (s.rows.e2[x83.toNat]?).bind fun (e2:Int)=>
  let t1:=if e2<(if e1<t then e1 else t) then e2 else if e1<t then e1 else t
  (Xae.v8 s 3 text).bind fun x84=>
  XaU (decide ((0:Int)≤x84∧x84<(s.rows.m3:Int))) <|
  (s.rows.e3[x84.toNat]?).bind fun (e3:Int)=>
  (Xae.v8 s 4 text).bind fun x85=>
  XaU (decide ((0:Int)≤x85∧x85<(s.rows.m4:Int))) <|
  (s.rows.e4[x85.toNat]?).bind fun (e4:Int)=>
  let t2:=if e4<(if e3<t1 then e3 else t1) then e4 else if e3<t1 then e3 else t1
  (Xae.v8 s 5 text).bind fun x86=>
  XaU (decide ((0:Int)≤x86∧x86<(s.rows.m5:Int))) <|
  (s.rows.e5[x86.toNat]?).bind fun (e5:Int)=>
  (Xae.v8 s 6 text).bind fun x87=>
  XaU (decide ((0:Int)≤x87∧x87<(s.rows.m6:Int))) <|
  (s.rows.e6[x87.toNat]?).bind fun (e6:Int)=>
  let t3:=if e6<(if e5<t2 then e5 else t2) then e6 else if e5<t2 then e5 else t2
  (Xae.v8 s 7 text).bind fun x88=>
  XaU (decide ((0:Int)≤x88∧x88<(s.rows.m7:Int))) <|
  (s.rows.e7[x88.toNat]?).bind fun (e7:Int)=>
  some (if e7<t3 then e7 else t3))
def XrC (x:Int):Xdj:=⟨.int .i64 x,[],[none,none,none,none,none,none,none,none,none,none]⟩
abbrev Xdn:=Xav→(List UInt8)→Option Int
def Xex (g:Xdn):Dec:=dTr 10 (Xb3 0) fun (y0:Xav)=>dV asS fun (y1:List UInt8)=>Xfq (ofG (g y0 y1) XrC)
theorem XzQ {g:Xdn} {y0:Xav} {y1:List UInt8} {x:Int} (hx:g y0 y1=some x):Xex g [.pointer (some ⟨0,0,none⟩),.string ⟨⟨y1⟩⟩] [some [.int .u64 y0.key.A,.int .u64 y0.key.B,.slice (some ⟨1,0,none⟩) 8 1,.int .i64 y0.total],some [.slice (some ⟨2,0,none⟩) y0.rows.m0 1,.slice (some ⟨3,0,none⟩) y0.rows.m1 1,.slice (some ⟨4,0,none⟩) y0.rows.m2 1,.slice (some ⟨5,0,none⟩) y0.rows.m3 1,.slice (some ⟨6,0,none⟩) y0.rows.m4 1,.slice (some ⟨7,0,none⟩) y0.rows.m5 1,.slice (some ⟨8,0,none⟩) y0.rows.m6 1,.slice (some ⟨9,0,none⟩) y0.rows.m7 1],some (vI .i64 y0.rows.e0),some (vI .i64 y0.rows.e1),some (vI .i64 y0.rows.e2),some (vI .i64 y0.rows.e3),some (vI .i64 y0.rows.e4),some (vI .i64 y0.rows.e5),some (vI .i64 y0.rows.e6),some (vI .i64 y0.rows.e7)]=some (XrC x):=(Xcx rfl rfl (XeF 0 _)).trans ((XcF (Xg1)).trans (Xbx hx))
abbrev XvT (Xae:Xaq) (Xaa:Xaf):List (Nat×Xc3):=[(20,s20 Xae),(38,s38 Xaa)]
theorem XtH (Xae:Xaq) (Xaa:Xaf) (hS:XaL Try.prog (XaY (XvT Xae Xaa))) (s:Xav) (text:List UInt8) (res:Int) (h:Xer Xae Xaa s text=some res) :
 Xa0 Try.prog 16 10 ⟨⟨16,14,[(0,.pointer (some ⟨0,0,none⟩)),(1,.string ⟨⟨text⟩⟩)],[.code Xkk],[],false,none⟩,[],[(0,.row false [.int .u64 s.key.A,.int .u64 s.key.B,.slice (some ⟨1,0,none⟩) 8 1,.int .i64 s.total]),(1,.row false [.slice (some ⟨2,0,none⟩) s.rows.m0 1,.slice (some ⟨3,0,none⟩) s.rows.m1 1,.slice (some ⟨4,0,none⟩) s.rows.m2 1,.slice (some ⟨5,0,none⟩) s.rows.m3 1,.slice (some ⟨6,0,none⟩) s.rows.m4 1,.slice (some ⟨7,0,none⟩) s.rows.m5 1,.slice (some ⟨8,0,none⟩) s.rows.m6 1,.slice (some ⟨9,0,none⟩) s.rows.m7 1]),(2,.row false (vI .i64 s.rows.e0)),(3,.row false (vI .i64 s.rows.e1)),(4,.row false (vI .i64 s.rows.e2)),(5,.row false (vI .i64 s.rows.e3)),(6,.row false (vI .i64 s.rows.e4)),(7,.row false (vI .i64 s.rows.e5)),(8,.row false (vI .i64 s.rows.e6)),(9,.row false (vI .i64 s.rows.e7))],10⟩ (fun v H _=>Res 10 (XrC res) v H):=by
 unfold Xer at h
 refine Xa1 XaJ hS true 3000 ?_
 conv=>whnf
 replace h:=XaK.elim h;obtain ⟨x8,hy,h⟩:=h
 refine Xbn.XaO [] (Xar («as»:=[.pointer (some ⟨0,0,none⟩)]) (ws:=[.blk 0 false,.blk 1 false,.blk 2 false,.blk 3 false,.blk 4 false,.blk 5 false,.blk 6 false,.blk 7 false,.blk 8 false,.blk 9 false]) (n:=0) (m:=0) (t':=10) (Xam (Xa6 rfl rfl (Xai rfl rfl rfl rfl (Xai rfl rfl rfl rfl (Xai rfl rfl (Xat) rfl (Xai rfl rfl (Xat) rfl (Xai rfl rfl (Xat) rfl (Xai rfl rfl (Xat) rfl (Xai rfl rfl (Xat) rfl (Xai rfl rfl (Xat) rfl (Xai rfl rfl (Xat) rfl (Xai rfl rfl (Xat) rfl XaR)))))))))) rfl) rfl XaP) rfl (by rfl) (Xj4 hy) rfl rfl rfl rfl (Xab rfl (Xab rfl (Xab rfl (Xab rfl (Xab rfl (Xab rfl (Xab rfl (Xab rfl (Xab rfl (Xab rfl XaN)))))))))) XaM rfl) ?_
 conv=>whnf
 refine br.h h (by rfl) ?_ ?_
 ·clear h;intro hb h;conv=>whnf
  exact W
 clear h;intro hb h;conv=>whnf
 refine Xa1 XaJ hS true 3000 ?_
 conv=>whnf
 replace h:=XaK.elim h;obtain ⟨x81,hy,h⟩:=h
 refine Xbn.XaO [] (Xar («as»:=[.pointer (some ⟨0,0,none⟩),.int .i64 0,.string ⟨⟨text⟩⟩]) (ws:=[.blk 0 false,.blk 1 false,.blk 2 false,.blk 3 false,.blk 4 false,.blk 5 false,.blk 6 false,.blk 7 false,.blk 8 false,.blk 9 false]) (n:=0) (m:=0) (t':=22) (Xam (Xa6 rfl rfl (Xai rfl rfl rfl rfl (Xai rfl rfl rfl rfl (Xai rfl rfl (Xat) rfl (Xai rfl rfl (Xat) rfl (Xai rfl rfl (Xat) rfl (Xai rfl rfl (Xat) rfl (Xai rfl rfl (Xat) rfl (Xai rfl rfl (Xat) rfl (Xai rfl rfl (Xat) rfl (Xai rfl rfl (Xat) rfl XaR)))))))))) rfl) rfl (Xam rfl rfl (Xam rfl rfl XaP))) rfl (by rfl) (Xe1 hy) rfl rfl rfl rfl (Xab rfl (Xab rfl (Xab rfl (Xab rfl (Xab rfl (Xab rfl (Xab rfl (Xab rfl (Xab rfl (Xab rfl XaN)))))))))) XaM rfl) ?_
 conv=>whnf
 replace h:=XaU.elim h;obtain ⟨hb,h⟩:=h
 try (refine req.intro hb ?_;conv=>whnf)
 replace h:=XaK.elim h;obtain ⟨e,hy,h⟩:=h
 refine rd.I hy (by first|rfl|(rw [Nat.zero_add,Nat.mul_one];try rfl;done)|omega) ?_
 conv=>whnf
 let t:Int:=if e<1099511627776 then e else 1099511627776
 refine Xa1 XaJ hS true 3000 ?_
 conv=>whnf
 replace h:=XaK.elim h;obtain ⟨x82,hy,h⟩:=h
 refine Xbn.XaO [] (Xar («as»:=[.pointer (some ⟨0,0,none⟩),.int .i64 1,.string ⟨⟨text⟩⟩]) (ws:=[.blk 0 false,.blk 1 false,.blk 2 false,.blk 3 false,.blk 4 false,.blk 5 false,.blk 6 false,.blk 7 false,.blk 8 false,.blk 9 false]) (n:=0) (m:=0) (t':=39) (Xam (Xa6 rfl rfl (Xai rfl rfl rfl rfl (Xai rfl rfl rfl rfl (Xai rfl rfl (Xat) rfl (Xai rfl rfl (Xat) rfl (Xai rfl rfl (Xat) rfl (Xai rfl rfl (Xat) rfl (Xai rfl rfl (Xat) rfl (Xai rfl rfl (Xat) rfl (Xai rfl rfl (Xat) rfl (Xai rfl rfl (Xat) rfl XaR)))))))))) rfl) rfl (Xam rfl rfl (Xam rfl rfl XaP))) rfl (by rfl) (Xe1 hy) rfl rfl rfl rfl (Xab rfl (Xab rfl (Xab rfl (Xab rfl (Xab rfl (Xab rfl (Xab rfl (Xab rfl (Xab rfl (Xab rfl XaN)))))))))) XaM rfl) ?_
 conv=>whnf
 replace h:=XaU.elim h;obtain ⟨hb,h⟩:=h
 try (refine req.intro hb ?_;conv=>whnf)
 replace h:=XaK.elim h;obtain ⟨e1,hy,h⟩:=h
 refine rd.I hy (by first|rfl|(rw [Nat.zero_add,Nat.mul_one];try rfl;done)|omega) ?_
 conv=>whnf
 refine Xa1 XaJ hS true 3000 ?_
 conv=>whnf
 replace h:=XaK.elim h;obtain ⟨x83,hy,h⟩:=h
 refine Xbn.XaO [] (Xar («as»:=[.pointer (some ⟨0,0,none⟩),.int .i64 2,.string ⟨⟨text⟩⟩]) (ws:=[.blk 0 false,.blk 1 false,.blk 2 false,.blk 3 false,.blk 4 false,.blk 5 false,.blk 6 false,.blk 7 false,.blk 8 false,.blk 9 false]) (n:=0) (m:=0) (t':=56) (Xam (Xa6 rfl rfl (Xai rfl rfl rfl rfl (Xai rfl rfl rfl rfl (Xai rfl rfl (Xat) rfl (Xai rfl rfl (Xat) rfl (Xai rfl rfl (Xat) rfl (Xai rfl rfl (Xat) rfl (Xai rfl rfl (Xat) rfl (Xai rfl rfl (Xat) rfl (Xai rfl rfl (Xat) rfl (Xai rfl rfl (Xat) rfl XaR)))))))))) rfl) rfl (Xam rfl rfl (Xam rfl rfl XaP))) rfl (by rfl) (Xe1 hy) rfl rfl rfl rfl (Xab rfl (Xab rfl (Xab rfl (Xab rfl (Xab rfl (Xab rfl (Xab rfl (Xab rfl (Xab rfl (Xab rfl XaN)))))))))) XaM rfl) ?_
 conv=>whnf
 replace h:=XaU.elim h;obtain ⟨hb,h⟩:=h
 try (refine req.intro hb ?_;conv=>whnf)
 replace h:=XaK.elim h;obtain ⟨e2,hy,h⟩:=h
 refine rd.I hy (by first|rfl|(rw [Nat.zero_add,Nat.mul_one];try rfl;done)|omega) ?_
 conv=>whnf
 let t1:Int:=if e2<(if e1<t then e1 else t) then e2 else if e1<t then e1 else t
 refine Xa1 XaJ hS true 3000 ?_
 conv=>whnf
 replace h:=XaK.elim h;obtain ⟨x84,hy,h⟩:=h
 refine Xbn.XaO [] (Xar («as»:=[.pointer (some ⟨0,0,none⟩),.int .i64 3,.string ⟨⟨text⟩⟩]) (ws:=[.blk 0 false,.blk 1 false,.blk 2 false,.blk 3 false,.blk 4 false,.blk 5 false,.blk 6 false,.blk 7 false,.blk 8 false,.blk 9 false]) (n:=0) (m:=0) (t':=73) (Xam (Xa6 rfl rfl (Xai rfl rfl rfl rfl (Xai rfl rfl rfl rfl (Xai rfl rfl (Xat) rfl (Xai rfl rfl (Xat) rfl (Xai rfl rfl (Xat) rfl (Xai rfl rfl (Xat) rfl (Xai rfl rfl (Xat) rfl (Xai rfl rfl (Xat) rfl (Xai rfl rfl (Xat) rfl (Xai rfl rfl (Xat) rfl XaR)))))))))) rfl) rfl (Xam rfl rfl (Xam rfl rfl XaP))) rfl (by rfl) (Xe1 hy) rfl rfl rfl rfl (Xab rfl (Xab rfl (Xab rfl (Xab rfl (Xab rfl (Xab rfl (Xab rfl (Xab rfl (Xab rfl (Xab rfl XaN)))))))))) XaM rfl) ?_
 conv=>whnf
 replace h:=XaU.elim h;obtain ⟨hb,h⟩:=h
 try (refine req.intro hb ?_;conv=>whnf)
 replace h:=XaK.elim h;obtain ⟨e3,hy,h⟩:=h
 refine rd.I hy (by first|rfl|(rw [Nat.zero_add,Nat.mul_one];try rfl;done)|omega) ?_
 conv=>whnf
 refine Xa1 XaJ hS true 3000 ?_
 conv=>whnf
 replace h:=XaK.elim h;obtain ⟨x85,hy,h⟩:=h
 refine Xbn.XaO [] (Xar («as»:=[.pointer (some ⟨0,0,none⟩),.int .i64 4,.string ⟨⟨text⟩⟩]) (ws:=[.blk 0 false,.blk 1 false,.blk 2 false,.blk 3 false,.blk 4 false,.blk 5 false,.blk 6 false,.blk 7 false,.blk 8 false,.blk 9 false]) (n:=0) (m:=0) (t':=90) (Xam (Xa6 rfl rfl (Xai rfl rfl rfl rfl (Xai rfl rfl rfl rfl (Xai rfl rfl (Xat) rfl (Xai rfl rfl (Xat) rfl (Xai rfl rfl (Xat) rfl (Xai rfl rfl (Xat) rfl (Xai rfl rfl (Xat) rfl (Xai rfl rfl (Xat) rfl (Xai rfl rfl (Xat) rfl (Xai rfl rfl (Xat) rfl XaR)))))))))) rfl) rfl (Xam rfl rfl (Xam rfl rfl XaP))) rfl (by rfl) (Xe1 hy) rfl rfl rfl rfl (Xab rfl (Xab rfl (Xab rfl (Xab rfl (Xab rfl (Xab rfl (Xab rfl (Xab rfl (Xab rfl (Xab rfl XaN)))))))))) XaM rfl) ?_
 conv=>whnf
 replace h:=XaU.elim h;obtain ⟨hb,h⟩:=h
 try (refine req.intro hb ?_;conv=>whnf)
 replace h:=XaK.elim h;obtain ⟨e4,hy,h⟩:=h
 refine rd.I hy (by first|rfl|(rw [Nat.zero_add,Nat.mul_one];try rfl;done)|omega) ?_
 conv=>whnf
 let t2:Int:=if e4<(if e3<t1 then e3 else t1) then e4 else if e3<t1 then e3 else t1
 refine Xa1 XaJ hS true 3000 ?_
 conv=>whnf
 replace h:=XaK.elim h;obtain ⟨x86,hy,h⟩:=h
 refine Xbn.XaO [] (Xar («as»:=[.pointer (some ⟨0,0,none⟩),.int .i64 5,.string ⟨⟨text⟩⟩]) (ws:=[.blk 0 false,.blk 1 false,.blk 2 false,.blk 3 false,.blk 4 false,.blk 5 false,.blk 6 false,.blk 7 false,.blk 8 false,.blk 9 false]) (n:=0) (m:=0) (t':=107) (Xam (Xa6 rfl rfl (Xai rfl rfl rfl rfl (Xai rfl rfl rfl rfl (Xai rfl rfl (Xat) rfl (Xai rfl rfl (Xat) rfl (Xai rfl rfl (Xat) rfl (Xai rfl rfl (Xat) rfl (Xai rfl rfl (Xat) rfl (Xai rfl rfl (Xat) rfl (Xai rfl rfl (Xat) rfl (Xai rfl rfl (Xat) rfl XaR)))))))))) rfl) rfl (Xam rfl rfl (Xam rfl rfl XaP))) rfl (by rfl) (Xe1 hy) rfl rfl rfl rfl (Xab rfl (Xab rfl (Xab rfl (Xab rfl (Xab rfl (Xab rfl (Xab rfl (Xab rfl (Xab rfl (Xab rfl XaN)))))))))) XaM rfl) ?_
 conv=>whnf
 replace h:=XaU.elim h;obtain ⟨hb,h⟩:=h
 try (refine req.intro hb ?_;conv=>whnf)
 replace h:=XaK.elim h;obtain ⟨e5,hy,h⟩:=h
 refine rd.I hy (by first|rfl|(rw [Nat.zero_add,Nat.mul_one];try rfl;done)|omega) ?_
 conv=>whnf
 refine Xa1 XaJ hS true 3000 ?_
 conv=>whnf
 replace h:=XaK.elim h;obtain ⟨x87,hy,h⟩:=h
 refine Xbn.XaO [] (Xar («as»:=[.pointer (some ⟨0,0,none⟩),.int .i64 6,.string ⟨⟨text⟩⟩]) (ws:=[.blk 0 false,.blk 1 false,.blk 2 false,.blk 3 false,.blk 4 false,.blk 5 false,.blk 6 false,.blk 7 false,.blk 8 false,.blk 9 false]) (n:=0) (m:=0) (t':=124) (Xam (Xa6 rfl rfl (Xai rfl rfl rfl rfl (Xai rfl rfl rfl rfl (Xai rfl rfl (Xat) rfl (Xai rfl rfl (Xat) rfl (Xai rfl rfl (Xat) rfl (Xai rfl rfl (Xat) rfl (Xai rfl rfl (Xat) rfl (Xai rfl rfl (Xat) rfl (Xai rfl rfl (Xat) rfl (Xai rfl rfl (Xat) rfl XaR)))))))))) rfl) rfl (Xam rfl rfl (Xam rfl rfl XaP))) rfl (by rfl) (Xe1 hy) rfl rfl rfl rfl (Xab rfl (Xab rfl (Xab rfl (Xab rfl (Xab rfl (Xab rfl (Xab rfl (Xab rfl (Xab rfl (Xab rfl XaN)))))))))) XaM rfl) ?_
 conv=>whnf
 replace h:=XaU.elim h;obtain ⟨hb,h⟩:=h
 try (refine req.intro hb ?_;conv=>whnf)
 replace h:=XaK.elim h;obtain ⟨e6,hy,h⟩:=h
 refine rd.I hy (by first|rfl|(rw [Nat.zero_add,Nat.mul_one];try rfl;done)|omega) ?_
 conv=>whnf
 let t3:Int:=if e6<(if e5<t2 then e5 else t2) then e6 else if e5<t2 then e5 else t2
 refine Xa1 XaJ hS true 3000 ?_
 conv=>whnf
 replace h:=XaK.elim h;obtain ⟨x88,hy,h⟩:=h
 refine Xbn.XaO [] (Xar («as»:=[.pointer (some ⟨0,0,none⟩),.int .i64 7,.string ⟨⟨text⟩⟩]) (ws:=[.blk 0 false,.blk 1 false,.blk 2 false,.blk 3 false,.blk 4 false,.blk 5 false,.blk 6 false,.blk 7 false,.blk 8 false,.blk 9 false]) (n:=0) (m:=0) (t':=141) (Xam (Xa6 rfl rfl (Xai rfl rfl rfl rfl (Xai rfl rfl rfl rfl (Xai rfl rfl (Xat) rfl (Xai rfl rfl (Xat) rfl (Xai rfl rfl (Xat) rfl (Xai rfl rfl (Xat) rfl (Xai rfl rfl (Xat) rfl (Xai rfl rfl (Xat) rfl (Xai rfl rfl (Xat) rfl (Xai rfl rfl (Xat) rfl XaR)))))))))) rfl) rfl (Xam rfl rfl (Xam rfl rfl XaP))) rfl (by rfl) (Xe1 hy) rfl rfl rfl rfl (Xab rfl (Xab rfl (Xab rfl (Xab rfl (Xab rfl (Xab rfl (Xab rfl (Xab rfl (Xab rfl (Xab rfl XaN)))))))))) XaM rfl) ?_
 conv=>whnf
 exact W
structure Xap where
 vn:Xds
 v1:Xdx
 v2:Xdt
 v3:XdF
 v4:XdJ
 v5:XdM
 v6:Xdu
 v7:Xdf
 v8:Xdn
def s16 (g:Xap):Xc3:=⟨[.tr [⟨none,0,0,0,none⟩,⟨some 0,2,0,0,none⟩,⟨some 1,0,0,0,none⟩,⟨some 1,1,0,0,none⟩,⟨some 1,2,0,0,none⟩,⟨some 1,3,0,0,none⟩,⟨some 1,4,0,0,none⟩,⟨some 1,5,0,0,none⟩,⟨some 1,6,0,0,none⟩,⟨some 1,7,0,0,none⟩],.v],orD (XmJ g.vn) (orD (Xiu g.v1) (orD (Xht g.v2) (orD (XgD g.v3) (orD (XfI g.v4) (orD (Xfe g.v5) (orD (XeK g.v6) (orD (Xey g.v7) (Xex g.v8))))))))⟩
theorem XrW {g:Xap} {y1:List UInt8} {x:Int} (hx:g.vn y1=some x):(s16 g).run [.pointer none,.string ⟨⟨y1⟩⟩] [none,none,none,none,none,none,none,none,none,none]=some (Xq4 x):=XeT (a:=XmJ g.vn) (b:=orD (Xiu g.v1) (orD (Xht g.v2) (orD (XgD g.v3) (orD (XfI g.v4) (orD (Xfe g.v5) (orD (XeK g.v6) (orD (Xey g.v7) (Xex g.v8)))))))) (XBo hx)
theorem Xrf {g:Xap} {y0:XaH} {y1:List UInt8} {x:Int} (hx:g.v1 y0 y1=some x):(s16 g).run [.pointer (some ⟨0,0,none⟩),.string ⟨⟨y1⟩⟩] [some [.int .u64 y0.key.A,.int .u64 y0.key.B,.slice (some ⟨1,0,none⟩) 1 1,.int .i64 y0.total],some [.slice (some ⟨2,0,none⟩) y0.rows.m0 1],some (vI .i64 y0.rows.e0),none,none,none,none,none,none,none]=some (Xrs x):=XaZ (a:=XmJ g.vn) (b:=orD (Xiu g.v1) (orD (Xht g.v2) (orD (XgD g.v3) (orD (XfI g.v4) (orD (Xfe g.v5) (orD (XeK g.v6) (orD (Xey g.v7) (Xex g.v8)))))))) rfl (XeT (a:=Xiu g.v1) (b:=orD (Xht g.v2) (orD (XgD g.v3) (orD (XfI g.v4) (orD (Xfe g.v5) (orD (XeK g.v6) (orD (Xey g.v7) (Xex g.v8))))))) (XBt hx))
theorem XkU {g:Xap} {y0:XaG} {y1:List UInt8} {x:Int} (hx:g.v2 y0 y1=some x):(s16 g).run [.pointer (some ⟨0,0,none⟩),.string ⟨⟨y1⟩⟩] [some [.int .u64 y0.key.A,.int .u64 y0.key.B,.slice (some ⟨1,0,none⟩) 2 1,.int .i64 y0.total],some [.slice (some ⟨2,0,none⟩) y0.rows.m0 1,.slice (some ⟨3,0,none⟩) y0.rows.m1 1],some (vI .i64 y0.rows.e0),some (vI .i64 y0.rows.e1),none,none,none,none,none,none]=some (XqM x):=XaZ (a:=XmJ g.vn) (b:=orD (Xiu g.v1) (orD (Xht g.v2) (orD (XgD g.v3) (orD (XfI g.v4) (orD (Xfe g.v5) (orD (XeK g.v6) (orD (Xey g.v7) (Xex g.v8)))))))) rfl (XaZ (a:=Xiu g.v1) (b:=orD (Xht g.v2) (orD (XgD g.v3) (orD (XfI g.v4) (orD (Xfe g.v5) (orD (XeK g.v6) (orD (Xey g.v7) (Xex g.v8))))))) rfl (XeT (a:=Xht g.v2) (b:=orD (XgD g.v3) (orD (XfI g.v4) (orD (Xfe g.v5) (orD (XeK g.v6) (orD (Xey g.v7) (Xex g.v8)))))) (Xzm hx)))
theorem Xrv {g:Xap} {y0:XaF} {y1:List UInt8} {x:Int} (hx:g.v3 y0 y1=some x):(s16 g).run [.pointer (some ⟨0,0,none⟩),.string ⟨⟨y1⟩⟩] [some [.int .u64 y0.key.A,.int .u64 y0.key.B,.slice (some ⟨1,0,none⟩) 3 1,.int .i64 y0.total],some [.slice (some ⟨2,0,none⟩) y0.rows.m0 1,.slice (some ⟨3,0,none⟩) y0.rows.m1 1,.slice (some ⟨4,0,none⟩) y0.rows.m2 1],some (vI .i64 y0.rows.e0),some (vI .i64 y0.rows.e1),some (vI .i64 y0.rows.e2),none,none,none,none,none]=some (Xrb x):=XaZ (a:=XmJ g.vn) (b:=orD (Xiu g.v1) (orD (Xht g.v2) (orD (XgD g.v3) (orD (XfI g.v4) (orD (Xfe g.v5) (orD (XeK g.v6) (orD (Xey g.v7) (Xex g.v8)))))))) rfl (XaZ (a:=Xiu g.v1) (b:=orD (Xht g.v2) (orD (XgD g.v3) (orD (XfI g.v4) (orD (Xfe g.v5) (orD (XeK g.v6) (orD (Xey g.v7) (Xex g.v8))))))) rfl (XaZ (a:=Xht g.v2) (b:=orD (XgD g.v3) (orD (XfI g.v4) (orD (Xfe g.v5) (orD (XeK g.v6) (orD (Xey g.v7) (Xex g.v8)))))) rfl (XeT (a:=XgD g.v3) (b:=orD (XfI g.v4) (orD (Xfe g.v5) (orD (XeK g.v6) (orD (Xey g.v7) (Xex g.v8))))) (XAv hx))))
theorem Xry {g:Xap} {y0:XaC} {y1:List UInt8} {x:Int} (hx:g.v4 y0 y1=some x):(s16 g).run [.pointer (some ⟨0,0,none⟩),.string ⟨⟨y1⟩⟩] [some [.int .u64 y0.key.A,.int .u64 y0.key.B,.slice (some ⟨1,0,none⟩) 4 1,.int .i64 y0.total],some [.slice (some ⟨2,0,none⟩) y0.rows.m0 1,.slice (some ⟨3,0,none⟩) y0.rows.m1 1,.slice (some ⟨4,0,none⟩) y0.rows.m2 1,.slice (some ⟨5,0,none⟩) y0.rows.m3 1],some (vI .i64 y0.rows.e0),some (vI .i64 y0.rows.e1),some (vI .i64 y0.rows.e2),some (vI .i64 y0.rows.e3),none,none,none,none]=some (XqY x):=XaZ (a:=XmJ g.vn) (b:=orD (Xiu g.v1) (orD (Xht g.v2) (orD (XgD g.v3) (orD (XfI g.v4) (orD (Xfe g.v5) (orD (XeK g.v6) (orD (Xey g.v7) (Xex g.v8)))))))) rfl (XaZ (a:=Xiu g.v1) (b:=orD (Xht g.v2) (orD (XgD g.v3) (orD (XfI g.v4) (orD (Xfe g.v5) (orD (XeK g.v6) (orD (Xey g.v7) (Xex g.v8))))))) rfl (XaZ (a:=Xht g.v2) (b:=orD (XgD g.v3) (orD (XfI g.v4) (orD (Xfe g.v5) (orD (XeK g.v6) (orD (Xey g.v7) (Xex g.v8)))))) rfl (XaZ (a:=XgD g.v3) (b:=orD (XfI g.v4) (orD (Xfe g.v5) (orD (XeK g.v6) (orD (Xey g.v7) (Xex g.v8))))) rfl (XeT (a:=XfI g.v4) (b:=orD (Xfe g.v5) (orD (XeK g.v6) (orD (Xey g.v7) (Xex g.v8)))) (XAh hx)))))
theorem XqU {g:Xap} {y0:XaB} {y1:List UInt8} {x:Int} (hx:g.v5 y0 y1=some x):(s16 g).run [.pointer (some ⟨0,0,none⟩),.string ⟨⟨y1⟩⟩] [some [.int .u64 y0.key.A,.int .u64 y0.key.B,.slice (some ⟨1,0,none⟩) 5 1,.int .i64 y0.total],some [.slice (some ⟨2,0,none⟩) y0.rows.m0 1,.slice (some ⟨3,0,none⟩) y0.rows.m1 1,.slice (some ⟨4,0,none⟩) y0.rows.m2 1,.slice (some ⟨5,0,none⟩) y0.rows.m3 1,.slice (some ⟨6,0,none⟩) y0.rows.m4 1],some (vI .i64 y0.rows.e0),some (vI .i64 y0.rows.e1),some (vI .i64 y0.rows.e2),some (vI .i64 y0.rows.e3),some (vI .i64 y0.rows.e4),none,none,none]=some (Xqx x):=XaZ (a:=XmJ g.vn) (b:=orD (Xiu g.v1) (orD (Xht g.v2) (orD (XgD g.v3) (orD (XfI g.v4) (orD (Xfe g.v5) (orD (XeK g.v6) (orD (Xey g.v7) (Xex g.v8)))))))) rfl (XaZ (a:=Xiu g.v1) (b:=orD (Xht g.v2) (orD (XgD g.v3) (orD (XfI g.v4) (orD (Xfe g.v5) (orD (XeK g.v6) (orD (Xey g.v7) (Xex g.v8))))))) rfl (XaZ (a:=Xht g.v2) (b:=orD (XgD g.v3) (orD (XfI g.v4) (orD (Xfe g.v5) (orD (XeK g.v6) (orD (Xey g.v7) (Xex g.v8)))))) rfl (XaZ (a:=XgD g.v3) (b:=orD (XfI g.v4) (orD (Xfe g.v5) (orD (XeK g.v6) (orD (Xey g.v7) (Xex g.v8))))) rfl (XaZ (a:=XfI g.v4) (b:=orD (Xfe g.v5) (orD (XeK g.v6) (orD (Xey g.v7) (Xex g.v8)))) rfl (XeT (a:=Xfe g.v5) (b:=orD (XeK g.v6) (orD (Xey g.v7) (Xex g.v8))) (XA7 hx))))))
theorem XqO {g:Xap} {y0:Xay} {y1:List UInt8} {x:Int} (hx:g.v6 y0 y1=some x):(s16 g).run [.pointer (some ⟨0,0,none⟩),.string ⟨⟨y1⟩⟩] [some [.int .u64 y0.key.A,.int .u64 y0.key.B,.slice (some ⟨1,0,none⟩) 6 1,.int .i64 y0.total],some [.slice (some ⟨2,0,none⟩) y0.rows.m0 1,.slice (some ⟨3,0,none⟩) y0.rows.m1 1,.slice (some ⟨4,0,none⟩) y0.rows.m2 1,.slice (some ⟨5,0,none⟩) y0.rows.m3 1,.slice (some ⟨6,0,none⟩) y0.rows.m4 1,.slice (some ⟨7,0,none⟩) y0.rows.m5 1],some (vI .i64 y0.rows.e0),some (vI .i64 y0.rows.e1),some (vI .i64 y0.rows.e2),some (vI .i64 y0.rows.e3),some (vI .i64 y0.rows.e4),some (vI .i64 y0.rows.e5),none,none]=some (XqN x):=XaZ (a:=XmJ g.vn) (b:=orD (Xiu g.v1) (orD (Xht g.v2) (orD (XgD g.v3) (orD (XfI g.v4) (orD (Xfe g.v5) (orD (XeK g.v6) (orD (Xey g.v7) (Xex g.v8)))))))) rfl (XaZ (a:=Xiu g.v1) (b:=orD (Xht g.v2) (orD (XgD g.v3) (orD (XfI g.v4) (orD (Xfe g.v5) (orD (XeK g.v6) (orD (Xey g.v7) (Xex g.v8))))))) rfl (XaZ (a:=Xht g.v2) (b:=orD (XgD g.v3) (orD (XfI g.v4) (orD (Xfe g.v5) (orD (XeK g.v6) (orD (Xey g.v7) (Xex g.v8)))))) rfl (XaZ (a:=XgD g.v3) (b:=orD (XfI g.v4) (orD (Xfe g.v5) (orD (XeK g.v6) (orD (Xey g.v7) (Xex g.v8))))) rfl (XaZ (a:=XfI g.v4) (b:=orD (Xfe g.v5) (orD (XeK g.v6) (orD (Xey g.v7) (Xex g.v8)))) rfl (XaZ (a:=Xfe g.v5) (b:=orD (XeK g.v6) (orD (Xey g.v7) (Xex g.v8))) rfl (XeT (a:=XeK g.v6) (b:=orD (Xey g.v7) (Xex g.v8)) (XA5 hx)))))))
theorem Xrg {g:Xap} {y0:Xaw} {y1:List UInt8} {x:Int} (hx:g.v7 y0 y1=some x):(s16 g).run [.pointer (some ⟨0,0,none⟩),.string ⟨⟨y1⟩⟩] [some [.int .u64 y0.key.A,.int .u64 y0.key.B,.slice (some ⟨1,0,none⟩) 7 1,.int .i64 y0.total],some [.slice (some ⟨2,0,none⟩) y0.rows.m0 1,.slice (some ⟨3,0,none⟩) y0.rows.m1 1,.slice (some ⟨4,0,none⟩) y0.rows.m2 1,.slice (some ⟨5,0,none⟩) y0.rows.m3 1,.slice (some ⟨6,0,none⟩) y0.rows.m4 1,.slice (some ⟨7,0,none⟩) y0.rows.m5 1,.slice (some ⟨8,0,none⟩) y0.rows.m6 1],some (vI .i64 y0.rows.e0),some (vI .i64 y0.rows.e1),some (vI .i64 y0.rows.e2),some (vI .i64 y0.rows.e3),some (vI .i64 y0.rows.e4),some (vI .i64 y0.rows.e5),some (vI .i64 y0.rows.e6),none]=some (Xrw x):=XaZ (a:=XmJ g.vn) (b:=orD (Xiu g.v1) (orD (Xht g.v2) (orD (XgD g.v3) (orD (XfI g.v4) (orD (Xfe g.v5) (orD (XeK g.v6) (orD (Xey g.v7) (Xex g.v8)))))))) rfl (XaZ (a:=Xiu g.v1) (b:=orD (Xht g.v2) (orD (XgD g.v3) (orD (XfI g.v4) (orD (Xfe g.v5) (orD (XeK g.v6) (orD (Xey g.v7) (Xex g.v8))))))) rfl (XaZ (a:=Xht g.v2) (b:=orD (XgD g.v3) (orD (XfI g.v4) (orD (Xfe g.v5) (orD (XeK g.v6) (orD (Xey g.v7) (Xex g.v8)))))) rfl (XaZ (a:=XgD g.v3) (b:=orD (XfI g.v4) (orD (Xfe g.v5) (orD (XeK g.v6) (orD (Xey g.v7) (Xex g.v8))))) rfl (XaZ (a:=XfI g.v4) (b:=orD (Xfe g.v5) (orD (XeK g.v6) (orD (Xey g.v7) (Xex g.v8)))) rfl (XaZ (a:=Xfe g.v5) (b:=orD (XeK g.v6) (orD (Xey g.v7) (Xex g.v8))) rfl (XaZ (a:=XeK g.v6) (b:=orD (Xey g.v7) (Xex g.v8)) rfl (XeT (a:=Xey g.v7) (b:=Xex g.v8) (Xzw hx))))))))
theorem Xq5 {g:Xap} {y0:Xav} {y1:List UInt8} {x:Int} (hx:g.v8 y0 y1=some x):(s16 g).run [.pointer (some ⟨0,0,none⟩),.string ⟨⟨y1⟩⟩] [some [.int .u64 y0.key.A,.int .u64 y0.key.B,.slice (some ⟨1,0,none⟩) 8 1,.int .i64 y0.total],some [.slice (some ⟨2,0,none⟩) y0.rows.m0 1,.slice (some ⟨3,0,none⟩) y0.rows.m1 1,.slice (some ⟨4,0,none⟩) y0.rows.m2 1,.slice (some ⟨5,0,none⟩) y0.rows.m3 1,.slice (some ⟨6,0,none⟩) y0.rows.m4 1,.slice (some ⟨7,0,none⟩) y0.rows.m5 1,.slice (some ⟨8,0,none⟩) y0.rows.m6 1,.slice (some ⟨9,0,none⟩) y0.rows.m7 1],some (vI .i64 y0.rows.e0),some (vI .i64 y0.rows.e1),some (vI .i64 y0.rows.e2),some (vI .i64 y0.rows.e3),some (vI .i64 y0.rows.e4),some (vI .i64 y0.rows.e5),some (vI .i64 y0.rows.e6),some (vI .i64 y0.rows.e7)]=some (XrC x):=XaZ (a:=XmJ g.vn) (b:=orD (Xiu g.v1) (orD (Xht g.v2) (orD (XgD g.v3) (orD (XfI g.v4) (orD (Xfe g.v5) (orD (XeK g.v6) (orD (Xey g.v7) (Xex g.v8)))))))) rfl (XaZ (a:=Xiu g.v1) (b:=orD (Xht g.v2) (orD (XgD g.v3) (orD (XfI g.v4) (orD (Xfe g.v5) (orD (XeK g.v6) (orD (Xey g.v7) (Xex g.v8))))))) rfl (XaZ (a:=Xht g.v2) (b:=orD (XgD g.v3) (orD (XfI g.v4) (orD (Xfe g.v5) (orD (XeK g.v6) (orD (Xey g.v7) (Xex g.v8)))))) rfl (XaZ (a:=XgD g.v3) (b:=orD (XfI g.v4) (orD (Xfe g.v5) (orD (XeK g.v6) (orD (Xey g.v7) (Xex g.v8))))) rfl (XaZ (a:=XfI g.v4) (b:=orD (Xfe g.v5) (orD (XeK g.v6) (orD (Xey g.v7) (Xex g.v8)))) rfl (XaZ (a:=Xfe g.v5) (b:=orD (XeK g.v6) (orD (Xey g.v7) (Xex g.v8))) rfl (XaZ (a:=XeK g.v6) (b:=orD (Xey g.v7) (Xex g.v8)) rfl (XaZ (a:=Xey g.v7) (b:=Xex g.v8) rfl (XzQ hx))))))))
def Xi5:Xds:=Xfz Xaa
def Xgm:Xdx:=Xd9 Xae Xaa
def Xgk:Xdt:=Xec Xae Xaa
def Xgn:XdF:=Xei Xae Xaa
def Xgp:XdJ:=Xet Xae Xaa
def Xgb:XdM:=Xej Xae Xaa
def Xgh:Xdu:=Xd6 Xae Xaa
def Xge:Xdf:=Xee Xae Xaa
def Xgd:Xdn:=Xer Xae Xaa
def Xac:Xap:=⟨Xi5,Xgm,Xgk,Xgn,Xgp,Xgb,Xgh,Xge,Xgd⟩
theorem XCO:Xgx Try.prog 16 (s16 Xac):=by
 have L0:=Xvk Xaa (XaL.Xbk ⟨Xcs,trivial⟩)
 have L1:=XuZ Xae Xaa (XaL.Xbk ⟨Xhv,Xcs,trivial⟩)
 have L2:=Xu3 Xae Xaa (XaL.Xbk ⟨Xhv,Xcs,trivial⟩)
 have L3:=Xtv Xae Xaa (XaL.Xbk ⟨Xhv,Xcs,trivial⟩)
 have L4:=Xt9 Xae Xaa (XaL.Xbk ⟨Xhv,Xcs,trivial⟩)
 have L5:=Xu4 Xae Xaa (XaL.Xbk ⟨Xhv,Xcs,trivial⟩)
 have L6:=XtL Xae Xaa (XaL.Xbk ⟨Xhv,Xcs,trivial⟩)
 have L7:=Xvy Xae Xaa (XaL.Xbk ⟨Xhv,Xcs,trivial⟩)
 have L8:=XtH Xae Xaa (XaL.Xbk ⟨Xhv,Xcs,trivial⟩)
 refine Xgx.XiG XaJ (fun ar os r ha hr=>?_) ⟨Try.f16,rfl,by decide,rfl⟩
 generalize hc:XhF os=C at hr
 replace hr:=orD.elim hr;rcases hr with hr|hr
 ·skip
  have hq:=dNl.elim hr;clear hr;obtain ⟨l1,C,rfl,rfl,hr⟩:=hq;simp only [List.replicate,List.nil_append,List.cons_append] at hc
  replace hr:=dV.elim hr;obtain ⟨v1,l2,y1,rfl,e1,hr⟩:=hr;obtain rfl:=Xd1 _ _ e1
  replace hr:=Xhd hr;obtain ⟨rfl,rfl,x,h,rfl⟩:=hr
  replace ha:=Xaj ha hc;obtain ⟨os,rfl,ha,hc⟩:=ha
  replace ha:=Xaj ha hc;obtain ⟨os,rfl,ha,hc⟩:=ha
  replace ha:=Xaj ha hc;obtain ⟨os,rfl,ha,hc⟩:=ha
  replace ha:=Xaj ha hc;obtain ⟨os,rfl,ha,hc⟩:=ha
  replace ha:=Xaj ha hc;obtain ⟨os,rfl,ha,hc⟩:=ha
  replace ha:=Xaj ha hc;obtain ⟨os,rfl,ha,hc⟩:=ha
  replace ha:=Xaj ha hc;obtain ⟨os,rfl,ha,hc⟩:=ha
  replace ha:=Xaj ha hc;obtain ⟨os,rfl,ha,hc⟩:=ha
  replace ha:=Xaj ha hc;obtain ⟨os,rfl,ha,hc⟩:=ha
  replace ha:=Xaj ha hc;obtain ⟨os,rfl,ha,hc⟩:=ha
  obtain rfl:=Xa5 hc
  exact ⟨_,rfl,L0 _ x h⟩
 replace hr:=orD.elim hr;rcases hr with hr|hr
 ·skip
  have hq:=dTr.elim hr;clear hr;obtain ⟨v0,l1,c0,C,y0,rfl,rfl,e0,hr⟩:=hq;obtain ⟨rfl,rfl⟩:=Xcn e0;simp only [List.nil_append,List.cons_append] at hc
  replace hr:=dV.elim hr;obtain ⟨v1,l2,y1,rfl,e1,hr⟩:=hr;obtain rfl:=Xd1 _ _ e1
  replace hr:=Xhd hr;obtain ⟨rfl,rfl,x,h,rfl⟩:=hr
  replace ha:=Xag ha hc;obtain ⟨os,rfl,ha,hc⟩:=ha
  replace ha:=Xag ha hc;obtain ⟨os,rfl,ha,hc⟩:=ha
  replace ha:=Xag ha hc;obtain ⟨os,rfl,ha,hc⟩:=ha
  replace ha:=Xaj ha hc;obtain ⟨os,rfl,ha,hc⟩:=ha
  replace ha:=Xaj ha hc;obtain ⟨os,rfl,ha,hc⟩:=ha
  replace ha:=Xaj ha hc;obtain ⟨os,rfl,ha,hc⟩:=ha
  replace ha:=Xaj ha hc;obtain ⟨os,rfl,ha,hc⟩:=ha
  replace ha:=Xaj ha hc;obtain ⟨os,rfl,ha,hc⟩:=ha
  replace ha:=Xaj ha hc;obtain ⟨os,rfl,ha,hc⟩:=ha
  replace ha:=Xaj ha hc;obtain ⟨os,rfl,ha,hc⟩:=ha
  obtain rfl:=Xa5 hc
  exact ⟨_,rfl,L1 _ _ x h⟩
 replace hr:=orD.elim hr;rcases hr with hr|hr
 ·skip
  have hq:=dTr.elim hr;clear hr;obtain ⟨v0,l1,c0,C,y0,rfl,rfl,e0,hr⟩:=hq;obtain ⟨rfl,rfl⟩:=Xcp e0;simp only [List.nil_append,List.cons_append] at hc
  replace hr:=dV.elim hr;obtain ⟨v1,l2,y1,rfl,e1,hr⟩:=hr;obtain rfl:=Xd1 _ _ e1
  replace hr:=Xhd hr;obtain ⟨rfl,rfl,x,h,rfl⟩:=hr
  replace ha:=Xag ha hc;obtain ⟨os,rfl,ha,hc⟩:=ha
  replace ha:=Xag ha hc;obtain ⟨os,rfl,ha,hc⟩:=ha
  replace ha:=Xag ha hc;obtain ⟨os,rfl,ha,hc⟩:=ha
  replace ha:=Xag ha hc;obtain ⟨os,rfl,ha,hc⟩:=ha
  replace ha:=Xaj ha hc;obtain ⟨os,rfl,ha,hc⟩:=ha
  replace ha:=Xaj ha hc;obtain ⟨os,rfl,ha,hc⟩:=ha
  replace ha:=Xaj ha hc;obtain ⟨os,rfl,ha,hc⟩:=ha
  replace ha:=Xaj ha hc;obtain ⟨os,rfl,ha,hc⟩:=ha
  replace ha:=Xaj ha hc;obtain ⟨os,rfl,ha,hc⟩:=ha
  replace ha:=Xaj ha hc;obtain ⟨os,rfl,ha,hc⟩:=ha
  obtain rfl:=Xa5 hc
  exact ⟨_,rfl,L2 _ _ x h⟩
 replace hr:=orD.elim hr;rcases hr with hr|hr
 ·skip
  have hq:=dTr.elim hr;clear hr;obtain ⟨v0,l1,c0,C,y0,rfl,rfl,e0,hr⟩:=hq;obtain ⟨rfl,rfl⟩:=Xce e0;simp only [List.nil_append,List.cons_append] at hc
  replace hr:=dV.elim hr;obtain ⟨v1,l2,y1,rfl,e1,hr⟩:=hr;obtain rfl:=Xd1 _ _ e1
  replace hr:=Xhd hr;obtain ⟨rfl,rfl,x,h,rfl⟩:=hr
  replace ha:=Xag ha hc;obtain ⟨os,rfl,ha,hc⟩:=ha
  replace ha:=Xag ha hc;obtain ⟨os,rfl,ha,hc⟩:=ha
  replace ha:=Xag ha hc;obtain ⟨os,rfl,ha,hc⟩:=ha
  replace ha:=Xag ha hc;obtain ⟨os,rfl,ha,hc⟩:=ha
  replace ha:=Xag ha hc;obtain ⟨os,rfl,ha,hc⟩:=ha
  replace ha:=Xaj ha hc;obtain ⟨os,rfl,ha,hc⟩:=ha
  replace ha:=Xaj ha hc;obtain ⟨os,rfl,ha,hc⟩:=ha
  replace ha:=Xaj ha hc;obtain ⟨os,rfl,ha,hc⟩:=ha
  replace ha:=Xaj ha hc;obtain ⟨os,rfl,ha,hc⟩:=ha
  replace ha:=Xaj ha hc;obtain ⟨os,rfl,ha,hc⟩:=ha
  obtain rfl:=Xa5 hc
  exact ⟨_,rfl,L3 _ _ x h⟩
 replace hr:=orD.elim hr;rcases hr with hr|hr
 ·skip
  have hq:=dTr.elim hr;clear hr;obtain ⟨v0,l1,c0,C,y0,rfl,rfl,e0,hr⟩:=hq;obtain ⟨rfl,rfl⟩:=Xci e0;simp only [List.nil_append,List.cons_append] at hc
  replace hr:=dV.elim hr;obtain ⟨v1,l2,y1,rfl,e1,hr⟩:=hr;obtain rfl:=Xd1 _ _ e1
  replace hr:=Xhd hr;obtain ⟨rfl,rfl,x,h,rfl⟩:=hr
  replace ha:=Xag ha hc;obtain ⟨os,rfl,ha,hc⟩:=ha
  replace ha:=Xag ha hc;obtain ⟨os,rfl,ha,hc⟩:=ha
  replace ha:=Xag ha hc;obtain ⟨os,rfl,ha,hc⟩:=ha
  replace ha:=Xag ha hc;obtain ⟨os,rfl,ha,hc⟩:=ha
  replace ha:=Xag ha hc;obtain ⟨os,rfl,ha,hc⟩:=ha
  replace ha:=Xag ha hc;obtain ⟨os,rfl,ha,hc⟩:=ha
  replace ha:=Xaj ha hc;obtain ⟨os,rfl,ha,hc⟩:=ha
  replace ha:=Xaj ha hc;obtain ⟨os,rfl,ha,hc⟩:=ha
  replace ha:=Xaj ha hc;obtain ⟨os,rfl,ha,hc⟩:=ha
  replace ha:=Xaj ha hc;obtain ⟨os,rfl,ha,hc⟩:=ha
  obtain rfl:=Xa5 hc
  exact ⟨_,rfl,L4 _ _ x h⟩
 replace hr:=orD.elim hr;rcases hr with hr|hr
 ·skip
  have hq:=dTr.elim hr;clear hr;obtain ⟨v0,l1,c0,C,y0,rfl,rfl,e0,hr⟩:=hq;obtain ⟨rfl,rfl⟩:=Xcg e0;simp only [List.nil_append,List.cons_append] at hc
  replace hr:=dV.elim hr;obtain ⟨v1,l2,y1,rfl,e1,hr⟩:=hr;obtain rfl:=Xd1 _ _ e1
  replace hr:=Xhd hr;obtain ⟨rfl,rfl,x,h,rfl⟩:=hr
  replace ha:=Xag ha hc;obtain ⟨os,rfl,ha,hc⟩:=ha
  replace ha:=Xag ha hc;obtain ⟨os,rfl,ha,hc⟩:=ha
  replace ha:=Xag ha hc;obtain ⟨os,rfl,ha,hc⟩:=ha
  replace ha:=Xag ha hc;obtain ⟨os,rfl,ha,hc⟩:=ha
  replace ha:=Xag ha hc;obtain ⟨os,rfl,ha,hc⟩:=ha
  replace ha:=Xag ha hc;obtain ⟨os,rfl,ha,hc⟩:=ha
  replace ha:=Xag ha hc;obtain ⟨os,rfl,ha,hc⟩:=ha
  replace ha:=Xaj ha hc;obtain ⟨os,rfl,ha,hc⟩:=ha
  replace ha:=Xaj ha hc;obtain ⟨os,rfl,ha,hc⟩:=ha
  replace ha:=Xaj ha hc;obtain ⟨os,rfl,ha,hc⟩:=ha
  obtain rfl:=Xa5 hc
  exact ⟨_,rfl,L5 _ _ x h⟩
 replace hr:=orD.elim hr;rcases hr with hr|hr
 ·skip
  have hq:=dTr.elim hr;clear hr;obtain ⟨v0,l1,c0,C,y0,rfl,rfl,e0,hr⟩:=hq;obtain ⟨rfl,rfl⟩:=Xcc e0;simp only [List.nil_append,List.cons_append] at hc
  replace hr:=dV.elim hr;obtain ⟨v1,l2,y1,rfl,e1,hr⟩:=hr;obtain rfl:=Xd1 _ _ e1
  replace hr:=Xhd hr;obtain ⟨rfl,rfl,x,h,rfl⟩:=hr
  replace ha:=Xag ha hc;obtain ⟨os,rfl,ha,hc⟩:=ha
  replace ha:=Xag ha hc;obtain ⟨os,rfl,ha,hc⟩:=ha
  replace ha:=Xag ha hc;obtain ⟨os,rfl,ha,hc⟩:=ha
  replace ha:=Xag ha hc;obtain ⟨os,rfl,ha,hc⟩:=ha
  replace ha:=Xag ha hc;obtain ⟨os,rfl,ha,hc⟩:=ha
  replace ha:=Xag ha hc;obtain ⟨os,rfl,ha,hc⟩:=ha
  replace ha:=Xag ha hc;obtain ⟨os,rfl,ha,hc⟩:=ha
  replace ha:=Xag ha hc;obtain ⟨os,rfl,ha,hc⟩:=ha
  replace ha:=Xaj ha hc;obtain ⟨os,rfl,ha,hc⟩:=ha
  replace ha:=Xaj ha hc;obtain ⟨os,rfl,ha,hc⟩:=ha
  obtain rfl:=Xa5 hc
  exact ⟨_,rfl,L6 _ _ x h⟩
 replace hr:=orD.elim hr;rcases hr with hr|hr
 ·skip
  have hq:=dTr.elim hr;clear hr;obtain ⟨v0,l1,c0,C,y0,rfl,rfl,e0,hr⟩:=hq;obtain ⟨rfl,rfl⟩:=Xcd e0;simp only [List.nil_append,List.cons_append] at hc
  replace hr:=dV.elim hr;obtain ⟨v1,l2,y1,rfl,e1,hr⟩:=hr;obtain rfl:=Xd1 _ _ e1
  replace hr:=Xhd hr;obtain ⟨rfl,rfl,x,h,rfl⟩:=hr
  replace ha:=Xag ha hc;obtain ⟨os,rfl,ha,hc⟩:=ha
  replace ha:=Xag ha hc;obtain ⟨os,rfl,ha,hc⟩:=ha
  replace ha:=Xag ha hc;obtain ⟨os,rfl,ha,hc⟩:=ha
  replace ha:=Xag ha hc;obtain ⟨os,rfl,ha,hc⟩:=ha
  replace ha:=Xag ha hc;obtain ⟨os,rfl,ha,hc⟩:=ha
  replace ha:=Xag ha hc;obtain ⟨os,rfl,ha,hc⟩:=ha
  replace ha:=Xag ha hc;obtain ⟨os,rfl,ha,hc⟩:=ha
  replace ha:=Xag ha hc;obtain ⟨os,rfl,ha,hc⟩:=ha
  replace ha:=Xag ha hc;obtain ⟨os,rfl,ha,hc⟩:=ha
  replace ha:=Xaj ha hc;obtain ⟨os,rfl,ha,hc⟩:=ha
  obtain rfl:=Xa5 hc
  exact ⟨_,rfl,L7 _ _ x h⟩
 have hq:=dTr.elim hr;clear hr;obtain ⟨v0,l1,c0,C,y0,rfl,rfl,e0,hr⟩:=hq;obtain ⟨rfl,rfl⟩:=Xck e0;simp only [List.nil_append,List.cons_append] at hc
 replace hr:=dV.elim hr;obtain ⟨v1,l2,y1,rfl,e1,hr⟩:=hr;obtain rfl:=Xd1 _ _ e1
 replace hr:=Xhd hr;obtain ⟨rfl,rfl,x,h,rfl⟩:=hr
 replace ha:=Xag ha hc;obtain ⟨os,rfl,ha,hc⟩:=ha
 replace ha:=Xag ha hc;obtain ⟨os,rfl,ha,hc⟩:=ha
 replace ha:=Xag ha hc;obtain ⟨os,rfl,ha,hc⟩:=ha
 replace ha:=Xag ha hc;obtain ⟨os,rfl,ha,hc⟩:=ha
 replace ha:=Xag ha hc;obtain ⟨os,rfl,ha,hc⟩:=ha
 replace ha:=Xag ha hc;obtain ⟨os,rfl,ha,hc⟩:=ha
 replace ha:=Xag ha hc;obtain ⟨os,rfl,ha,hc⟩:=ha
 replace ha:=Xag ha hc;obtain ⟨os,rfl,ha,hc⟩:=ha
 replace ha:=Xag ha hc;obtain ⟨os,rfl,ha,hc⟩:=ha
 replace ha:=Xag ha hc;obtain ⟨os,rfl,ha,hc⟩:=ha
 obtain rfl:=Xa5 hc
 exact ⟨_,rfl,L8 _ _ x h⟩
def XfG (Xaa:Xaf) (s:Xax):Option Int:=
 (Xaa.v0 (Xax.mk s.key Xbr.mk s.total)).bind fun x0=>
 cond (!x0)
  (
  some (0))
  (
  some (s.total))
def XrV (x:Int):Xdj:=⟨.int .i64 x,[],[none,none,none,none,none,none,none,none,none,none]⟩
abbrev Xdp:=Xax→Option Int
def Xm7 (g:Xdp):Dec:=dTr 10 (XcE 0) fun (y0:Xax)=>Xfq (ofG (g y0) XrV)
theorem XAM {g:Xdp} {y0:Xax} {x:Int} (hx:g y0=some x):Xm7 g [.pointer (some ⟨0,0,none⟩)] [some [.int .u64 y0.key.A,.int .u64 y0.key.B,.slice none 0 0,.int .i64 y0.total],none,none,none,none,none,none,none,none,none]=some (XrV x):=(Xcx rfl rfl (XeQ 0 _)).trans (Xbx hx)
abbrev Xv1 (Xaa:Xaf):List (Nat×Xc3):=[(38,s38 Xaa)]
theorem Xvr (Xaa:Xaf) (hS:XaL Try.prog (XaY (Xv1 Xaa))) (s:Xax) (res:Int) (h:XfG Xaa s=some res) :
 Xa0 Try.prog 18 10 ⟨⟨18,10,[(0,.pointer (some ⟨0,0,none⟩))],[.code Xnk],[],false,none⟩,[],[(0,.row false [.int .u64 s.key.A,.int .u64 s.key.B,.slice none 0 0,.int .i64 s.total])],10⟩ (fun v H _=>Res 10 (XrV res) v H):=by
 unfold XfG at h
 refine Xa1 XaJ hS true 3000 ?_
 conv=>whnf
 replace h:=XaK.elim h;obtain ⟨x0,hy,h⟩:=h
 refine Xbn.XaO [] (Xar («as»:=[.pointer (some ⟨0,0,none⟩)]) (ws:=[.blk 0 false,.no,.no,.no,.no,.no,.no,.no,.no,.no]) (n:=0) (m:=0) (t':=10) (Xam (Xa6 rfl rfl (Xai rfl rfl rfl rfl (Xan (Xan (Xan (Xan (Xan (Xan (Xan (Xan (Xan XaR)))))))))) rfl) rfl XaP) rfl (by rfl) (Xme hy) rfl rfl rfl rfl (Xab rfl (Xab rfl (Xab rfl (Xab rfl (Xab rfl (Xab rfl (Xab rfl (Xab rfl (Xab rfl (Xab rfl XaN)))))))))) XaM rfl) ?_
 conv=>whnf
 exact W
def XfY (Xaa:Xaf) (s:XaH):Option Int:=
 (Xaa.v1 s).bind fun x1=>
 cond (!x1)
  (
  some (0))
  (
  some (s.total))
def XqJ (x:Int):Xdj:=⟨.int .i64 x,[],[none,none,none,none,none,none,none,none,none,none]⟩
abbrev XdC:=XaH→Option Int
def Xiz (g:XdC):Dec:=dTr 10 (XbX 0) fun (y0:XaH)=>Xfq (ofG (g y0) XqJ)
theorem XAY {g:XdC} {y0:XaH} {x:Int} (hx:g y0=some x):Xiz g [.pointer (some ⟨0,0,none⟩)] [some [.int .u64 y0.key.A,.int .u64 y0.key.B,.slice (some ⟨1,0,none⟩) 1 1,.int .i64 y0.total],some [.slice (some ⟨2,0,none⟩) y0.rows.m0 1],some (vI .i64 y0.rows.e0),none,none,none,none,none,none,none]=some (XqJ x):=(Xcx rfl rfl (XeP 0 _)).trans (Xbx hx)
abbrev Xwg (Xaa:Xaf):List (Nat×Xc3):=[(38,s38 Xaa)]
theorem Xs8 (Xaa:Xaf) (hS:XaL Try.prog (XaY (Xwg Xaa))) (s:XaH) (res:Int) (h:XfY Xaa s=some res) :
 Xa0 Try.prog 18 10 ⟨⟨18,10,[(0,.pointer (some ⟨0,0,none⟩))],[.code Xnk],[],false,none⟩,[],[(0,.row false [.int .u64 s.key.A,.int .u64 s.key.B,.slice (some ⟨1,0,none⟩) 1 1,.int .i64 s.total]),(1,.row false [.slice (some ⟨2,0,none⟩) s.rows.m0 1]),(2,.row false (vI .i64 s.rows.e0))],10⟩ (fun v H _=>Res 10 (XqJ res) v H):=by
 unfold XfY at h
 refine Xa1 XaJ hS true 3000 ?_
 conv=>whnf
 replace h:=XaK.elim h;obtain ⟨x1,hy,h⟩:=h
 refine Xbn.XaO [] (Xar («as»:=[.pointer (some ⟨0,0,none⟩)]) (ws:=[.blk 0 false,.blk 1 false,.blk 2 false,.no,.no,.no,.no,.no,.no,.no]) (n:=0) (m:=0) (t':=10) (Xam (Xa6 rfl rfl (Xai rfl rfl rfl rfl (Xai rfl rfl rfl rfl (Xai rfl rfl (Xat) rfl (Xan (Xan (Xan (Xan (Xan (Xan (Xan XaR)))))))))) rfl) rfl XaP) rfl (by rfl) (XjX hy) rfl rfl rfl rfl (Xab rfl (Xab rfl (Xab rfl (Xab rfl (Xab rfl (Xab rfl (Xab rfl (Xab rfl (Xab rfl (Xab rfl XaN)))))))))) XaM rfl) ?_
 conv=>whnf
 exact W
def XfA (Xaa:Xaf) (s:XaG):Option Int:=
 (Xaa.v2 s).bind fun x2=>
 cond (!x2)
  (
  some (0))
  (
  some (s.total))
def Xq6 (x:Int):Xdj:=⟨.int .i64 x,[],[none,none,none,none,none,none,none,none,none,none]⟩
abbrev Xdr:=XaG→Option Int
def Xhp (g:Xdr):Dec:=dTr 10 (Xb4 0) fun (y0:XaG)=>Xfq (ofG (g y0) Xq6)
theorem XB7 {g:Xdr} {y0:XaG} {x:Int} (hx:g y0=some x):Xhp g [.pointer (some ⟨0,0,none⟩)] [some [.int .u64 y0.key.A,.int .u64 y0.key.B,.slice (some ⟨1,0,none⟩) 2 1,.int .i64 y0.total],some [.slice (some ⟨2,0,none⟩) y0.rows.m0 1,.slice (some ⟨3,0,none⟩) y0.rows.m1 1],some (vI .i64 y0.rows.e0),some (vI .i64 y0.rows.e1),none,none,none,none,none,none]=some (Xq6 x):=(Xcx rfl rfl (XeE 0 _)).trans (Xbx hx)
abbrev Xxx (Xaa:Xaf):List (Nat×Xc3):=[(38,s38 Xaa)]
theorem XuW (Xaa:Xaf) (hS:XaL Try.prog (XaY (Xxx Xaa))) (s:XaG) (res:Int) (h:XfA Xaa s=some res) :
 Xa0 Try.prog 18 10 ⟨⟨18,10,[(0,.pointer (some ⟨0,0,none⟩))],[.code Xnk],[],false,none⟩,[],[(0,.row false [.int .u64 s.key.A,.int .u64 s.key.B,.slice (some ⟨1,0,none⟩) 2 1,.int .i64 s.total]),(1,.row false [.slice (some ⟨2,0,none⟩) s.rows.m0 1,.slice (some ⟨3,0,none⟩) s.rows.m1 1]),(2,.row false (vI .i64 s.rows.e0)),(3,.row false (vI .i64 s.rows.e1))],10⟩ (fun v H _=>Res 10 (Xq6 res) v H):=by
 unfold XfA at h
 refine Xa1 XaJ hS true 3000 ?_
 conv=>whnf
 replace h:=XaK.elim h;obtain ⟨x2,hy,h⟩:=h
 refine Xbn.XaO [] (Xar («as»:=[.pointer (some ⟨0,0,none⟩)]) (ws:=[.blk 0 false,.blk 1 false,.blk 2 false,.blk 3 false,.no,.no,.no,.no,.no,.no]) (n:=0) (m:=0) (t':=10) (Xam (Xa6 rfl rfl (Xai rfl rfl rfl rfl (Xai rfl rfl rfl rfl (Xai rfl rfl (Xat) rfl (Xai rfl rfl (Xat) rfl (Xan (Xan (Xan (Xan (Xan (Xan XaR)))))))))) rfl) rfl XaP) rfl (by rfl) (Xj2 hy) rfl rfl rfl rfl (Xab rfl (Xab rfl (Xab rfl (Xab rfl (Xab rfl (Xab rfl (Xab rfl (Xab rfl (Xab rfl (Xab rfl XaN)))))))))) XaM rfl) ?_
 conv=>whnf
 exact W
def Xf1 (Xaa:Xaf) (s:XaF):Option Int:=
 (Xaa.v3 s).bind fun x3=>
 cond (!x3)
  (
  some (0))
  (
  some (s.total))
def XqH (x:Int):Xdj:=⟨.int .i64 x,[],[none,none,none,none,none,none,none,none,none,none]⟩
abbrev Xdv:=XaF→Option Int
def Xgz (g:Xdv):Dec:=dTr 10 (XbW 0) fun (y0:XaF)=>Xfq (ofG (g y0) XqH)
theorem XzZ {g:Xdv} {y0:XaF} {x:Int} (hx:g y0=some x):Xgz g [.pointer (some ⟨0,0,none⟩)] [some [.int .u64 y0.key.A,.int .u64 y0.key.B,.slice (some ⟨1,0,none⟩) 3 1,.int .i64 y0.total],some [.slice (some ⟨2,0,none⟩) y0.rows.m0 1,.slice (some ⟨3,0,none⟩) y0.rows.m1 1,.slice (some ⟨4,0,none⟩) y0.rows.m2 1],some (vI .i64 y0.rows.e0),some (vI .i64 y0.rows.e1),some (vI .i64 y0.rows.e2),none,none,none,none,none]=some (XqH x):=(Xcx rfl rfl (XeM 0 _)).trans (Xbx hx)
abbrev XwP (Xaa:Xaf):List (Nat×Xc3):=[(38,s38 Xaa)]
theorem Xs6 (Xaa:Xaf) (hS:XaL Try.prog (XaY (XwP Xaa))) (s:XaF) (res:Int) (h:Xf1 Xaa s=some res) :
 Xa0 Try.prog 18 10 ⟨⟨18,10,[(0,.pointer (some ⟨0,0,none⟩))],[.code Xnk],[],false,none⟩,[],[(0,.row false [.int .u64 s.key.A,.int .u64 s.key.B,.slice (some ⟨1,0,none⟩) 3 1,.int .i64 s.total]),(1,.row false [.slice (some ⟨2,0,none⟩) s.rows.m0 1,.slice (some ⟨3,0,none⟩) s.rows.m1 1,.slice (some ⟨4,0,none⟩) s.rows.m2 1]),(2,.row false (vI .i64 s.rows.e0)),(3,.row false (vI .i64 s.rows.e1)),(4,.row false (vI .i64 s.rows.e2))],10⟩ (fun v H _=>Res 10 (XqH res) v H):=by
 unfold Xf1 at h
 refine Xa1 XaJ hS true 3000 ?_
 conv=>whnf
 replace h:=XaK.elim h;obtain ⟨x3,hy,h⟩:=h
 refine Xbn.XaO [] (Xar («as»:=[.pointer (some ⟨0,0,none⟩)]) (ws:=[.blk 0 false,.blk 1 false,.blk 2 false,.blk 3 false,.blk 4 false,.no,.no,.no,.no,.no]) (n:=0) (m:=0) (t':=10) (Xam (Xa6 rfl rfl (Xai rfl rfl rfl rfl (Xai rfl rfl rfl rfl (Xai rfl rfl (Xat) rfl (Xai rfl rfl (Xat) rfl (Xai rfl rfl (Xat) rfl (Xan (Xan (Xan (Xan (Xan XaR)))))))))) rfl) rfl XaP) rfl (by rfl) (Xj6 hy) rfl rfl rfl rfl (Xab rfl (Xab rfl (Xab rfl (Xab rfl (Xab rfl (Xab rfl (Xab rfl (Xab rfl (Xab rfl (Xab rfl XaN)))))))))) XaM rfl) ?_
 conv=>whnf
 exact W
def XfZ (Xaa:Xaf) (s:XaC):Option Int:=
 (Xaa.v4 s).bind fun x4=>
 cond (!x4)
  (
  some (0))
  (
  some (s.total))
def XqF (x:Int):Xdj:=⟨.int .i64 x,[],[none,none,none,none,none,none,none,none,none,none]⟩
abbrev XdG:=XaC→Option Int
def XfF (g:XdG):Dec:=dTr 10 (Xb2 0) fun (y0:XaC)=>Xfq (ofG (g y0) XqF)
theorem XBi {g:XdG} {y0:XaC} {x:Int} (hx:g y0=some x):XfF g [.pointer (some ⟨0,0,none⟩)] [some [.int .u64 y0.key.A,.int .u64 y0.key.B,.slice (some ⟨1,0,none⟩) 4 1,.int .i64 y0.total],some [.slice (some ⟨2,0,none⟩) y0.rows.m0 1,.slice (some ⟨3,0,none⟩) y0.rows.m1 1,.slice (some ⟨4,0,none⟩) y0.rows.m2 1,.slice (some ⟨5,0,none⟩) y0.rows.m3 1],some (vI .i64 y0.rows.e0),some (vI .i64 y0.rows.e1),some (vI .i64 y0.rows.e2),some (vI .i64 y0.rows.e3),none,none,none,none]=some (XqF x):=(Xcx rfl rfl (XeL 0 _)).trans (Xbx hx)
abbrev XxI (Xaa:Xaf):List (Nat×Xc3):=[(38,s38 Xaa)]
theorem XtV (Xaa:Xaf) (hS:XaL Try.prog (XaY (XxI Xaa))) (s:XaC) (res:Int) (h:XfZ Xaa s=some res) :
 Xa0 Try.prog 18 10 ⟨⟨18,10,[(0,.pointer (some ⟨0,0,none⟩))],[.code Xnk],[],false,none⟩,[],[(0,.row false [.int .u64 s.key.A,.int .u64 s.key.B,.slice (some ⟨1,0,none⟩) 4 1,.int .i64 s.total]),(1,.row false [.slice (some ⟨2,0,none⟩) s.rows.m0 1,.slice (some ⟨3,0,none⟩) s.rows.m1 1,.slice (some ⟨4,0,none⟩) s.rows.m2 1,.slice (some ⟨5,0,none⟩) s.rows.m3 1]),(2,.row false (vI .i64 s.rows.e0)),(3,.row false (vI .i64 s.rows.e1)),(4,.row false (vI .i64 s.rows.e2)),(5,.row false (vI .i64 s.rows.e3))],10⟩ (fun v H _=>Res 10 (XqF res) v H):=by
 unfold XfZ at h
 refine Xa1 XaJ hS true 3000 ?_
 conv=>whnf
 replace h:=XaK.elim h;obtain ⟨x4,hy,h⟩:=h
 refine Xbn.XaO [] (Xar («as»:=[.pointer (some ⟨0,0,none⟩)]) (ws:=[.blk 0 false,.blk 1 false,.blk 2 false,.blk 3 false,.blk 4 false,.blk 5 false,.no,.no,.no,.no]) (n:=0) (m:=0) (t':=10) (Xam (Xa6 rfl rfl (Xai rfl rfl rfl rfl (Xai rfl rfl rfl rfl (Xai rfl rfl (Xat) rfl (Xai rfl rfl (Xat) rfl (Xai rfl rfl (Xat) rfl (Xai rfl rfl (Xat) rfl (Xan (Xan (Xan (Xan XaR)))))))))) rfl) rfl XaP) rfl (by rfl) (Xkd hy) rfl rfl rfl rfl (Xab rfl (Xab rfl (Xab rfl (Xab rfl (Xab rfl (Xab rfl (Xab rfl (Xab rfl (Xab rfl (Xab rfl XaN)))))))))) XaM rfl) ?_
 conv=>whnf
 exact W
def XfS (Xaa:Xaf) (s:XaB):Option Int:=
 (Xaa.v5 s).bind fun x5=>
 cond (!x5)
  (
  some (0))
  (
  some (s.total))
def Xrd (x:Int):Xdj:=⟨.int .i64 x,[],[none,none,none,none,none,none,none,none,none,none]⟩
abbrev Xdb:=XaB→Option Int
def Xe8 (g:Xdb):Dec:=dTr 10 (Xb1 0) fun (y0:XaB)=>Xfq (ofG (g y0) Xrd)
theorem Xz9 {g:Xdb} {y0:XaB} {x:Int} (hx:g y0=some x):Xe8 g [.pointer (some ⟨0,0,none⟩)] [some [.int .u64 y0.key.A,.int .u64 y0.key.B,.slice (some ⟨1,0,none⟩) 5 1,.int .i64 y0.total],some [.slice (some ⟨2,0,none⟩) y0.rows.m0 1,.slice (some ⟨3,0,none⟩) y0.rows.m1 1,.slice (some ⟨4,0,none⟩) y0.rows.m2 1,.slice (some ⟨5,0,none⟩) y0.rows.m3 1,.slice (some ⟨6,0,none⟩) y0.rows.m4 1],some (vI .i64 y0.rows.e0),some (vI .i64 y0.rows.e1),some (vI .i64 y0.rows.e2),some (vI .i64 y0.rows.e3),some (vI .i64 y0.rows.e4),none,none,none]=some (Xrd x):=(Xcx rfl rfl (XeR 0 _)).trans (Xbx hx)
abbrev Xw9 (Xaa:Xaf):List (Nat×Xc3):=[(38,s38 Xaa)]
theorem XuV (Xaa:Xaf) (hS:XaL Try.prog (XaY (Xw9 Xaa))) (s:XaB) (res:Int) (h:XfS Xaa s=some res) :
 Xa0 Try.prog 18 10 ⟨⟨18,10,[(0,.pointer (some ⟨0,0,none⟩))],[.code Xnk],[],false,none⟩,[],[(0,.row false [.int .u64 s.key.A,.int .u64 s.key.B,.slice (some ⟨1,0,none⟩) 5 1,.int .i64 s.total]),(1,.row false [.slice (some ⟨2,0,none⟩) s.rows.m0 1,.slice (some ⟨3,0,none⟩) s.rows.m1 1,.slice (some ⟨4,0,none⟩) s.rows.m2 1,.slice (some ⟨5,0,none⟩) s.rows.m3 1,.slice (some ⟨6,0,none⟩) s.rows.m4 1]),(2,.row false (vI .i64 s.rows.e0)),(3,.row false (vI .i64 s.rows.e1)),(4,.row false (vI .i64 s.rows.e2)),(5,.row false (vI .i64 s.rows.e3)),(6,.row false (vI .i64 s.rows.e4))],10⟩ (fun v H _=>Res 10 (Xrd res) v H):=by
 unfold XfS at h
 refine Xa1 XaJ hS true 3000 ?_
 conv=>whnf
 replace h:=XaK.elim h;obtain ⟨x5,hy,h⟩:=h
 refine Xbn.XaO [] (Xar («as»:=[.pointer (some ⟨0,0,none⟩)]) (ws:=[.blk 0 false,.blk 1 false,.blk 2 false,.blk 3 false,.blk 4 false,.blk 5 false,.blk 6 false,.no,.no,.no]) (n:=0) (m:=0) (t':=10) (Xam (Xa6 rfl rfl (Xai rfl rfl rfl rfl (Xai rfl rfl rfl rfl (Xai rfl rfl (Xat) rfl (Xai rfl rfl (Xat) rfl (Xai rfl rfl (Xat) rfl (Xai rfl rfl (Xat) rfl (Xai rfl rfl (Xat) rfl (Xan (Xan (Xan XaR)))))))))) rfl) rfl XaP) rfl (by rfl) (Xkc hy) rfl rfl rfl rfl (Xab rfl (Xab rfl (Xab rfl (Xab rfl (Xab rfl (Xab rfl (Xab rfl (Xab rfl (Xab rfl (Xab rfl XaN)))))))))) XaM rfl) ?_
 conv=>whnf
 exact W
def XfD (Xaa:Xaf) (s:Xay):Option Int:=
 (Xaa.v6 s).bind fun x6=>
 cond (!x6)
  (
  some (0))
  (
  some (s.total))
def Xqq (x:Int):Xdj:=⟨.int .i64 x,[],[none,none,none,none,none,none,none,none,none,none]⟩
abbrev Xdl:=Xay→Option Int
def XeG (g:Xdl):Dec:=dTr 10 (XbY 0) fun (y0:Xay)=>Xfq (ofG (g y0) Xqq)
theorem XAd {g:Xdl} {y0:Xay} {x:Int} (hx:g y0=some x):XeG g [.pointer (some ⟨0,0,none⟩)] [some [.int .u64 y0.key.A,.int .u64 y0.key.B,.slice (some ⟨1,0,none⟩) 6 1,.int .i64 y0.total],some [.slice (some ⟨2,0,none⟩) y0.rows.m0 1,.slice (some ⟨3,0,none⟩) y0.rows.m1 1,.slice (some ⟨4,0,none⟩) y0.rows.m2 1,.slice (some ⟨5,0,none⟩) y0.rows.m3 1,.slice (some ⟨6,0,none⟩) y0.rows.m4 1,.slice (some ⟨7,0,none⟩) y0.rows.m5 1],some (vI .i64 y0.rows.e0),some (vI .i64 y0.rows.e1),some (vI .i64 y0.rows.e2),some (vI .i64 y0.rows.e3),some (vI .i64 y0.rows.e4),some (vI .i64 y0.rows.e5),none,none]=some (Xqq x):=(Xcx rfl rfl (XeO 0 _)).trans (Xbx hx)
abbrev XwI (Xaa:Xaf):List (Nat×Xc3):=[(38,s38 Xaa)]
theorem XvA (Xaa:Xaf) (hS:XaL Try.prog (XaY (XwI Xaa))) (s:Xay) (res:Int) (h:XfD Xaa s=some res) :
 Xa0 Try.prog 18 10 ⟨⟨18,10,[(0,.pointer (some ⟨0,0,none⟩))],[.code Xnk],[],false,none⟩,[],[(0,.row false [.int .u64 s.key.A,.int .u64 s.key.B,.slice (some ⟨1,0,none⟩) 6 1,.int .i64 s.total]),(1,.row false [.slice (some ⟨2,0,none⟩) s.rows.m0 1,.slice (some ⟨3,0,none⟩) s.rows.m1 1,.slice (some ⟨4,0,none⟩) s.rows.m2 1,.slice (some ⟨5,0,none⟩) s.rows.m3 1,.slice (some ⟨6,0,none⟩) s.rows.m4 1,.slice (some ⟨7,0,none⟩) s.rows.m5 1]),(2,.row false (vI .i64 s.rows.e0)),(3,.row false (vI .i64 s.rows.e1)),(4,.row false (vI .i64 s.rows.e2)),(5,.row false (vI .i64 s.rows.e3)),(6,.row false (vI .i64 s.rows.e4)),(7,.row false (vI .i64 s.rows.e5))],10⟩ (fun v H _=>Res 10 (Xqq res) v H):=by
 unfold XfD at h
 refine Xa1 XaJ hS true 3000 ?_
 conv=>whnf
 replace h:=XaK.elim h;obtain ⟨x6,hy,h⟩:=h
 refine Xbn.XaO [] (Xar («as»:=[.pointer (some ⟨0,0,none⟩)]) (ws:=[.blk 0 false,.blk 1 false,.blk 2 false,.blk 3 false,.blk 4 false,.blk 5 false,.blk 6 false,.blk 7 false,.no,.no]) (n:=0) (m:=0) (t':=10) (Xam (Xa6 rfl rfl (Xai rfl rfl rfl rfl (Xai rfl rfl rfl rfl (Xai rfl rfl (Xat) rfl (Xai rfl rfl (Xat) rfl (Xai rfl rfl (Xat) rfl (Xai rfl rfl (Xat) rfl (Xai rfl rfl (Xat) rfl (Xai rfl rfl (Xat) rfl (Xan (Xan XaR)))))))))) rfl) rfl XaP) rfl (by rfl) (Xj8 hy) rfl rfl rfl rfl (Xab rfl (Xab rfl (Xab rfl (Xab rfl (Xab rfl (Xab rfl (Xab rfl (Xab rfl (Xab rfl (Xab rfl XaN)))))))))) XaM rfl) ?_
 conv=>whnf
 exact W
def XfN (Xaa:Xaf) (s:Xaw):Option Int:=
 (Xaa.v7 s).bind fun x7=>
 cond (!x7)
  (
  some (0))
  (
  some (s.total))
def XrQ (x:Int):Xdj:=⟨.int .i64 x,[],[none,none,none,none,none,none,none,none,none,none]⟩
abbrev Xdc:=Xaw→Option Int
def Xez (g:Xdc):Dec:=dTr 10 (Xb0 0) fun (y0:Xaw)=>Xfq (ofG (g y0) XrQ)
theorem XAO {g:Xdc} {y0:Xaw} {x:Int} (hx:g y0=some x):Xez g [.pointer (some ⟨0,0,none⟩)] [some [.int .u64 y0.key.A,.int .u64 y0.key.B,.slice (some ⟨1,0,none⟩) 7 1,.int .i64 y0.total],some [.slice (some ⟨2,0,none⟩) y0.rows.m0 1,.slice (some ⟨3,0,none⟩) y0.rows.m1 1,.slice (some ⟨4,0,none⟩) y0.rows.m2 1,.slice (some ⟨5,0,none⟩) y0.rows.m3 1,.slice (some ⟨6,0,none⟩) y0.rows.m4 1,.slice (some ⟨7,0,none⟩) y0.rows.m5 1,.slice (some ⟨8,0,none⟩) y0.rows.m6 1],some (vI .i64 y0.rows.e0),some (vI .i64 y0.rows.e1),some (vI .i64 y0.rows.e2),some (vI .i64 y0.rows.e3),some (vI .i64 y0.rows.e4),some (vI .i64 y0.rows.e5),some (vI .i64 y0.rows.e6),none]=some (XrQ x):=(Xcx rfl rfl (XeS 0 _)).trans (Xbx hx)
abbrev XwA (Xaa:Xaf):List (Nat×Xc3):=[(38,s38 Xaa)]
theorem Xuk (Xaa:Xaf) (hS:XaL Try.prog (XaY (XwA Xaa))) (s:Xaw) (res:Int) (h:XfN Xaa s=some res) :
 Xa0 Try.prog 18 10 ⟨⟨18,10,[(0,.pointer (some ⟨0,0,none⟩))],[.code Xnk],[],false,none⟩,[],[(0,.row false [.int .u64 s.key.A,.int .u64 s.key.B,.slice (some ⟨1,0,none⟩) 7 1,.int .i64 s.total]),(1,.row false [.slice (some ⟨2,0,none⟩) s.rows.m0 1,.slice (some ⟨3,0,none⟩) s.rows.m1 1,.slice (some ⟨4,0,none⟩) s.rows.m2 1,.slice (some ⟨5,0,none⟩) s.rows.m3 1,.slice (some ⟨6,0,none⟩) s.rows.m4 1,.slice (some ⟨7,0,none⟩) s.rows.m5 1,.slice (some ⟨8,0,none⟩) s.rows.m6 1]),(2,.row false (vI .i64 s.rows.e0)),(3,.row false (vI .i64 s.rows.e1)),(4,.row false (vI .i64 s.rows.e2)),(5,.row false (vI .i64 s.rows.e3)),(6,.row false (vI .i64 s.rows.e4)),(7,.row false (vI .i64 s.rows.e5)),(8,.row false (vI .i64 s.rows.e6))],10⟩ (fun v H _=>Res 10 (XrQ res) v H):=by
 unfold XfN at h
 refine Xa1 XaJ hS true 3000 ?_
 conv=>whnf
 replace h:=XaK.elim h;obtain ⟨x7,hy,h⟩:=h
 refine Xbn.XaO [] (Xar («as»:=[.pointer (some ⟨0,0,none⟩)]) (ws:=[.blk 0 false,.blk 1 false,.blk 2 false,.blk 3 false,.blk 4 false,.blk 5 false,.blk 6 false,.blk 7 false,.blk 8 false,.no]) (n:=0) (m:=0) (t':=10) (Xam (Xa6 rfl rfl (Xai rfl rfl rfl rfl (Xai rfl rfl rfl rfl (Xai rfl rfl (Xat) rfl (Xai rfl rfl (Xat) rfl (Xai rfl rfl (Xat) rfl (Xai rfl rfl (Xat) rfl (Xai rfl rfl (Xat) rfl (Xai rfl rfl (Xat) rfl (Xai rfl rfl (Xat) rfl (Xan XaR)))))))))) rfl) rfl XaP) rfl (by rfl) (Xj1 hy) rfl rfl rfl rfl (Xab rfl (Xab rfl (Xab rfl (Xab rfl (Xab rfl (Xab rfl (Xab rfl (Xab rfl (Xab rfl (Xab rfl XaN)))))))))) XaM rfl) ?_
 conv=>whnf
 exact W
def XfB (Xaa:Xaf) (s:Xav):Option Int:=
 (Xaa.v8 s).bind fun x8=>
 cond (!x8)
  (
  some (0))
  (
  some (s.total))
def XqZ (x:Int):Xdj:=⟨.int .i64 x,[],[none,none,none,none,none,none,none,none,none,none]⟩
abbrev XdN:=Xav→Option Int
def Xew (g:XdN):Dec:=dTr 10 (Xb3 0) fun (y0:Xav)=>Xfq (ofG (g y0) XqZ)
theorem Xz1 {g:XdN} {y0:Xav} {x:Int} (hx:g y0=some x):Xew g [.pointer (some ⟨0,0,none⟩)] [some [.int .u64 y0.key.A,.int .u64 y0.key.B,.slice (some ⟨1,0,none⟩) 8 1,.int .i64 y0.total],some [.slice (some ⟨2,0,none⟩) y0.rows.m0 1,.slice (some ⟨3,0,none⟩) y0.rows.m1 1,.slice (some ⟨4,0,none⟩) y0.rows.m2 1,.slice (some ⟨5,0,none⟩) y0.rows.m3 1,.slice (some ⟨6,0,none⟩) y0.rows.m4 1,.slice (some ⟨7,0,none⟩) y0.rows.m5 1,.slice (some ⟨8,0,none⟩) y0.rows.m6 1,.slice (some ⟨9,0,none⟩) y0.rows.m7 1],some (vI .i64 y0.rows.e0),some (vI .i64 y0.rows.e1),some (vI .i64 y0.rows.e2),some (vI .i64 y0.rows.e3),some (vI .i64 y0.rows.e4),some (vI .i64 y0.rows.e5),some (vI .i64 y0.rows.e6),some (vI .i64 y0.rows.e7)]=some (XqZ x):=(Xcx rfl rfl (XeF 0 _)).trans (Xbx hx)
abbrev XwF (Xaa:Xaf):List (Nat×Xc3):=[(38,s38 Xaa)]
theorem Xvj (Xaa:Xaf) (hS:XaL Try.prog (XaY (XwF Xaa))) (s:Xav) (res:Int) (h:XfB Xaa s=some res) :
 Xa0 Try.prog 18 10 ⟨⟨18,10,[(0,.pointer (some ⟨0,0,none⟩))],[.code Xnk],[],false,none⟩,[],[(0,.row false [.int .u64 s.key.A,.int .u64 s.key.B,.slice (some ⟨1,0,none⟩) 8 1,.int .i64 s.total]),(1,.row false [.slice (some ⟨2,0,none⟩) s.rows.m0 1,.slice (some ⟨3,0,none⟩) s.rows.m1 1,.slice (some ⟨4,0,none⟩) s.rows.m2 1,.slice (some ⟨5,0,none⟩) s.rows.m3 1,.slice (some ⟨6,0,none⟩) s.rows.m4 1,.slice (some ⟨7,0,none⟩) s.rows.m5 1,.slice (some ⟨8,0,none⟩) s.rows.m6 1,.slice (some ⟨9,0,none⟩) s.rows.m7 1]),(2,.row false (vI .i64 s.rows.e0)),(3,.row false (vI .i64 s.rows.e1)),(4,.row false (vI .i64 s.rows.e2)),(5,.row false (vI .i64 s.rows.e3)),(6,.row false (vI .i64 s.rows.e4)),(7,.row false (vI .i64 s.rows.e5)),(8,.row false (vI .i64 s.rows.e6)),(9,.row false (vI .i64 s.rows.e7))],10⟩ (fun v H _=>Res 10 (XqZ res) v H):=by
 unfold XfB at h
 refine Xa1 XaJ hS true 3000 ?_
 conv=>whnf
 replace h:=XaK.elim h;obtain ⟨x8,hy,h⟩:=h
 refine Xbn.XaO [] (Xar («as»:=[.pointer (some ⟨0,0,none⟩)]) (ws:=[.blk 0 false,.blk 1 false,.blk 2 false,.blk 3 false,.blk 4 false,.blk 5 false,.blk 6 false,.blk 7 false,.blk 8 false,.blk 9 false]) (n:=0) (m:=0) (t':=10) (Xam (Xa6 rfl rfl (Xai rfl rfl rfl rfl (Xai rfl rfl rfl rfl (Xai rfl rfl (Xat) rfl (Xai rfl rfl (Xat) rfl (Xai rfl rfl (Xat) rfl (Xai rfl rfl (Xat) rfl (Xai rfl rfl (Xat) rfl (Xai rfl rfl (Xat) rfl (Xai rfl rfl (Xat) rfl (Xai rfl rfl (Xat) rfl XaR)))))))))) rfl) rfl XaP) rfl (by rfl) (Xj4 hy) rfl rfl rfl rfl (Xab rfl (Xab rfl (Xab rfl (Xab rfl (Xab rfl (Xab rfl (Xab rfl (Xab rfl (Xab rfl (Xab rfl XaN)))))))))) XaM rfl) ?_
 conv=>whnf
 exact W
structure Xao where
 v0:Xdp
 v1:XdC
 v2:Xdr
 v3:Xdv
 v4:XdG
 v5:Xdb
 v6:Xdl
 v7:Xdc
 v8:XdN
def s18 (g:Xao):Xc3:=⟨[.tr [⟨none,0,0,0,none⟩,⟨some 0,2,0,0,none⟩,⟨some 1,0,0,0,none⟩,⟨some 1,1,0,0,none⟩,⟨some 1,2,0,0,none⟩,⟨some 1,3,0,0,none⟩,⟨some 1,4,0,0,none⟩,⟨some 1,5,0,0,none⟩,⟨some 1,6,0,0,none⟩,⟨some 1,7,0,0,none⟩]],orD (Xm7 g.v0) (orD (Xiz g.v1) (orD (Xhp g.v2) (orD (Xgz g.v3) (orD (XfF g.v4) (orD (Xe8 g.v5) (orD (XeG g.v6) (orD (Xez g.v7) (Xew g.v8))))))))⟩
theorem XrL {g:Xao} {y0:Xax} {x:Int} (hx:g.v0 y0=some x):(s18 g).run [.pointer (some ⟨0,0,none⟩)] [some [.int .u64 y0.key.A,.int .u64 y0.key.B,.slice none 0 0,.int .i64 y0.total],none,none,none,none,none,none,none,none,none]=some (XrV x):=XeT (a:=Xm7 g.v0) (b:=orD (Xiz g.v1) (orD (Xhp g.v2) (orD (Xgz g.v3) (orD (XfF g.v4) (orD (Xe8 g.v5) (orD (XeG g.v6) (orD (Xez g.v7) (Xew g.v8)))))))) (XAM hx)
theorem XwR {g:Xao} {y0:XaH} {x:Int} (hx:g.v1 y0=some x):(s18 g).run [.pointer (some ⟨0,0,none⟩)] [some [.int .u64 y0.key.A,.int .u64 y0.key.B,.slice (some ⟨1,0,none⟩) 1 1,.int .i64 y0.total],some [.slice (some ⟨2,0,none⟩) y0.rows.m0 1],some (vI .i64 y0.rows.e0),none,none,none,none,none,none,none]=some (XqJ x):=XaZ (a:=Xm7 g.v0) (b:=orD (Xiz g.v1) (orD (Xhp g.v2) (orD (Xgz g.v3) (orD (XfF g.v4) (orD (Xe8 g.v5) (orD (XeG g.v6) (orD (Xez g.v7) (Xew g.v8)))))))) rfl (XeT (a:=Xiz g.v1) (b:=orD (Xhp g.v2) (orD (Xgz g.v3) (orD (XfF g.v4) (orD (Xe8 g.v5) (orD (XeG g.v6) (orD (Xez g.v7) (Xew g.v8))))))) (XAY hx))
theorem Xoc {g:Xao} {y0:XaG} {x:Int} (hx:g.v2 y0=some x):(s18 g).run [.pointer (some ⟨0,0,none⟩)] [some [.int .u64 y0.key.A,.int .u64 y0.key.B,.slice (some ⟨1,0,none⟩) 2 1,.int .i64 y0.total],some [.slice (some ⟨2,0,none⟩) y0.rows.m0 1,.slice (some ⟨3,0,none⟩) y0.rows.m1 1],some (vI .i64 y0.rows.e0),some (vI .i64 y0.rows.e1),none,none,none,none,none,none]=some (Xq6 x):=XaZ (a:=Xm7 g.v0) (b:=orD (Xiz g.v1) (orD (Xhp g.v2) (orD (Xgz g.v3) (orD (XfF g.v4) (orD (Xe8 g.v5) (orD (XeG g.v6) (orD (Xez g.v7) (Xew g.v8)))))))) rfl (XaZ (a:=Xiz g.v1) (b:=orD (Xhp g.v2) (orD (Xgz g.v3) (orD (XfF g.v4) (orD (Xe8 g.v5) (orD (XeG g.v6) (orD (Xez g.v7) (Xew g.v8))))))) rfl (XeT (a:=Xhp g.v2) (b:=orD (Xgz g.v3) (orD (XfF g.v4) (orD (Xe8 g.v5) (orD (XeG g.v6) (orD (Xez g.v7) (Xew g.v8)))))) (XB7 hx)))
theorem XwL {g:Xao} {y0:XaF} {x:Int} (hx:g.v3 y0=some x):(s18 g).run [.pointer (some ⟨0,0,none⟩)] [some [.int .u64 y0.key.A,.int .u64 y0.key.B,.slice (some ⟨1,0,none⟩) 3 1,.int .i64 y0.total],some [.slice (some ⟨2,0,none⟩) y0.rows.m0 1,.slice (some ⟨3,0,none⟩) y0.rows.m1 1,.slice (some ⟨4,0,none⟩) y0.rows.m2 1],some (vI .i64 y0.rows.e0),some (vI .i64 y0.rows.e1),some (vI .i64 y0.rows.e2),none,none,none,none,none]=some (XqH x):=XaZ (a:=Xm7 g.v0) (b:=orD (Xiz g.v1) (orD (Xhp g.v2) (orD (Xgz g.v3) (orD (XfF g.v4) (orD (Xe8 g.v5) (orD (XeG g.v6) (orD (Xez g.v7) (Xew g.v8)))))))) rfl (XaZ (a:=Xiz g.v1) (b:=orD (Xhp g.v2) (orD (Xgz g.v3) (orD (XfF g.v4) (orD (Xe8 g.v5) (orD (XeG g.v6) (orD (Xez g.v7) (Xew g.v8))))))) rfl (XaZ (a:=Xhp g.v2) (b:=orD (Xgz g.v3) (orD (XfF g.v4) (orD (Xe8 g.v5) (orD (XeG g.v6) (orD (Xez g.v7) (Xew g.v8)))))) rfl (XeT (a:=Xgz g.v3) (b:=orD (XfF g.v4) (orD (Xe8 g.v5) (orD (XeG g.v6) (orD (Xez g.v7) (Xew g.v8))))) (XzZ hx))))
theorem Xwi {g:Xao} {y0:XaC} {x:Int} (hx:g.v4 y0=some x):(s18 g).run [.pointer (some ⟨0,0,none⟩)] [some [.int .u64 y0.key.A,.int .u64 y0.key.B,.slice (some ⟨1,0,none⟩) 4 1,.int .i64 y0.total],some [.slice (some ⟨2,0,none⟩) y0.rows.m0 1,.slice (some ⟨3,0,none⟩) y0.rows.m1 1,.slice (some ⟨4,0,none⟩) y0.rows.m2 1,.slice (some ⟨5,0,none⟩) y0.rows.m3 1],some (vI .i64 y0.rows.e0),some (vI .i64 y0.rows.e1),some (vI .i64 y0.rows.e2),some (vI .i64 y0.rows.e3),none,none,none,none]=some (XqF x):=XaZ (a:=Xm7 g.v0) (b:=orD (Xiz g.v1) (orD (Xhp g.v2) (orD (Xgz g.v3) (orD (XfF g.v4) (orD (Xe8 g.v5) (orD (XeG g.v6) (orD (Xez g.v7) (Xew g.v8)))))))) rfl (XaZ (a:=Xiz g.v1) (b:=orD (Xhp g.v2) (orD (Xgz g.v3) (orD (XfF g.v4) (orD (Xe8 g.v5) (orD (XeG g.v6) (orD (Xez g.v7) (Xew g.v8))))))) rfl (XaZ (a:=Xhp g.v2) (b:=orD (Xgz g.v3) (orD (XfF g.v4) (orD (Xe8 g.v5) (orD (XeG g.v6) (orD (Xez g.v7) (Xew g.v8)))))) rfl (XaZ (a:=Xgz g.v3) (b:=orD (XfF g.v4) (orD (Xe8 g.v5) (orD (XeG g.v6) (orD (Xez g.v7) (Xew g.v8))))) rfl (XeT (a:=XfF g.v4) (b:=orD (Xe8 g.v5) (orD (XeG g.v6) (orD (Xez g.v7) (Xew g.v8)))) (XBi hx)))))
theorem Xwa {g:Xao} {y0:XaB} {x:Int} (hx:g.v5 y0=some x):(s18 g).run [.pointer (some ⟨0,0,none⟩)] [some [.int .u64 y0.key.A,.int .u64 y0.key.B,.slice (some ⟨1,0,none⟩) 5 1,.int .i64 y0.total],some [.slice (some ⟨2,0,none⟩) y0.rows.m0 1,.slice (some ⟨3,0,none⟩) y0.rows.m1 1,.slice (some ⟨4,0,none⟩) y0.rows.m2 1,.slice (some ⟨5,0,none⟩) y0.rows.m3 1,.slice (some ⟨6,0,none⟩) y0.rows.m4 1],some (vI .i64 y0.rows.e0),some (vI .i64 y0.rows.e1),some (vI .i64 y0.rows.e2),some (vI .i64 y0.rows.e3),some (vI .i64 y0.rows.e4),none,none,none]=some (Xrd x):=XaZ (a:=Xm7 g.v0) (b:=orD (Xiz g.v1) (orD (Xhp g.v2) (orD (Xgz g.v3) (orD (XfF g.v4) (orD (Xe8 g.v5) (orD (XeG g.v6) (orD (Xez g.v7) (Xew g.v8)))))))) rfl (XaZ (a:=Xiz g.v1) (b:=orD (Xhp g.v2) (orD (Xgz g.v3) (orD (XfF g.v4) (orD (Xe8 g.v5) (orD (XeG g.v6) (orD (Xez g.v7) (Xew g.v8))))))) rfl (XaZ (a:=Xhp g.v2) (b:=orD (Xgz g.v3) (orD (XfF g.v4) (orD (Xe8 g.v5) (orD (XeG g.v6) (orD (Xez g.v7) (Xew g.v8)))))) rfl (XaZ (a:=Xgz g.v3) (b:=orD (XfF g.v4) (orD (Xe8 g.v5) (orD (XeG g.v6) (orD (Xez g.v7) (Xew g.v8))))) rfl (XaZ (a:=XfF g.v4) (b:=orD (Xe8 g.v5) (orD (XeG g.v6) (orD (Xez g.v7) (Xew g.v8)))) rfl (XeT (a:=Xe8 g.v5) (b:=orD (XeG g.v6) (orD (Xez g.v7) (Xew g.v8))) (Xz9 hx))))))
theorem Xwf {g:Xao} {y0:Xay} {x:Int} (hx:g.v6 y0=some x):(s18 g).run [.pointer (some ⟨0,0,none⟩)] [some [.int .u64 y0.key.A,.int .u64 y0.key.B,.slice (some ⟨1,0,none⟩) 6 1,.int .i64 y0.total],some [.slice (some ⟨2,0,none⟩) y0.rows.m0 1,.slice (some ⟨3,0,none⟩) y0.rows.m1 1,.slice (some ⟨4,0,none⟩) y0.rows.m2 1,.slice (some ⟨5,0,none⟩) y0.rows.m3 1,.slice (some ⟨6,0,none⟩) y0.rows.m4 1,.slice (some ⟨7,0,none⟩) y0.rows.m5 1],some (vI .i64 y0.rows.e0),some (vI .i64 y0.rows.e1),some (vI .i64 y0.rows.e2),some (vI .i64 y0.rows.e3),some (vI .i64 y0.rows.e4),some (vI .i64 y0.rows.e5),none,none]=some (Xqq x):=XaZ (a:=Xm7 g.v0) (b:=orD (Xiz g.v1) (orD (Xhp g.v2) (orD (Xgz g.v3) (orD (XfF g.v4) (orD (Xe8 g.v5) (orD (XeG g.v6) (orD (Xez g.v7) (Xew g.v8)))))))) rfl (XaZ (a:=Xiz g.v1) (b:=orD (Xhp g.v2) (orD (Xgz g.v3) (orD (XfF g.v4) (orD (Xe8 g.v5) (orD (XeG g.v6) (orD (Xez g.v7) (Xew g.v8))))))) rfl (XaZ (a:=Xhp g.v2) (b:=orD (Xgz g.v3) (orD (XfF g.v4) (orD (Xe8 g.v5) (orD (XeG g.v6) (orD (Xez g.v7) (Xew g.v8)))))) rfl (XaZ (a:=Xgz g.v3) (b:=orD (XfF g.v4) (orD (Xe8 g.v5) (orD (XeG g.v6) (orD (Xez g.v7) (Xew g.v8))))) rfl (XaZ (a:=XfF g.v4) (b:=orD (Xe8 g.v5) (orD (XeG g.v6) (orD (Xez g.v7) (Xew g.v8)))) rfl (XaZ (a:=Xe8 g.v5) (b:=orD (XeG g.v6) (orD (Xez g.v7) (Xew g.v8))) rfl (XeT (a:=XeG g.v6) (b:=orD (Xez g.v7) (Xew g.v8)) (XAd hx)))))))
theorem Xv0 {g:Xao} {y0:Xaw} {x:Int} (hx:g.v7 y0=some x):(s18 g).run [.pointer (some ⟨0,0,none⟩)] [some [.int .u64 y0.key.A,.int .u64 y0.key.B,.slice (some ⟨1,0,none⟩) 7 1,.int .i64 y0.total],some [.slice (some ⟨2,0,none⟩) y0.rows.m0 1,.slice (some ⟨3,0,none⟩) y0.rows.m1 1,.slice (some ⟨4,0,none⟩) y0.rows.m2 1,.slice (some ⟨5,0,none⟩) y0.rows.m3 1,.slice (some ⟨6,0,none⟩) y0.rows.m4 1,.slice (some ⟨7,0,none⟩) y0.rows.m5 1,.slice (some ⟨8,0,none⟩) y0.rows.m6 1],some (vI .i64 y0.rows.e0),some (vI .i64 y0.rows.e1),some (vI .i64 y0.rows.e2),some (vI .i64 y0.rows.e3),some (vI .i64 y0.rows.e4),some (vI .i64 y0.rows.e5),some (vI .i64 y0.rows.e6),none]=some (XrQ x):=XaZ (a:=Xm7 g.v0) (b:=orD (Xiz g.v1) (orD (Xhp g.v2) (orD (Xgz g.v3) (orD (XfF g.v4) (orD (Xe8 g.v5) (orD (XeG g.v6) (orD (Xez g.v7) (Xew g.v8)))))))) rfl (XaZ (a:=Xiz g.v1) (b:=orD (Xhp g.v2) (orD (Xgz g.v3) (orD (XfF g.v4) (orD (Xe8 g.v5) (orD (XeG g.v6) (orD (Xez g.v7) (Xew g.v8))))))) rfl (XaZ (a:=Xhp g.v2) (b:=orD (Xgz g.v3) (orD (XfF g.v4) (orD (Xe8 g.v5) (orD (XeG g.v6) (orD (Xez g.v7) (Xew g.v8)))))) rfl (XaZ (a:=Xgz g.v3) (b:=orD (XfF g.v4) (orD (Xe8 g.v5) (orD (XeG g.v6) (orD (Xez g.v7) (Xew g.v8))))) rfl (XaZ (a:=XfF g.v4) (b:=orD (Xe8 g.v5) (orD (XeG g.v6) (orD (Xez g.v7) (Xew g.v8)))) rfl (XaZ (a:=Xe8 g.v5) (b:=orD (XeG g.v6) (orD (Xez g.v7) (Xew g.v8))) rfl (XaZ (a:=XeG g.v6) (b:=orD (Xez g.v7) (Xew g.v8)) rfl (XeT (a:=Xez g.v7) (b:=Xew g.v8) (XAO hx))))))))
theorem XxT {g:Xao} {y0:Xav} {x:Int} (hx:g.v8 y0=some x):(s18 g).run [.pointer (some ⟨0,0,none⟩)] [some [.int .u64 y0.key.A,.int .u64 y0.key.B,.slice (some ⟨1,0,none⟩) 8 1,.int .i64 y0.total],some [.slice (some ⟨2,0,none⟩) y0.rows.m0 1,.slice (some ⟨3,0,none⟩) y0.rows.m1 1,.slice (some ⟨4,0,none⟩) y0.rows.m2 1,.slice (some ⟨5,0,none⟩) y0.rows.m3 1,.slice (some ⟨6,0,none⟩) y0.rows.m4 1,.slice (some ⟨7,0,none⟩) y0.rows.m5 1,.slice (some ⟨8,0,none⟩) y0.rows.m6 1,.slice (some ⟨9,0,none⟩) y0.rows.m7 1],some (vI .i64 y0.rows.e0),some (vI .i64 y0.rows.e1),some (vI .i64 y0.rows.e2),some (vI .i64 y0.rows.e3),some (vI .i64 y0.rows.e4),some (vI .i64 y0.rows.e5),some (vI .i64 y0.rows.e6),some (vI .i64 y0.rows.e7)]=some (XqZ x):=XaZ (a:=Xm7 g.v0) (b:=orD (Xiz g.v1) (orD (Xhp g.v2) (orD (Xgz g.v3) (orD (XfF g.v4) (orD (Xe8 g.v5) (orD (XeG g.v6) (orD (Xez g.v7) (Xew g.v8)))))))) rfl (XaZ (a:=Xiz g.v1) (b:=orD (Xhp g.v2) (orD (Xgz g.v3) (orD (XfF g.v4) (orD (Xe8 g.v5) (orD (XeG g.v6) (orD (Xez g.v7) (Xew g.v8))))))) rfl (XaZ (a:=Xhp g.v2) (b:=orD (Xgz g.v3) (orD (XfF g.v4) (orD (Xe8 g.v5) (orD (XeG g.v6) (orD (Xez g.v7) (Xew g.v8)))))) rfl (XaZ (a:=Xgz g.v3) (b:=orD (XfF g.v4) (orD (Xe8 g.v5) (orD (XeG g.v6) (orD (Xez g.v7) (Xew g.v8))))) rfl (XaZ (a:=XfF g.v4) (b:=orD (Xe8 g.v5) (orD (XeG g.v6) (orD (Xez g.v7) (Xew g.v8)))) rfl (XaZ (a:=Xe8 g.v5) (b:=orD (XeG g.v6) (orD (Xez g.v7) (Xew g.v8))) rfl (XaZ (a:=XeG g.v6) (b:=orD (Xez g.v7) (Xew g.v8)) rfl (XaZ (a:=Xez g.v7) (b:=Xew g.v8) rfl (Xz1 hx))))))))
def Xjn:Xdp:=XfG Xaa
def Xi9:XdC:=XfY Xaa
def Xji:Xdr:=XfA Xaa
def XjF:Xdv:=Xf1 Xaa
def XjD:XdG:=XfZ Xaa
def Xi6:Xdb:=XfS Xaa
def XjK:Xdl:=XfD Xaa
def Xi3:Xdc:=XfN Xaa
def Xjc:XdN:=XfB Xaa
def Xad:Xao:=⟨Xjn,Xi9,Xji,XjF,XjD,Xi6,XjK,Xi3,Xjc⟩
theorem XCW:Xgx Try.prog 18 (s18 Xad):=by
 have L0:=Xvr Xaa (XaL.Xbk ⟨Xcs,trivial⟩)
 have L1:=Xs8 Xaa (XaL.Xbk ⟨Xcs,trivial⟩)
 have L2:=XuW Xaa (XaL.Xbk ⟨Xcs,trivial⟩)
 have L3:=Xs6 Xaa (XaL.Xbk ⟨Xcs,trivial⟩)
 have L4:=XtV Xaa (XaL.Xbk ⟨Xcs,trivial⟩)
 have L5:=XuV Xaa (XaL.Xbk ⟨Xcs,trivial⟩)
 have L6:=XvA Xaa (XaL.Xbk ⟨Xcs,trivial⟩)
 have L7:=Xuk Xaa (XaL.Xbk ⟨Xcs,trivial⟩)
 have L8:=Xvj Xaa (XaL.Xbk ⟨Xcs,trivial⟩)
 refine Xgx.XiG XaJ (fun ar os r ha hr=>?_) ⟨Try.f18,rfl,by decide,rfl⟩
 generalize hc:XhF os=C at hr
 replace hr:=orD.elim hr;rcases hr with hr|hr
 ·skip
  have hq:=dTr.elim hr;clear hr;obtain ⟨v0,l1,c0,C,y0,rfl,rfl,e0,hr⟩:=hq;obtain ⟨rfl,rfl⟩:=Xc1 e0;simp only [List.nil_append,List.cons_append] at hc
  replace hr:=Xhd hr;obtain ⟨rfl,rfl,x,h,rfl⟩:=hr
  replace ha:=Xag ha hc;obtain ⟨os,rfl,ha,hc⟩:=ha
  replace ha:=Xaj ha hc;obtain ⟨os,rfl,ha,hc⟩:=ha
  replace ha:=Xaj ha hc;obtain ⟨os,rfl,ha,hc⟩:=ha
  replace ha:=Xaj ha hc;obtain ⟨os,rfl,ha,hc⟩:=ha
  replace ha:=Xaj ha hc;obtain ⟨os,rfl,ha,hc⟩:=ha
  replace ha:=Xaj ha hc;obtain ⟨os,rfl,ha,hc⟩:=ha
  replace ha:=Xaj ha hc;obtain ⟨os,rfl,ha,hc⟩:=ha
  replace ha:=Xaj ha hc;obtain ⟨os,rfl,ha,hc⟩:=ha
  replace ha:=Xaj ha hc;obtain ⟨os,rfl,ha,hc⟩:=ha
  replace ha:=Xaj ha hc;obtain ⟨os,rfl,ha,hc⟩:=ha
  obtain rfl:=Xa5 hc
  exact ⟨_,rfl,L0 _ x h⟩
 replace hr:=orD.elim hr;rcases hr with hr|hr
 ·skip
  have hq:=dTr.elim hr;clear hr;obtain ⟨v0,l1,c0,C,y0,rfl,rfl,e0,hr⟩:=hq;obtain ⟨rfl,rfl⟩:=Xcn e0;simp only [List.nil_append,List.cons_append] at hc
  replace hr:=Xhd hr;obtain ⟨rfl,rfl,x,h,rfl⟩:=hr
  replace ha:=Xag ha hc;obtain ⟨os,rfl,ha,hc⟩:=ha
  replace ha:=Xag ha hc;obtain ⟨os,rfl,ha,hc⟩:=ha
  replace ha:=Xag ha hc;obtain ⟨os,rfl,ha,hc⟩:=ha
  replace ha:=Xaj ha hc;obtain ⟨os,rfl,ha,hc⟩:=ha
  replace ha:=Xaj ha hc;obtain ⟨os,rfl,ha,hc⟩:=ha
  replace ha:=Xaj ha hc;obtain ⟨os,rfl,ha,hc⟩:=ha
  replace ha:=Xaj ha hc;obtain ⟨os,rfl,ha,hc⟩:=ha
  replace ha:=Xaj ha hc;obtain ⟨os,rfl,ha,hc⟩:=ha
  replace ha:=Xaj ha hc;obtain ⟨os,rfl,ha,hc⟩:=ha
  replace ha:=Xaj ha hc;obtain ⟨os,rfl,ha,hc⟩:=ha
  obtain rfl:=Xa5 hc
  exact ⟨_,rfl,L1 _ x h⟩
 replace hr:=orD.elim hr;rcases hr with hr|hr
 ·skip
  have hq:=dTr.elim hr;clear hr;obtain ⟨v0,l1,c0,C,y0,rfl,rfl,e0,hr⟩:=hq;obtain ⟨rfl,rfl⟩:=Xcp e0;simp only [List.nil_append,List.cons_append] at hc
  replace hr:=Xhd hr;obtain ⟨rfl,rfl,x,h,rfl⟩:=hr
  replace ha:=Xag ha hc;obtain ⟨os,rfl,ha,hc⟩:=ha
  replace ha:=Xag ha hc;obtain ⟨os,rfl,ha,hc⟩:=ha
  replace ha:=Xag ha hc;obtain ⟨os,rfl,ha,hc⟩:=ha
  replace ha:=Xag ha hc;obtain ⟨os,rfl,ha,hc⟩:=ha
  replace ha:=Xaj ha hc;obtain ⟨os,rfl,ha,hc⟩:=ha
  replace ha:=Xaj ha hc;obtain ⟨os,rfl,ha,hc⟩:=ha
  replace ha:=Xaj ha hc;obtain ⟨os,rfl,ha,hc⟩:=ha
  replace ha:=Xaj ha hc;obtain ⟨os,rfl,ha,hc⟩:=ha
  replace ha:=Xaj ha hc;obtain ⟨os,rfl,ha,hc⟩:=ha
  replace ha:=Xaj ha hc;obtain ⟨os,rfl,ha,hc⟩:=ha
  obtain rfl:=Xa5 hc
  exact ⟨_,rfl,L2 _ x h⟩
 replace hr:=orD.elim hr;rcases hr with hr|hr
 ·skip
  have hq:=dTr.elim hr;clear hr;obtain ⟨v0,l1,c0,C,y0,rfl,rfl,e0,hr⟩:=hq;obtain ⟨rfl,rfl⟩:=Xce e0;simp only [List.nil_append,List.cons_append] at hc
  replace hr:=Xhd hr;obtain ⟨rfl,rfl,x,h,rfl⟩:=hr
  replace ha:=Xag ha hc;obtain ⟨os,rfl,ha,hc⟩:=ha
  replace ha:=Xag ha hc;obtain ⟨os,rfl,ha,hc⟩:=ha
  replace ha:=Xag ha hc;obtain ⟨os,rfl,ha,hc⟩:=ha
  replace ha:=Xag ha hc;obtain ⟨os,rfl,ha,hc⟩:=ha
  replace ha:=Xag ha hc;obtain ⟨os,rfl,ha,hc⟩:=ha
  replace ha:=Xaj ha hc;obtain ⟨os,rfl,ha,hc⟩:=ha
  replace ha:=Xaj ha hc;obtain ⟨os,rfl,ha,hc⟩:=ha
  replace ha:=Xaj ha hc;obtain ⟨os,rfl,ha,hc⟩:=ha
  replace ha:=Xaj ha hc;obtain ⟨os,rfl,ha,hc⟩:=ha
  replace ha:=Xaj ha hc;obtain ⟨os,rfl,ha,hc⟩:=ha
  obtain rfl:=Xa5 hc
  exact ⟨_,rfl,L3 _ x h⟩
 replace hr:=orD.elim hr;rcases hr with hr|hr
 ·skip
  have hq:=dTr.elim hr;clear hr;obtain ⟨v0,l1,c0,C,y0,rfl,rfl,e0,hr⟩:=hq;obtain ⟨rfl,rfl⟩:=Xci e0;simp only [List.nil_append,List.cons_append] at hc
  replace hr:=Xhd hr;obtain ⟨rfl,rfl,x,h,rfl⟩:=hr
  replace ha:=Xag ha hc;obtain ⟨os,rfl,ha,hc⟩:=ha
  replace ha:=Xag ha hc;obtain ⟨os,rfl,ha,hc⟩:=ha
  replace ha:=Xag ha hc;obtain ⟨os,rfl,ha,hc⟩:=ha
  replace ha:=Xag ha hc;obtain ⟨os,rfl,ha,hc⟩:=ha
  replace ha:=Xag ha hc;obtain ⟨os,rfl,ha,hc⟩:=ha
  replace ha:=Xag ha hc;obtain ⟨os,rfl,ha,hc⟩:=ha
  replace ha:=Xaj ha hc;obtain ⟨os,rfl,ha,hc⟩:=ha
  replace ha:=Xaj ha hc;obtain ⟨os,rfl,ha,hc⟩:=ha
  replace ha:=Xaj ha hc;obtain ⟨os,rfl,ha,hc⟩:=ha
  replace ha:=Xaj ha hc;obtain ⟨os,rfl,ha,hc⟩:=ha
  obtain rfl:=Xa5 hc
  exact ⟨_,rfl,L4 _ x h⟩
 replace hr:=orD.elim hr;rcases hr with hr|hr
 ·skip
  have hq:=dTr.elim hr;clear hr;obtain ⟨v0,l1,c0,C,y0,rfl,rfl,e0,hr⟩:=hq;obtain ⟨rfl,rfl⟩:=Xcg e0;simp only [List.nil_append,List.cons_append] at hc
  replace hr:=Xhd hr;obtain ⟨rfl,rfl,x,h,rfl⟩:=hr
  replace ha:=Xag ha hc;obtain ⟨os,rfl,ha,hc⟩:=ha
  replace ha:=Xag ha hc;obtain ⟨os,rfl,ha,hc⟩:=ha
  replace ha:=Xag ha hc;obtain ⟨os,rfl,ha,hc⟩:=ha
  replace ha:=Xag ha hc;obtain ⟨os,rfl,ha,hc⟩:=ha
  replace ha:=Xag ha hc;obtain ⟨os,rfl,ha,hc⟩:=ha
  replace ha:=Xag ha hc;obtain ⟨os,rfl,ha,hc⟩:=ha
  replace ha:=Xag ha hc;obtain ⟨os,rfl,ha,hc⟩:=ha
  replace ha:=Xaj ha hc;obtain ⟨os,rfl,ha,hc⟩:=ha
  replace ha:=Xaj ha hc;obtain ⟨os,rfl,ha,hc⟩:=ha
  replace ha:=Xaj ha hc;obtain ⟨os,rfl,ha,hc⟩:=ha
  obtain rfl:=Xa5 hc
  exact ⟨_,rfl,L5 _ x h⟩
 replace hr:=orD.elim hr;rcases hr with hr|hr
 ·skip
  have hq:=dTr.elim hr;clear hr;obtain ⟨v0,l1,c0,C,y0,rfl,rfl,e0,hr⟩:=hq;obtain ⟨rfl,rfl⟩:=Xcc e0;simp only [List.nil_append,List.cons_append] at hc
  replace hr:=Xhd hr;obtain ⟨rfl,rfl,x,h,rfl⟩:=hr
  replace ha:=Xag ha hc;obtain ⟨os,rfl,ha,hc⟩:=ha
  replace ha:=Xag ha hc;obtain ⟨os,rfl,ha,hc⟩:=ha
  replace ha:=Xag ha hc;obtain ⟨os,rfl,ha,hc⟩:=ha
  replace ha:=Xag ha hc;obtain ⟨os,rfl,ha,hc⟩:=ha
  replace ha:=Xag ha hc;obtain ⟨os,rfl,ha,hc⟩:=ha
  replace ha:=Xag ha hc;obtain ⟨os,rfl,ha,hc⟩:=ha
  replace ha:=Xag ha hc;obtain ⟨os,rfl,ha,hc⟩:=ha
  replace ha:=Xag ha hc;obtain ⟨os,rfl,ha,hc⟩:=ha
  replace ha:=Xaj ha hc;obtain ⟨os,rfl,ha,hc⟩:=ha
  replace ha:=Xaj ha hc;obtain ⟨os,rfl,ha,hc⟩:=ha
  obtain rfl:=Xa5 hc
  exact ⟨_,rfl,L6 _ x h⟩
 replace hr:=orD.elim hr;rcases hr with hr|hr
 ·skip
  have hq:=dTr.elim hr;clear hr;obtain ⟨v0,l1,c0,C,y0,rfl,rfl,e0,hr⟩:=hq;obtain ⟨rfl,rfl⟩:=Xcd e0;simp only [List.nil_append,List.cons_append] at hc
  replace hr:=Xhd hr;obtain ⟨rfl,rfl,x,h,rfl⟩:=hr
  replace ha:=Xag ha hc;obtain ⟨os,rfl,ha,hc⟩:=ha
  replace ha:=Xag ha hc;obtain ⟨os,rfl,ha,hc⟩:=ha
  replace ha:=Xag ha hc;obtain ⟨os,rfl,ha,hc⟩:=ha
  replace ha:=Xag ha hc;obtain ⟨os,rfl,ha,hc⟩:=ha
  replace ha:=Xag ha hc;obtain ⟨os,rfl,ha,hc⟩:=ha
  replace ha:=Xag ha hc;obtain ⟨os,rfl,ha,hc⟩:=ha
  replace ha:=Xag ha hc;obtain ⟨os,rfl,ha,hc⟩:=ha
  replace ha:=Xag ha hc;obtain ⟨os,rfl,ha,hc⟩:=ha
  replace ha:=Xag ha hc;obtain ⟨os,rfl,ha,hc⟩:=ha
  replace ha:=Xaj ha hc;obtain ⟨os,rfl,ha,hc⟩:=ha
  obtain rfl:=Xa5 hc
  exact ⟨_,rfl,L7 _ x h⟩
 have hq:=dTr.elim hr;clear hr;obtain ⟨v0,l1,c0,C,y0,rfl,rfl,e0,hr⟩:=hq;obtain ⟨rfl,rfl⟩:=Xck e0;simp only [List.nil_append,List.cons_append] at hc
 replace hr:=Xhd hr;obtain ⟨rfl,rfl,x,h,rfl⟩:=hr
 replace ha:=Xag ha hc;obtain ⟨os,rfl,ha,hc⟩:=ha
 replace ha:=Xag ha hc;obtain ⟨os,rfl,ha,hc⟩:=ha
 replace ha:=Xag ha hc;obtain ⟨os,rfl,ha,hc⟩:=ha
 replace ha:=Xag ha hc;obtain ⟨os,rfl,ha,hc⟩:=ha
 replace ha:=Xag ha hc;obtain ⟨os,rfl,ha,hc⟩:=ha
 replace ha:=Xag ha hc;obtain ⟨os,rfl,ha,hc⟩:=ha
 replace ha:=Xag ha hc;obtain ⟨os,rfl,ha,hc⟩:=ha
 replace ha:=Xag ha hc;obtain ⟨os,rfl,ha,hc⟩:=ha
 replace ha:=Xag ha hc;obtain ⟨os,rfl,ha,hc⟩:=ha
 replace ha:=Xag ha hc;obtain ⟨os,rfl,ha,hc⟩:=ha
 obtain rfl:=Xa5 hc
 exact ⟨_,rfl,L8 _ x h⟩
end Go.Vm.Code
namespace Go.Vm.Code
open Go Go.Vm
set_option maxHeartbeats 4000000
theorem Xf7 {α:Type} {pl:Option Int} {q m p:Nat} {row:List Int} {K:Int→Option α} (hp:pl=some (q:Int)) (hq:q<p) (hm:m=p) (hl:row.length=p) :
 (pl.bind fun x=>XaU (decide ((0:Int)≤x∧x<(m:Int)))<|(row[x.toNat]?).bind fun (e:Int)=>K e)=K (row.getD q 0):=by
 subst hp hm
 rw [Option.bind_some,XaX (by omega),Int.toNat_natCast,List.getD_eq_getElem?_getD,List.getElem?_eq_getElem (by omega),Option.bind_some];rfl
theorem sN {n:Int} (h:0≤n) (h2:n≤1099511627776) {N:Int} (hN:0≤N∧N≤1048576):(if wI .i64 (n+N)<1099511627776 then wI .i64 (n+N) else 1099511627776)=cap (n+N):=by rw [Xfn (by omega) (by omega)];rfl
theorem XdU {e:Xaz} (h:e.N<0∨1048576<e.N):XkG e=false:=by unfold XkG;exact decide_eq_false (by omega)
theorem Xgw {e:Xaz} (h:¬ e.N<0) (h2:¬ 1048576<e.N):XkG e=true:=by unfold XkG;exact decide_eq_true (by omega)
theorem Xe3 {k:XaD} {p:Nat} {x:SkS} {e:Xaz} (h:XkG e=false):stepS k p x e=x:=by unfold stepS;rw [h];rfl
theorem Xhs {k:XaD} {p:Nat} {x:SkS} {e:Xaz} (h:XkG e=true):stepS k p x e=⟨fun i=>XqX k p e.Text e.N i (x.R i),cap (x.tot+e.N)⟩:=by unfold stepS;rw [h];rfl
def Xyt (k:XaD) (p:Nat) (x:SkS):XaH:=⟨k,⟨x.R 0,p⟩,x.tot⟩
theorem Xpc {k:XaD} {p:Nat} (hp:1≤p∧p≤4096) (s:XaH) (hk:s.key=k) (hm:s.rows.m0=p) {t:List UInt8} (ht:t.length≤20) (i:Nat) (hi:i<1):Xga s i t=some (plN k p i t:Int):=by
 unfold Xga Xem
 rw [show Xaa.v1 s=some true from rfl,Option.bind_some,show (!true)=false from rfl,cond_false,Xbd (by omega),Xbd (by omega),hk,XiU ht,Option.bind_some,XaX (by omega),Int.toNat_natCast]
 obtain rfl:i=0:=by omega
 ·show (Xas _ (s.rows.m0:Int)).bind _=_;rw [hm,Xc4 hp.1 hp.2];rfl
theorem XAF {k:XaD} {p:Nat} (hp:1≤p∧p≤4096) {x:SkS} (hx:Xh1 p x) {e:Xaz} (he:e.Text.length≤20):XgU (Xyt k p x) e.Text e.N=some (XkG e,Xyt k p (stepS k p x e)):=by
 unfold XgU XeZ
 rw [show Xaa.v1 (Xyt k p x)=some true from rfl,Option.bind_some,show (!true)=false from rfl,cond_false]
 by_cases h1:e.N<0
 ·rw [Xcl h1,XdU (.inl h1),Xe3 (XdU (.inl h1))]
 rw [Xbd h1]
 by_cases h2:e.N>1048576
 ·rw [Xcl h2,XdU (.inr h2),Xe3 (XdU (.inr h2))]
 have hN:0≤e.N∧e.N≤1048576:=by omega
 rw [Xbd h2,Xgw h1 h2,Xhs (Xgw h1 h2)]
 have l0:=hx.len 0
 have q0:=Xbm hp.1 k 0 e.Text
 have b0:=hx.rng 0 _ (List.getElem_mem (l:=x.R 0) (n:=plN k p 0 e.Text) (by omega))
 have g0:(x.R 0).getD (plN k p 0 e.Text) 0=(x.R 0)[plN k p 0 e.Text]:=by rw [List.getD_eq_getElem?_getD,List.getElem?_eq_getElem (by omega)];rfl
 have w0:∀ s:XaH,s.key=k→(s.rows.m0=p)→Xae.v1 s 0 e.Text=some (plN k p 0 e.Text:Int):=fun s h1 h2=>Xpc hp s h1 h2 he 0 (by decide)
 unfold Xyt
 dsimp only
 rw [w0 _ (by rfl) (by rfl),Option.bind_some,XaX (by omega),Int.toNat_natCast,List.getElem?_eq_getElem (by omega),Option.bind_some,Xfn (n:=(x.R 0)[plN k p 0 e.Text]+e.N) (by omega) (by omega),XaX (by omega)]
 rw [sN hx.tot.1 hx.tot.2 hN]
 unfold XqX
 rw [g0];rfl
theorem Xvi {k:XaD} {p:Nat} (hp:1≤p∧p≤4096) {x:SkS} (hx:Xh1 p x) {t:List UInt8} (ht:t.length≤20):Xgm (Xyt k p x) t=some (Xmo k p x t 1):=by
 unfold Xgm Xd9
 rw [show Xaa.v1 (Xyt k p x)=some true from rfl,Option.bind_some,show (!true)=false from rfl,cond_false]
 refine Eq.trans (Xf7 (Xpc hp _ (by rfl) (by rfl) ht 0 (by decide)) (Xbm hp.1 _ _ _) (by rfl) (hx.len 0)) ?_
 rfl
def Xyz (k:XaD) (p:Nat) (x:SkS):XaG:=⟨k,⟨x.R 0,x.R 1,p,p⟩,x.tot⟩
theorem Xk8 {k:XaD} {p:Nat} (hp:1≤p∧p≤4096) (s:XaG) (hk:s.key=k) (hm:s.rows.m0=p∧s.rows.m1=p) {t:List UInt8} (ht:t.length≤20) (i:Nat) (hi:i<2):Xgr s i t=some (plN k p i t:Int):=by
 unfold Xgr Xeo
 rw [show Xaa.v2 s=some true from rfl,Option.bind_some,show (!true)=false from rfl,cond_false,Xbd (by omega),Xbd (by omega),hk,XiU ht,Option.bind_some,XaX (by omega),Int.toNat_natCast]
 obtain rfl|rfl:i=0∨i=1:=by omega
 ·show (Xas _ (s.rows.m0:Int)).bind _=_;rw [hm.1,Xc4 hp.1 hp.2];rfl
 ·show (Xas _ (s.rows.m1:Int)).bind _=_;rw [hm.2,Xc4 hp.1 hp.2];rfl
theorem XAP {k:XaD} {p:Nat} (hp:1≤p∧p≤4096) {x:SkS} (hx:Xh1 p x) {e:Xaz} (he:e.Text.length≤20):XgN (Xyz k p x) e.Text e.N=some (XkG e,Xyz k p (stepS k p x e)):=by
 unfold XgN Xe4
 rw [show Xaa.v2 (Xyz k p x)=some true from rfl,Option.bind_some,show (!true)=false from rfl,cond_false]
 by_cases h1:e.N<0
 ·rw [Xcl h1,XdU (.inl h1),Xe3 (XdU (.inl h1))]
 rw [Xbd h1]
 by_cases h2:e.N>1048576
 ·rw [Xcl h2,XdU (.inr h2),Xe3 (XdU (.inr h2))]
 have hN:0≤e.N∧e.N≤1048576:=by omega
 rw [Xbd h2,Xgw h1 h2,Xhs (Xgw h1 h2)]
 have l0:=hx.len 0
 have q0:=Xbm hp.1 k 0 e.Text
 have b0:=hx.rng 0 _ (List.getElem_mem (l:=x.R 0) (n:=plN k p 0 e.Text) (by omega))
 have g0:(x.R 0).getD (plN k p 0 e.Text) 0=(x.R 0)[plN k p 0 e.Text]:=by rw [List.getD_eq_getElem?_getD,List.getElem?_eq_getElem (by omega)];rfl
 have w0:∀ s:XaG,s.key=k→(s.rows.m0=p∧s.rows.m1=p)→Xae.v2 s 0 e.Text=some (plN k p 0 e.Text:Int):=fun s h1 h2=>Xk8 hp s h1 h2 he 0 (by decide)
 have l1:=hx.len 1
 have q1:=Xbm hp.1 k 1 e.Text
 have b1:=hx.rng 1 _ (List.getElem_mem (l:=x.R 1) (n:=plN k p 1 e.Text) (by omega))
 have g1:(x.R 1).getD (plN k p 1 e.Text) 0=(x.R 1)[plN k p 1 e.Text]:=by rw [List.getD_eq_getElem?_getD,List.getElem?_eq_getElem (by omega)];rfl
 have w1:∀ s:XaG,s.key=k→(s.rows.m0=p∧s.rows.m1=p)→Xae.v2 s 1 e.Text=some (plN k p 1 e.Text:Int):=fun s h1 h2=>Xk8 hp s h1 h2 he 1 (by decide)
 unfold Xyz
 dsimp only
 rw [w0 _ (by rfl) (by exact ⟨rfl,rfl⟩),Option.bind_some,XaX (by omega),Int.toNat_natCast,List.getElem?_eq_getElem (by omega),Option.bind_some,Xfn (n:=(x.R 0)[plN k p 0 e.Text]+e.N) (by omega) (by omega),XaX (by omega)]
 rw [w1 _ (by rfl) (by exact ⟨rfl,rfl⟩),Option.bind_some,XaX (by omega),Int.toNat_natCast,List.getElem?_eq_getElem (by omega),Option.bind_some,Xfn (n:=(x.R 1)[plN k p 1 e.Text]+e.N) (by omega) (by omega),XaX (by omega)]
 rw [sN hx.tot.1 hx.tot.2 hN]
 unfold XqX
 rw [g0,g1];rfl
theorem Xux {k:XaD} {p:Nat} (hp:1≤p∧p≤4096) {x:SkS} (hx:Xh1 p x) {t:List UInt8} (ht:t.length≤20):Xgk (Xyz k p x) t=some (Xmo k p x t 2):=by
 unfold Xgk Xec
 rw [show Xaa.v2 (Xyz k p x)=some true from rfl,Option.bind_some,show (!true)=false from rfl,cond_false]
 refine Eq.trans (Xf7 (Xk8 hp _ (by rfl) (by exact ⟨rfl,rfl⟩) ht 0 (by decide)) (Xbm hp.1 _ _ _) (by rfl) (hx.len 0)) ?_
 refine Eq.trans (Xf7 (Xk8 hp _ (by rfl) (by exact ⟨rfl,rfl⟩) ht 1 (by decide)) (Xbm hp.1 _ _ _) (by rfl) (hx.len 1)) ?_
 rfl
def XyM (k:XaD) (p:Nat) (x:SkS):XaF:=⟨k,⟨x.R 0,x.R 1,x.R 2,p,p,p⟩,x.tot⟩
theorem Xij {k:XaD} {p:Nat} (hp:1≤p∧p≤4096) (s:XaF) (hk:s.key=k) (hm:s.rows.m0=p∧s.rows.m1=p∧s.rows.m2=p) {t:List UInt8} (ht:t.length≤20) (i:Nat) (hi:i<3):Xgo s i t=some (plN k p i t:Int):=by
 unfold Xgo Xd4
 rw [show Xaa.v3 s=some true from rfl,Option.bind_some,show (!true)=false from rfl,cond_false,Xbd (by omega),Xbd (by omega),hk,XiU ht,Option.bind_some,XaX (by omega),Int.toNat_natCast]
 obtain rfl|rfl|rfl:i=0∨i=1∨i=2:=by omega
 ·show (Xas _ (s.rows.m0:Int)).bind _=_;rw [hm.1,Xc4 hp.1 hp.2];rfl
 ·show (Xas _ (s.rows.m1:Int)).bind _=_;rw [hm.2.1,Xc4 hp.1 hp.2];rfl
 ·show (Xas _ (s.rows.m2:Int)).bind _=_;rw [hm.2.2,Xc4 hp.1 hp.2];rfl
theorem XzN {k:XaD} {p:Nat} (hp:1≤p∧p≤4096) {x:SkS} (hx:Xh1 p x) {e:Xaz} (he:e.Text.length≤20):XgK (XyM k p x) e.Text e.N=some (XkG e,XyM k p (stepS k p x e)):=by
 unfold XgK XeW
 rw [show Xaa.v3 (XyM k p x)=some true from rfl,Option.bind_some,show (!true)=false from rfl,cond_false]
 by_cases h1:e.N<0
 ·rw [Xcl h1,XdU (.inl h1),Xe3 (XdU (.inl h1))]
 rw [Xbd h1]
 by_cases h2:e.N>1048576
 ·rw [Xcl h2,XdU (.inr h2),Xe3 (XdU (.inr h2))]
 have hN:0≤e.N∧e.N≤1048576:=by omega
 rw [Xbd h2,Xgw h1 h2,Xhs (Xgw h1 h2)]
 have l0:=hx.len 0
 have q0:=Xbm hp.1 k 0 e.Text
 have b0:=hx.rng 0 _ (List.getElem_mem (l:=x.R 0) (n:=plN k p 0 e.Text) (by omega))
 have g0:(x.R 0).getD (plN k p 0 e.Text) 0=(x.R 0)[plN k p 0 e.Text]:=by rw [List.getD_eq_getElem?_getD,List.getElem?_eq_getElem (by omega)];rfl
 have w0:∀ s:XaF,s.key=k→(s.rows.m0=p∧s.rows.m1=p∧s.rows.m2=p)→Xae.v3 s 0 e.Text=some (plN k p 0 e.Text:Int):=fun s h1 h2=>Xij hp s h1 h2 he 0 (by decide)
 have l1:=hx.len 1
 have q1:=Xbm hp.1 k 1 e.Text
 have b1:=hx.rng 1 _ (List.getElem_mem (l:=x.R 1) (n:=plN k p 1 e.Text) (by omega))
 have g1:(x.R 1).getD (plN k p 1 e.Text) 0=(x.R 1)[plN k p 1 e.Text]:=by rw [List.getD_eq_getElem?_getD,List.getElem?_eq_getElem (by omega)];rfl
 have w1:∀ s:XaF,s.key=k→(s.rows.m0=p∧s.rows.m1=p∧s.rows.m2=p)→Xae.v3 s 1 e.Text=some (plN k p 1 e.Text:Int):=fun s h1 h2=>Xij hp s h1 h2 he 1 (by decide)
 have l2:=hx.len 2
 have q2:=Xbm hp.1 k 2 e.Text
 have b2:=hx.rng 2 _ (List.getElem_mem (l:=x.R 2) (n:=plN k p 2 e.Text) (by omega))
 have g2:(x.R 2).getD (plN k p 2 e.Text) 0=(x.R 2)[plN k p 2 e.Text]:=by rw [List.getD_eq_getElem?_getD,List.getElem?_eq_getElem (by omega)];rfl
 have w2:∀ s:XaF,s.key=k→(s.rows.m0=p∧s.rows.m1=p∧s.rows.m2=p)→Xae.v3 s 2 e.Text=some (plN k p 2 e.Text:Int):=fun s h1 h2=>Xij hp s h1 h2 he 2 (by decide)
 unfold XyM
 dsimp only
 rw [w0 _ (by rfl) (by exact ⟨rfl,rfl,rfl⟩),Option.bind_some,XaX (by omega),Int.toNat_natCast,List.getElem?_eq_getElem (by omega),Option.bind_some,Xfn (n:=(x.R 0)[plN k p 0 e.Text]+e.N) (by omega) (by omega),XaX (by omega)]
 rw [w1 _ (by rfl) (by exact ⟨rfl,rfl,rfl⟩),Option.bind_some,XaX (by omega),Int.toNat_natCast,List.getElem?_eq_getElem (by omega),Option.bind_some,Xfn (n:=(x.R 1)[plN k p 1 e.Text]+e.N) (by omega) (by omega),XaX (by omega)]
 rw [w2 _ (by rfl) (by exact ⟨rfl,rfl,rfl⟩),Option.bind_some,XaX (by omega),Int.toNat_natCast,List.getElem?_eq_getElem (by omega),Option.bind_some,Xfn (n:=(x.R 2)[plN k p 2 e.Text]+e.N) (by omega) (by omega),XaX (by omega)]
 rw [sN hx.tot.1 hx.tot.2 hN]
 unfold XqX
 rw [g0,g1,g2];rfl
theorem XtO {k:XaD} {p:Nat} (hp:1≤p∧p≤4096) {x:SkS} (hx:Xh1 p x) {t:List UInt8} (ht:t.length≤20):Xgn (XyM k p x) t=some (Xmo k p x t 3):=by
 unfold Xgn Xei
 rw [show Xaa.v3 (XyM k p x)=some true from rfl,Option.bind_some,show (!true)=false from rfl,cond_false]
 refine Eq.trans (Xf7 (Xij hp _ (by rfl) (by exact ⟨rfl,rfl,rfl⟩) ht 0 (by decide)) (Xbm hp.1 _ _ _) (by rfl) (hx.len 0)) ?_
 refine Eq.trans (Xf7 (Xij hp _ (by rfl) (by exact ⟨rfl,rfl,rfl⟩) ht 1 (by decide)) (Xbm hp.1 _ _ _) (by rfl) (hx.len 1)) ?_
 refine Eq.trans (Xf7 (Xij hp _ (by rfl) (by exact ⟨rfl,rfl,rfl⟩) ht 2 (by decide)) (Xbm hp.1 _ _ _) (by rfl) (hx.len 2)) ?_
 rfl
def XyH (k:XaD) (p:Nat) (x:SkS):XaC:=⟨k,⟨x.R 0,x.R 1,x.R 2,x.R 3,p,p,p,p⟩,x.tot⟩
theorem Xhq {k:XaD} {p:Nat} (hp:1≤p∧p≤4096) (s:XaC) (hk:s.key=k) (hm:s.rows.m0=p∧s.rows.m1=p∧s.rows.m2=p∧s.rows.m3=p) {t:List UInt8} (ht:t.length≤20) (i:Nat) (hi:i<4):Xf9 s i t=some (plN k p i t:Int):=by
 unfold Xf9 Xek
 rw [show Xaa.v4 s=some true from rfl,Option.bind_some,show (!true)=false from rfl,cond_false,Xbd (by omega),Xbd (by omega),hk,XiU ht,Option.bind_some,XaX (by omega),Int.toNat_natCast]
 obtain rfl|rfl|rfl|rfl:i=0∨i=1∨i=2∨i=3:=by omega
 ·show (Xas _ (s.rows.m0:Int)).bind _=_;rw [hm.1,Xc4 hp.1 hp.2];rfl
 ·show (Xas _ (s.rows.m1:Int)).bind _=_;rw [hm.2.1,Xc4 hp.1 hp.2];rfl
 ·show (Xas _ (s.rows.m2:Int)).bind _=_;rw [hm.2.2.1,Xc4 hp.1 hp.2];rfl
 ·show (Xas _ (s.rows.m3:Int)).bind _=_;rw [hm.2.2.2,Xc4 hp.1 hp.2];rfl
theorem XCk {k:XaD} {p:Nat} (hp:1≤p∧p≤4096) {x:SkS} (hx:Xh1 p x) {e:Xaz} (he:e.Text.length≤20):XgO (XyH k p x) e.Text e.N=some (XkG e,XyH k p (stepS k p x e)):=by
 unfold XgO Xe5
 rw [show Xaa.v4 (XyH k p x)=some true from rfl,Option.bind_some,show (!true)=false from rfl,cond_false]
 by_cases h1:e.N<0
 ·rw [Xcl h1,XdU (.inl h1),Xe3 (XdU (.inl h1))]
 rw [Xbd h1]
 by_cases h2:e.N>1048576
 ·rw [Xcl h2,XdU (.inr h2),Xe3 (XdU (.inr h2))]
 have hN:0≤e.N∧e.N≤1048576:=by omega
 rw [Xbd h2,Xgw h1 h2,Xhs (Xgw h1 h2)]
 have l0:=hx.len 0
 have q0:=Xbm hp.1 k 0 e.Text
 have b0:=hx.rng 0 _ (List.getElem_mem (l:=x.R 0) (n:=plN k p 0 e.Text) (by omega))
 have g0:(x.R 0).getD (plN k p 0 e.Text) 0=(x.R 0)[plN k p 0 e.Text]:=by rw [List.getD_eq_getElem?_getD,List.getElem?_eq_getElem (by omega)];rfl
 have w0:∀ s:XaC,s.key=k→(s.rows.m0=p∧s.rows.m1=p∧s.rows.m2=p∧s.rows.m3=p)→Xae.v4 s 0 e.Text=some (plN k p 0 e.Text:Int):=fun s h1 h2=>Xhq hp s h1 h2 he 0 (by decide)
 have l1:=hx.len 1
 have q1:=Xbm hp.1 k 1 e.Text
 have b1:=hx.rng 1 _ (List.getElem_mem (l:=x.R 1) (n:=plN k p 1 e.Text) (by omega))
 have g1:(x.R 1).getD (plN k p 1 e.Text) 0=(x.R 1)[plN k p 1 e.Text]:=by rw [List.getD_eq_getElem?_getD,List.getElem?_eq_getElem (by omega)];rfl
 have w1:∀ s:XaC,s.key=k→(s.rows.m0=p∧s.rows.m1=p∧s.rows.m2=p∧s.rows.m3=p)→Xae.v4 s 1 e.Text=some (plN k p 1 e.Text:Int):=fun s h1 h2=>Xhq hp s h1 h2 he 1 (by decide)
 have l2:=hx.len 2
 have q2:=Xbm hp.1 k 2 e.Text
 have b2:=hx.rng 2 _ (List.getElem_mem (l:=x.R 2) (n:=plN k p 2 e.Text) (by omega))
 have g2:(x.R 2).getD (plN k p 2 e.Text) 0=(x.R 2)[plN k p 2 e.Text]:=by rw [List.getD_eq_getElem?_getD,List.getElem?_eq_getElem (by omega)];rfl
 have w2:∀ s:XaC,s.key=k→(s.rows.m0=p∧s.rows.m1=p∧s.rows.m2=p∧s.rows.m3=p)→Xae.v4 s 2 e.Text=some (plN k p 2 e.Text:Int):=fun s h1 h2=>Xhq hp s h1 h2 he 2 (by decide)
 have l3:=hx.len 3
 have q3:=Xbm hp.1 k 3 e.Text
 have b3:=hx.rng 3 _ (List.getElem_mem (l:=x.R 3) (n:=plN k p 3 e.Text) (by omega))
 have g3:(x.R 3).getD (plN k p 3 e.Text) 0=(x.R 3)[plN k p 3 e.Text]:=by rw [List.getD_eq_getElem?_getD,List.getElem?_eq_getElem (by omega)];rfl
 have w3:∀ s:XaC,s.key=k→(s.rows.m0=p∧s.rows.m1=p∧s.rows.m2=p∧s.rows.m3=p)→Xae.v4 s 3 e.Text=some (plN k p 3 e.Text:Int):=fun s h1 h2=>Xhq hp s h1 h2 he 3 (by decide)
 unfold XyH
 dsimp only
 rw [w0 _ (by rfl) (by exact ⟨rfl,rfl,rfl,rfl⟩),Option.bind_some,XaX (by omega),Int.toNat_natCast,List.getElem?_eq_getElem (by omega),Option.bind_some,Xfn (n:=(x.R 0)[plN k p 0 e.Text]+e.N) (by omega) (by omega),XaX (by omega)]
 rw [w1 _ (by rfl) (by exact ⟨rfl,rfl,rfl,rfl⟩),Option.bind_some,XaX (by omega),Int.toNat_natCast,List.getElem?_eq_getElem (by omega),Option.bind_some,Xfn (n:=(x.R 1)[plN k p 1 e.Text]+e.N) (by omega) (by omega),XaX (by omega)]
 rw [w2 _ (by rfl) (by exact ⟨rfl,rfl,rfl,rfl⟩),Option.bind_some,XaX (by omega),Int.toNat_natCast,List.getElem?_eq_getElem (by omega),Option.bind_some,Xfn (n:=(x.R 2)[plN k p 2 e.Text]+e.N) (by omega) (by omega),XaX (by omega)]
 rw [w3 _ (by rfl) (by exact ⟨rfl,rfl,rfl,rfl⟩),Option.bind_some,XaX (by omega),Int.toNat_natCast,List.getElem?_eq_getElem (by omega),Option.bind_some,Xfn (n:=(x.R 3)[plN k p 3 e.Text]+e.N) (by omega) (by omega),XaX (by omega)]
 rw [sN hx.tot.1 hx.tot.2 hN]
 unfold XqX
 rw [g0,g1,g2,g3];rfl
theorem Xu5 {k:XaD} {p:Nat} (hp:1≤p∧p≤4096) {x:SkS} (hx:Xh1 p x) {t:List UInt8} (ht:t.length≤20):Xgp (XyH k p x) t=some (Xmo k p x t 4):=by
 unfold Xgp Xet
 rw [show Xaa.v4 (XyH k p x)=some true from rfl,Option.bind_some,show (!true)=false from rfl,cond_false]
 refine Eq.trans (Xf7 (Xhq hp _ (by rfl) (by exact ⟨rfl,rfl,rfl,rfl⟩) ht 0 (by decide)) (Xbm hp.1 _ _ _) (by rfl) (hx.len 0)) ?_
 refine Eq.trans (Xf7 (Xhq hp _ (by rfl) (by exact ⟨rfl,rfl,rfl,rfl⟩) ht 1 (by decide)) (Xbm hp.1 _ _ _) (by rfl) (hx.len 1)) ?_
 refine Eq.trans (Xf7 (Xhq hp _ (by rfl) (by exact ⟨rfl,rfl,rfl,rfl⟩) ht 2 (by decide)) (Xbm hp.1 _ _ _) (by rfl) (hx.len 2)) ?_
 refine Eq.trans (Xf7 (Xhq hp _ (by rfl) (by exact ⟨rfl,rfl,rfl,rfl⟩) ht 3 (by decide)) (Xbm hp.1 _ _ _) (by rfl) (hx.len 3)) ?_
 rfl
def Xyg (k:XaD) (p:Nat) (x:SkS):XaB:=⟨k,⟨x.R 0,x.R 1,x.R 2,x.R 3,x.R 4,p,p,p,p,p⟩,x.tot⟩
theorem XgC {k:XaD} {p:Nat} (hp:1≤p∧p≤4096) (s:XaB) (hk:s.key=k) (hm:s.rows.m0=p∧s.rows.m1=p∧s.rows.m2=p∧s.rows.m3=p∧s.rows.m4=p) {t:List UInt8} (ht:t.length≤20) (i:Nat) (hi:i<5):Xgf s i t=some (plN k p i t:Int):=by
 unfold Xgf Xea
 rw [show Xaa.v5 s=some true from rfl,Option.bind_some,show (!true)=false from rfl,cond_false,Xbd (by omega),Xbd (by omega),hk,XiU ht,Option.bind_some,XaX (by omega),Int.toNat_natCast]
 obtain rfl|rfl|rfl|rfl|rfl:i=0∨i=1∨i=2∨i=3∨i=4:=by omega
 ·show (Xas _ (s.rows.m0:Int)).bind _=_;rw [hm.1,Xc4 hp.1 hp.2];rfl
 ·show (Xas _ (s.rows.m1:Int)).bind _=_;rw [hm.2.1,Xc4 hp.1 hp.2];rfl
 ·show (Xas _ (s.rows.m2:Int)).bind _=_;rw [hm.2.2.1,Xc4 hp.1 hp.2];rfl
 ·show (Xas _ (s.rows.m3:Int)).bind _=_;rw [hm.2.2.2.1,Xc4 hp.1 hp.2];rfl
 ·show (Xas _ (s.rows.m4:Int)).bind _=_;rw [hm.2.2.2.2,Xc4 hp.1 hp.2];rfl
theorem XAa {k:XaD} {p:Nat} (hp:1≤p∧p≤4096) {x:SkS} (hx:Xh1 p x) {e:Xaz} (he:e.Text.length≤20):XgP (Xyg k p x) e.Text e.N=some (XkG e,Xyg k p (stepS k p x e)):=by
 unfold XgP Xe2
 rw [show Xaa.v5 (Xyg k p x)=some true from rfl,Option.bind_some,show (!true)=false from rfl,cond_false]
 by_cases h1:e.N<0
 ·rw [Xcl h1,XdU (.inl h1),Xe3 (XdU (.inl h1))]
 rw [Xbd h1]
 by_cases h2:e.N>1048576
 ·rw [Xcl h2,XdU (.inr h2),Xe3 (XdU (.inr h2))]
 have hN:0≤e.N∧e.N≤1048576:=by omega
 rw [Xbd h2,Xgw h1 h2,Xhs (Xgw h1 h2)]
 have l0:=hx.len 0
 have q0:=Xbm hp.1 k 0 e.Text
 have b0:=hx.rng 0 _ (List.getElem_mem (l:=x.R 0) (n:=plN k p 0 e.Text) (by omega))
 have g0:(x.R 0).getD (plN k p 0 e.Text) 0=(x.R 0)[plN k p 0 e.Text]:=by rw [List.getD_eq_getElem?_getD,List.getElem?_eq_getElem (by omega)];rfl
 have w0:∀ s:XaB,s.key=k→(s.rows.m0=p∧s.rows.m1=p∧s.rows.m2=p∧s.rows.m3=p∧s.rows.m4=p)→Xae.v5 s 0 e.Text=some (plN k p 0 e.Text:Int):=fun s h1 h2=>XgC hp s h1 h2 he 0 (by decide)
 have l1:=hx.len 1
 have q1:=Xbm hp.1 k 1 e.Text
 have b1:=hx.rng 1 _ (List.getElem_mem (l:=x.R 1) (n:=plN k p 1 e.Text) (by omega))
 have g1:(x.R 1).getD (plN k p 1 e.Text) 0=(x.R 1)[plN k p 1 e.Text]:=by rw [List.getD_eq_getElem?_getD,List.getElem?_eq_getElem (by omega)];rfl
 have w1:∀ s:XaB,s.key=k→(s.rows.m0=p∧s.rows.m1=p∧s.rows.m2=p∧s.rows.m3=p∧s.rows.m4=p)→Xae.v5 s 1 e.Text=some (plN k p 1 e.Text:Int):=fun s h1 h2=>XgC hp s h1 h2 he 1 (by decide)
 have l2:=hx.len 2
 have q2:=Xbm hp.1 k 2 e.Text
 have b2:=hx.rng 2 _ (List.getElem_mem (l:=x.R 2) (n:=plN k p 2 e.Text) (by omega))
 have g2:(x.R 2).getD (plN k p 2 e.Text) 0=(x.R 2)[plN k p 2 e.Text]:=by rw [List.getD_eq_getElem?_getD,List.getElem?_eq_getElem (by omega)];rfl
 have w2:∀ s:XaB,s.key=k→(s.rows.m0=p∧s.rows.m1=p∧s.rows.m2=p∧s.rows.m3=p∧s.rows.m4=p)→Xae.v5 s 2 e.Text=some (plN k p 2 e.Text:Int):=fun s h1 h2=>XgC hp s h1 h2 he 2 (by decide)
 have l3:=hx.len 3
 have q3:=Xbm hp.1 k 3 e.Text
 have b3:=hx.rng 3 _ (List.getElem_mem (l:=x.R 3) (n:=plN k p 3 e.Text) (by omega))
 have g3:(x.R 3).getD (plN k p 3 e.Text) 0=(x.R 3)[plN k p 3 e.Text]:=by rw [List.getD_eq_getElem?_getD,List.getElem?_eq_getElem (by omega)];rfl
 have w3:∀ s:XaB,s.key=k→(s.rows.m0=p∧s.rows.m1=p∧s.rows.m2=p∧s.rows.m3=p∧s.rows.m4=p)→Xae.v5 s 3 e.Text=some (plN k p 3 e.Text:Int):=fun s h1 h2=>XgC hp s h1 h2 he 3 (by decide)
 have l4:=hx.len 4
 have q4:=Xbm hp.1 k 4 e.Text
 have b4:=hx.rng 4 _ (List.getElem_mem (l:=x.R 4) (n:=plN k p 4 e.Text) (by omega))
 have g4:(x.R 4).getD (plN k p 4 e.Text) 0=(x.R 4)[plN k p 4 e.Text]:=by rw [List.getD_eq_getElem?_getD,List.getElem?_eq_getElem (by omega)];rfl
 have w4:∀ s:XaB,s.key=k→(s.rows.m0=p∧s.rows.m1=p∧s.rows.m2=p∧s.rows.m3=p∧s.rows.m4=p)→Xae.v5 s 4 e.Text=some (plN k p 4 e.Text:Int):=fun s h1 h2=>XgC hp s h1 h2 he 4 (by decide)
 unfold Xyg
 dsimp only
 rw [w0 _ (by rfl) (by exact ⟨rfl,rfl,rfl,rfl,rfl⟩),Option.bind_some,XaX (by omega),Int.toNat_natCast,List.getElem?_eq_getElem (by omega),Option.bind_some,Xfn (n:=(x.R 0)[plN k p 0 e.Text]+e.N) (by omega) (by omega),XaX (by omega)]
 rw [w1 _ (by rfl) (by exact ⟨rfl,rfl,rfl,rfl,rfl⟩),Option.bind_some,XaX (by omega),Int.toNat_natCast,List.getElem?_eq_getElem (by omega),Option.bind_some,Xfn (n:=(x.R 1)[plN k p 1 e.Text]+e.N) (by omega) (by omega),XaX (by omega)]
 rw [w2 _ (by rfl) (by exact ⟨rfl,rfl,rfl,rfl,rfl⟩),Option.bind_some,XaX (by omega),Int.toNat_natCast,List.getElem?_eq_getElem (by omega),Option.bind_some,Xfn (n:=(x.R 2)[plN k p 2 e.Text]+e.N) (by omega) (by omega),XaX (by omega)]
 rw [w3 _ (by rfl) (by exact ⟨rfl,rfl,rfl,rfl,rfl⟩),Option.bind_some,XaX (by omega),Int.toNat_natCast,List.getElem?_eq_getElem (by omega),Option.bind_some,Xfn (n:=(x.R 3)[plN k p 3 e.Text]+e.N) (by omega) (by omega),XaX (by omega)]
 rw [w4 _ (by rfl) (by exact ⟨rfl,rfl,rfl,rfl,rfl⟩),Option.bind_some,XaX (by omega),Int.toNat_natCast,List.getElem?_eq_getElem (by omega),Option.bind_some,Xfn (n:=(x.R 4)[plN k p 4 e.Text]+e.N) (by omega) (by omega),XaX (by omega)]
 rw [sN hx.tot.1 hx.tot.2 hN]
 unfold XqX
 rw [g0,g1,g2,g3,g4];rfl
theorem XuE {k:XaD} {p:Nat} (hp:1≤p∧p≤4096) {x:SkS} (hx:Xh1 p x) {t:List UInt8} (ht:t.length≤20):Xgb (Xyg k p x) t=some (Xmo k p x t 5):=by
 unfold Xgb Xej
 rw [show Xaa.v5 (Xyg k p x)=some true from rfl,Option.bind_some,show (!true)=false from rfl,cond_false]
 refine Eq.trans (Xf7 (XgC hp _ (by rfl) (by exact ⟨rfl,rfl,rfl,rfl,rfl⟩) ht 0 (by decide)) (Xbm hp.1 _ _ _) (by rfl) (hx.len 0)) ?_
 refine Eq.trans (Xf7 (XgC hp _ (by rfl) (by exact ⟨rfl,rfl,rfl,rfl,rfl⟩) ht 1 (by decide)) (Xbm hp.1 _ _ _) (by rfl) (hx.len 1)) ?_
 refine Eq.trans (Xf7 (XgC hp _ (by rfl) (by exact ⟨rfl,rfl,rfl,rfl,rfl⟩) ht 2 (by decide)) (Xbm hp.1 _ _ _) (by rfl) (hx.len 2)) ?_
 refine Eq.trans (Xf7 (XgC hp _ (by rfl) (by exact ⟨rfl,rfl,rfl,rfl,rfl⟩) ht 3 (by decide)) (Xbm hp.1 _ _ _) (by rfl) (hx.len 3)) ?_
 refine Eq.trans (Xf7 (XgC hp _ (by rfl) (by exact ⟨rfl,rfl,rfl,rfl,rfl⟩) ht 4 (by decide)) (Xbm hp.1 _ _ _) (by rfl) (hx.len 4)) ?_
 rfl
def XyN (k:XaD) (p:Nat) (x:SkS):Xay:=⟨k,⟨x.R 0,x.R 1,x.R 2,x.R 3,x.R 4,x.R 5,p,p,p,p,p,p⟩,x.tot⟩
theorem Xfr {k:XaD} {p:Nat} (hp:1≤p∧p≤4096) (s:Xay) (hk:s.key=k) (hm:s.rows.m0=p∧s.rows.m1=p∧s.rows.m2=p∧s.rows.m3=p∧s.rows.m4=p∧s.rows.m5=p) {t:List UInt8} (ht:t.length≤20) (i:Nat) (hi:i<6):Xgl s i t=some (plN k p i t:Int):=by
 unfold Xgl Xen
 rw [show Xaa.v6 s=some true from rfl,Option.bind_some,show (!true)=false from rfl,cond_false,Xbd (by omega),Xbd (by omega),hk,XiU ht,Option.bind_some,XaX (by omega),Int.toNat_natCast]
 obtain rfl|rfl|rfl|rfl|rfl|rfl:i=0∨i=1∨i=2∨i=3∨i=4∨i=5:=by omega
 ·show (Xas _ (s.rows.m0:Int)).bind _=_;rw [hm.1,Xc4 hp.1 hp.2];rfl
 ·show (Xas _ (s.rows.m1:Int)).bind _=_;rw [hm.2.1,Xc4 hp.1 hp.2];rfl
 ·show (Xas _ (s.rows.m2:Int)).bind _=_;rw [hm.2.2.1,Xc4 hp.1 hp.2];rfl
 ·show (Xas _ (s.rows.m3:Int)).bind _=_;rw [hm.2.2.2.1,Xc4 hp.1 hp.2];rfl
 ·show (Xas _ (s.rows.m4:Int)).bind _=_;rw [hm.2.2.2.2.1,Xc4 hp.1 hp.2];rfl
 ·show (Xas _ (s.rows.m5:Int)).bind _=_;rw [hm.2.2.2.2.2,Xc4 hp.1 hp.2];rfl
theorem Xzz {k:XaD} {p:Nat} (hp:1≤p∧p≤4096) {x:SkS} (hx:Xh1 p x) {e:Xaz} (he:e.Text.length≤20):XgR (XyN k p x) e.Text e.N=some (XkG e,XyN k p (stepS k p x e)):=by
 unfold XgR Xe0
 rw [show Xaa.v6 (XyN k p x)=some true from rfl,Option.bind_some,show (!true)=false from rfl,cond_false]
 by_cases h1:e.N<0
 ·rw [Xcl h1,XdU (.inl h1),Xe3 (XdU (.inl h1))]
 rw [Xbd h1]
 by_cases h2:e.N>1048576
 ·rw [Xcl h2,XdU (.inr h2),Xe3 (XdU (.inr h2))]
 have hN:0≤e.N∧e.N≤1048576:=by omega
 rw [Xbd h2,Xgw h1 h2,Xhs (Xgw h1 h2)]
 have l0:=hx.len 0
 have q0:=Xbm hp.1 k 0 e.Text
 have b0:=hx.rng 0 _ (List.getElem_mem (l:=x.R 0) (n:=plN k p 0 e.Text) (by omega))
 have g0:(x.R 0).getD (plN k p 0 e.Text) 0=(x.R 0)[plN k p 0 e.Text]:=by rw [List.getD_eq_getElem?_getD,List.getElem?_eq_getElem (by omega)];rfl
 have w0:∀ s:Xay,s.key=k→(s.rows.m0=p∧s.rows.m1=p∧s.rows.m2=p∧s.rows.m3=p∧s.rows.m4=p∧s.rows.m5=p)→Xae.v6 s 0 e.Text=some (plN k p 0 e.Text:Int):=fun s h1 h2=>Xfr hp s h1 h2 he 0 (by decide)
 have l1:=hx.len 1
 have q1:=Xbm hp.1 k 1 e.Text
 have b1:=hx.rng 1 _ (List.getElem_mem (l:=x.R 1) (n:=plN k p 1 e.Text) (by omega))
 have g1:(x.R 1).getD (plN k p 1 e.Text) 0=(x.R 1)[plN k p 1 e.Text]:=by rw [List.getD_eq_getElem?_getD,List.getElem?_eq_getElem (by omega)];rfl
 have w1:∀ s:Xay,s.key=k→(s.rows.m0=p∧s.rows.m1=p∧s.rows.m2=p∧s.rows.m3=p∧s.rows.m4=p∧s.rows.m5=p)→Xae.v6 s 1 e.Text=some (plN k p 1 e.Text:Int):=fun s h1 h2=>Xfr hp s h1 h2 he 1 (by decide)
 have l2:=hx.len 2
 have q2:=Xbm hp.1 k 2 e.Text
 have b2:=hx.rng 2 _ (List.getElem_mem (l:=x.R 2) (n:=plN k p 2 e.Text) (by omega))
 have g2:(x.R 2).getD (plN k p 2 e.Text) 0=(x.R 2)[plN k p 2 e.Text]:=by rw [List.getD_eq_getElem?_getD,List.getElem?_eq_getElem (by omega)];rfl
 have w2:∀ s:Xay,s.key=k→(s.rows.m0=p∧s.rows.m1=p∧s.rows.m2=p∧s.rows.m3=p∧s.rows.m4=p∧s.rows.m5=p)→Xae.v6 s 2 e.Text=some (plN k p 2 e.Text:Int):=fun s h1 h2=>Xfr hp s h1 h2 he 2 (by decide)
 have l3:=hx.len 3
 have q3:=Xbm hp.1 k 3 e.Text
 have b3:=hx.rng 3 _ (List.getElem_mem (l:=x.R 3) (n:=plN k p 3 e.Text) (by omega))
 have g3:(x.R 3).getD (plN k p 3 e.Text) 0=(x.R 3)[plN k p 3 e.Text]:=by rw [List.getD_eq_getElem?_getD,List.getElem?_eq_getElem (by omega)];rfl
 have w3:∀ s:Xay,s.key=k→(s.rows.m0=p∧s.rows.m1=p∧s.rows.m2=p∧s.rows.m3=p∧s.rows.m4=p∧s.rows.m5=p)→Xae.v6 s 3 e.Text=some (plN k p 3 e.Text:Int):=fun s h1 h2=>Xfr hp s h1 h2 he 3 (by decide)
 have l4:=hx.len 4
 have q4:=Xbm hp.1 k 4 e.Text
 have b4:=hx.rng 4 _ (List.getElem_mem (l:=x.R 4) (n:=plN k p 4 e.Text) (by omega))
 have g4:(x.R 4).getD (plN k p 4 e.Text) 0=(x.R 4)[plN k p 4 e.Text]:=by rw [List.getD_eq_getElem?_getD,List.getElem?_eq_getElem (by omega)];rfl
 have w4:∀ s:Xay,s.key=k→(s.rows.m0=p∧s.rows.m1=p∧s.rows.m2=p∧s.rows.m3=p∧s.rows.m4=p∧s.rows.m5=p)→Xae.v6 s 4 e.Text=some (plN k p 4 e.Text:Int):=fun s h1 h2=>Xfr hp s h1 h2 he 4 (by decide)
 have l5:=hx.len 5
 have q5:=Xbm hp.1 k 5 e.Text
 have b5:=hx.rng 5 _ (List.getElem_mem (l:=x.R 5) (n:=plN k p 5 e.Text) (by omega))
 have g5:(x.R 5).getD (plN k p 5 e.Text) 0=(x.R 5)[plN k p 5 e.Text]:=by rw [List.getD_eq_getElem?_getD,List.getElem?_eq_getElem (by omega)];rfl
 have w5:∀ s:Xay,s.key=k→(s.rows.m0=p∧s.rows.m1=p∧s.rows.m2=p∧s.rows.m3=p∧s.rows.m4=p∧s.rows.m5=p)→Xae.v6 s 5 e.Text=some (plN k p 5 e.Text:Int):=fun s h1 h2=>Xfr hp s h1 h2 he 5 (by decide)
 unfold XyN
 dsimp only
 rw [w0 _ (by rfl) (by exact ⟨rfl,rfl,rfl,rfl,rfl,rfl⟩),Option.bind_some,XaX (by omega),Int.toNat_natCast,List.getElem?_eq_getElem (by omega),Option.bind_some,Xfn (n:=(x.R 0)[plN k p 0 e.Text]+e.N) (by omega) (by omega),XaX (by omega)]
 rw [w1 _ (by rfl) (by exact ⟨rfl,rfl,rfl,rfl,rfl,rfl⟩),Option.bind_some,XaX (by omega),Int.toNat_natCast,List.getElem?_eq_getElem (by omega),Option.bind_some,Xfn (n:=(x.R 1)[plN k p 1 e.Text]+e.N) (by omega) (by omega),XaX (by omega)]
 rw [w2 _ (by rfl) (by exact ⟨rfl,rfl,rfl,rfl,rfl,rfl⟩),Option.bind_some,XaX (by omega),Int.toNat_natCast,List.getElem?_eq_getElem (by omega),Option.bind_some,Xfn (n:=(x.R 2)[plN k p 2 e.Text]+e.N) (by omega) (by omega),XaX (by omega)]
 rw [w3 _ (by rfl) (by exact ⟨rfl,rfl,rfl,rfl,rfl,rfl⟩),Option.bind_some,XaX (by omega),Int.toNat_natCast,List.getElem?_eq_getElem (by omega),Option.bind_some,Xfn (n:=(x.R 3)[plN k p 3 e.Text]+e.N) (by omega) (by omega),XaX (by omega)]
 rw [w4 _ (by rfl) (by exact ⟨rfl,rfl,rfl,rfl,rfl,rfl⟩),Option.bind_some,XaX (by omega),Int.toNat_natCast,List.getElem?_eq_getElem (by omega),Option.bind_some,Xfn (n:=(x.R 4)[plN k p 4 e.Text]+e.N) (by omega) (by omega),XaX (by omega)]
 rw [w5 _ (by rfl) (by exact ⟨rfl,rfl,rfl,rfl,rfl,rfl⟩),Option.bind_some,XaX (by omega),Int.toNat_natCast,List.getElem?_eq_getElem (by omega),Option.bind_some,Xfn (n:=(x.R 5)[plN k p 5 e.Text]+e.N) (by omega) (by omega),XaX (by omega)]
 rw [sN hx.tot.1 hx.tot.2 hN]
 unfold XqX
 rw [g0,g1,g2,g3,g4,g5];rfl
theorem Xvt {k:XaD} {p:Nat} (hp:1≤p∧p≤4096) {x:SkS} (hx:Xh1 p x) {t:List UInt8} (ht:t.length≤20):Xgh (XyN k p x) t=some (Xmo k p x t 6):=by
 unfold Xgh Xd6
 rw [show Xaa.v6 (XyN k p x)=some true from rfl,Option.bind_some,show (!true)=false from rfl,cond_false]
 refine Eq.trans (Xf7 (Xfr hp _ (by rfl) (by exact ⟨rfl,rfl,rfl,rfl,rfl,rfl⟩) ht 0 (by decide)) (Xbm hp.1 _ _ _) (by rfl) (hx.len 0)) ?_
 refine Eq.trans (Xf7 (Xfr hp _ (by rfl) (by exact ⟨rfl,rfl,rfl,rfl,rfl,rfl⟩) ht 1 (by decide)) (Xbm hp.1 _ _ _) (by rfl) (hx.len 1)) ?_
 refine Eq.trans (Xf7 (Xfr hp _ (by rfl) (by exact ⟨rfl,rfl,rfl,rfl,rfl,rfl⟩) ht 2 (by decide)) (Xbm hp.1 _ _ _) (by rfl) (hx.len 2)) ?_
 refine Eq.trans (Xf7 (Xfr hp _ (by rfl) (by exact ⟨rfl,rfl,rfl,rfl,rfl,rfl⟩) ht 3 (by decide)) (Xbm hp.1 _ _ _) (by rfl) (hx.len 3)) ?_
 refine Eq.trans (Xf7 (Xfr hp _ (by rfl) (by exact ⟨rfl,rfl,rfl,rfl,rfl,rfl⟩) ht 4 (by decide)) (Xbm hp.1 _ _ _) (by rfl) (hx.len 4)) ?_
 refine Eq.trans (Xf7 (Xfr hp _ (by rfl) (by exact ⟨rfl,rfl,rfl,rfl,rfl,rfl⟩) ht 5 (by decide)) (Xbm hp.1 _ _ _) (by rfl) (hx.len 5)) ?_
 rfl
def XyE (k:XaD) (p:Nat) (x:SkS):Xaw:=⟨k,⟨x.R 0,x.R 1,x.R 2,x.R 3,x.R 4,x.R 5,x.R 6,p,p,p,p,p,p,p⟩,x.tot⟩
theorem XeN {k:XaD} {p:Nat} (hp:1≤p∧p≤4096) (s:Xaw) (hk:s.key=k) (hm:s.rows.m0=p∧s.rows.m1=p∧s.rows.m2=p∧s.rows.m3=p∧s.rows.m4=p∧s.rows.m5=p∧s.rows.m6=p) {t:List UInt8} (ht:t.length≤20) (i:Nat) (hi:i<7):Xgg s i t=some (plN k p i t:Int):=by
 unfold Xgg Xed
 rw [show Xaa.v7 s=some true from rfl,Option.bind_some,show (!true)=false from rfl,cond_false,Xbd (by omega),Xbd (by omega),hk,XiU ht,Option.bind_some,XaX (by omega),Int.toNat_natCast]
 obtain rfl|rfl|rfl|rfl|rfl|rfl|rfl:i=0∨i=1∨i=2∨i=3∨i=4∨i=5∨i=6:=by omega
 ·show (Xas _ (s.rows.m0:Int)).bind _=_;rw [hm.1,Xc4 hp.1 hp.2];rfl
 ·show (Xas _ (s.rows.m1:Int)).bind _=_;rw [hm.2.1,Xc4 hp.1 hp.2];rfl
 ·show (Xas _ (s.rows.m2:Int)).bind _=_;rw [hm.2.2.1,Xc4 hp.1 hp.2];rfl
 ·show (Xas _ (s.rows.m3:Int)).bind _=_;rw [hm.2.2.2.1,Xc4 hp.1 hp.2];rfl
 ·show (Xas _ (s.rows.m4:Int)).bind _=_;rw [hm.2.2.2.2.1,Xc4 hp.1 hp.2];rfl
 ·show (Xas _ (s.rows.m5:Int)).bind _=_;rw [hm.2.2.2.2.2.1,Xc4 hp.1 hp.2];rfl
 ·show (Xas _ (s.rows.m6:Int)).bind _=_;rw [hm.2.2.2.2.2.2,Xc4 hp.1 hp.2];rfl
theorem XAi {k:XaD} {p:Nat} (hp:1≤p∧p≤4096) {x:SkS} (hx:Xh1 p x) {e:Xaz} (he:e.Text.length≤20):XgM (XyE k p x) e.Text e.N=some (XkG e,XyE k p (stepS k p x e)):=by
 unfold XgM XeY
 rw [show Xaa.v7 (XyE k p x)=some true from rfl,Option.bind_some,show (!true)=false from rfl,cond_false]
 by_cases h1:e.N<0
 ·rw [Xcl h1,XdU (.inl h1),Xe3 (XdU (.inl h1))]
 rw [Xbd h1]
 by_cases h2:e.N>1048576
 ·rw [Xcl h2,XdU (.inr h2),Xe3 (XdU (.inr h2))]
 have hN:0≤e.N∧e.N≤1048576:=by omega
 rw [Xbd h2,Xgw h1 h2,Xhs (Xgw h1 h2)]
 have l0:=hx.len 0
 have q0:=Xbm hp.1 k 0 e.Text
 have b0:=hx.rng 0 _ (List.getElem_mem (l:=x.R 0) (n:=plN k p 0 e.Text) (by omega))
 have g0:(x.R 0).getD (plN k p 0 e.Text) 0=(x.R 0)[plN k p 0 e.Text]:=by rw [List.getD_eq_getElem?_getD,List.getElem?_eq_getElem (by omega)];rfl
 have w0:∀ s:Xaw,s.key=k→(s.rows.m0=p∧s.rows.m1=p∧s.rows.m2=p∧s.rows.m3=p∧s.rows.m4=p∧s.rows.m5=p∧s.rows.m6=p)→Xae.v7 s 0 e.Text=some (plN k p 0 e.Text:Int):=fun s h1 h2=>XeN hp s h1 h2 he 0 (by decide)
 have l1:=hx.len 1
 have q1:=Xbm hp.1 k 1 e.Text
 have b1:=hx.rng 1 _ (List.getElem_mem (l:=x.R 1) (n:=plN k p 1 e.Text) (by omega))
 have g1:(x.R 1).getD (plN k p 1 e.Text) 0=(x.R 1)[plN k p 1 e.Text]:=by rw [List.getD_eq_getElem?_getD,List.getElem?_eq_getElem (by omega)];rfl
 have w1:∀ s:Xaw,s.key=k→(s.rows.m0=p∧s.rows.m1=p∧s.rows.m2=p∧s.rows.m3=p∧s.rows.m4=p∧s.rows.m5=p∧s.rows.m6=p)→Xae.v7 s 1 e.Text=some (plN k p 1 e.Text:Int):=fun s h1 h2=>XeN hp s h1 h2 he 1 (by decide)
 have l2:=hx.len 2
 have q2:=Xbm hp.1 k 2 e.Text
 have b2:=hx.rng 2 _ (List.getElem_mem (l:=x.R 2) (n:=plN k p 2 e.Text) (by omega))
 have g2:(x.R 2).getD (plN k p 2 e.Text) 0=(x.R 2)[plN k p 2 e.Text]:=by rw [List.getD_eq_getElem?_getD,List.getElem?_eq_getElem (by omega)];rfl
 have w2:∀ s:Xaw,s.key=k→(s.rows.m0=p∧s.rows.m1=p∧s.rows.m2=p∧s.rows.m3=p∧s.rows.m4=p∧s.rows.m5=p∧s.rows.m6=p)→Xae.v7 s 2 e.Text=some (plN k p 2 e.Text:Int):=fun s h1 h2=>XeN hp s h1 h2 he 2 (by decide)
 have l3:=hx.len 3
 have q3:=Xbm hp.1 k 3 e.Text
 have b3:=hx.rng 3 _ (List.getElem_mem (l:=x.R 3) (n:=plN k p 3 e.Text) (by omega))
 have g3:(x.R 3).getD (plN k p 3 e.Text) 0=(x.R 3)[plN k p 3 e.Text]:=by rw [List.getD_eq_getElem?_getD,List.getElem?_eq_getElem (by omega)];rfl
 have w3:∀ s:Xaw,s.key=k→(s.rows.m0=p∧s.rows.m1=p∧s.rows.m2=p∧s.rows.m3=p∧s.rows.m4=p∧s.rows.m5=p∧s.rows.m6=p)→Xae.v7 s 3 e.Text=some (plN k p 3 e.Text:Int):=fun s h1 h2=>XeN hp s h1 h2 he 3 (by decide)
 have l4:=hx.len 4
 have q4:=Xbm hp.1 k 4 e.Text
 have b4:=hx.rng 4 _ (List.getElem_mem (l:=x.R 4) (n:=plN k p 4 e.Text) (by omega))
 have g4:(x.R 4).getD (plN k p 4 e.Text) 0=(x.R 4)[plN k p 4 e.Text]:=by rw [List.getD_eq_getElem?_getD,List.getElem?_eq_getElem (by omega)];rfl
 have w4:∀ s:Xaw,s.key=k→(s.rows.m0=p∧s.rows.m1=p∧s.rows.m2=p∧s.rows.m3=p∧s.rows.m4=p∧s.rows.m5=p∧s.rows.m6=p)→Xae.v7 s 4 e.Text=some (plN k p 4 e.Text:Int):=fun s h1 h2=>XeN hp s h1 h2 he 4 (by decide)
 have l5:=hx.len 5
 have q5:=Xbm hp.1 k 5 e.Text
 have b5:=hx.rng 5 _ (List.getElem_mem (l:=x.R 5) (n:=plN k p 5 e.Text) (by omega))
 have g5:(x.R 5).getD (plN k p 5 e.Text) 0=(x.R 5)[plN k p 5 e.Text]:=by rw [List.getD_eq_getElem?_getD,List.getElem?_eq_getElem (by omega)];rfl
 have w5:∀ s:Xaw,s.key=k→(s.rows.m0=p∧s.rows.m1=p∧s.rows.m2=p∧s.rows.m3=p∧s.rows.m4=p∧s.rows.m5=p∧s.rows.m6=p)→Xae.v7 s 5 e.Text=some (plN k p 5 e.Text:Int):=fun s h1 h2=>XeN hp s h1 h2 he 5 (by decide)
 have l6:=hx.len 6
 have q6:=Xbm hp.1 k 6 e.Text
 have b6:=hx.rng 6 _ (List.getElem_mem (l:=x.R 6) (n:=plN k p 6 e.Text) (by omega))
 have g6:(x.R 6).getD (plN k p 6 e.Text) 0=(x.R 6)[plN k p 6 e.Text]:=by rw [List.getD_eq_getElem?_getD,List.getElem?_eq_getElem (by omega)];rfl
 have w6:∀ s:Xaw,s.key=k→(s.rows.m0=p∧s.rows.m1=p∧s.rows.m2=p∧s.rows.m3=p∧s.rows.m4=p∧s.rows.m5=p∧s.rows.m6=p)→Xae.v7 s 6 e.Text=some (plN k p 6 e.Text:Int):=fun s h1 h2=>XeN hp s h1 h2 he 6 (by decide)
 unfold XyE
 dsimp only
 rw [w0 _ (by rfl) (by exact ⟨rfl,rfl,rfl,rfl,rfl,rfl,rfl⟩),Option.bind_some,XaX (by omega),Int.toNat_natCast,List.getElem?_eq_getElem (by omega),Option.bind_some,Xfn (n:=(x.R 0)[plN k p 0 e.Text]+e.N) (by omega) (by omega),XaX (by omega)]
 rw [w1 _ (by rfl) (by exact ⟨rfl,rfl,rfl,rfl,rfl,rfl,rfl⟩),Option.bind_some,XaX (by omega),Int.toNat_natCast,List.getElem?_eq_getElem (by omega),Option.bind_some,Xfn (n:=(x.R 1)[plN k p 1 e.Text]+e.N) (by omega) (by omega),XaX (by omega)]
 rw [w2 _ (by rfl) (by exact ⟨rfl,rfl,rfl,rfl,rfl,rfl,rfl⟩),Option.bind_some,XaX (by omega),Int.toNat_natCast,List.getElem?_eq_getElem (by omega),Option.bind_some,Xfn (n:=(x.R 2)[plN k p 2 e.Text]+e.N) (by omega) (by omega),XaX (by omega)]
 rw [w3 _ (by rfl) (by exact ⟨rfl,rfl,rfl,rfl,rfl,rfl,rfl⟩),Option.bind_some,XaX (by omega),Int.toNat_natCast,List.getElem?_eq_getElem (by omega),Option.bind_some,Xfn (n:=(x.R 3)[plN k p 3 e.Text]+e.N) (by omega) (by omega),XaX (by omega)]
 rw [w4 _ (by rfl) (by exact ⟨rfl,rfl,rfl,rfl,rfl,rfl,rfl⟩),Option.bind_some,XaX (by omega),Int.toNat_natCast,List.getElem?_eq_getElem (by omega),Option.bind_some,Xfn (n:=(x.R 4)[plN k p 4 e.Text]+e.N) (by omega) (by omega),XaX (by omega)]
 rw [w5 _ (by rfl) (by exact ⟨rfl,rfl,rfl,rfl,rfl,rfl,rfl⟩),Option.bind_some,XaX (by omega),Int.toNat_natCast,List.getElem?_eq_getElem (by omega),Option.bind_some,Xfn (n:=(x.R 5)[plN k p 5 e.Text]+e.N) (by omega) (by omega),XaX (by omega)]
 rw [w6 _ (by rfl) (by exact ⟨rfl,rfl,rfl,rfl,rfl,rfl,rfl⟩),Option.bind_some,XaX (by omega),Int.toNat_natCast,List.getElem?_eq_getElem (by omega),Option.bind_some,Xfn (n:=(x.R 6)[plN k p 6 e.Text]+e.N) (by omega) (by omega),XaX (by omega)]
 rw [sN hx.tot.1 hx.tot.2 hN]
 unfold XqX
 rw [g0,g1,g2,g3,g4,g5,g6];rfl
theorem Xvd {k:XaD} {p:Nat} (hp:1≤p∧p≤4096) {x:SkS} (hx:Xh1 p x) {t:List UInt8} (ht:t.length≤20):Xge (XyE k p x) t=some (Xmo k p x t 7):=by
 unfold Xge Xee
 rw [show Xaa.v7 (XyE k p x)=some true from rfl,Option.bind_some,show (!true)=false from rfl,cond_false]
 refine Eq.trans (Xf7 (XeN hp _ (by rfl) (by exact ⟨rfl,rfl,rfl,rfl,rfl,rfl,rfl⟩) ht 0 (by decide)) (Xbm hp.1 _ _ _) (by rfl) (hx.len 0)) ?_
 refine Eq.trans (Xf7 (XeN hp _ (by rfl) (by exact ⟨rfl,rfl,rfl,rfl,rfl,rfl,rfl⟩) ht 1 (by decide)) (Xbm hp.1 _ _ _) (by rfl) (hx.len 1)) ?_
 refine Eq.trans (Xf7 (XeN hp _ (by rfl) (by exact ⟨rfl,rfl,rfl,rfl,rfl,rfl,rfl⟩) ht 2 (by decide)) (Xbm hp.1 _ _ _) (by rfl) (hx.len 2)) ?_
 refine Eq.trans (Xf7 (XeN hp _ (by rfl) (by exact ⟨rfl,rfl,rfl,rfl,rfl,rfl,rfl⟩) ht 3 (by decide)) (Xbm hp.1 _ _ _) (by rfl) (hx.len 3)) ?_
 refine Eq.trans (Xf7 (XeN hp _ (by rfl) (by exact ⟨rfl,rfl,rfl,rfl,rfl,rfl,rfl⟩) ht 4 (by decide)) (Xbm hp.1 _ _ _) (by rfl) (hx.len 4)) ?_
 refine Eq.trans (Xf7 (XeN hp _ (by rfl) (by exact ⟨rfl,rfl,rfl,rfl,rfl,rfl,rfl⟩) ht 5 (by decide)) (Xbm hp.1 _ _ _) (by rfl) (hx.len 5)) ?_
 refine Eq.trans (Xf7 (XeN hp _ (by rfl) (by exact ⟨rfl,rfl,rfl,rfl,rfl,rfl,rfl⟩) ht 6 (by decide)) (Xbm hp.1 _ _ _) (by rfl) (hx.len 6)) ?_
 rfl
def Xyo (k:XaD) (p:Nat) (x:SkS):Xav:=⟨k,⟨x.R 0,x.R 1,x.R 2,x.R 3,x.R 4,x.R 5,x.R 6,x.R 7,p,p,p,p,p,p,p,p⟩,x.tot⟩
theorem XdS {k:XaD} {p:Nat} (hp:1≤p∧p≤4096) (s:Xav) (hk:s.key=k) (hm:s.rows.m0=p∧s.rows.m1=p∧s.rows.m2=p∧s.rows.m3=p∧s.rows.m4=p∧s.rows.m5=p∧s.rows.m6=p∧s.rows.m7=p) {t:List UInt8} (ht:t.length≤20) (i:Nat) (hi:i<8):Xgj s i t=some (plN k p i t:Int):=by
 unfold Xgj Xel
 rw [show Xaa.v8 s=some true from rfl,Option.bind_some,show (!true)=false from rfl,cond_false,Xbd (by omega),Xbd (by omega),hk,XiU ht,Option.bind_some,XaX (by omega),Int.toNat_natCast]
 obtain rfl|rfl|rfl|rfl|rfl|rfl|rfl|rfl:i=0∨i=1∨i=2∨i=3∨i=4∨i=5∨i=6∨i=7:=by omega
 ·show (Xas _ (s.rows.m0:Int)).bind _=_;rw [hm.1,Xc4 hp.1 hp.2];rfl
 ·show (Xas _ (s.rows.m1:Int)).bind _=_;rw [hm.2.1,Xc4 hp.1 hp.2];rfl
 ·show (Xas _ (s.rows.m2:Int)).bind _=_;rw [hm.2.2.1,Xc4 hp.1 hp.2];rfl
 ·show (Xas _ (s.rows.m3:Int)).bind _=_;rw [hm.2.2.2.1,Xc4 hp.1 hp.2];rfl
 ·show (Xas _ (s.rows.m4:Int)).bind _=_;rw [hm.2.2.2.2.1,Xc4 hp.1 hp.2];rfl
 ·show (Xas _ (s.rows.m5:Int)).bind _=_;rw [hm.2.2.2.2.2.1,Xc4 hp.1 hp.2];rfl
 ·show (Xas _ (s.rows.m6:Int)).bind _=_;rw [hm.2.2.2.2.2.2.1,Xc4 hp.1 hp.2];rfl
 ·show (Xas _ (s.rows.m7:Int)).bind _=_;rw [hm.2.2.2.2.2.2.2,Xc4 hp.1 hp.2];rfl
theorem Xzi {k:XaD} {p:Nat} (hp:1≤p∧p≤4096) {x:SkS} (hx:Xh1 p x) {e:Xaz} (he:e.Text.length≤20):XgT (Xyo k p x) e.Text e.N=some (XkG e,Xyo k p (stepS k p x e)):=by
 unfold XgT XeX
 rw [show Xaa.v8 (Xyo k p x)=some true from rfl,Option.bind_some,show (!true)=false from rfl,cond_false]
 by_cases h1:e.N<0
 ·rw [Xcl h1,XdU (.inl h1),Xe3 (XdU (.inl h1))]
 rw [Xbd h1]
 by_cases h2:e.N>1048576
 ·rw [Xcl h2,XdU (.inr h2),Xe3 (XdU (.inr h2))]
 have hN:0≤e.N∧e.N≤1048576:=by omega
 rw [Xbd h2,Xgw h1 h2,Xhs (Xgw h1 h2)]
 have l0:=hx.len 0
 have q0:=Xbm hp.1 k 0 e.Text
 have b0:=hx.rng 0 _ (List.getElem_mem (l:=x.R 0) (n:=plN k p 0 e.Text) (by omega))
 have g0:(x.R 0).getD (plN k p 0 e.Text) 0=(x.R 0)[plN k p 0 e.Text]:=by rw [List.getD_eq_getElem?_getD,List.getElem?_eq_getElem (by omega)];rfl
 have w0:∀ s:Xav,s.key=k→(s.rows.m0=p∧s.rows.m1=p∧s.rows.m2=p∧s.rows.m3=p∧s.rows.m4=p∧s.rows.m5=p∧s.rows.m6=p∧s.rows.m7=p)→Xae.v8 s 0 e.Text=some (plN k p 0 e.Text:Int):=fun s h1 h2=>XdS hp s h1 h2 he 0 (by decide)
 have l1:=hx.len 1
 have q1:=Xbm hp.1 k 1 e.Text
 have b1:=hx.rng 1 _ (List.getElem_mem (l:=x.R 1) (n:=plN k p 1 e.Text) (by omega))
 have g1:(x.R 1).getD (plN k p 1 e.Text) 0=(x.R 1)[plN k p 1 e.Text]:=by rw [List.getD_eq_getElem?_getD,List.getElem?_eq_getElem (by omega)];rfl
 have w1:∀ s:Xav,s.key=k→(s.rows.m0=p∧s.rows.m1=p∧s.rows.m2=p∧s.rows.m3=p∧s.rows.m4=p∧s.rows.m5=p∧s.rows.m6=p∧s.rows.m7=p)→Xae.v8 s 1 e.Text=some (plN k p 1 e.Text:Int):=fun s h1 h2=>XdS hp s h1 h2 he 1 (by decide)
 have l2:=hx.len 2
 have q2:=Xbm hp.1 k 2 e.Text
 have b2:=hx.rng 2 _ (List.getElem_mem (l:=x.R 2) (n:=plN k p 2 e.Text) (by omega))
 have g2:(x.R 2).getD (plN k p 2 e.Text) 0=(x.R 2)[plN k p 2 e.Text]:=by rw [List.getD_eq_getElem?_getD,List.getElem?_eq_getElem (by omega)];rfl
 have w2:∀ s:Xav,s.key=k→(s.rows.m0=p∧s.rows.m1=p∧s.rows.m2=p∧s.rows.m3=p∧s.rows.m4=p∧s.rows.m5=p∧s.rows.m6=p∧s.rows.m7=p)→Xae.v8 s 2 e.Text=some (plN k p 2 e.Text:Int):=fun s h1 h2=>XdS hp s h1 h2 he 2 (by decide)
 have l3:=hx.len 3
 have q3:=Xbm hp.1 k 3 e.Text
 have b3:=hx.rng 3 _ (List.getElem_mem (l:=x.R 3) (n:=plN k p 3 e.Text) (by omega))
 have g3:(x.R 3).getD (plN k p 3 e.Text) 0=(x.R 3)[plN k p 3 e.Text]:=by rw [List.getD_eq_getElem?_getD,List.getElem?_eq_getElem (by omega)];rfl
 have w3:∀ s:Xav,s.key=k→(s.rows.m0=p∧s.rows.m1=p∧s.rows.m2=p∧s.rows.m3=p∧s.rows.m4=p∧s.rows.m5=p∧s.rows.m6=p∧s.rows.m7=p)→Xae.v8 s 3 e.Text=some (plN k p 3 e.Text:Int):=fun s h1 h2=>XdS hp s h1 h2 he 3 (by decide)
 have l4:=hx.len 4
 have q4:=Xbm hp.1 k 4 e.Text
 have b4:=hx.rng 4 _ (List.getElem_mem (l:=x.R 4) (n:=plN k p 4 e.Text) (by omega))
 have g4:(x.R 4).getD (plN k p 4 e.Text) 0=(x.R 4)[plN k p 4 e.Text]:=by rw [List.getD_eq_getElem?_getD,List.getElem?_eq_getElem (by omega)];rfl
 have w4:∀ s:Xav,s.key=k→(s.rows.m0=p∧s.rows.m1=p∧s.rows.m2=p∧s.rows.m3=p∧s.rows.m4=p∧s.rows.m5=p∧s.rows.m6=p∧s.rows.m7=p)→Xae.v8 s 4 e.Text=some (plN k p 4 e.Text:Int):=fun s h1 h2=>XdS hp s h1 h2 he 4 (by decide)
 have l5:=hx.len 5
 have q5:=Xbm hp.1 k 5 e.Text
 have b5:=hx.rng 5 _ (List.getElem_mem (l:=x.R 5) (n:=plN k p 5 e.Text) (by omega))
 have g5:(x.R 5).getD (plN k p 5 e.Text) 0=(x.R 5)[plN k p 5 e.Text]:=by rw [List.getD_eq_getElem?_getD,List.getElem?_eq_getElem (by omega)];rfl
 have w5:∀ s:Xav,s.key=k→(s.rows.m0=p∧s.rows.m1=p∧s.rows.m2=p∧s.rows.m3=p∧s.rows.m4=p∧s.rows.m5=p∧s.rows.m6=p∧s.rows.m7=p)→Xae.v8 s 5 e.Text=some (plN k p 5 e.Text:Int):=fun s h1 h2=>XdS hp s h1 h2 he 5 (by decide)
 have l6:=hx.len 6
 have q6:=Xbm hp.1 k 6 e.Text
 have b6:=hx.rng 6 _ (List.getElem_mem (l:=x.R 6) (n:=plN k p 6 e.Text) (by omega))
 have g6:(x.R 6).getD (plN k p 6 e.Text) 0=(x.R 6)[plN k p 6 e.Text]:=by rw [List.getD_eq_getElem?_getD,List.getElem?_eq_getElem (by omega)];rfl
 have w6:∀ s:Xav,s.key=k→(s.rows.m0=p∧s.rows.m1=p∧s.rows.m2=p∧s.rows.m3=p∧s.rows.m4=p∧s.rows.m5=p∧s.rows.m6=p∧s.rows.m7=p)→Xae.v8 s 6 e.Text=some (plN k p 6 e.Text:Int):=fun s h1 h2=>XdS hp s h1 h2 he 6 (by decide)
 have l7:=hx.len 7
 have q7:=Xbm hp.1 k 7 e.Text
 have b7:=hx.rng 7 _ (List.getElem_mem (l:=x.R 7) (n:=plN k p 7 e.Text) (by omega))
 have g7:(x.R 7).getD (plN k p 7 e.Text) 0=(x.R 7)[plN k p 7 e.Text]:=by rw [List.getD_eq_getElem?_getD,List.getElem?_eq_getElem (by omega)];rfl
 have w7:∀ s:Xav,s.key=k→(s.rows.m0=p∧s.rows.m1=p∧s.rows.m2=p∧s.rows.m3=p∧s.rows.m4=p∧s.rows.m5=p∧s.rows.m6=p∧s.rows.m7=p)→Xae.v8 s 7 e.Text=some (plN k p 7 e.Text:Int):=fun s h1 h2=>XdS hp s h1 h2 he 7 (by decide)
 unfold Xyo
 dsimp only
 rw [w0 _ (by rfl) (by exact ⟨rfl,rfl,rfl,rfl,rfl,rfl,rfl,rfl⟩),Option.bind_some,XaX (by omega),Int.toNat_natCast,List.getElem?_eq_getElem (by omega),Option.bind_some,Xfn (n:=(x.R 0)[plN k p 0 e.Text]+e.N) (by omega) (by omega),XaX (by omega)]
 rw [w1 _ (by rfl) (by exact ⟨rfl,rfl,rfl,rfl,rfl,rfl,rfl,rfl⟩),Option.bind_some,XaX (by omega),Int.toNat_natCast,List.getElem?_eq_getElem (by omega),Option.bind_some,Xfn (n:=(x.R 1)[plN k p 1 e.Text]+e.N) (by omega) (by omega),XaX (by omega)]
 rw [w2 _ (by rfl) (by exact ⟨rfl,rfl,rfl,rfl,rfl,rfl,rfl,rfl⟩),Option.bind_some,XaX (by omega),Int.toNat_natCast,List.getElem?_eq_getElem (by omega),Option.bind_some,Xfn (n:=(x.R 2)[plN k p 2 e.Text]+e.N) (by omega) (by omega),XaX (by omega)]
 rw [w3 _ (by rfl) (by exact ⟨rfl,rfl,rfl,rfl,rfl,rfl,rfl,rfl⟩),Option.bind_some,XaX (by omega),Int.toNat_natCast,List.getElem?_eq_getElem (by omega),Option.bind_some,Xfn (n:=(x.R 3)[plN k p 3 e.Text]+e.N) (by omega) (by omega),XaX (by omega)]
 rw [w4 _ (by rfl) (by exact ⟨rfl,rfl,rfl,rfl,rfl,rfl,rfl,rfl⟩),Option.bind_some,XaX (by omega),Int.toNat_natCast,List.getElem?_eq_getElem (by omega),Option.bind_some,Xfn (n:=(x.R 4)[plN k p 4 e.Text]+e.N) (by omega) (by omega),XaX (by omega)]
 rw [w5 _ (by rfl) (by exact ⟨rfl,rfl,rfl,rfl,rfl,rfl,rfl,rfl⟩),Option.bind_some,XaX (by omega),Int.toNat_natCast,List.getElem?_eq_getElem (by omega),Option.bind_some,Xfn (n:=(x.R 5)[plN k p 5 e.Text]+e.N) (by omega) (by omega),XaX (by omega)]
 rw [w6 _ (by rfl) (by exact ⟨rfl,rfl,rfl,rfl,rfl,rfl,rfl,rfl⟩),Option.bind_some,XaX (by omega),Int.toNat_natCast,List.getElem?_eq_getElem (by omega),Option.bind_some,Xfn (n:=(x.R 6)[plN k p 6 e.Text]+e.N) (by omega) (by omega),XaX (by omega)]
 rw [w7 _ (by rfl) (by exact ⟨rfl,rfl,rfl,rfl,rfl,rfl,rfl,rfl⟩),Option.bind_some,XaX (by omega),Int.toNat_natCast,List.getElem?_eq_getElem (by omega),Option.bind_some,Xfn (n:=(x.R 7)[plN k p 7 e.Text]+e.N) (by omega) (by omega),XaX (by omega)]
 rw [sN hx.tot.1 hx.tot.2 hN]
 unfold XqX
 rw [g0,g1,g2,g3,g4,g5,g6,g7];rfl
theorem Xtj {k:XaD} {p:Nat} (hp:1≤p∧p≤4096) {x:SkS} (hx:Xh1 p x) {t:List UInt8} (ht:t.length≤20):Xgd (Xyo k p x) t=some (Xmo k p x t 8):=by
 unfold Xgd Xer
 rw [show Xaa.v8 (Xyo k p x)=some true from rfl,Option.bind_some,show (!true)=false from rfl,cond_false]
 refine Eq.trans (Xf7 (XdS hp _ (by rfl) (by exact ⟨rfl,rfl,rfl,rfl,rfl,rfl,rfl,rfl⟩) ht 0 (by decide)) (Xbm hp.1 _ _ _) (by rfl) (hx.len 0)) ?_
 refine Eq.trans (Xf7 (XdS hp _ (by rfl) (by exact ⟨rfl,rfl,rfl,rfl,rfl,rfl,rfl,rfl⟩) ht 1 (by decide)) (Xbm hp.1 _ _ _) (by rfl) (hx.len 1)) ?_
 refine Eq.trans (Xf7 (XdS hp _ (by rfl) (by exact ⟨rfl,rfl,rfl,rfl,rfl,rfl,rfl,rfl⟩) ht 2 (by decide)) (Xbm hp.1 _ _ _) (by rfl) (hx.len 2)) ?_
 refine Eq.trans (Xf7 (XdS hp _ (by rfl) (by exact ⟨rfl,rfl,rfl,rfl,rfl,rfl,rfl,rfl⟩) ht 3 (by decide)) (Xbm hp.1 _ _ _) (by rfl) (hx.len 3)) ?_
 refine Eq.trans (Xf7 (XdS hp _ (by rfl) (by exact ⟨rfl,rfl,rfl,rfl,rfl,rfl,rfl,rfl⟩) ht 4 (by decide)) (Xbm hp.1 _ _ _) (by rfl) (hx.len 4)) ?_
 refine Eq.trans (Xf7 (XdS hp _ (by rfl) (by exact ⟨rfl,rfl,rfl,rfl,rfl,rfl,rfl,rfl⟩) ht 5 (by decide)) (Xbm hp.1 _ _ _) (by rfl) (hx.len 5)) ?_
 refine Eq.trans (Xf7 (XdS hp _ (by rfl) (by exact ⟨rfl,rfl,rfl,rfl,rfl,rfl,rfl,rfl⟩) ht 6 (by decide)) (Xbm hp.1 _ _ _) (by rfl) (hx.len 6)) ?_
 refine Eq.trans (Xf7 (XdS hp _ (by rfl) (by exact ⟨rfl,rfl,rfl,rfl,rfl,rfl,rfl,rfl⟩) ht 7 (by decide)) (Xbm hp.1 _ _ _) (by rfl) (hx.len 7)) ?_
 rfl
theorem XEm {rows:Int} {p:Nat} (hr:1≤rows∧rows≤8) (hp:1≤p∧p≤4096) (k:XaD):XaE rows (p:Int) k=some (match rows.toNat with
 | 1=>.v1 (Xyt k p (newS p))
 | 2=>.v2 (Xyz k p (newS p))
 | 3=>.v3 (XyM k p (newS p))
 | 4=>.v4 (XyH k p (newS p))
 | 5=>.v5 (Xyg k p (newS p))
 | 6=>.v6 (XyN k p (newS p))
 | 7=>.v7 (XyE k p (newS p))
 | 8=>.v8 (Xyo k p (newS p))
 | _=>.nil):=by
 have hq:0≤(p:Int)∧(p:Int)≤p∧(p:Int)<2^63∧(8:Int)*p≤2^48:=by omega
 unfold XaE XiH
 rw [Xbd (by omega),Xbd (by omega),Xbd (by omega),Xbd (by omega)]
 obtain rfl|rfl|rfl|rfl|rfl|rfl|rfl|rfl:rows=1∨rows=2∨rows=3∨rows=4∨rows=5∨rows=6∨rows=7∨rows=8:=by omega
 all_goals (simp only [XaX hq,Int.toNat_natCast];rfl)
end Go.Vm.Code
namespace Go.Vm
open Go
theorem XxN {α:Type} (l:List α) (sz:α→Nat) (K M:Nat) (hK:K<2^40) (step:Int→Option (Sum Int Bool))
 (hs:∀ i:Nat,step (i:Int)=if h:i<l.length then (if i<K then (if M<sz l[i] then some (.inr false) else some (.inl ((i+1:Nat):Int))) else some (.inr (decide (l.length≤K)))) else some (.inr (decide (l.length≤K)))) :
 iter step FUEL 0=some (decide (l.length≤K)&&(l.take K).all fun e=>decide (sz e≤M)):=by
 have key:=iter_eq (step:=step) (fun i:Int=>decide (l.length≤K)&&((l.take K).drop i.toNat).all fun e=>decide (sz e≤M)) (fun i=>0≤i∧i≤K) (fun i=>(K+1 - i.toNat)) ?_ FUEL 0 ⟨by omega,by omega⟩ (by rw [Xc0];omega)
 ·rw [key];simp
 rintro s ⟨h1,h2⟩
 obtain ⟨i,rfl⟩:=Int.eq_ofNat_of_zero_le h1
 rw [hs i]
 simp only [Int.toNat_natCast]
 by_cases c:i<l.length
 ·rw [dif_pos c]
  by_cases c2:i<K
  ·rw [if_pos c2]
   have hd:((l.take K).drop i)=l[i]::((l.take K).drop (i+1)):=by
    rw [List.drop_eq_getElem_cons (by rw [List.length_take];omega),List.getElem_take]
   by_cases c3:M<sz l[i]
   ·rw [if_pos c3,hd]
    refine .inl ?_
    rw [List.all_cons,decide_eq_false (show ¬ sz l[i]≤M by omega)];simp
   ·rw [if_neg c3,hd]
    refine .inr ⟨_,rfl,⟨by omega,by omega⟩,by omega,?_⟩
    rw [List.all_cons,decide_eq_true (show sz l[i]≤M by omega),Bool.true_and];rfl
  ·rw [if_neg c2]
   refine .inl ?_
   rw [List.drop_eq_nil_of_le (by rw [List.length_take];omega)];simp
 ·rw [dif_neg c]
  refine .inl ?_
  rw [List.drop_eq_nil_of_le (by rw [List.length_take];omega)];simp
end Go.Vm
namespace Go.Vm.Code
open Go Go.Vm Go.Proofs
set_option maxRecDepth 100000
set_option maxHeartbeats 4000000
set_option linter.unusedVariables false
def XgV (l:List Xaz) (i:Int):Option (Sum Int Bool):=
 cond (decide (i<(l.length:Int)))
  (
  cond (decide (i<30))
   (
   XaU (decide ((0:Int)≤i∧i<(l.length:Int))) <|
   (l[i.toNat]?).bind fun (e:Xaz)=>
   cond (decide ((e.Text.length:Int)>20))
    (
    some (.inr (false)))
    (
    some (.inl (wI .i64 (i+1)))))
   (
   some (.inr (decide ((l.length:Int)≤30)))))
  (
  some (.inr (decide ((l.length:Int)≤30))))
def XjZ (l:List Xaz):Option Bool:=
 iter (fun st=>XgV l st) FUEL 0
def rx8 (x:Bool):Xdj:=⟨.bool x,[],[none]⟩
abbrev Xa9:=(List Xaz)→Option Bool
def r8 (g:Xa9):Dec:=dSl 0 2 (unR 2 Xin) fun (y0:List Xaz)=>Xfq (ofG (g y0) rx8)
theorem r8_c {g:Xa9} {y0:List Xaz} {x:Bool} (hx:g y0=some x):r8 g [.slice (some ⟨0,0,none⟩) y0.length 2] [some (vT Xbt y0)]=some (rx8 x):=(Xuy (XCU (by first|exact Xo2|exact XaA|exact XnY|exact XmA|exact XoF) (by decide) XpK _)).trans (Xbx hx)
def s8 (g:Xa9):Xc3:=⟨[.sl 2],r8 g⟩
theorem r8_eq {g:Xa9} {y0:List Xaz} {x:Bool} (hx:g y0=some x):(s8 g).run [.slice (some ⟨0,0,none⟩) y0.length 2] [some (vT Xbt y0)]=some (rx8 x):=r8_c hx
abbrev XCP:List (Nat×Xc3):=[]
def XmN (l:List Xaz) (i:Int):VM:=
 ⟨⟨8,24,[(0,.slice (some ⟨0,0,none⟩) l.length 2),(3,.int .i64 i)],[.code Xzo,.inLoop Xzo,.inBlock 0,.code XEK],[],false,none⟩,[],[(0,.row false (vT Xbt l))],1⟩
theorem Xzu (hS:XaL Try.prog (XaY (XCP))) (l:List Xaz) (res:Bool):∀ fuel (st:Int) (o:Bool),iter (fun st=>XgV l st) fuel st=some o→(o=res) →
 Xa0 Try.prog 8 1 (XmN l st) (fun v H _=>Res 1 (rx8 res) v H):=by
 intro fuel st o h hc
 refine Xbl (head:=fun st=>XmN l st) (C:=fun o=>(o=res)) ?_ fuel st o h hc
 clear h hc o st fuel
 intro i o h hc
 replace h:XgV l i=some o:=h
 show Xa0 Try.prog 8 1 (XmN l i) (fun v H _=>Res 1 (rx8 res) v H)
 unfold XgV at h
 refine Xa1 XaJ hS true 3000 ?_
 conv=>whnf
 refine br.h2 h (by rfl) ?_ ?_
 ·clear h;intro hb h;conv=>whnf
  exact W
 clear h;intro hb h;conv=>whnf
 refine br.h2 h (by rfl) ?_ ?_
 ·clear h;intro hb h;conv=>whnf
  exact W
 clear h;intro hb h;conv=>whnf
 replace h:=XaU.elim h;obtain ⟨hb,h⟩:=h
 try (refine req.intro hb ?_;conv=>whnf)
 replace h:=XaK.elim h;obtain ⟨e,hy,h⟩:=h
 refine rd.T (j:=0) XaA hy (by first|omega|exact Nat.zero_add _|exact congrArg (·+_) (Nat.zero_add _)) (by decide) rfl ?_
 conv=>whnf
 refine br.h h (by rfl) ?_ ?_
 ·clear h;intro hb h;conv=>whnf
  exact W
 clear h;intro hb h;conv=>whnf
 cases h;simp only [Sum.elim_inl,XmN] at hc
 exact Xfj hc [(0,0)] rfl
theorem XCM (hS:XaL Try.prog (XaY (XCP))) (l:List Xaz) (res:Bool) (h:XjZ l=some res) :
 Xa0 Try.prog 8 1 ⟨⟨8,24,[(0,.slice (some ⟨0,0,none⟩) l.length 2)],[.code XCY],[],false,none⟩,[],[(0,.row false (vT Xbt l))],1⟩ (fun v H _=>Res 1 (rx8 res) v H):=by
 unfold XjZ at h
 refine Xa1 XaJ hS true 3000 ?_
 conv=>whnf
 have hl:=Xzu hS _ res _ _ _ h rfl;simp only [XmN] at hl
 exact Xfj hl [(0,0)] rfl
def XaS:Xa9:=XjZ
theorem lift8:Xgx Try.prog 8 (s8 XaS):=by
 have hL:=XCM (XaL.Xbk trivial)
 exact okA ⟨Try.f8,rfl,by decide,rfl⟩
def Xgc (a:List Int) (b:List Int):Option Bool:=
 some ((a.length:Int)==(b.length:Int))
def rx55 (x:Bool):Xdj:=⟨.bool x,[],[none,none]⟩
abbrev XaI:=(List Int)→(List Int)→Option Bool
def r55 (g:XaI):Dec:=dSl 0 1 (unL (asI .i64)) fun (y0:List Int)=>dSl 1 1 (unL (asI .i64)) fun (y1:List Int)=>Xfq (ofG (g y0 y1) rx55)
theorem r55_c {g:XaI} {y0:List Int} {y1:List Int} {x:Bool} (hx:g y0 y1=some x):r55 g [.slice (some ⟨0,0,none⟩) y0.length 1,.slice (some ⟨1,0,none⟩) y1.length 1] [some (vI .i64 y0),some (vI .i64 y1)]=some (rx55 x):=(Xuy (XcT _ _)).trans ((Xuy (XcT _ _)).trans (Xbx hx))
def s55 (g:XaI):Xc3:=⟨[.sl 1,.sl 1],r55 g⟩
theorem XlW {g:XaI} {y0:List Int} {y1:List Int} {x:Bool} (hx:g y0 y1=some x):(s55 g).run [.slice (some ⟨0,0,none⟩) y0.length 1,.slice (some ⟨1,0,none⟩) y1.length 1] [some (vI .i64 y0),some (vI .i64 y1)]=some (rx55 x):=r55_c hx
abbrev XEI:List (Nat×Xc3):=[]
theorem XAz (hS:XaL Try.prog (XaY (XEI))) (a:List Int) (b:List Int) (res:Bool) (h:Xgc a b=some res) :
 Xa0 Try.prog 55 2 ⟨⟨55,10,[(0,.slice (some ⟨0,0,none⟩) a.length 1),(1,.slice (some ⟨1,0,none⟩) b.length 1)],[.code XCy],[],false,none⟩,[],[(0,.row false (vI .i64 a)),(1,.row false (vI .i64 b))],2⟩ (fun v H _=>Res 2 (rx55 res) v H):=by
 unfold Xgc at h
 refine Xa1 XaJ hS true 3000 ?_
 conv=>whnf
 exact W
def Xak:XaI:=Xgc
theorem XlU:Xgx Try.prog 55 (s55 Xak):=by
 have hL:=XAz (XaL.Xbk trivial)
 exact okA ⟨Try.f55,rfl,by decide,rfl⟩
def Xdi (s:Xax) (oa1:Xax):Option (Sum Unit Bool):=
 some (.inr (true))
def XfE (Xaa:Xaf) (s:Xax) (oa1:Xax):Option Bool:=
 (Xaa.v0 (Xax.mk s.key Xbr.mk s.total)).bind fun x0=>
 cond (!x0)
  (
  some (false))
  (
  (Xaa.v0 (Xax.mk oa1.key Xbr.mk oa1.total)).bind fun x01=>
  cond (!x01)
   (
   some (false))
   (
   let t:=!((s.key.A==oa1.key.A)&&((s.key.B==oa1.key.B)&&true))
   cond (t)
    (
    some (false))
    (
    iter (fun _=>Xdi s oa1) FUEL ())))
def XlL (x:Bool):Xdj:=⟨.bool x,[],[none,none,none,none,none,none,none,none,none,none,none,none,none,none,none,none,none,none,none,none]⟩
abbrev Xda:=Xax→Xax→Option Bool
def XuA (g:Xda):Dec:=dTr 10 (XcE 0) fun (y0:Xax)=>dTr 10 (XcE 10) fun (y1:Xax)=>Xfq (ofG (g y0 y1) XlL)
theorem XxY {g:Xda} {y0:Xax} {y1:Xax} {x:Bool} (hx:g y0 y1=some x):XuA g [.pointer (some ⟨0,0,none⟩),.pointer (some ⟨10,0,none⟩)] [some [.int .u64 y0.key.A,.int .u64 y0.key.B,.slice none 0 0,.int .i64 y0.total],none,none,none,none,none,none,none,none,none,some [.int .u64 y1.key.A,.int .u64 y1.key.B,.slice none 0 0,.int .i64 y1.total],none,none,none,none,none,none,none,none,none]=some (XlL x):=(Xcx rfl rfl (XeQ 0 _)).trans ((Xcx rfl rfl (XeQ 10 _)).trans (Xbx hx))
abbrev Xpt (Xaa:Xaf):List (Nat×Xc3):=[(38,s38 Xaa)]
def XiK (s:Xax) (oa1:Xax):VM:=
 ⟨⟨54,32,[(1,.slice none 0 0),(2,.func (.func 55) ⟨[]⟩ ⟨[]⟩),(15,.slice none 0 0),(16,.int .i64 0),(17,.int .i64 0)],[.code XuN,.inLoop XuN,.inBlock 0,.code Xyk],[],false,none⟩,[⟨42,33,[],[.inReg (opsD XDW 0),.code .ret],[],false,none⟩],[(0,.row false [.int .u64 s.key.A,.int .u64 s.key.B,.slice none 0 0,.int .i64 s.total]),(10,.row false [.int .u64 oa1.key.A,.int .u64 oa1.key.B,.slice none 0 0,.int .i64 oa1.total])],45⟩
theorem XpN (Xaa:Xaf) (hS:XaL Try.prog (XaY (Xpt Xaa))) (s:Xax) (oa1:Xax) (res:Bool):∀ fuel (st:Unit) (o:Bool),iter (fun _=>Xdi s oa1) fuel st=some o→(o=res) →
 Xa0 Try.prog 42 20 (XiK s oa1 ) (fun v H _=>Res 20 (XlL res) v H):=by
 intro fuel st o h hc
 refine Xbl (head:=fun st=>XiK s oa1 ) (C:=fun o=>(o=res)) ?_ fuel st o h hc
 clear h hc o st fuel
 intro st o h hc
 replace h:Xdi s oa1=some o:=h
 show Xa0 Try.prog 42 20 (XiK s oa1 ) (fun v H _=>Res 20 (XlL res) v H)
 unfold Xdi at h
 refine Xa1 XaJ hS true 3000 ?_
 conv=>whnf
 exact W
theorem XsC (Xaa:Xaf) (hS:XaL Try.prog (XaY (Xpt Xaa))) (s:Xax) (oa1:Xax) (res:Bool) (h:XfE Xaa s oa1=some res) :
 Xa0 Try.prog 42 20 ⟨⟨42,33,[(0,.pointer (some ⟨0,0,none⟩)),(1,.pointer (some ⟨10,0,none⟩))],[.code Xnl],[],false,none⟩,[],[(0,.row false [.int .u64 s.key.A,.int .u64 s.key.B,.slice none 0 0,.int .i64 s.total]),(10,.row false [.int .u64 oa1.key.A,.int .u64 oa1.key.B,.slice none 0 0,.int .i64 oa1.total])],20⟩ (fun v H _=>Res 20 (XlL res) v H):=by
 unfold XfE at h
 refine Xa1 XaJ hS true 3000 ?_
 conv=>whnf
 replace h:=XaK.elim h;obtain ⟨x0,hy,h⟩:=h
 refine Xbn.XaO [] (Xar («as»:=[.pointer (some ⟨0,0,none⟩)]) (ws:=[.blk 0 false,.no,.no,.no,.no,.no,.no,.no,.no,.no]) (n:=0) (m:=0) (t':=21) (Xam (Xa6 rfl rfl (Xai rfl rfl rfl rfl (Xan (Xan (Xan (Xan (Xan (Xan (Xan (Xan (Xan XaR)))))))))) rfl) rfl XaP) rfl (by rfl) (Xme hy) rfl rfl rfl rfl (Xab rfl (Xab rfl (Xab rfl (Xab rfl (Xab rfl (Xab rfl (Xab rfl (Xab rfl (Xab rfl (Xab rfl XaN)))))))))) XaM rfl) ?_
 conv=>whnf
 refine br.h h (by rfl) ?_ ?_
 ·clear h;intro hb h;conv=>whnf
  exact W
 clear h;intro hb h;conv=>whnf
 replace h:=XaK.elim h;obtain ⟨x01,hy,h⟩:=h
 refine Xbn.XaO [] (Xar («as»:=[.pointer (some ⟨0,0,none⟩)]) (ws:=[.blk 10 false,.no,.no,.no,.no,.no,.no,.no,.no,.no]) (n:=0) (m:=0) (t':=25) (Xam (Xa6 rfl rfl (Xai rfl rfl rfl rfl (Xan (Xan (Xan (Xan (Xan (Xan (Xan (Xan (Xan XaR)))))))))) rfl) rfl XaP) rfl (by rfl) (Xme hy) rfl rfl rfl rfl (Xab rfl (Xab rfl (Xab rfl (Xab rfl (Xab rfl (Xab rfl (Xab rfl (Xab rfl (Xab rfl (Xab rfl XaN)))))))))) XaM rfl) ?_
 conv=>whnf
 refine br.h h (by rfl) ?_ ?_
 ·clear h;intro hb h;conv=>whnf
  exact W
 clear h;intro hb h;conv=>whnf
 let t:Bool:=!((s.key.A==oa1.key.A)&&((s.key.B==oa1.key.B)&&true))
 refine br.h h (by rfl) ?_ ?_
 ·clear h;intro hb h;conv=>whnf
  exact W
 clear h;intro hb h;conv=>whnf
 have hl:=XpN Xaa hS _ _ res _ _ _ h rfl;simp only [XiK] at hl
 exact lrA1 hl [(0,0),(1,1),(2,2),(3,3),(4,4),(5,5),(6,6),(7,7),(8,8),(9,9),(10,10),(11,11),(12,12),(13,13),(14,14),(15,15),(16,16),(17,17),(18,18),(19,19)] rfl
def XfH (Xaa:Xaf) (Xak:XaI) (s:XaH) (oa1:XaH):Option Bool:=
 (Xaa.v1 s).bind fun x1=>
 cond (!x1)
  (
  some (false))
  (
  (Xaa.v1 oa1).bind fun x11=>
  cond (!x11)
   (
   some (false))
   (
   let t:=!((s.key.A==oa1.key.A)&&((s.key.B==oa1.key.B)&&true))
   cond (t)
    (
    some (false))
    (
    XaU (decide (s.rows.m0≤s.rows.e0.length)) <|
    XaU (decide (oa1.rows.m0≤oa1.rows.e0.length)) <|
    (Xak (s.rows.e0.take s.rows.m0) (oa1.rows.e0.take oa1.rows.m0)).bind fun x12=>
    cond (!x12)
     (
     some (false))
     (
     some (true)))))
def XuQ (x:Bool):Xdj:=⟨.bool x,[],[none,none,none,none,none,none,none,none,none,none,none,none,none,none,none,none,none,none,none,none]⟩
abbrev Xe9:=XaH→XaH→Option Bool
def Xy5 (g:Xe9):Dec:=dTr 10 (XbX 0) fun (y0:XaH)=>dTr 10 (XbX 10) fun (y1:XaH)=>Xfq (ofG (g y0 y1) XuQ)
abbrev Xth (Xaa:Xaf) (Xak:XaI):List (Nat×Xc3):=[(38,s38 Xaa),(55,s55 Xak)]
theorem XsE (Xaa:Xaf) (Xak:XaI) (hS:XaL Try.prog (XaY (Xth Xaa Xak))) (s:XaH) (oa1:XaH) (res:Bool) (h:XfH Xaa Xak s oa1=some res) :
 Xa0 Try.prog 42 20 ⟨⟨42,33,[(0,.pointer (some ⟨0,0,none⟩)),(1,.pointer (some ⟨10,0,none⟩))],[.code Xnl],[],false,none⟩,[],[(0,.row false [.int .u64 s.key.A,.int .u64 s.key.B,.slice (some ⟨1,0,none⟩) 1 1,.int .i64 s.total]),(1,.row false [.slice (some ⟨2,0,none⟩) s.rows.m0 1]),(2,.row false (vI .i64 s.rows.e0)),(10,.row false [.int .u64 oa1.key.A,.int .u64 oa1.key.B,.slice (some ⟨11,0,none⟩) 1 1,.int .i64 oa1.total]),(11,.row false [.slice (some ⟨12,0,none⟩) oa1.rows.m0 1]),(12,.row false (vI .i64 oa1.rows.e0))],20⟩ (fun v H _=>Res 20 (XuQ res) v H):=by
 unfold XfH at h
 have R1:=@XlW Xak
 refine Xa1 XaJ hS true 3000 ?_
 conv=>whnf
 replace h:=XaK.elim h;obtain ⟨x1,hy,h⟩:=h
 refine Xbn.XaO [] (Xar («as»:=[.pointer (some ⟨0,0,none⟩)]) (ws:=[.blk 0 false,.blk 1 false,.blk 2 false,.no,.no,.no,.no,.no,.no,.no]) (n:=0) (m:=0) (t':=21) (Xam (Xa6 rfl rfl (Xai rfl rfl rfl rfl (Xai rfl rfl rfl rfl (Xai rfl rfl (Xat) rfl (Xan (Xan (Xan (Xan (Xan (Xan (Xan XaR)))))))))) rfl) rfl XaP) rfl (by rfl) (XjX hy) rfl rfl rfl rfl (Xab rfl (Xab rfl (Xab rfl (Xab rfl (Xab rfl (Xab rfl (Xab rfl (Xab rfl (Xab rfl (Xab rfl XaN)))))))))) XaM rfl) ?_
 conv=>whnf
 refine br.h h (by rfl) ?_ ?_
 ·clear h;intro hb h;conv=>whnf
  exact W
 clear h;intro hb h;conv=>whnf
 replace h:=XaK.elim h;obtain ⟨x11,hy,h⟩:=h
 refine Xbn.XaO [] (Xar («as»:=[.pointer (some ⟨0,0,none⟩)]) (ws:=[.blk 10 false,.blk 11 false,.blk 12 false,.no,.no,.no,.no,.no,.no,.no]) (n:=0) (m:=0) (t':=25) (Xam (Xa6 rfl rfl (Xai rfl rfl rfl rfl (Xai rfl rfl rfl rfl (Xai rfl rfl (Xat) rfl (Xan (Xan (Xan (Xan (Xan (Xan (Xan XaR)))))))))) rfl) rfl XaP) rfl (by rfl) (XjX hy) rfl rfl rfl rfl (Xab rfl (Xab rfl (Xab rfl (Xab rfl (Xab rfl (Xab rfl (Xab rfl (Xab rfl (Xab rfl (Xab rfl XaN)))))))))) XaM rfl) ?_
 conv=>whnf
 exact W
def XfT (Xaa:Xaf) (Xak:XaI) (s:XaG) (oa1:XaG):Option Bool:=
 (Xaa.v2 s).bind fun x2=>
 cond (!x2)
  (
  some (false))
  (
  (Xaa.v2 oa1).bind fun x21=>
  cond (!x21)
   (
   some (false))
   (
   let t:=!((s.key.A==oa1.key.A)&&((s.key.B==oa1.key.B)&&true))
   cond (t)
    (
    some (false))
    (
    XaU (decide (s.rows.m0≤s.rows.e0.length)) <|
    XaU (decide (oa1.rows.m0≤oa1.rows.e0.length)) <|
    (Xak (s.rows.e0.take s.rows.m0) (oa1.rows.e0.take oa1.rows.m0)).bind fun x1=>
    cond (!x1)
     (
     some (false))
     (
     XaU (decide (s.rows.m1≤s.rows.e1.length)) <|
     XaU (decide (oa1.rows.m1≤oa1.rows.e1.length)) <|
     (Xak (s.rows.e1.take s.rows.m1) (oa1.rows.e1.take oa1.rows.m1)).bind fun x11=>
     cond (!x11)
      (
      some (false))
      (
      some (true))))))
def Xvx (x:Bool):Xdj:=⟨.bool x,[],[none,none,none,none,none,none,none,none,none,none,none,none,none,none,none,none,none,none,none,none]⟩
abbrev Xfc:=XaG→XaG→Option Bool
def Xyv (g:Xfc):Dec:=dTr 10 (Xb4 0) fun (y0:XaG)=>dTr 10 (Xb4 10) fun (y1:XaG)=>Xfq (ofG (g y0 y1) Xvx)
abbrev Xtr (Xaa:Xaf) (Xak:XaI):List (Nat×Xc3):=[(38,s38 Xaa),(55,s55 Xak)]
theorem Xss (Xaa:Xaf) (Xak:XaI) (hS:XaL Try.prog (XaY (Xtr Xaa Xak))) (s:XaG) (oa1:XaG) (res:Bool) (h:XfT Xaa Xak s oa1=some res) :
 Xa0 Try.prog 42 20 ⟨⟨42,33,[(0,.pointer (some ⟨0,0,none⟩)),(1,.pointer (some ⟨10,0,none⟩))],[.code Xnl],[],false,none⟩,[],[(0,.row false [.int .u64 s.key.A,.int .u64 s.key.B,.slice (some ⟨1,0,none⟩) 2 1,.int .i64 s.total]),(1,.row false [.slice (some ⟨2,0,none⟩) s.rows.m0 1,.slice (some ⟨3,0,none⟩) s.rows.m1 1]),(2,.row false (vI .i64 s.rows.e0)),(3,.row false (vI .i64 s.rows.e1)),(10,.row false [.int .u64 oa1.key.A,.int .u64 oa1.key.B,.slice (some ⟨11,0,none⟩) 2 1,.int .i64 oa1.total]),(11,.row false [.slice (some ⟨12,0,none⟩) oa1.rows.m0 1,.slice (some ⟨13,0,none⟩) oa1.rows.m1 1]),(12,.row false (vI .i64 oa1.rows.e0)),(13,.row false (vI .i64 oa1.rows.e1))],20⟩ (fun v H _=>Res 20 (Xvx res) v H):=by
 unfold XfT at h
 have R1:=@XlW Xak
 refine Xa1 XaJ hS true 3000 ?_
 conv=>whnf
 replace h:=XaK.elim h;obtain ⟨x2,hy,h⟩:=h
 refine Xbn.XaO [] (Xar («as»:=[.pointer (some ⟨0,0,none⟩)]) (ws:=[.blk 0 false,.blk 1 false,.blk 2 false,.blk 3 false,.no,.no,.no,.no,.no,.no]) (n:=0) (m:=0) (t':=21) (Xam (Xa6 rfl rfl (Xai rfl rfl rfl rfl (Xai rfl rfl rfl rfl (Xai rfl rfl (Xat) rfl (Xai rfl rfl (Xat) rfl (Xan (Xan (Xan (Xan (Xan (Xan XaR)))))))))) rfl) rfl XaP) rfl (by rfl) (Xj2 hy) rfl rfl rfl rfl (Xab rfl (Xab rfl (Xab rfl (Xab rfl (Xab rfl (Xab rfl (Xab rfl (Xab rfl (Xab rfl (Xab rfl XaN)))))))))) XaM rfl) ?_
 conv=>whnf
 refine br.h h (by rfl) ?_ ?_
 ·clear h;intro hb h;conv=>whnf
  exact W
 clear h;intro hb h;conv=>whnf
 replace h:=XaK.elim h;obtain ⟨x21,hy,h⟩:=h
 refine Xbn.XaO [] (Xar («as»:=[.pointer (some ⟨0,0,none⟩)]) (ws:=[.blk 10 false,.blk 11 false,.blk 12 false,.blk 13 false,.no,.no,.no,.no,.no,.no]) (n:=0) (m:=0) (t':=25) (Xam (Xa6 rfl rfl (Xai rfl rfl rfl rfl (Xai rfl rfl rfl rfl (Xai rfl rfl (Xat) rfl (Xai rfl rfl (Xat) rfl (Xan (Xan (Xan (Xan (Xan (Xan XaR)))))))))) rfl) rfl XaP) rfl (by rfl) (Xj2 hy) rfl rfl rfl rfl (Xab rfl (Xab rfl (Xab rfl (Xab rfl (Xab rfl (Xab rfl (Xab rfl (Xab rfl (Xab rfl (Xab rfl XaN)))))))))) XaM rfl) ?_
 conv=>whnf
 exact W
def XfU (Xaa:Xaf) (Xak:XaI) (s:XaF) (oa1:XaF):Option Bool:=
 (Xaa.v3 s).bind fun x3=>
 cond (!x3)
  (
  some (false))
  (
  (Xaa.v3 oa1).bind fun x31=>
  cond (!x31)
   (
   some (false))
   (
   let t:=!((s.key.A==oa1.key.A)&&((s.key.B==oa1.key.B)&&true))
   cond (t)
    (
    some (false))
    (
    XaU (decide (s.rows.m0≤s.rows.e0.length)) <|
    XaU (decide (oa1.rows.m0≤oa1.rows.e0.length)) <|
    (Xak (s.rows.e0.take s.rows.m0) (oa1.rows.e0.take oa1.rows.m0)).bind fun x1=>
    cond (!x1)
     (
     some (false))
     (
     XaU (decide (s.rows.m1≤s.rows.e1.length)) <|
     XaU (decide (oa1.rows.m1≤oa1.rows.e1.length)) <|
     (Xak (s.rows.e1.take s.rows.m1) (oa1.rows.e1.take oa1.rows.m1)).bind fun x11=>
     cond (!x11)
      (
      some (false))
      (
      XaU (decide (s.rows.m2≤s.rows.e2.length)) <|
      XaU (decide (oa1.rows.m2≤oa1.rows.e2.length)) <|
      (Xak (s.rows.e2.take s.rows.m2) (oa1.rows.e2.take oa1.rows.m2)).bind fun x12=>
      cond (!x12)
       (
       some (false))
       (
       some (true)))))))
def Xt0 (x:Bool):Xdj:=⟨.bool x,[],[none,none,none,none,none,none,none,none,none,none,none,none,none,none,none,none,none,none,none,none]⟩
abbrev Xfb:=XaF→XaF→Option Bool
def XyT (g:Xfb):Dec:=dTr 10 (XbW 0) fun (y0:XaF)=>dTr 10 (XbW 10) fun (y1:XaF)=>Xfq (ofG (g y0 y1) Xt0)
abbrev Xvh (Xaa:Xaf) (Xak:XaI):List (Nat×Xc3):=[(38,s38 Xaa),(55,s55 Xak)]
theorem XsJ (Xaa:Xaf) (Xak:XaI) (hS:XaL Try.prog (XaY (Xvh Xaa Xak))) (s:XaF) (oa1:XaF) (res:Bool) (h:XfU Xaa Xak s oa1=some res) :
 Xa0 Try.prog 42 20 ⟨⟨42,33,[(0,.pointer (some ⟨0,0,none⟩)),(1,.pointer (some ⟨10,0,none⟩))],[.code Xnl],[],false,none⟩,[],[(0,.row false [.int .u64 s.key.A,.int .u64 s.key.B,.slice (some ⟨1,0,none⟩) 3 1,.int .i64 s.total]),(1,.row false [.slice (some ⟨2,0,none⟩) s.rows.m0 1,.slice (some ⟨3,0,none⟩) s.rows.m1 1,.slice (some ⟨4,0,none⟩) s.rows.m2 1]),(2,.row false (vI .i64 s.rows.e0)),(3,.row false (vI .i64 s.rows.e1)),(4,.row false (vI .i64 s.rows.e2)),(10,.row false [.int .u64 oa1.key.A,.int .u64 oa1.key.B,.slice (some ⟨11,0,none⟩) 3 1,.int .i64 oa1.total]),(11,.row false [.slice (some ⟨12,0,none⟩) oa1.rows.m0 1,.slice (some ⟨13,0,none⟩) oa1.rows.m1 1,.slice (some ⟨14,0,none⟩) oa1.rows.m2 1]),(12,.row false (vI .i64 oa1.rows.e0)),(13,.row false (vI .i64 oa1.rows.e1)),(14,.row false (vI .i64 oa1.rows.e2))],20⟩ (fun v H _=>Res 20 (Xt0 res) v H):=by
 unfold XfU at h
 have R1:=@XlW Xak
 refine Xa1 XaJ hS true 3000 ?_
 conv=>whnf
 replace h:=XaK.elim h;obtain ⟨x3,hy,h⟩:=h
 refine Xbn.XaO [] (Xar («as»:=[.pointer (some ⟨0,0,none⟩)]) (ws:=[.blk 0 false,.blk 1 false,.blk 2 false,.blk 3 false,.blk 4 false,.no,.no,.no,.no,.no]) (n:=0) (m:=0) (t':=21) (Xam (Xa6 rfl rfl (Xai rfl rfl rfl rfl (Xai rfl rfl rfl rfl (Xai rfl rfl (Xat) rfl (Xai rfl rfl (Xat) rfl (Xai rfl rfl (Xat) rfl (Xan (Xan (Xan (Xan (Xan XaR)))))))))) rfl) rfl XaP) rfl (by rfl) (Xj6 hy) rfl rfl rfl rfl (Xab rfl (Xab rfl (Xab rfl (Xab rfl (Xab rfl (Xab rfl (Xab rfl (Xab rfl (Xab rfl (Xab rfl XaN)))))))))) XaM rfl) ?_
 conv=>whnf
 refine br.h h (by rfl) ?_ ?_
 ·clear h;intro hb h;conv=>whnf
  exact W
 clear h;intro hb h;conv=>whnf
 replace h:=XaK.elim h;obtain ⟨x31,hy,h⟩:=h
 refine Xbn.XaO [] (Xar («as»:=[.pointer (some ⟨0,0,none⟩)]) (ws:=[.blk 10 false,.blk 11 false,.blk 12 false,.blk 13 false,.blk 14 false,.no,.no,.no,.no,.no]) (n:=0) (m:=0) (t':=25) (Xam (Xa6 rfl rfl (Xai rfl rfl rfl rfl (Xai rfl rfl rfl rfl (Xai rfl rfl (Xat) rfl (Xai rfl rfl (Xat) rfl (Xai rfl rfl (Xat) rfl (Xan (Xan (Xan (Xan (Xan XaR)))))))))) rfl) rfl XaP) rfl (by rfl) (Xj6 hy) rfl rfl rfl rfl (Xab rfl (Xab rfl (Xab rfl (Xab rfl (Xab rfl (Xab rfl (Xab rfl (Xab rfl (Xab rfl (Xab rfl XaN)))))))))) XaM rfl) ?_
 conv=>whnf
 exact W
def XfX (Xaa:Xaf) (Xak:XaI) (s:XaC) (oa1:XaC):Option Bool:=
 (Xaa.v4 s).bind fun x4=>
 cond (!x4)
  (
  some (false))
  (
  (Xaa.v4 oa1).bind fun x41=>
  cond (!x41)
   (
   some (false))
   (
   let t:=!((s.key.A==oa1.key.A)&&((s.key.B==oa1.key.B)&&true))
   cond (t)
    (
    some (false))
    (
    XaU (decide (s.rows.m0≤s.rows.e0.length)) <|
    XaU (decide (oa1.rows.m0≤oa1.rows.e0.length)) <|
    (Xak (s.rows.e0.take s.rows.m0) (oa1.rows.e0.take oa1.rows.m0)).bind fun x1=>
    cond (!x1)
     (
     some (false))
     (
     XaU (decide (s.rows.m1≤s.rows.e1.length)) <|
     XaU (decide (oa1.rows.m1≤oa1.rows.e1.length)) <|
     (Xak (s.rows.e1.take s.rows.m1) (oa1.rows.e1.take oa1.rows.m1)).bind fun x11=>
     cond (!x11)
      (
      some (false))
      (
      XaU (decide (s.rows.m2≤s.rows.e2.length)) <|
      XaU (decide (oa1.rows.m2≤oa1.rows.e2.length)) <|
      (Xak (s.rows.e2.take s.rows.m2) (oa1.rows.e2.take oa1.rows.m2)).bind fun x12=>
      cond (!x12)
       (
       some (false))
       (
       XaU (decide (s.rows.m3≤s.rows.e3.length)) <|
       XaU (decide (oa1.rows.m3≤oa1.rows.e3.length)) <|
       (Xak (s.rows.e3.take s.rows.m3) (oa1.rows.e3.take oa1.rows.m3)).bind fun x13=>
       cond (!x13)
        (
        some (false))
        (
        some (true))))))))
def Xtt (x:Bool):Xdj:=⟨.bool x,[],[none,none,none,none,none,none,none,none,none,none,none,none,none,none,none,none,none,none,none,none]⟩
abbrev Xfa:=XaC→XaC→Option Bool
def Xyu (g:Xfa):Dec:=dTr 10 (Xb2 0) fun (y0:XaC)=>dTr 10 (Xb2 10) fun (y1:XaC)=>Xfq (ofG (g y0 y1) Xtt)
abbrev Xt6 (Xaa:Xaf) (Xak:XaI):List (Nat×Xc3):=[(38,s38 Xaa),(55,s55 Xak)]
theorem Xso (Xaa:Xaf) (Xak:XaI) (hS:XaL Try.prog (XaY (Xt6 Xaa Xak))) (s:XaC) (oa1:XaC) (res:Bool) (h:XfX Xaa Xak s oa1=some res) :
 Xa0 Try.prog 42 20 ⟨⟨42,33,[(0,.pointer (some ⟨0,0,none⟩)),(1,.pointer (some ⟨10,0,none⟩))],[.code Xnl],[],false,none⟩,[],[(0,.row false [.int .u64 s.key.A,.int .u64 s.key.B,.slice (some ⟨1,0,none⟩) 4 1,.int .i64 s.total]),(1,.row false [.slice (some ⟨2,0,none⟩) s.rows.m0 1,.slice (some ⟨3,0,none⟩) s.rows.m1 1,.slice (some ⟨4,0,none⟩) s.rows.m2 1,.slice (some ⟨5,0,none⟩) s.rows.m3 1]),(2,.row false (vI .i64 s.rows.e0)),(3,.row false (vI .i64 s.rows.e1)),(4,.row false (vI .i64 s.rows.e2)),(5,.row false (vI .i64 s.rows.e3)),(10,.row false [.int .u64 oa1.key.A,.int .u64 oa1.key.B,.slice (some ⟨11,0,none⟩) 4 1,.int .i64 oa1.total]),(11,.row false [.slice (some ⟨12,0,none⟩) oa1.rows.m0 1,.slice (some ⟨13,0,none⟩) oa1.rows.m1 1,.slice (some ⟨14,0,none⟩) oa1.rows.m2 1,.slice (some ⟨15,0,none⟩) oa1.rows.m3 1]),(12,.row false (vI .i64 oa1.rows.e0)),(13,.row false (vI .i64 oa1.rows.e1)),(14,.row false (vI .i64 oa1.rows.e2)),(15,.row false (vI .i64 oa1.rows.e3))],20⟩ (fun v H _=>Res 20 (Xtt res) v H):=by
 unfold XfX at h
 have R1:=@XlW Xak
 refine Xa1 XaJ hS true 3000 ?_
 conv=>whnf
 replace h:=XaK.elim h;obtain ⟨x4,hy,h⟩:=h
 refine Xbn.XaO [] (Xar («as»:=[.pointer (some ⟨0,0,none⟩)]) (ws:=[.blk 0 false,.blk 1 false,.blk 2 false,.blk 3 false,.blk 4 false,.blk 5 false,.no,.no,.no,.no]) (n:=0) (m:=0) (t':=21) (Xam (Xa6 rfl rfl (Xai rfl rfl rfl rfl (Xai rfl rfl rfl rfl (Xai rfl rfl (Xat) rfl (Xai rfl rfl (Xat) rfl (Xai rfl rfl (Xat) rfl (Xai rfl rfl (Xat) rfl (Xan (Xan (Xan (Xan XaR)))))))))) rfl) rfl XaP) rfl (by rfl) (Xkd hy) rfl rfl rfl rfl (Xab rfl (Xab rfl (Xab rfl (Xab rfl (Xab rfl (Xab rfl (Xab rfl (Xab rfl (Xab rfl (Xab rfl XaN)))))))))) XaM rfl) ?_
 conv=>whnf
 refine br.h h (by rfl) ?_ ?_
 ·clear h;intro hb h;conv=>whnf
  exact W
 clear h;intro hb h;conv=>whnf
 replace h:=XaK.elim h;obtain ⟨x41,hy,h⟩:=h
 refine Xbn.XaO [] (Xar («as»:=[.pointer (some ⟨0,0,none⟩)]) (ws:=[.blk 10 false,.blk 11 false,.blk 12 false,.blk 13 false,.blk 14 false,.blk 15 false,.no,.no,.no,.no]) (n:=0) (m:=0) (t':=25) (Xam (Xa6 rfl rfl (Xai rfl rfl rfl rfl (Xai rfl rfl rfl rfl (Xai rfl rfl (Xat) rfl (Xai rfl rfl (Xat) rfl (Xai rfl rfl (Xat) rfl (Xai rfl rfl (Xat) rfl (Xan (Xan (Xan (Xan XaR)))))))))) rfl) rfl XaP) rfl (by rfl) (Xkd hy) rfl rfl rfl rfl (Xab rfl (Xab rfl (Xab rfl (Xab rfl (Xab rfl (Xab rfl (Xab rfl (Xab rfl (Xab rfl (Xab rfl XaN)))))))))) XaM rfl) ?_
 conv=>whnf
 exact W
def XfO (Xaa:Xaf) (Xak:XaI) (s:XaB) (oa1:XaB):Option Bool:=
 (Xaa.v5 s).bind fun x5=>
 cond (!x5)
  (
  some (false))
  (
  (Xaa.v5 oa1).bind fun x51=>
  cond (!x51)
   (
   some (false))
   (
   let t:=!((s.key.A==oa1.key.A)&&((s.key.B==oa1.key.B)&&true))
   cond (t)
    (
    some (false))
    (
    XaU (decide (s.rows.m0≤s.rows.e0.length)) <|
    XaU (decide (oa1.rows.m0≤oa1.rows.e0.length)) <|
    (Xak (s.rows.e0.take s.rows.m0) (oa1.rows.e0.take oa1.rows.m0)).bind fun x1=>
    cond (!x1)
     (
     some (false))
     (
     XaU (decide (s.rows.m1≤s.rows.e1.length)) <|
     XaU (decide (oa1.rows.m1≤oa1.rows.e1.length)) <|
     (Xak (s.rows.e1.take s.rows.m1) (oa1.rows.e1.take oa1.rows.m1)).bind fun x11=>
     cond (!x11)
      (
      some (false))
      (
      XaU (decide (s.rows.m2≤s.rows.e2.length)) <|
      XaU (decide (oa1.rows.m2≤oa1.rows.e2.length)) <|
      (Xak (s.rows.e2.take s.rows.m2) (oa1.rows.e2.take oa1.rows.m2)).bind fun x12=>
      cond (!x12)
       (
       some (false))
       (
       XaU (decide (s.rows.m3≤s.rows.e3.length)) <|
       XaU (decide (oa1.rows.m3≤oa1.rows.e3.length)) <|
       (Xak (s.rows.e3.take s.rows.m3) (oa1.rows.e3.take oa1.rows.m3)).bind fun x13=>
       cond (!x13)
        (
        some (false))
        (
        XaU (decide (s.rows.m4≤s.rows.e4.length)) <|
        XaU (decide (oa1.rows.m4≤oa1.rows.e4.length)) <|
        (Xak (s.rows.e4.take s.rows.m4) (oa1.rows.e4.take oa1.rows.m4)).bind fun x14=>
        cond (!x14)
         (
         some (false))
         (
         some (true)))))))))
def Xuh (x:Bool):Xdj:=⟨.bool x,[],[none,none,none,none,none,none,none,none,none,none,none,none,none,none,none,none,none,none,none,none]⟩
abbrev Xfg:=XaB→XaB→Option Bool
def Xyf (g:Xfg):Dec:=dTr 10 (Xb1 0) fun (y0:XaB)=>dTr 10 (Xb1 10) fun (y1:XaB)=>Xfq (ofG (g y0 y1) Xuh)
abbrev Xtp (Xaa:Xaf) (Xak:XaI):List (Nat×Xc3):=[(38,s38 Xaa),(55,s55 Xak)]
theorem Xsq (Xaa:Xaf) (Xak:XaI) (hS:XaL Try.prog (XaY (Xtp Xaa Xak))) (s:XaB) (oa1:XaB) (res:Bool) (h:XfO Xaa Xak s oa1=some res) :
 Xa0 Try.prog 42 20 ⟨⟨42,33,[(0,.pointer (some ⟨0,0,none⟩)),(1,.pointer (some ⟨10,0,none⟩))],[.code Xnl],[],false,none⟩,[],[(0,.row false [.int .u64 s.key.A,.int .u64 s.key.B,.slice (some ⟨1,0,none⟩) 5 1,.int .i64 s.total]),(1,.row false [.slice (some ⟨2,0,none⟩) s.rows.m0 1,.slice (some ⟨3,0,none⟩) s.rows.m1 1,.slice (some ⟨4,0,none⟩) s.rows.m2 1,.slice (some ⟨5,0,none⟩) s.rows.m3 1,.slice (some ⟨6,0,none⟩) s.rows.m4 1]),(2,.row false (vI .i64 s.rows.e0)),(3,.row false (vI .i64 s.rows.e1)),(4,.row false (vI .i64 s.rows.e2)),(5,.row false (vI .i64 s.rows.e3)),(6,.row false (vI .i64 s.rows.e4)),(10,.row false [.int .u64 oa1.key.A,.int .u64 oa1.key.B,.slice (some ⟨11,0,none⟩) 5 1,.int .i64 oa1.total]),(11,.row false [.slice (some ⟨12,0,none⟩) oa1.rows.m0 1,.slice (some ⟨13,0,none⟩) oa1.rows.m1 1,.slice (some ⟨14,0,none⟩) oa1.rows.m2 1,.slice (some ⟨15,0,none⟩) oa1.rows.m3 1,.slice (some ⟨16,0,none⟩) oa1.rows.m4 1]),(12,.row false (vI .i64 oa1.rows.e0)),(13,.row false (vI .i64 oa1.rows.e1)),(14,.row false (vI .i64 oa1.rows.e2)),(15,.row false (vI .i64 oa1.rows.e3)),(16,.row false (vI .i64 oa1.rows.e4))],20⟩ (fun v H _=>Res 20 (Xuh res) v H):=by
 unfold XfO at h
 have R1:=@XlW Xak
 refine Xa1 XaJ hS true 3000 ?_
 conv=>whnf
 replace h:=XaK.elim h;obtain ⟨x5,hy,h⟩:=h
 refine Xbn.XaO [] (Xar («as»:=[.pointer (some ⟨0,0,none⟩)]) (ws:=[.blk 0 false,.blk 1 false,.blk 2 false,.blk 3 false,.blk 4 false,.blk 5 false,.blk 6 false,.no,.no,.no]) (n:=0) (m:=0) (t':=21) (Xam (Xa6 rfl rfl (Xai rfl rfl rfl rfl (Xai rfl rfl rfl rfl (Xai rfl rfl (Xat) rfl (Xai rfl rfl (Xat) rfl (Xai rfl rfl (Xat) rfl (Xai rfl rfl (Xat) rfl (Xai rfl rfl (Xat) rfl (Xan (Xan (Xan XaR)))))))))) rfl) rfl XaP) rfl (by rfl) (Xkc hy) rfl rfl rfl rfl (Xab rfl (Xab rfl (Xab rfl (Xab rfl (Xab rfl (Xab rfl (Xab rfl (Xab rfl (Xab rfl (Xab rfl XaN)))))))))) XaM rfl) ?_
 conv=>whnf
 refine br.h h (by rfl) ?_ ?_
 ·clear h;intro hb h;conv=>whnf
  exact W
 clear h;intro hb h;conv=>whnf
 replace h:=XaK.elim h;obtain ⟨x51,hy,h⟩:=h
 refine Xbn.XaO [] (Xar («as»:=[.pointer (some ⟨0,0,none⟩)]) (ws:=[.blk 10 false,.blk 11 false,.blk 12 false,.blk 13 false,.blk 14 false,.blk 15 false,.blk 16 false,.no,.no,.no]) (n:=0) (m:=0) (t':=25) (Xam (Xa6 rfl rfl (Xai rfl rfl rfl rfl (Xai rfl rfl rfl rfl (Xai rfl rfl (Xat) rfl (Xai rfl rfl (Xat) rfl (Xai rfl rfl (Xat) rfl (Xai rfl rfl (Xat) rfl (Xai rfl rfl (Xat) rfl (Xan (Xan (Xan XaR)))))))))) rfl) rfl XaP) rfl (by rfl) (Xkc hy) rfl rfl rfl rfl (Xab rfl (Xab rfl (Xab rfl (Xab rfl (Xab rfl (Xab rfl (Xab rfl (Xab rfl (Xab rfl (Xab rfl XaN)))))))))) XaM rfl) ?_
 conv=>whnf
 exact W
def XfR (Xaa:Xaf) (Xak:XaI) (s:Xay) (oa1:Xay):Option Bool:=
 (Xaa.v6 s).bind fun x6=>
 cond (!x6)
  (
  some (false))
  (
  (Xaa.v6 oa1).bind fun x61=>
  cond (!x61)
   (
   some (false))
   (
   let t:=!((s.key.A==oa1.key.A)&&((s.key.B==oa1.key.B)&&true))
   cond (t)
    (
    some (false))
    (
    XaU (decide (s.rows.m0≤s.rows.e0.length)) <|
    XaU (decide (oa1.rows.m0≤oa1.rows.e0.length)) <|
    (Xak (s.rows.e0.take s.rows.m0) (oa1.rows.e0.take oa1.rows.m0)).bind fun x1=>
    cond (!x1)
     (
     some (false))
     (
     XaU (decide (s.rows.m1≤s.rows.e1.length)) <|
     XaU (decide (oa1.rows.m1≤oa1.rows.e1.length)) <|
     (Xak (s.rows.e1.take s.rows.m1) (oa1.rows.e1.take oa1.rows.m1)).bind fun x11=>
     cond (!x11)
      (
      some (false))
      (
      XaU (decide (s.rows.m2≤s.rows.e2.length)) <|
      XaU (decide (oa1.rows.m2≤oa1.rows.e2.length)) <|
      (Xak (s.rows.e2.take s.rows.m2) (oa1.rows.e2.take oa1.rows.m2)).bind fun x12=>
      cond (!x12)
       (
       some (false))
       (
       XaU (decide (s.rows.m3≤s.rows.e3.length)) <|
       XaU (decide (oa1.rows.m3≤oa1.rows.e3.length)) <|
       (Xak (s.rows.e3.take s.rows.m3) (oa1.rows.e3.take oa1.rows.m3)).bind fun x13=>
       cond (!x13)
        (
        some (false))
        (
        XaU (decide (s.rows.m4≤s.rows.e4.length)) <|
        XaU (decide (oa1.rows.m4≤oa1.rows.e4.length)) <|
        (Xak (s.rows.e4.take s.rows.m4) (oa1.rows.e4.take oa1.rows.m4)).bind fun x14=>
        cond (!x14)
         (
         some (false))
         (
         XaU (decide (s.rows.m5≤s.rows.e5.length)) <|
         XaU (decide (oa1.rows.m5≤oa1.rows.e5.length)) <|
         (Xak (s.rows.e5.take s.rows.m5) (oa1.rows.e5.take oa1.rows.m5)).bind fun x15=>
         cond (!x15)
          (
          some (false))
          (
          some (true))))))))))
def XtJ (x:Bool):Xdj:=⟨.bool x,[],[none,none,none,none,none,none,none,none,none,none,none,none,none,none,none,none,none,none,none,none]⟩
abbrev Xe7:=Xay→Xay→Option Bool
def Xyr (g:Xe7):Dec:=dTr 10 (XbY 0) fun (y0:Xay)=>dTr 10 (XbY 10) fun (y1:Xay)=>Xfq (ofG (g y0 y1) XtJ)
abbrev Xta (Xaa:Xaf) (Xak:XaI):List (Nat×Xc3):=[(38,s38 Xaa),(55,s55 Xak)]
theorem Xsf (Xaa:Xaf) (Xak:XaI) (hS:XaL Try.prog (XaY (Xta Xaa Xak))) (s:Xay) (oa1:Xay) (res:Bool) (h:XfR Xaa Xak s oa1=some res) :
 Xa0 Try.prog 42 20 ⟨⟨42,33,[(0,.pointer (some ⟨0,0,none⟩)),(1,.pointer (some ⟨10,0,none⟩))],[.code Xnl],[],false,none⟩,[],[(0,.row false [.int .u64 s.key.A,.int .u64 s.key.B,.slice (some ⟨1,0,none⟩) 6 1,.int .i64 s.total]),(1,.row false [.slice (some ⟨2,0,none⟩) s.rows.m0 1,.slice (some ⟨3,0,none⟩) s.rows.m1 1,.slice (some ⟨4,0,none⟩) s.rows.m2 1,.slice (some ⟨5,0,none⟩) s.rows.m3 1,.slice (some ⟨6,0,none⟩) s.rows.m4 1,.slice (some ⟨7,0,none⟩) s.rows.m5 1]),(2,.row false (vI .i64 s.rows.e0)),(3,.row false (vI .i64 s.rows.e1)),(4,.row false (vI .i64 s.rows.e2)),(5,.row false (vI .i64 s.rows.e3)),(6,.row false (vI .i64 s.rows.e4)),(7,.row false (vI .i64 s.rows.e5)),(10,.row false [.int .u64 oa1.key.A,.int .u64 oa1.key.B,.slice (some ⟨11,0,none⟩) 6 1,.int .i64 oa1.total]),(11,.row false [.slice (some ⟨12,0,none⟩) oa1.rows.m0 1,.slice (some ⟨13,0,none⟩) oa1.rows.m1 1,.slice (some ⟨14,0,none⟩) oa1.rows.m2 1,.slice (some ⟨15,0,none⟩) oa1.rows.m3 1,.slice (some ⟨16,0,none⟩) oa1.rows.m4 1,.slice (some ⟨17,0,none⟩) oa1.rows.m5 1]),(12,.row false (vI .i64 oa1.rows.e0)),(13,.row false (vI .i64 oa1.rows.e1)),(14,.row false (vI .i64 oa1.rows.e2)),(15,.row false (vI .i64 oa1.rows.e3)),(16,.row false (vI .i64 oa1.rows.e4)),(17,.row false (vI .i64 oa1.rows.e5))],20⟩ (fun v H _=>Res 20 (XtJ res) v H):=by
 unfold XfR at h
 have R1:=@XlW Xak
 refine Xa1 XaJ hS true 3000 ?_
 conv=>whnf
 replace h:=XaK.elim h;obtain ⟨x6,hy,h⟩:=h
 refine Xbn.XaO [] (Xar («as»:=[.pointer (some ⟨0,0,none⟩)]) (ws:=[.blk 0 false,.blk 1 false,.blk 2 false,.blk 3 false,.blk 4 false,.blk 5 false,.blk 6 false,.blk 7 false,.no,.no]) (n:=0) (m:=0) (t':=21) (Xam (Xa6 rfl rfl (Xai rfl rfl rfl rfl (Xai rfl rfl rfl rfl (Xai rfl rfl (Xat) rfl (Xai rfl rfl (Xat) rfl (Xai rfl rfl (Xat) rfl (Xai rfl rfl (Xat) rfl (Xai rfl rfl (Xat) rfl (Xai rfl rfl (Xat) rfl (Xan (Xan XaR)))))))))) rfl) rfl XaP) rfl (by rfl) (Xj8 hy) rfl rfl rfl rfl (Xab rfl (Xab rfl (Xab rfl (Xab rfl (Xab rfl (Xab rfl (Xab rfl (Xab rfl (Xab rfl (Xab rfl XaN)))))))))) XaM rfl) ?_
 conv=>whnf
 refine br.h h (by rfl) ?_ ?_
 ·clear h;intro hb h;conv=>whnf
  exact W
 clear h;intro hb h;conv=>whnf
 replace h:=XaK.elim h;obtain ⟨x61,hy,h⟩:=h
 refine Xbn.XaO [] (Xar («as»:=[.pointer (some ⟨0,0,none⟩)]) (ws:=[.blk 10 false,.blk 11 false,.blk 12 false,.blk 13 false,.blk 14 false,.blk 15 false,.blk 16 false,.blk 17 false,.no,.no]) (n:=0) (m:=0) (t':=25) (Xam (Xa6 rfl rfl (Xai rfl rfl rfl rfl (Xai rfl rfl rfl rfl (Xai rfl rfl (Xat) rfl (Xai rfl rfl (Xat) rfl (Xai rfl rfl (Xat) rfl (Xai rfl rfl (Xat) rfl (Xai rfl rfl (Xat) rfl (Xai rfl rfl (Xat) rfl (Xan (Xan XaR)))))))))) rfl) rfl XaP) rfl (by rfl) (Xj8 hy) rfl rfl rfl rfl (Xab rfl (Xab rfl (Xab rfl (Xab rfl (Xab rfl (Xab rfl (Xab rfl (Xab rfl (Xab rfl (Xab rfl XaN)))))))))) XaM rfl) ?_
 conv=>whnf
 exact W
def XfK (Xaa:Xaf) (Xak:XaI) (s:Xaw) (oa1:Xaw):Option Bool:=
 (Xaa.v7 s).bind fun x7=>
 cond (!x7)
  (
  some (false))
  (
  (Xaa.v7 oa1).bind fun x71=>
  cond (!x71)
   (
   some (false))
   (
   let t:=!((s.key.A==oa1.key.A)&&((s.key.B==oa1.key.B)&&true))
   cond (t)
    (
    some (false))
    (
    XaU (decide (s.rows.m0≤s.rows.e0.length)) <|
    XaU (decide (oa1.rows.m0≤oa1.rows.e0.length)) <|
    (Xak (s.rows.e0.take s.rows.m0) (oa1.rows.e0.take oa1.rows.m0)).bind fun x1=>
    cond (!x1)
     (
     some (false))
     (
     XaU (decide (s.rows.m1≤s.rows.e1.length)) <|
     XaU (decide (oa1.rows.m1≤oa1.rows.e1.length)) <|
     (Xak (s.rows.e1.take s.rows.m1) (oa1.rows.e1.take oa1.rows.m1)).bind fun x11=>
     cond (!x11)
      (
      some (false))
      (
      XaU (decide (s.rows.m2≤s.rows.e2.length)) <|
      XaU (decide (oa1.rows.m2≤oa1.rows.e2.length)) <|
      (Xak (s.rows.e2.take s.rows.m2) (oa1.rows.e2.take oa1.rows.m2)).bind fun x12=>
      cond (!x12)
       (
       some (false))
       (
       XaU (decide (s.rows.m3≤s.rows.e3.length)) <|
       XaU (decide (oa1.rows.m3≤oa1.rows.e3.length)) <|
       (Xak (s.rows.e3.take s.rows.m3) (oa1.rows.e3.take oa1.rows.m3)).bind fun x13=>
       cond (!x13)
        (
        some (false))
        (
        XaU (decide (s.rows.m4≤s.rows.e4.length)) <|
        XaU (decide (oa1.rows.m4≤oa1.rows.e4.length)) <|
        (Xak (s.rows.e4.take s.rows.m4) (oa1.rows.e4.take oa1.rows.m4)).bind fun x14=>
        cond (!x14)
         (
         some (false))
         (
         XaU (decide (s.rows.m5≤s.rows.e5.length)) <|
         XaU (decide (oa1.rows.m5≤oa1.rows.e5.length)) <|
         (Xak (s.rows.e5.take s.rows.m5) (oa1.rows.e5.take oa1.rows.m5)).bind fun x15=>
         cond (!x15)
          (
          some (false))
          (
          XaU (decide (s.rows.m6≤s.rows.e6.length)) <|
          XaU (decide (oa1.rows.m6≤oa1.rows.e6.length)) <|
          (Xak (s.rows.e6.take s.rows.m6) (oa1.rows.e6.take oa1.rows.m6)).bind fun x16=>
          cond (!x16)
           (
           some (false))
           (
           some (true)))))))))))
def XtC (x:Bool):Xdj:=⟨.bool x,[],[none,none,none,none,none,none,none,none,none,none,none,none,none,none,none,none,none,none,none,none]⟩
abbrev Xfh:=Xaw→Xaw→Option Bool
def Xyi (g:Xfh):Dec:=dTr 10 (Xb0 0) fun (y0:Xaw)=>dTr 10 (Xb0 10) fun (y1:Xaw)=>Xfq (ofG (g y0 y1) XtC)
abbrev XuH (Xaa:Xaf) (Xak:XaI):List (Nat×Xc3):=[(38,s38 Xaa),(55,s55 Xak)]
theorem XsV (Xaa:Xaf) (Xak:XaI) (hS:XaL Try.prog (XaY (XuH Xaa Xak))) (s:Xaw) (oa1:Xaw) (res:Bool) (h:XfK Xaa Xak s oa1=some res) :
 Xa0 Try.prog 42 20 ⟨⟨42,33,[(0,.pointer (some ⟨0,0,none⟩)),(1,.pointer (some ⟨10,0,none⟩))],[.code Xnl],[],false,none⟩,[],[(0,.row false [.int .u64 s.key.A,.int .u64 s.key.B,.slice (some ⟨1,0,none⟩) 7 1,.int .i64 s.total]),(1,.row false [.slice (some ⟨2,0,none⟩) s.rows.m0 1,.slice (some ⟨3,0,none⟩) s.rows.m1 1,.slice (some ⟨4,0,none⟩) s.rows.m2 1,.slice (some ⟨5,0,none⟩) s.rows.m3 1,.slice (some ⟨6,0,none⟩) s.rows.m4 1,.slice (some ⟨7,0,none⟩) s.rows.m5 1,.slice (some ⟨8,0,none⟩) s.rows.m6 1]),(2,.row false (vI .i64 s.rows.e0)),(3,.row false (vI .i64 s.rows.e1)),(4,.row false (vI .i64 s.rows.e2)),(5,.row false (vI .i64 s.rows.e3)),(6,.row false (vI .i64 s.rows.e4)),(7,.row false (vI .i64 s.rows.e5)),(8,.row false (vI .i64 s.rows.e6)),(10,.row false [.int .u64 oa1.key.A,.int .u64 oa1.key.B,.slice (some ⟨11,0,none⟩) 7 1,.int .i64 oa1.total]),(11,.row false [.slice (some ⟨12,0,none⟩) oa1.rows.m0 1,.slice (some ⟨13,0,none⟩) oa1.rows.m1 1,.slice (some ⟨14,0,none⟩) oa1.rows.m2 1,.slice (some ⟨15,0,none⟩) oa1.rows.m3 1,.slice (some ⟨16,0,none⟩) oa1.rows.m4 1,.slice (some ⟨17,0,none⟩) oa1.rows.m5 1,.slice (some ⟨18,0,none⟩) oa1.rows.m6 1]),(12,.row false (vI .i64 oa1.rows.e0)),(13,.row false (vI .i64 oa1.rows.e1)),(14,.row false (vI .i64 oa1.rows.e2)),(15,.row false (vI .i64 oa1.rows.e3)),(16,.row false (vI .i64 oa1.rows.e4)),(17,.row false (vI .i64 oa1.rows.e5)),(18,.row false (vI .i64 oa1.rows.e6))],20⟩ (fun v H _=>Res 20 (XtC res) v H):=by
 unfold XfK at h
 have R1:=@XlW Xak
 refine Xa1 XaJ hS true 3000 ?_
 conv=>whnf
 replace h:=XaK.elim h;obtain ⟨x7,hy,h⟩:=h
 refine Xbn.XaO [] (Xar («as»:=[.pointer (some ⟨0,0,none⟩)]) (ws:=[.blk 0 false,.blk 1 false,.blk 2 false,.blk 3 false,.blk 4 false,.blk 5 false,.blk 6 false,.blk 7 false,.blk 8 false,.no]) (n:=0) (m:=0) (t':=21) (Xam (Xa6 rfl rfl (Xai rfl rfl rfl rfl (Xai rfl rfl rfl rfl (Xai rfl rfl (Xat) rfl (Xai rfl rfl (Xat) rfl (Xai rfl rfl (Xat) rfl (Xai rfl rfl (Xat) rfl (Xai rfl rfl (Xat) rfl (Xai rfl rfl (Xat) rfl (Xai rfl rfl (Xat) rfl (Xan XaR)))))))))) rfl) rfl XaP) rfl (by rfl) (Xj1 hy) rfl rfl rfl rfl (Xab rfl (Xab rfl (Xab rfl (Xab rfl (Xab rfl (Xab rfl (Xab rfl (Xab rfl (Xab rfl (Xab rfl XaN)))))))))) XaM rfl) ?_
 conv=>whnf
 refine br.h h (by rfl) ?_ ?_
 ·clear h;intro hb h;conv=>whnf
  exact W
 clear h;intro hb h;conv=>whnf
 replace h:=XaK.elim h;obtain ⟨x71,hy,h⟩:=h
 refine Xbn.XaO [] (Xar («as»:=[.pointer (some ⟨0,0,none⟩)]) (ws:=[.blk 10 false,.blk 11 false,.blk 12 false,.blk 13 false,.blk 14 false,.blk 15 false,.blk 16 false,.blk 17 false,.blk 18 false,.no]) (n:=0) (m:=0) (t':=25) (Xam (Xa6 rfl rfl (Xai rfl rfl rfl rfl (Xai rfl rfl rfl rfl (Xai rfl rfl (Xat) rfl (Xai rfl rfl (Xat) rfl (Xai rfl rfl (Xat) rfl (Xai rfl rfl (Xat) rfl (Xai rfl rfl (Xat) rfl (Xai rfl rfl (Xat) rfl (Xai rfl rfl (Xat) rfl (Xan XaR)))))))))) rfl) rfl XaP) rfl (by rfl) (Xj1 hy) rfl rfl rfl rfl (Xab rfl (Xab rfl (Xab rfl (Xab rfl (Xab rfl (Xab rfl (Xab rfl (Xab rfl (Xab rfl (Xab rfl XaN)))))))))) XaM rfl) ?_
 conv=>whnf
 exact W
def XfC (Xaa:Xaf) (Xak:XaI) (s:Xav) (oa1:Xav):Option Bool:=
 (Xaa.v8 s).bind fun x8=>
 cond (!x8)
  (
  some (false))
  (
  (Xaa.v8 oa1).bind fun x81=>
  cond (!x81)
   (
   some (false))
   (
   let t:=!((s.key.A==oa1.key.A)&&((s.key.B==oa1.key.B)&&true))
   cond (t)
    (
    some (false))
    (
    XaU (decide (s.rows.m0≤s.rows.e0.length)) <|
    XaU (decide (oa1.rows.m0≤oa1.rows.e0.length)) <|
    (Xak (s.rows.e0.take s.rows.m0) (oa1.rows.e0.take oa1.rows.m0)).bind fun x1=>
    cond (!x1)
     (
     some (false))
     (
     XaU (decide (s.rows.m1≤s.rows.e1.length)) <|
     XaU (decide (oa1.rows.m1≤oa1.rows.e1.length)) <|
     (Xak (s.rows.e1.take s.rows.m1) (oa1.rows.e1.take oa1.rows.m1)).bind fun x11=>
     cond (!x11)
      (
      some (false))
      (
      XaU (decide (s.rows.m2≤s.rows.e2.length)) <|
      XaU (decide (oa1.rows.m2≤oa1.rows.e2.length)) <|
      (Xak (s.rows.e2.take s.rows.m2) (oa1.rows.e2.take oa1.rows.m2)).bind fun x12=>
      cond (!x12)
       (
       some (false))
       (
       XaU (decide (s.rows.m3≤s.rows.e3.length)) <|
       XaU (decide (oa1.rows.m3≤oa1.rows.e3.length)) <|
       (Xak (s.rows.e3.take s.rows.m3) (oa1.rows.e3.take oa1.rows.m3)).bind fun x13=>
       cond (!x13)
        (
        some (false))
        (
        XaU (decide (s.rows.m4≤s.rows.e4.length)) <|
        XaU (decide (oa1.rows.m4≤oa1.rows.e4.length)) <|
        (Xak (s.rows.e4.take s.rows.m4) (oa1.rows.e4.take oa1.rows.m4)).bind fun x14=>
        cond (!x14)
         (
         some (false))
         (
         XaU (decide (s.rows.m5≤s.rows.e5.length)) <|
         XaU (decide (oa1.rows.m5≤oa1.rows.e5.length)) <|
         (Xak (s.rows.e5.take s.rows.m5) (oa1.rows.e5.take oa1.rows.m5)).bind fun x15=>
         cond (!x15)
          (
          some (false))
          (
          XaU (decide (s.rows.m6≤s.rows.e6.length)) <|
          XaU (decide (oa1.rows.m6≤oa1.rows.e6.length)) <|
          (Xak (s.rows.e6.take s.rows.m6) (oa1.rows.e6.take oa1.rows.m6)).bind fun x16=>
          cond (!x16)
           (
           some (false))
           (
           XaU (decide (s.rows.m7≤s.rows.e7.length)) <|
           XaU (decide (oa1.rows.m7≤oa1.rows.e7.length)) <|
           (Xak (s.rows.e7.take s.rows.m7) (oa1.rows.e7.take oa1.rows.m7)).bind fun x17=>
           cond (!x17)
            (
            some (false))
            (
            some (true))))))))))))
def XvB (x:Bool):Xdj:=⟨.bool x,[],[none,none,none,none,none,none,none,none,none,none,none,none,none,none,none,none,none,none,none,none]⟩
abbrev Xe6:=Xav→Xav→Option Bool
def XyF (g:Xe6):Dec:=dTr 10 (Xb3 0) fun (y0:Xav)=>dTr 10 (Xb3 10) fun (y1:Xav)=>Xfq (ofG (g y0 y1) XvB)
abbrev Xtf (Xaa:Xaf) (Xak:XaI):List (Nat×Xc3):=[(38,s38 Xaa),(55,s55 Xak)]
theorem Xsz (Xaa:Xaf) (Xak:XaI) (hS:XaL Try.prog (XaY (Xtf Xaa Xak))) (s:Xav) (oa1:Xav) (res:Bool) (h:XfC Xaa Xak s oa1=some res) :
 Xa0 Try.prog 42 20 ⟨⟨42,33,[(0,.pointer (some ⟨0,0,none⟩)),(1,.pointer (some ⟨10,0,none⟩))],[.code Xnl],[],false,none⟩,[],[(0,.row false [.int .u64 s.key.A,.int .u64 s.key.B,.slice (some ⟨1,0,none⟩) 8 1,.int .i64 s.total]),(1,.row false [.slice (some ⟨2,0,none⟩) s.rows.m0 1,.slice (some ⟨3,0,none⟩) s.rows.m1 1,.slice (some ⟨4,0,none⟩) s.rows.m2 1,.slice (some ⟨5,0,none⟩) s.rows.m3 1,.slice (some ⟨6,0,none⟩) s.rows.m4 1,.slice (some ⟨7,0,none⟩) s.rows.m5 1,.slice (some ⟨8,0,none⟩) s.rows.m6 1,.slice (some ⟨9,0,none⟩) s.rows.m7 1]),(2,.row false (vI .i64 s.rows.e0)),(3,.row false (vI .i64 s.rows.e1)),(4,.row false (vI .i64 s.rows.e2)),(5,.row false (vI .i64 s.rows.e3)),(6,.row false (vI .i64 s.rows.e4)),(7,.row false (vI .i64 s.rows.e5)),(8,.row false (vI .i64 s.rows.e6)),(9,.row false (vI .i64 s.rows.e7)),(10,.row false [.int .u64 oa1.key.A,.int .u64 oa1.key.B,.slice (some ⟨11,0,none⟩) 8 1,.int .i64 oa1.total]),(11,.row false [.slice (some ⟨12,0,none⟩) oa1.rows.m0 1,.slice (some ⟨13,0,none⟩) oa1.rows.m1 1,.slice (some ⟨14,0,none⟩) oa1.rows.m2 1,.slice (some ⟨15,0,none⟩) oa1.rows.m3 1,.slice (some ⟨16,0,none⟩) oa1.rows.m4 1,.slice (some ⟨17,0,none⟩) oa1.rows.m5 1,.slice (some ⟨18,0,none⟩) oa1.rows.m6 1,.slice (some ⟨19,0,none⟩) oa1.rows.m7 1]),(12,.row false (vI .i64 oa1.rows.e0)),(13,.row false (vI .i64 oa1.rows.e1)),(14,.row false (vI .i64 oa1.rows.e2)),(15,.row false (vI .i64 oa1.rows.e3)),(16,.row false (vI .i64 oa1.rows.e4)),(17,.row false (vI .i64 oa1.rows.e5)),(18,.row false (vI .i64 oa1.rows.e6)),(19,.row false (vI .i64 oa1.rows.e7))],20⟩ (fun v H _=>Res 20 (XvB res) v H):=by
 unfold XfC at h
 have R1:=@XlW Xak
 refine Xa1 XaJ hS true 3000 ?_
 conv=>whnf
 replace h:=XaK.elim h;obtain ⟨x8,hy,h⟩:=h
 refine Xbn.XaO [] (Xar («as»:=[.pointer (some ⟨0,0,none⟩)]) (ws:=[.blk 0 false,.blk 1 false,.blk 2 false,.blk 3 false,.blk 4 false,.blk 5 false,.blk 6 false,.blk 7 false,.blk 8 false,.blk 9 false]) (n:=0) (m:=0) (t':=21) (Xam (Xa6 rfl rfl (Xai rfl rfl rfl rfl (Xai rfl rfl rfl rfl (Xai rfl rfl (Xat) rfl (Xai rfl rfl (Xat) rfl (Xai rfl rfl (Xat) rfl (Xai rfl rfl (Xat) rfl (Xai rfl rfl (Xat) rfl (Xai rfl rfl (Xat) rfl (Xai rfl rfl (Xat) rfl (Xai rfl rfl (Xat) rfl XaR)))))))))) rfl) rfl XaP) rfl (by rfl) (Xj4 hy) rfl rfl rfl rfl (Xab rfl (Xab rfl (Xab rfl (Xab rfl (Xab rfl (Xab rfl (Xab rfl (Xab rfl (Xab rfl (Xab rfl XaN)))))))))) XaM rfl) ?_
 conv=>whnf
 refine br.h h (by rfl) ?_ ?_
 ·clear h;intro hb h;conv=>whnf
  exact W
 clear h;intro hb h;conv=>whnf
 replace h:=XaK.elim h;obtain ⟨x81,hy,h⟩:=h
 refine Xbn.XaO [] (Xar («as»:=[.pointer (some ⟨0,0,none⟩)]) (ws:=[.blk 10 false,.blk 11 false,.blk 12 false,.blk 13 false,.blk 14 false,.blk 15 false,.blk 16 false,.blk 17 false,.blk 18 false,.blk 19 false]) (n:=0) (m:=0) (t':=25) (Xam (Xa6 rfl rfl (Xai rfl rfl rfl rfl (Xai rfl rfl rfl rfl (Xai rfl rfl (Xat) rfl (Xai rfl rfl (Xat) rfl (Xai rfl rfl (Xat) rfl (Xai rfl rfl (Xat) rfl (Xai rfl rfl (Xat) rfl (Xai rfl rfl (Xat) rfl (Xai rfl rfl (Xat) rfl (Xai rfl rfl (Xat) rfl XaR)))))))))) rfl) rfl XaP) rfl (by rfl) (Xj4 hy) rfl rfl rfl rfl (Xab rfl (Xab rfl (Xab rfl (Xab rfl (Xab rfl (Xab rfl (Xab rfl (Xab rfl (Xab rfl (Xab rfl XaN)))))))))) XaM rfl) ?_
 conv=>whnf
 exact W
structure Xcy where
 v00:Xda
 v11:Xe9
 v22:Xfc
 v33:Xfb
 v44:Xfa
 v55:Xfg
 v66:Xe7
 v77:Xfh
 v88:Xe6
def s42 (g:Xcy):Xc3:=⟨[.tr [⟨none,0,0,0,none⟩,⟨some 0,2,0,0,none⟩,⟨some 1,0,0,0,none⟩,⟨some 1,1,0,0,none⟩,⟨some 1,2,0,0,none⟩,⟨some 1,3,0,0,none⟩,⟨some 1,4,0,0,none⟩,⟨some 1,5,0,0,none⟩,⟨some 1,6,0,0,none⟩,⟨some 1,7,0,0,none⟩],.tr [⟨none,0,0,0,none⟩,⟨some 0,2,0,0,none⟩,⟨some 1,0,0,0,none⟩,⟨some 1,1,0,0,none⟩,⟨some 1,2,0,0,none⟩,⟨some 1,3,0,0,none⟩,⟨some 1,4,0,0,none⟩,⟨some 1,5,0,0,none⟩,⟨some 1,6,0,0,none⟩,⟨some 1,7,0,0,none⟩]],orD (XuA g.v00) (orD (Xy5 g.v11) (orD (Xyv g.v22) (orD (XyT g.v33) (orD (Xyu g.v44) (orD (Xyf g.v55) (orD (Xyr g.v66) (orD (Xyi g.v77) (XyF g.v88))))))))⟩
theorem Xo3 {g:Xcy} {y0:Xax} {y1:Xax} {x:Bool} (hx:g.v00 y0 y1=some x):(s42 g).run [.pointer (some ⟨0,0,none⟩),.pointer (some ⟨10,0,none⟩)] [some [.int .u64 y0.key.A,.int .u64 y0.key.B,.slice none 0 0,.int .i64 y0.total],none,none,none,none,none,none,none,none,none,some [.int .u64 y1.key.A,.int .u64 y1.key.B,.slice none 0 0,.int .i64 y1.total],none,none,none,none,none,none,none,none,none]=some (XlL x):=XeT (a:=XuA g.v00) (b:=orD (Xy5 g.v11) (orD (Xyv g.v22) (orD (XyT g.v33) (orD (Xyu g.v44) (orD (Xyf g.v55) (orD (Xyr g.v66) (orD (Xyi g.v77) (XyF g.v88)))))))) (XxY hx)
def XjJ:Xda:=XfE Xaa
def Xjs:Xe9:=XfH Xaa Xak
def Xjr:Xfc:=XfT Xaa Xak
def Xjh:Xfb:=XfU Xaa Xak
def XjG:Xfa:=XfX Xaa Xak
def XjP:Xfg:=XfO Xaa Xak
def Xjl:Xe7:=XfR Xaa Xak
def XjW:Xfh:=XfK Xaa Xak
def XjT:Xe6:=XfC Xaa Xak
def Xbi:Xcy:=⟨XjJ,Xjs,Xjr,Xjh,XjG,XjP,Xjl,XjW,XjT⟩
theorem XDX:Xgx Try.prog 42 (s42 Xbi):=by
 have L0:=XsC Xaa (XaL.Xbk ⟨Xcs,trivial⟩)
 have L1:=XsE Xaa Xak (XaL.Xbk ⟨Xcs,XlU,trivial⟩)
 have L2:=Xss Xaa Xak (XaL.Xbk ⟨Xcs,XlU,trivial⟩)
 have L3:=XsJ Xaa Xak (XaL.Xbk ⟨Xcs,XlU,trivial⟩)
 have L4:=Xso Xaa Xak (XaL.Xbk ⟨Xcs,XlU,trivial⟩)
 have L5:=Xsq Xaa Xak (XaL.Xbk ⟨Xcs,XlU,trivial⟩)
 have L6:=Xsf Xaa Xak (XaL.Xbk ⟨Xcs,XlU,trivial⟩)
 have L7:=XsV Xaa Xak (XaL.Xbk ⟨Xcs,XlU,trivial⟩)
 have L8:=Xsz Xaa Xak (XaL.Xbk ⟨Xcs,XlU,trivial⟩)
 refine Xgx.XiG XaJ (fun ar os r ha hr=>?_) ⟨Try.f42,rfl,by decide,rfl⟩
 generalize hc:XhF os=C at hr
 replace hr:=orD.elim hr;rcases hr with hr|hr
 ·skip
  have hq:=dTr.elim hr;clear hr;obtain ⟨v0,l1,c0,C,y0,rfl,rfl,e0,hr⟩:=hq;obtain ⟨rfl,rfl⟩:=Xc1 e0;simp only [List.nil_append,List.cons_append] at hc
  have hq:=dTr.elim hr;clear hr;obtain ⟨v1,l2,c1,C,y1,rfl,rfl,e1,hr⟩:=hq;obtain ⟨rfl,rfl⟩:=Xc1 e1;simp only [List.nil_append,List.cons_append] at hc
  replace hr:=Xhd hr;obtain ⟨rfl,rfl,x,h,rfl⟩:=hr
  replace ha:=Xag ha hc;obtain ⟨os,rfl,ha,hc⟩:=ha
  replace ha:=Xaj ha hc;obtain ⟨os,rfl,ha,hc⟩:=ha
  replace ha:=Xaj ha hc;obtain ⟨os,rfl,ha,hc⟩:=ha
  replace ha:=Xaj ha hc;obtain ⟨os,rfl,ha,hc⟩:=ha
  replace ha:=Xaj ha hc;obtain ⟨os,rfl,ha,hc⟩:=ha
  replace ha:=Xaj ha hc;obtain ⟨os,rfl,ha,hc⟩:=ha
  replace ha:=Xaj ha hc;obtain ⟨os,rfl,ha,hc⟩:=ha
  replace ha:=Xaj ha hc;obtain ⟨os,rfl,ha,hc⟩:=ha
  replace ha:=Xaj ha hc;obtain ⟨os,rfl,ha,hc⟩:=ha
  replace ha:=Xaj ha hc;obtain ⟨os,rfl,ha,hc⟩:=ha
  replace ha:=Xag ha hc;obtain ⟨os,rfl,ha,hc⟩:=ha
  replace ha:=Xaj ha hc;obtain ⟨os,rfl,ha,hc⟩:=ha
  replace ha:=Xaj ha hc;obtain ⟨os,rfl,ha,hc⟩:=ha
  replace ha:=Xaj ha hc;obtain ⟨os,rfl,ha,hc⟩:=ha
  replace ha:=Xaj ha hc;obtain ⟨os,rfl,ha,hc⟩:=ha
  replace ha:=Xaj ha hc;obtain ⟨os,rfl,ha,hc⟩:=ha
  replace ha:=Xaj ha hc;obtain ⟨os,rfl,ha,hc⟩:=ha
  replace ha:=Xaj ha hc;obtain ⟨os,rfl,ha,hc⟩:=ha
  replace ha:=Xaj ha hc;obtain ⟨os,rfl,ha,hc⟩:=ha
  replace ha:=Xaj ha hc;obtain ⟨os,rfl,ha,hc⟩:=ha
  obtain rfl:=Xa5 hc
  exact ⟨_,rfl,L0 _ _ x h⟩
 replace hr:=orD.elim hr;rcases hr with hr|hr
 ·skip
  have hq:=dTr.elim hr;clear hr;obtain ⟨v0,l1,c0,C,y0,rfl,rfl,e0,hr⟩:=hq;obtain ⟨rfl,rfl⟩:=Xcn e0;simp only [List.nil_append,List.cons_append] at hc
  have hq:=dTr.elim hr;clear hr;obtain ⟨v1,l2,c1,C,y1,rfl,rfl,e1,hr⟩:=hq;obtain ⟨rfl,rfl⟩:=Xcn e1;simp only [List.nil_append,List.cons_append] at hc
  replace hr:=Xhd hr;obtain ⟨rfl,rfl,x,h,rfl⟩:=hr
  replace ha:=Xag ha hc;obtain ⟨os,rfl,ha,hc⟩:=ha
  replace ha:=Xag ha hc;obtain ⟨os,rfl,ha,hc⟩:=ha
  replace ha:=Xag ha hc;obtain ⟨os,rfl,ha,hc⟩:=ha
  replace ha:=Xaj ha hc;obtain ⟨os,rfl,ha,hc⟩:=ha
  replace ha:=Xaj ha hc;obtain ⟨os,rfl,ha,hc⟩:=ha
  replace ha:=Xaj ha hc;obtain ⟨os,rfl,ha,hc⟩:=ha
  replace ha:=Xaj ha hc;obtain ⟨os,rfl,ha,hc⟩:=ha
  replace ha:=Xaj ha hc;obtain ⟨os,rfl,ha,hc⟩:=ha
  replace ha:=Xaj ha hc;obtain ⟨os,rfl,ha,hc⟩:=ha
  replace ha:=Xaj ha hc;obtain ⟨os,rfl,ha,hc⟩:=ha
  replace ha:=Xag ha hc;obtain ⟨os,rfl,ha,hc⟩:=ha
  replace ha:=Xag ha hc;obtain ⟨os,rfl,ha,hc⟩:=ha
  replace ha:=Xag ha hc;obtain ⟨os,rfl,ha,hc⟩:=ha
  replace ha:=Xaj ha hc;obtain ⟨os,rfl,ha,hc⟩:=ha
  replace ha:=Xaj ha hc;obtain ⟨os,rfl,ha,hc⟩:=ha
  replace ha:=Xaj ha hc;obtain ⟨os,rfl,ha,hc⟩:=ha
  replace ha:=Xaj ha hc;obtain ⟨os,rfl,ha,hc⟩:=ha
  replace ha:=Xaj ha hc;obtain ⟨os,rfl,ha,hc⟩:=ha
  replace ha:=Xaj ha hc;obtain ⟨os,rfl,ha,hc⟩:=ha
  replace ha:=Xaj ha hc;obtain ⟨os,rfl,ha,hc⟩:=ha
  obtain rfl:=Xa5 hc
  exact ⟨_,rfl,L1 _ _ x h⟩
 replace hr:=orD.elim hr;rcases hr with hr|hr
 ·skip
  have hq:=dTr.elim hr;clear hr;obtain ⟨v0,l1,c0,C,y0,rfl,rfl,e0,hr⟩:=hq;obtain ⟨rfl,rfl⟩:=Xcp e0;simp only [List.nil_append,List.cons_append] at hc
  have hq:=dTr.elim hr;clear hr;obtain ⟨v1,l2,c1,C,y1,rfl,rfl,e1,hr⟩:=hq;obtain ⟨rfl,rfl⟩:=Xcp e1;simp only [List.nil_append,List.cons_append] at hc
  replace hr:=Xhd hr;obtain ⟨rfl,rfl,x,h,rfl⟩:=hr
  replace ha:=Xag ha hc;obtain ⟨os,rfl,ha,hc⟩:=ha
  replace ha:=Xag ha hc;obtain ⟨os,rfl,ha,hc⟩:=ha
  replace ha:=Xag ha hc;obtain ⟨os,rfl,ha,hc⟩:=ha
  replace ha:=Xag ha hc;obtain ⟨os,rfl,ha,hc⟩:=ha
  replace ha:=Xaj ha hc;obtain ⟨os,rfl,ha,hc⟩:=ha
  replace ha:=Xaj ha hc;obtain ⟨os,rfl,ha,hc⟩:=ha
  replace ha:=Xaj ha hc;obtain ⟨os,rfl,ha,hc⟩:=ha
  replace ha:=Xaj ha hc;obtain ⟨os,rfl,ha,hc⟩:=ha
  replace ha:=Xaj ha hc;obtain ⟨os,rfl,ha,hc⟩:=ha
  replace ha:=Xaj ha hc;obtain ⟨os,rfl,ha,hc⟩:=ha
  replace ha:=Xag ha hc;obtain ⟨os,rfl,ha,hc⟩:=ha
  replace ha:=Xag ha hc;obtain ⟨os,rfl,ha,hc⟩:=ha
  replace ha:=Xag ha hc;obtain ⟨os,rfl,ha,hc⟩:=ha
  replace ha:=Xag ha hc;obtain ⟨os,rfl,ha,hc⟩:=ha
  replace ha:=Xaj ha hc;obtain ⟨os,rfl,ha,hc⟩:=ha
  replace ha:=Xaj ha hc;obtain ⟨os,rfl,ha,hc⟩:=ha
  replace ha:=Xaj ha hc;obtain ⟨os,rfl,ha,hc⟩:=ha
  replace ha:=Xaj ha hc;obtain ⟨os,rfl,ha,hc⟩:=ha
  replace ha:=Xaj ha hc;obtain ⟨os,rfl,ha,hc⟩:=ha
  replace ha:=Xaj ha hc;obtain ⟨os,rfl,ha,hc⟩:=ha
  obtain rfl:=Xa5 hc
  exact ⟨_,rfl,L2 _ _ x h⟩
 replace hr:=orD.elim hr;rcases hr with hr|hr
 ·skip
  have hq:=dTr.elim hr;clear hr;obtain ⟨v0,l1,c0,C,y0,rfl,rfl,e0,hr⟩:=hq;obtain ⟨rfl,rfl⟩:=Xce e0;simp only [List.nil_append,List.cons_append] at hc
  have hq:=dTr.elim hr;clear hr;obtain ⟨v1,l2,c1,C,y1,rfl,rfl,e1,hr⟩:=hq;obtain ⟨rfl,rfl⟩:=Xce e1;simp only [List.nil_append,List.cons_append] at hc
  replace hr:=Xhd hr;obtain ⟨rfl,rfl,x,h,rfl⟩:=hr
  replace ha:=Xag ha hc;obtain ⟨os,rfl,ha,hc⟩:=ha
  replace ha:=Xag ha hc;obtain ⟨os,rfl,ha,hc⟩:=ha
  replace ha:=Xag ha hc;obtain ⟨os,rfl,ha,hc⟩:=ha
  replace ha:=Xag ha hc;obtain ⟨os,rfl,ha,hc⟩:=ha
  replace ha:=Xag ha hc;obtain ⟨os,rfl,ha,hc⟩:=ha
  replace ha:=Xaj ha hc;obtain ⟨os,rfl,ha,hc⟩:=ha
  replace ha:=Xaj ha hc;obtain ⟨os,rfl,ha,hc⟩:=ha
  replace ha:=Xaj ha hc;obtain ⟨os,rfl,ha,hc⟩:=ha
  replace ha:=Xaj ha hc;obtain ⟨os,rfl,ha,hc⟩:=ha
  replace ha:=Xaj ha hc;obtain ⟨os,rfl,ha,hc⟩:=ha
  replace ha:=Xag ha hc;obtain ⟨os,rfl,ha,hc⟩:=ha
  replace ha:=Xag ha hc;obtain ⟨os,rfl,ha,hc⟩:=ha
  replace ha:=Xag ha hc;obtain ⟨os,rfl,ha,hc⟩:=ha
  replace ha:=Xag ha hc;obtain ⟨os,rfl,ha,hc⟩:=ha
  replace ha:=Xag ha hc;obtain ⟨os,rfl,ha,hc⟩:=ha
  replace ha:=Xaj ha hc;obtain ⟨os,rfl,ha,hc⟩:=ha
  replace ha:=Xaj ha hc;obtain ⟨os,rfl,ha,hc⟩:=ha
  replace ha:=Xaj ha hc;obtain ⟨os,rfl,ha,hc⟩:=ha
  replace ha:=Xaj ha hc;obtain ⟨os,rfl,ha,hc⟩:=ha
  replace ha:=Xaj ha hc;obtain ⟨os,rfl,ha,hc⟩:=ha
  obtain rfl:=Xa5 hc
  exact ⟨_,rfl,L3 _ _ x h⟩
 replace hr:=orD.elim hr;rcases hr with hr|hr
 ·skip
  have hq:=dTr.elim hr;clear hr;obtain ⟨v0,l1,c0,C,y0,rfl,rfl,e0,hr⟩:=hq;obtain ⟨rfl,rfl⟩:=Xci e0;simp only [List.nil_append,List.cons_append] at hc
  have hq:=dTr.elim hr;clear hr;obtain ⟨v1,l2,c1,C,y1,rfl,rfl,e1,hr⟩:=hq;obtain ⟨rfl,rfl⟩:=Xci e1;simp only [List.nil_append,List.cons_append] at hc
  replace hr:=Xhd hr;obtain ⟨rfl,rfl,x,h,rfl⟩:=hr
  replace ha:=Xag ha hc;obtain ⟨os,rfl,ha,hc⟩:=ha
  replace ha:=Xag ha hc;obtain ⟨os,rfl,ha,hc⟩:=ha
  replace ha:=Xag ha hc;obtain ⟨os,rfl,ha,hc⟩:=ha
  replace ha:=Xag ha hc;obtain ⟨os,rfl,ha,hc⟩:=ha
  replace ha:=Xag ha hc;obtain ⟨os,rfl,ha,hc⟩:=ha
  replace ha:=Xag ha hc;obtain ⟨os,rfl,ha,hc⟩:=ha
  replace ha:=Xaj ha hc;obtain ⟨os,rfl,ha,hc⟩:=ha
  replace ha:=Xaj ha hc;obtain ⟨os,rfl,ha,hc⟩:=ha
  replace ha:=Xaj ha hc;obtain ⟨os,rfl,ha,hc⟩:=ha
  replace ha:=Xaj ha hc;obtain ⟨os,rfl,ha,hc⟩:=ha
  replace ha:=Xag ha hc;obtain ⟨os,rfl,ha,hc⟩:=ha
  replace ha:=Xag ha hc;obtain ⟨os,rfl,ha,hc⟩:=ha
  replace ha:=Xag ha hc;obtain ⟨os,rfl,ha,hc⟩:=ha
  replace ha:=Xag ha hc;obtain ⟨os,rfl,ha,hc⟩:=ha
  replace ha:=Xag ha hc;obtain ⟨os,rfl,ha,hc⟩:=ha
  replace ha:=Xag ha hc;obtain ⟨os,rfl,ha,hc⟩:=ha
  replace ha:=Xaj ha hc;obtain ⟨os,rfl,ha,hc⟩:=ha
  replace ha:=Xaj ha hc;obtain ⟨os,rfl,ha,hc⟩:=ha
  replace ha:=Xaj ha hc;obtain ⟨os,rfl,ha,hc⟩:=ha
  replace ha:=Xaj ha hc;obtain ⟨os,rfl,ha,hc⟩:=ha
  obtain rfl:=Xa5 hc
  exact ⟨_,rfl,L4 _ _ x h⟩
 replace hr:=orD.elim hr;rcases hr with hr|hr
 ·skip
  have hq:=dTr.elim hr;clear hr;obtain ⟨v0,l1,c0,C,y0,rfl,rfl,e0,hr⟩:=hq;obtain ⟨rfl,rfl⟩:=Xcg e0;simp only [List.nil_append,List.cons_append] at hc
  have hq:=dTr.elim hr;clear hr;obtain ⟨v1,l2,c1,C,y1,rfl,rfl,e1,hr⟩:=hq;obtain ⟨rfl,rfl⟩:=Xcg e1;simp only [List.nil_append,List.cons_append] at hc
  replace hr:=Xhd hr;obtain ⟨rfl,rfl,x,h,rfl⟩:=hr
  replace ha:=Xag ha hc;obtain ⟨os,rfl,ha,hc⟩:=ha
  replace ha:=Xag ha hc;obtain ⟨os,rfl,ha,hc⟩:=ha
  replace ha:=Xag ha hc;obtain ⟨os,rfl,ha,hc⟩:=ha
  replace ha:=Xag ha hc;obtain ⟨os,rfl,ha,hc⟩:=ha
  replace ha:=Xag ha hc;obtain ⟨os,rfl,ha,hc⟩:=ha
  replace ha:=Xag ha hc;obtain ⟨os,rfl,ha,hc⟩:=ha
  replace ha:=Xag ha hc;obtain ⟨os,rfl,ha,hc⟩:=ha
  replace ha:=Xaj ha hc;obtain ⟨os,rfl,ha,hc⟩:=ha
  replace ha:=Xaj ha hc;obtain ⟨os,rfl,ha,hc⟩:=ha
  replace ha:=Xaj ha hc;obtain ⟨os,rfl,ha,hc⟩:=ha
  replace ha:=Xag ha hc;obtain ⟨os,rfl,ha,hc⟩:=ha
  replace ha:=Xag ha hc;obtain ⟨os,rfl,ha,hc⟩:=ha
  replace ha:=Xag ha hc;obtain ⟨os,rfl,ha,hc⟩:=ha
  replace ha:=Xag ha hc;obtain ⟨os,rfl,ha,hc⟩:=ha
  replace ha:=Xag ha hc;obtain ⟨os,rfl,ha,hc⟩:=ha
  replace ha:=Xag ha hc;obtain ⟨os,rfl,ha,hc⟩:=ha
  replace ha:=Xag ha hc;obtain ⟨os,rfl,ha,hc⟩:=ha
  replace ha:=Xaj ha hc;obtain ⟨os,rfl,ha,hc⟩:=ha
  replace ha:=Xaj ha hc;obtain ⟨os,rfl,ha,hc⟩:=ha
  replace ha:=Xaj ha hc;obtain ⟨os,rfl,ha,hc⟩:=ha
  obtain rfl:=Xa5 hc
  exact ⟨_,rfl,L5 _ _ x h⟩
 replace hr:=orD.elim hr;rcases hr with hr|hr
 ·skip
  have hq:=dTr.elim hr;clear hr;obtain ⟨v0,l1,c0,C,y0,rfl,rfl,e0,hr⟩:=hq;obtain ⟨rfl,rfl⟩:=Xcc e0;simp only [List.nil_append,List.cons_append] at hc
  have hq:=dTr.elim hr;clear hr;obtain ⟨v1,l2,c1,C,y1,rfl,rfl,e1,hr⟩:=hq;obtain ⟨rfl,rfl⟩:=Xcc e1;simp only [List.nil_append,List.cons_append] at hc
  replace hr:=Xhd hr;obtain ⟨rfl,rfl,x,h,rfl⟩:=hr
  replace ha:=Xag ha hc;obtain ⟨os,rfl,ha,hc⟩:=ha
  replace ha:=Xag ha hc;obtain ⟨os,rfl,ha,hc⟩:=ha
  replace ha:=Xag ha hc;obtain ⟨os,rfl,ha,hc⟩:=ha
  replace ha:=Xag ha hc;obtain ⟨os,rfl,ha,hc⟩:=ha
  replace ha:=Xag ha hc;obtain ⟨os,rfl,ha,hc⟩:=ha
  replace ha:=Xag ha hc;obtain ⟨os,rfl,ha,hc⟩:=ha
  replace ha:=Xag ha hc;obtain ⟨os,rfl,ha,hc⟩:=ha
  replace ha:=Xag ha hc;obtain ⟨os,rfl,ha,hc⟩:=ha
  replace ha:=Xaj ha hc;obtain ⟨os,rfl,ha,hc⟩:=ha
  replace ha:=Xaj ha hc;obtain ⟨os,rfl,ha,hc⟩:=ha
  replace ha:=Xag ha hc;obtain ⟨os,rfl,ha,hc⟩:=ha
  replace ha:=Xag ha hc;obtain ⟨os,rfl,ha,hc⟩:=ha
  replace ha:=Xag ha hc;obtain ⟨os,rfl,ha,hc⟩:=ha
  replace ha:=Xag ha hc;obtain ⟨os,rfl,ha,hc⟩:=ha
  replace ha:=Xag ha hc;obtain ⟨os,rfl,ha,hc⟩:=ha
  replace ha:=Xag ha hc;obtain ⟨os,rfl,ha,hc⟩:=ha
  replace ha:=Xag ha hc;obtain ⟨os,rfl,ha,hc⟩:=ha
  replace ha:=Xag ha hc;obtain ⟨os,rfl,ha,hc⟩:=ha
  replace ha:=Xaj ha hc;obtain ⟨os,rfl,ha,hc⟩:=ha
  replace ha:=Xaj ha hc;obtain ⟨os,rfl,ha,hc⟩:=ha
  obtain rfl:=Xa5 hc
  exact ⟨_,rfl,L6 _ _ x h⟩
 replace hr:=orD.elim hr;rcases hr with hr|hr
 ·skip
  have hq:=dTr.elim hr;clear hr;obtain ⟨v0,l1,c0,C,y0,rfl,rfl,e0,hr⟩:=hq;obtain ⟨rfl,rfl⟩:=Xcd e0;simp only [List.nil_append,List.cons_append] at hc
  have hq:=dTr.elim hr;clear hr;obtain ⟨v1,l2,c1,C,y1,rfl,rfl,e1,hr⟩:=hq;obtain ⟨rfl,rfl⟩:=Xcd e1;simp only [List.nil_append,List.cons_append] at hc
  replace hr:=Xhd hr;obtain ⟨rfl,rfl,x,h,rfl⟩:=hr
  replace ha:=Xag ha hc;obtain ⟨os,rfl,ha,hc⟩:=ha
  replace ha:=Xag ha hc;obtain ⟨os,rfl,ha,hc⟩:=ha
  replace ha:=Xag ha hc;obtain ⟨os,rfl,ha,hc⟩:=ha
  replace ha:=Xag ha hc;obtain ⟨os,rfl,ha,hc⟩:=ha
  replace ha:=Xag ha hc;obtain ⟨os,rfl,ha,hc⟩:=ha
  replace ha:=Xag ha hc;obtain ⟨os,rfl,ha,hc⟩:=ha
  replace ha:=Xag ha hc;obtain ⟨os,rfl,ha,hc⟩:=ha
  replace ha:=Xag ha hc;obtain ⟨os,rfl,ha,hc⟩:=ha
  replace ha:=Xag ha hc;obtain ⟨os,rfl,ha,hc⟩:=ha
  replace ha:=Xaj ha hc;obtain ⟨os,rfl,ha,hc⟩:=ha
  replace ha:=Xag ha hc;obtain ⟨os,rfl,ha,hc⟩:=ha
  replace ha:=Xag ha hc;obtain ⟨os,rfl,ha,hc⟩:=ha
  replace ha:=Xag ha hc;obtain ⟨os,rfl,ha,hc⟩:=ha
  replace ha:=Xag ha hc;obtain ⟨os,rfl,ha,hc⟩:=ha
  replace ha:=Xag ha hc;obtain ⟨os,rfl,ha,hc⟩:=ha
  replace ha:=Xag ha hc;obtain ⟨os,rfl,ha,hc⟩:=ha
  replace ha:=Xag ha hc;obtain ⟨os,rfl,ha,hc⟩:=ha
  replace ha:=Xag ha hc;obtain ⟨os,rfl,ha,hc⟩:=ha
  replace ha:=Xag ha hc;obtain ⟨os,rfl,ha,hc⟩:=ha
  replace ha:=Xaj ha hc;obtain ⟨os,rfl,ha,hc⟩:=ha
  obtain rfl:=Xa5 hc
  exact ⟨_,rfl,L7 _ _ x h⟩
 have hq:=dTr.elim hr;clear hr;obtain ⟨v0,l1,c0,C,y0,rfl,rfl,e0,hr⟩:=hq;obtain ⟨rfl,rfl⟩:=Xck e0;simp only [List.nil_append,List.cons_append] at hc
 have hq:=dTr.elim hr;clear hr;obtain ⟨v1,l2,c1,C,y1,rfl,rfl,e1,hr⟩:=hq;obtain ⟨rfl,rfl⟩:=Xck e1;simp only [List.nil_append,List.cons_append] at hc
 replace hr:=Xhd hr;obtain ⟨rfl,rfl,x,h,rfl⟩:=hr
 replace ha:=Xag ha hc;obtain ⟨os,rfl,ha,hc⟩:=ha
 replace ha:=Xag ha hc;obtain ⟨os,rfl,ha,hc⟩:=ha
 replace ha:=Xag ha hc;obtain ⟨os,rfl,ha,hc⟩:=ha
 replace ha:=Xag ha hc;obtain ⟨os,rfl,ha,hc⟩:=ha
 replace ha:=Xag ha hc;obtain ⟨os,rfl,ha,hc⟩:=ha
 replace ha:=Xag ha hc;obtain ⟨os,rfl,ha,hc⟩:=ha
 replace ha:=Xag ha hc;obtain ⟨os,rfl,ha,hc⟩:=ha
 replace ha:=Xag ha hc;obtain ⟨os,rfl,ha,hc⟩:=ha
 replace ha:=Xag ha hc;obtain ⟨os,rfl,ha,hc⟩:=ha
 replace ha:=Xag ha hc;obtain ⟨os,rfl,ha,hc⟩:=ha
 replace ha:=Xag ha hc;obtain ⟨os,rfl,ha,hc⟩:=ha
 replace ha:=Xag ha hc;obtain ⟨os,rfl,ha,hc⟩:=ha
 replace ha:=Xag ha hc;obtain ⟨os,rfl,ha,hc⟩:=ha
 replace ha:=Xag ha hc;obtain ⟨os,rfl,ha,hc⟩:=ha
 replace ha:=Xag ha hc;obtain ⟨os,rfl,ha,hc⟩:=ha
 replace ha:=Xag ha hc;obtain ⟨os,rfl,ha,hc⟩:=ha
 replace ha:=Xag ha hc;obtain ⟨os,rfl,ha,hc⟩:=ha
 replace ha:=Xag ha hc;obtain ⟨os,rfl,ha,hc⟩:=ha
 replace ha:=Xag ha hc;obtain ⟨os,rfl,ha,hc⟩:=ha
 replace ha:=Xag ha hc;obtain ⟨os,rfl,ha,hc⟩:=ha
 obtain rfl:=Xa5 hc
 exact ⟨_,rfl,L8 _ _ x h⟩
def XgB (s:Int) (s1:Int) (s2:Int):Option (Sum (Int×Int×Int) Bool):=
 let t:=if (wI .i64 (s2+s2))<1099511627776 then wI .i64 (s2+s2) else 1099511627776
 some (.inr (false))
def XjN (XaE:Xa2) (Xac:Xap) (Xae:Xaq) (Xah:Xau) (Xad:Xao) (Xbi:Xcy):Option Bool:=
 (XaE 2 10 (XaD.mk 1 0)).bind fun n=>
 match n with
 | .v2 n1=>
   (Xah.v2 n1 [97] 3).bind fun x2=>
   cond (x2.1)
    (
    (Xah.v2 x2.2 [98] 4).bind fun x21=>
    cond (x21.1)
     (
     (Xah.v2 x21.2 [97] (-1)).bind fun x22=>
     (Xac.v2 x22.2 [97]).bind fun x23=>
     cond (!x22.1)
      (
      cond (x23==3)
       (
       (Xad.v2 x22.2).bind fun x24=>
       cond (x24==7)
        (
        (Xah.vn [97] 1).bind fun n2=>
        cond (!n2)
         (
         (Xah.v0 (Xax.mk (XaD.mk 0 0) Xbr.mk 0) [97] 1).bind fun x0=>
         cond (!x0.1)
          (
          (Xac.vn [97]).bind fun n3=>
          (Xad.v0 (Xax.mk x0.2.key Xbr.mk x0.2.total)).bind fun x01=>
          cond ((wI .i64 (n3+x01))==0)
           (
           (Xae.vn 0 [97]).bind fun n4=>
           cond (n4==(-1))
            (
            (Xbi.v00 (Xax.mk x0.2.key Xbr.mk x0.2.total) (Xax.mk x0.2.key Xbr.mk x0.2.total)).bind fun x02=>
            cond (!x02)
             (
             (XaE 0 1 (XaD.mk 0 0)).bind fun n5=>
             match n5 with
             | .nil=>
               some (true)
             | _=>none)
             (
             iter (fun st=>XgB st.1 st.2.1 st.2.2) FUEL (x0.2.key.A,x0.2.key.B,x0.2.total)))
            (
            some (false)))
           (
           some (false)))
          (
          some (false)))
         (
         some (false)))
        (
        some (false)))
       (
       cond (x23==7)
        (
        (Xad.v2 x22.2).bind fun x25=>
        cond (x25==7)
         (
         (Xah.vn [97] 1).bind fun n6=>
         cond (!n6)
          (
          (Xah.v0 (Xax.mk (XaD.mk 0 0) Xbr.mk 0) [97] 1).bind fun x03=>
          cond (!x03.1)
           (
           (Xac.vn [97]).bind fun n7=>
           (Xad.v0 (Xax.mk x03.2.key Xbr.mk x03.2.total)).bind fun x04=>
           cond ((wI .i64 (n7+x04))==0)
            (
            (Xae.vn 0 [97]).bind fun n8=>
            cond (n8==(-1))
             (
             (Xbi.v00 (Xax.mk x03.2.key Xbr.mk x03.2.total) (Xax.mk x03.2.key Xbr.mk x03.2.total)).bind fun x05=>
             cond (!x05)
              (
              (XaE 0 1 (XaD.mk 0 0)).bind fun n9=>
              match n9 with
              | .nil=>
                some (true)
              | _=>none)
              (
              iter (fun st=>XgB st.1 st.2.1 st.2.2) FUEL (x03.2.key.A,x03.2.key.B,x03.2.total)))
             (
             some (false)))
            (
            some (false)))
           (
           some (false)))
          (
          some (false)))
         (
         some (false)))
        (
        some (false))))
      (
      some (false)))
     (
     (Xac.v2 x21.2 [97]).bind fun x26=>
     some (false)))
    (
    (Xac.v2 x2.2 [97]).bind fun x27=>
    some (false))
 | _=>none
def rx9 (x:Bool):Xdj:=⟨.bool x,[],[]⟩
abbrev XaQ:=Option Bool
def r9 (g:XaQ):Dec:=Xfq (ofG (g) rx9)
theorem r9_c {g:XaQ} {x:Bool} (hx:g=some x):r9 g [] []=some (rx9 x):=Xbx hx
def s9 (g:XaQ):Xc3:=⟨[],r9 g⟩
theorem Xoy {g:XaQ} {x:Bool} (hx:g=some x):(s9 g).run [] []=some (rx9 x):=r9_c hx
abbrev XD7 (XaE:Xa2) (Xac:Xap) (Xae:Xaq) (Xah:Xau) (Xad:Xao) (Xbi:Xcy):List (Nat×Xc3):=[(10,s10 XaE),(16,s16 Xac),(20,s20 Xae),(12,s12 Xah),(18,s18 Xad),(42,s42 Xbi)]
def Xmr (s:Int) (s1:Int) (s2:Int):VM:=
 ⟨⟨14,51,[(0,.pointer (some ⟨10,0,none⟩)),(1,.pointer (some ⟨10,0,none⟩)),(16,.slice none 0 0),(17,.int .i64 0),(18,.int .i64 0)],[.code Xud,.inLoop Xud,.inBlock 0,.code Xye],[],false,none⟩,[⟨9,71,[(60,.bool true)],[.inReg (opsD k9_6 40),.code .ret],[],false,none⟩],[(10,.cells [.int .u64 s,.int .u64 s1,.slice none 0 0,.int .i64 s2])],11⟩
theorem Xvq (XaE:Xa2) (Xac:Xap) (Xae:Xaq) (Xah:Xau) (Xad:Xao) (Xbi:Xcy) (hS:XaL Try.prog (XaY (XD7 XaE Xac Xae Xah Xad Xbi))) (res:Bool):∀ fuel (st:Int×Int×Int) (o:Bool),iter (fun st=>XgB st.1 st.2.1 st.2.2) fuel st=some o→(o=res) →
 Xa0 Try.prog 9 0 (Xmr st.1 st.2.1 st.2.2) (fun v H _=>Res 0 (rx9 res) v H):=by
 intro fuel st o h hc
 refine Xbl (head:=fun st=>Xmr st.1 st.2.1 st.2.2) (C:=fun o=>(o=res)) ?_ fuel st o h hc
 clear h hc o st fuel
 intro st o h hc
 obtain ⟨s,s1,s2⟩:=st
 replace h:XgB s s1 s2=some o:=h
 show Xa0 Try.prog 9 0 (Xmr s s1 s2) (fun v H _=>Res 0 (rx9 res) v H)
 unfold XgB at h
 refine Xa1 XaJ hS true 3000 ?_
 conv=>whnf
 exact W
theorem XCL (XaE:Xa2) (Xac:Xap) (Xae:Xaq) (Xah:Xau) (Xad:Xao) (Xbi:Xcy) (hS:XaL Try.prog (XaY (XD7 XaE Xac Xae Xah Xad Xbi))) (res:Bool) (h:XjN XaE Xac Xae Xah Xad Xbi=some res) :
 Xa0 Try.prog 9 0 ⟨⟨9,71,[],[.code XDC],[],false,none⟩,[],[],0⟩ (fun v H _=>Res 0 (rx9 res) v H):=by
 unfold XjN at h
 refine Xa1 XaJ hS true 3000 ?_
 conv=>whnf
 replace h:=XaK.elim h;obtain ⟨n,hy,h⟩:=h
 cases n
 case v2 n1=>
  refine Xbn.a (XiR hy) ?_
  conv=>whnf
  replace h:=XaK.elim h;obtain ⟨x2,hy,h⟩:=h
  refine Xbn.XaO [0,1] (Xar («as»:=[.pointer (some ⟨0,0,none⟩),.string ⟨⟨[97]⟩⟩,.int .i64 3]) (ws:=[.blk 0 true,.blk 1 true,.blk 2 true,.blk 3 true,.no,.no,.no,.no,.no,.no]) (n:=2) (m:=0) (t':=6) (Xam (Xa6 rfl rfl (Xai rfl rfl rfl rfl (Xai rfl rfl rfl rfl (Xai rfl rfl (Xat) rfl (Xai rfl rfl (Xat) rfl (Xan (Xan (Xan (Xan (Xan (Xan XaR)))))))))) rfl) rfl (Xam rfl rfl (Xam rfl rfl XaP))) rfl (by rfl) (Xmm hy) rfl rfl rfl rfl (Xfo rfl rfl rfl rfl (Xfo rfl rfl rfl rfl (XcC (XcC (Xab rfl (Xab rfl (Xab rfl (Xab rfl (Xab rfl (Xab rfl XaN)))))))))) (XbR (Xat) (XbR (Xat) XaM)) rfl) ?_
  conv=>whnf
  refine br.h2 h (by rfl) ?_ ?_
  ·clear h;intro hb h;conv=>whnf
   replace h:=XaK.elim h;obtain ⟨x27,hy,h⟩:=h
   refine Xbn.XaO [] (Xar («as»:=[.pointer (some ⟨0,0,none⟩),.string ⟨⟨[97]⟩⟩]) (ws:=[.blk 0 false,.blk 1 false,.blk 4 false,.blk 5 false,.no,.no,.no,.no,.no,.no]) (n:=0) (m:=0) (t':=6) (Xam (Xa6 rfl rfl (Xai rfl rfl rfl rfl (Xai rfl rfl rfl rfl (Xai rfl rfl (Xat) rfl (Xai rfl rfl (Xat) rfl (Xan (Xan (Xan (Xan (Xan (Xan XaR)))))))))) rfl) rfl (Xam rfl rfl XaP)) rfl (by rfl) (XkU hy) rfl rfl rfl rfl (Xab rfl (Xab rfl (Xab rfl (Xab rfl (Xab rfl (Xab rfl (Xab rfl (Xab rfl (Xab rfl (Xab rfl XaN)))))))))) XaM rfl) ?_
   conv=>whnf
   exact W
  clear h;intro hb h;conv=>whnf
  replace h:=XaK.elim h;obtain ⟨x21,hy,h⟩:=h
  refine Xbn.XaO [0,1] (Xar («as»:=[.pointer (some ⟨0,0,none⟩),.string ⟨⟨[98]⟩⟩,.int .i64 4]) (ws:=[.blk 0 true,.blk 1 true,.blk 4 true,.blk 5 true,.no,.no,.no,.no,.no,.no]) (n:=2) (m:=0) (t':=8) (Xam (Xa6 rfl rfl (Xai rfl rfl rfl rfl (Xai rfl rfl rfl rfl (Xai rfl rfl (Xat) rfl (Xai rfl rfl (Xat) rfl (Xan (Xan (Xan (Xan (Xan (Xan XaR)))))))))) rfl) rfl (Xam rfl rfl (Xam rfl rfl XaP))) rfl (by rfl) (Xmm hy) rfl rfl rfl rfl (Xfo rfl rfl rfl rfl (Xfo rfl rfl rfl rfl (XcC (XcC (Xab rfl (Xab rfl (Xab rfl (Xab rfl (Xab rfl (Xab rfl XaN)))))))))) (XbR (Xat) (XbR (Xat) XaM)) rfl) ?_
  conv=>whnf
  refine br.h2 h (by rfl) ?_ ?_
  ·clear h;intro hb h;conv=>whnf
   replace h:=XaK.elim h;obtain ⟨x26,hy,h⟩:=h
   refine Xbn.XaO [] (Xar («as»:=[.pointer (some ⟨0,0,none⟩),.string ⟨⟨[97]⟩⟩]) (ws:=[.blk 0 false,.blk 1 false,.blk 6 false,.blk 7 false,.no,.no,.no,.no,.no,.no]) (n:=0) (m:=0) (t':=8) (Xam (Xa6 rfl rfl (Xai rfl rfl rfl rfl (Xai rfl rfl rfl rfl (Xai rfl rfl (Xat) rfl (Xai rfl rfl (Xat) rfl (Xan (Xan (Xan (Xan (Xan (Xan XaR)))))))))) rfl) rfl (Xam rfl rfl XaP)) rfl (by rfl) (XkU hy) rfl rfl rfl rfl (Xab rfl (Xab rfl (Xab rfl (Xab rfl (Xab rfl (Xab rfl (Xab rfl (Xab rfl (Xab rfl (Xab rfl XaN)))))))))) XaM rfl) ?_
   conv=>whnf
   exact W
  clear h;intro hb h;conv=>whnf
  replace h:=XaK.elim h;obtain ⟨x22,hy,h⟩:=h
  refine Xbn.XaO [0,1] (Xar («as»:=[.pointer (some ⟨0,0,none⟩),.string ⟨⟨[97]⟩⟩,.int .i64 (-1)]) (ws:=[.blk 0 true,.blk 1 true,.blk 6 true,.blk 7 true,.no,.no,.no,.no,.no,.no]) (n:=2) (m:=0) (t':=10) (Xam (Xa6 rfl rfl (Xai rfl rfl rfl rfl (Xai rfl rfl rfl rfl (Xai rfl rfl (Xat) rfl (Xai rfl rfl (Xat) rfl (Xan (Xan (Xan (Xan (Xan (Xan XaR)))))))))) rfl) rfl (Xam rfl rfl (Xam rfl rfl XaP))) rfl (by rfl) (Xmm hy) rfl rfl rfl rfl (Xfo rfl rfl rfl rfl (Xfo rfl rfl rfl rfl (XcC (XcC (Xab rfl (Xab rfl (Xab rfl (Xab rfl (Xab rfl (Xab rfl XaN)))))))))) (XbR (Xat) (XbR (Xat) XaM)) rfl) ?_
  conv=>whnf
  replace h:=XaK.elim h;obtain ⟨x23,hy,h⟩:=h
  refine Xbn.XaO [] (Xar («as»:=[.pointer (some ⟨0,0,none⟩),.string ⟨⟨[97]⟩⟩]) (ws:=[.blk 0 false,.blk 1 false,.blk 8 false,.blk 9 false,.no,.no,.no,.no,.no,.no]) (n:=0) (m:=0) (t':=10) (Xam (Xa6 rfl rfl (Xai rfl rfl rfl rfl (Xai rfl rfl rfl rfl (Xai rfl rfl (Xat) rfl (Xai rfl rfl (Xat) rfl (Xan (Xan (Xan (Xan (Xan (Xan XaR)))))))))) rfl) rfl (Xam rfl rfl XaP)) rfl (by rfl) (XkU hy) rfl rfl rfl rfl (Xab rfl (Xab rfl (Xab rfl (Xab rfl (Xab rfl (Xab rfl (Xab rfl (Xab rfl (Xab rfl (Xab rfl XaN)))))))))) XaM rfl) ?_
  conv=>whnf
  refine br.h2 h (by rfl) ?_ ?_
  ·clear h;intro hb h;conv=>whnf
   exact W
  clear h;intro hb h;conv=>whnf
  refine br.h h (by rfl) ?_ ?_
  ·clear h;intro hb h;conv=>whnf
   replace h:=XaK.elim h;obtain ⟨x24,hy,h⟩:=h
   refine Xbn.XaO [] (Xar («as»:=[.pointer (some ⟨0,0,none⟩)]) (ws:=[.blk 0 false,.blk 1 false,.blk 8 false,.blk 9 false,.no,.no,.no,.no,.no,.no]) (n:=0) (m:=0) (t':=11) (Xam (Xa6 rfl rfl (Xai rfl rfl rfl rfl (Xai rfl rfl rfl rfl (Xai rfl rfl (Xat) rfl (Xai rfl rfl (Xat) rfl (Xan (Xan (Xan (Xan (Xan (Xan XaR)))))))))) rfl) rfl XaP) rfl (by rfl) (Xoc hy) rfl rfl rfl rfl (Xab rfl (Xab rfl (Xab rfl (Xab rfl (Xab rfl (Xab rfl (Xab rfl (Xab rfl (Xab rfl (Xab rfl XaN)))))))))) XaM rfl) ?_
   conv=>whnf
   refine br.h2 h (by rfl) ?_ ?_
   ·clear h;intro hb h;conv=>whnf
    exact W
   clear h;intro hb h;conv=>whnf
   replace h:=XaK.elim h;obtain ⟨n2,hy,h⟩:=h
   refine Xbn.XaO [] (Xar («as»:=[.pointer none,.string ⟨⟨[97]⟩⟩,.int .i64 1]) (ws:=[.no,.no,.no,.no,.no,.no,.no,.no,.no,.no]) (n:=0) (m:=0) (t':=11) (Xam rfl rfl (Xam rfl rfl (Xam rfl rfl XaP))) rfl (by rfl) (Xqr hy) rfl rfl rfl rfl (Xab rfl (Xab rfl (Xab rfl (Xab rfl (Xab rfl (Xab rfl (Xab rfl (Xab rfl (Xab rfl (Xab rfl XaN)))))))))) XaM rfl) ?_
   conv=>whnf
   refine br.h2 h (by rfl) ?_ ?_
   ·clear h;intro hb h;conv=>whnf
    exact W
   clear h;intro hb h;conv=>whnf
   replace h:=XaK.elim h;obtain ⟨x0,hy,h⟩:=h
   refine Xbn.XaO [10] (Xar («as»:=[.pointer (some ⟨0,0,none⟩),.string ⟨⟨[97]⟩⟩,.int .i64 1]) (ws:=[.blk 10 true,.no,.no,.no,.no,.no,.no,.no,.no,.no]) (n:=0) (m:=0) (t':=11) (Xam (Xa6 rfl rfl (Xai rfl rfl rfl rfl (Xan (Xan (Xan (Xan (Xan (Xan (Xan (Xan (Xan XaR)))))))))) rfl) rfl (Xam rfl rfl (Xam rfl rfl XaP))) rfl (by rfl) (XrS hy) rfl rfl rfl rfl (Xfo rfl rfl rfl rfl (Xab rfl (Xab rfl (Xab rfl (Xab rfl (Xab rfl (Xab rfl (Xab rfl (Xab rfl (Xab rfl XaN)))))))))) XaM rfl) ?_
   conv=>whnf
   refine br.h2 h (by rfl) ?_ ?_
   ·clear h;intro hb h;conv=>whnf
    exact W
   clear h;intro hb h;conv=>whnf
   replace h:=XaK.elim h;obtain ⟨n3,hy,h⟩:=h
   refine Xbn.XaO [] (Xar («as»:=[.pointer none,.string ⟨⟨[97]⟩⟩]) (ws:=[.no,.no,.no,.no,.no,.no,.no,.no,.no,.no]) (n:=0) (m:=0) (t':=11) (Xam rfl rfl (Xam rfl rfl XaP)) rfl (by rfl) (XrW hy) rfl rfl rfl rfl (Xab rfl (Xab rfl (Xab rfl (Xab rfl (Xab rfl (Xab rfl (Xab rfl (Xab rfl (Xab rfl (Xab rfl XaN)))))))))) XaM rfl) ?_
   conv=>whnf
   replace h:=XaK.elim h;obtain ⟨x01,hy,h⟩:=h
   refine Xbn.XaO [] (Xar («as»:=[.pointer (some ⟨0,0,none⟩)]) (ws:=[.blk 10 false,.no,.no,.no,.no,.no,.no,.no,.no,.no]) (n:=0) (m:=0) (t':=11) (Xam (Xa6 rfl rfl (Xai rfl rfl rfl rfl (Xan (Xan (Xan (Xan (Xan (Xan (Xan (Xan (Xan XaR)))))))))) rfl) rfl XaP) rfl (by rfl) (XrL hy) rfl rfl rfl rfl (Xab rfl (Xab rfl (Xab rfl (Xab rfl (Xab rfl (Xab rfl (Xab rfl (Xab rfl (Xab rfl (Xab rfl XaN)))))))))) XaM rfl) ?_
   conv=>whnf
   refine br.h2 h (by rfl) ?_ ?_
   ·clear h;intro hb h;conv=>whnf
    exact W
   clear h;intro hb h;conv=>whnf
   replace h:=XaK.elim h;obtain ⟨n4,hy,h⟩:=h
   refine Xbn.XaO [] (Xar («as»:=[.pointer none,.int .i64 0,.string ⟨⟨[97]⟩⟩]) (ws:=[.no,.no,.no,.no,.no,.no,.no,.no,.no,.no]) (n:=0) (m:=0) (t':=11) (Xam rfl rfl (Xam rfl rfl (Xam rfl rfl XaP))) rfl (by rfl) (XrX hy) rfl rfl rfl rfl (Xab rfl (Xab rfl (Xab rfl (Xab rfl (Xab rfl (Xab rfl (Xab rfl (Xab rfl (Xab rfl (Xab rfl XaN)))))))))) XaM rfl) ?_
   conv=>whnf
   refine br.h2 h (by rfl) ?_ ?_
   ·clear h;intro hb h;conv=>whnf
    exact W
   clear h;intro hb h;conv=>whnf
   replace h:=XaK.elim h;obtain ⟨x02,hy,h⟩:=h
   refine Xbn.XaO [] (Xar («as»:=[.pointer (some ⟨0,0,none⟩),.pointer (some ⟨10,0,none⟩)]) (ws:=[.blk 10 false,.no,.no,.no,.no,.no,.no,.no,.no,.no,.blk 10 false,.no,.no,.no,.no,.no,.no,.no,.no,.no]) (n:=0) (m:=0) (t':=11) (Xam (Xa6 rfl rfl (Xai rfl rfl rfl rfl (Xan (Xan (Xan (Xan (Xan (Xan (Xan (Xan (Xan XaR)))))))))) rfl) rfl (Xam (Xa6 rfl rfl (Xai rfl rfl rfl rfl (Xan (Xan (Xan (Xan (Xan (Xan (Xan (Xan (Xan XaR)))))))))) rfl) rfl XaP)) rfl (by rfl) (Xo3 hy) rfl rfl rfl rfl (Xab rfl (Xab rfl (Xab rfl (Xab rfl (Xab rfl (Xab rfl (Xab rfl (Xab rfl (Xab rfl (Xab rfl (Xab rfl (Xab rfl (Xab rfl (Xab rfl (Xab rfl (Xab rfl (Xab rfl (Xab rfl (Xab rfl (Xab rfl XaN)))))))))))))))))))) XaM rfl) ?_
   conv=>whnf
   refine br.h2 h (by rfl) ?_ ?_
   ·clear h;intro hb h;conv=>whnf
    have hl:=Xvq XaE Xac Xae Xah Xad Xbi hS res _ _ _ h rfl;simp only [Xmr] at hl
    exact lrA1 hl [(10,10)] rfl
   clear h;intro hb h;conv=>whnf
   replace h:=XaK.elim h;obtain ⟨n5,hy,h⟩:=h
   cases n5
   case nil=>
    refine Xbn.a (XiR hy) ?_
    conv=>whnf
    exact W
   all_goals cases h
  clear h;intro hb h;conv=>whnf
  refine br.h2 h (by rfl) ?_ ?_
  ·clear h;intro hb h;conv=>whnf
   exact W
  clear h;intro hb h;conv=>whnf
  replace h:=XaK.elim h;obtain ⟨x25,hy,h⟩:=h
  refine Xbn.XaO [] (Xar («as»:=[.pointer (some ⟨0,0,none⟩)]) (ws:=[.blk 0 false,.blk 1 false,.blk 8 false,.blk 9 false,.no,.no,.no,.no,.no,.no]) (n:=0) (m:=0) (t':=11) (Xam (Xa6 rfl rfl (Xai rfl rfl rfl rfl (Xai rfl rfl rfl rfl (Xai rfl rfl (Xat) rfl (Xai rfl rfl (Xat) rfl (Xan (Xan (Xan (Xan (Xan (Xan XaR)))))))))) rfl) rfl XaP) rfl (by rfl) (Xoc hy) rfl rfl rfl rfl (Xab rfl (Xab rfl (Xab rfl (Xab rfl (Xab rfl (Xab rfl (Xab rfl (Xab rfl (Xab rfl (Xab rfl XaN)))))))))) XaM rfl) ?_
  conv=>whnf
  refine br.h2 h (by rfl) ?_ ?_
  ·clear h;intro hb h;conv=>whnf
   exact W
  clear h;intro hb h;conv=>whnf
  replace h:=XaK.elim h;obtain ⟨n6,hy,h⟩:=h
  refine Xbn.XaO [] (Xar («as»:=[.pointer none,.string ⟨⟨[97]⟩⟩,.int .i64 1]) (ws:=[.no,.no,.no,.no,.no,.no,.no,.no,.no,.no]) (n:=0) (m:=0) (t':=11) (Xam rfl rfl (Xam rfl rfl (Xam rfl rfl XaP))) rfl (by rfl) (Xqr hy) rfl rfl rfl rfl (Xab rfl (Xab rfl (Xab rfl (Xab rfl (Xab rfl (Xab rfl (Xab rfl (Xab rfl (Xab rfl (Xab rfl XaN)))))))))) XaM rfl) ?_
  conv=>whnf
  refine br.h2 h (by rfl) ?_ ?_
  ·clear h;intro hb h;conv=>whnf
   exact W
  clear h;intro hb h;conv=>whnf
  replace h:=XaK.elim h;obtain ⟨x03,hy,h⟩:=h
  refine Xbn.XaO [10] (Xar («as»:=[.pointer (some ⟨0,0,none⟩),.string ⟨⟨[97]⟩⟩,.int .i64 1]) (ws:=[.blk 10 true,.no,.no,.no,.no,.no,.no,.no,.no,.no]) (n:=0) (m:=0) (t':=11) (Xam (Xa6 rfl rfl (Xai rfl rfl rfl rfl (Xan (Xan (Xan (Xan (Xan (Xan (Xan (Xan (Xan XaR)))))))))) rfl) rfl (Xam rfl rfl (Xam rfl rfl XaP))) rfl (by rfl) (XrS hy) rfl rfl rfl rfl (Xfo rfl rfl rfl rfl (Xab rfl (Xab rfl (Xab rfl (Xab rfl (Xab rfl (Xab rfl (Xab rfl (Xab rfl (Xab rfl XaN)))))))))) XaM rfl) ?_
  conv=>whnf
  refine br.h2 h (by rfl) ?_ ?_
  ·clear h;intro hb h;conv=>whnf
   exact W
  clear h;intro hb h;conv=>whnf
  replace h:=XaK.elim h;obtain ⟨n7,hy,h⟩:=h
  refine Xbn.XaO [] (Xar («as»:=[.pointer none,.string ⟨⟨[97]⟩⟩]) (ws:=[.no,.no,.no,.no,.no,.no,.no,.no,.no,.no]) (n:=0) (m:=0) (t':=11) (Xam rfl rfl (Xam rfl rfl XaP)) rfl (by rfl) (XrW hy) rfl rfl rfl rfl (Xab rfl (Xab rfl (Xab rfl (Xab rfl (Xab rfl (Xab rfl (Xab rfl (Xab rfl (Xab rfl (Xab rfl XaN)))))))))) XaM rfl) ?_
  conv=>whnf
  replace h:=XaK.elim h;obtain ⟨x04,hy,h⟩:=h
  refine Xbn.XaO [] (Xar («as»:=[.pointer (some ⟨0,0,none⟩)]) (ws:=[.blk 10 false,.no,.no,.no,.no,.no,.no,.no,.no,.no]) (n:=0) (m:=0) (t':=11) (Xam (Xa6 rfl rfl (Xai rfl rfl rfl rfl (Xan (Xan (Xan (Xan (Xan (Xan (Xan (Xan (Xan XaR)))))))))) rfl) rfl XaP) rfl (by rfl) (XrL hy) rfl rfl rfl rfl (Xab rfl (Xab rfl (Xab rfl (Xab rfl (Xab rfl (Xab rfl (Xab rfl (Xab rfl (Xab rfl (Xab rfl XaN)))))))))) XaM rfl) ?_
  conv=>whnf
  refine br.h2 h (by rfl) ?_ ?_
  ·clear h;intro hb h;conv=>whnf
   exact W
  clear h;intro hb h;conv=>whnf
  replace h:=XaK.elim h;obtain ⟨n8,hy,h⟩:=h
  refine Xbn.XaO [] (Xar («as»:=[.pointer none,.int .i64 0,.string ⟨⟨[97]⟩⟩]) (ws:=[.no,.no,.no,.no,.no,.no,.no,.no,.no,.no]) (n:=0) (m:=0) (t':=11) (Xam rfl rfl (Xam rfl rfl (Xam rfl rfl XaP))) rfl (by rfl) (XrX hy) rfl rfl rfl rfl (Xab rfl (Xab rfl (Xab rfl (Xab rfl (Xab rfl (Xab rfl (Xab rfl (Xab rfl (Xab rfl (Xab rfl XaN)))))))))) XaM rfl) ?_
  conv=>whnf
  refine br.h2 h (by rfl) ?_ ?_
  ·clear h;intro hb h;conv=>whnf
   exact W
  clear h;intro hb h;conv=>whnf
  replace h:=XaK.elim h;obtain ⟨x05,hy,h⟩:=h
  refine Xbn.XaO [] (Xar («as»:=[.pointer (some ⟨0,0,none⟩),.pointer (some ⟨10,0,none⟩)]) (ws:=[.blk 10 false,.no,.no,.no,.no,.no,.no,.no,.no,.no,.blk 10 false,.no,.no,.no,.no,.no,.no,.no,.no,.no]) (n:=0) (m:=0) (t':=11) (Xam (Xa6 rfl rfl (Xai rfl rfl rfl rfl (Xan (Xan (Xan (Xan (Xan (Xan (Xan (Xan (Xan XaR)))))))))) rfl) rfl (Xam (Xa6 rfl rfl (Xai rfl rfl rfl rfl (Xan (Xan (Xan (Xan (Xan (Xan (Xan (Xan (Xan XaR)))))))))) rfl) rfl XaP)) rfl (by rfl) (Xo3 hy) rfl rfl rfl rfl (Xab rfl (Xab rfl (Xab rfl (Xab rfl (Xab rfl (Xab rfl (Xab rfl (Xab rfl (Xab rfl (Xab rfl (Xab rfl (Xab rfl (Xab rfl (Xab rfl (Xab rfl (Xab rfl (Xab rfl (Xab rfl (Xab rfl (Xab rfl XaN)))))))))))))))))))) XaM rfl) ?_
  conv=>whnf
  refine br.h2 h (by rfl) ?_ ?_
  ·clear h;intro hb h;conv=>whnf
   have hl:=Xvq XaE Xac Xae Xah Xad Xbi hS res _ _ _ h rfl;simp only [Xmr] at hl
   exact lrA1 hl [(10,10)] rfl
  clear h;intro hb h;conv=>whnf
  replace h:=XaK.elim h;obtain ⟨n9,hy,h⟩:=h
  cases n9
  case nil=>
   refine Xbn.a (XiR hy) ?_
   conv=>whnf
   exact W
  all_goals cases h
 all_goals cases h
def Xal:XaQ:=XjN XaE Xac Xae Xah Xad Xbi
theorem lift9:Xgx Try.prog 9 (s9 Xal):=by
 have hL:=XCL XaE Xac Xae Xah Xad Xbi (XaL.Xbk ⟨XDt,XCO,Xhv,XCV,XCW,XDX,trivial⟩)
 exact okA ⟨Try.f9,rfl,by decide,rfl⟩
end Go.Vm.Code
namespace Go.Vm.Code
open Go Go.Vm
theorem few50 (l:List Xaz):XaS l=some (decide (l.length≤30)&&(l.take 30).all fun e=>decide (e.Text.length≤20)):=by
 unfold XaS XjZ
 refine XxN l (fun e=>e.Text.length) 30 20 (by decide) _ fun i=>?_
 show XgV l (i:Int)=_
 unfold XgV
 split
 ·rename_i h
  rw [Xcl (by omega)]
  split
  ·rename_i h2
   rw [Xcl (by omega),XaX (by omega),Int.toNat_natCast,List.getElem?_eq_getElem h,Option.bind_some]
   split
   ·rename_i h3;rw [Xcl (by omega)]
   ·rename_i h3;rw [Xbd (by omega),Xfn (by omega) (by omega)];rfl
  ·rename_i h2;rw [Xbd (by omega)];congr 3;exact propext (by omega)
 ·rename_i h;rw [Xbd (by omega)];congr 3;exact propext (by omega)
theorem Xwv {l:List Xaz} (h:(decide (l.length≤30)&&(l.take 30).all fun e=>decide (e.Text.length≤20))=true):l.length≤30∧∀ e∈l,e.Text.length≤20:=by
 rw [Bool.and_eq_true,decide_eq_true_eq,List.all_eq_true] at h
 refine ⟨h.1,fun e he=>?_⟩
 rw [List.take_of_length_le h.1] at h
 exact of_decide_eq_true (h.2 e he)
theorem XiC:Xal=some true:=by decide +kernel
end Go.Vm.Code
