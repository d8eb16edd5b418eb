import Derived.Test.YtjgbmnhijmkejaaNSketchBoundsd
namespace Go.Vm.Code
open Go Go.Vm Go.Proofs
set_option maxRecDepth 100000
set_option maxHeartbeats 4000000
set_option linter.unusedVariables false
def XbC (Xac:Xaj) (Xad:Xai) (l:List Xan) (s:Int) (s1:Int) (s2:Int) (c:Nat) (c1:List Int) (xj1:Int) (n2:Int) (i:Int):Option (Sum (Int×Int) (Sum Int Bool)):=
 cond (decide (i<(l.length:Int)))
  (
  XaL (decide ((0:Int)≤i∧i<(l.length:Int))) <|
  (l[i.toNat]?).bind fun (e1:Xan)=>
  XaL (decide ((0:Int)≤xj1∧xj1<(l.length:Int))) <|
  (l[xj1.toNat]?).bind fun (e2:Xan)=>
  cond (e1.Text==e2.Text)
   (
   XaL (decide ((0:Int)≤i∧i<(l.length:Int))) <|
   cond (decide (e1.N≥0))
    (
    XaL (decide ((0:Int)≤i∧i<(l.length:Int))) <|
    cond (decide (e1.N≤1048576))
     (
     XaL (decide ((0:Int)≤i∧i<(l.length:Int))) <|
     some (.inl (wI .i64 (n2+e1.N),wI .i64 (i+1))))
     (
     some (.inl (n2,wI .i64 (i+1)))))
    (
    some (.inl (n2,wI .i64 (i+1)))))
   (
   some (.inl (n2,wI .i64 (i+1)))))
  (
  XaL (decide ((0:Int)≤xj1∧xj1<(l.length:Int))) <|
  (l[xj1.toNat]?).bind fun (e3:Xan)=>
  (Xac.v1 (XaA.mk (Xap.mk s s1) (XcR.mk c1 c) s2) e3.Text).bind fun x11=>
  cond (decide (x11<n2))
   (
   some (.inr (.inr (false))))
   (
   XaL (decide ((0:Int)≤xj1∧xj1<(l.length:Int))) <|
   (Xac.v1 (XaA.mk (Xap.mk s s1) (XcR.mk c1 c) s2) e3.Text).bind fun x12=>
   (Xad.v1 (XaA.mk (Xap.mk s s1) (XcR.mk c1 c) s2)).bind fun x13=>
   cond (decide (x12>x13))
    (
    some (.inr (.inr (false))))
    (
    some (.inr (.inl (wI .i64 (xj1+1)))))))
def Xcn (Xah:XaC) (Xac:Xaj) (Xad:Xai) (l:List Xan) (s:Int) (s1:Int) (s2:Int) (c:Nat) (c1:List Int) (xj1:Int):Option (Sum Int Bool):=
 cond (decide (xj1<(l.length:Int)))
  (
  iter (fun st=>XbC Xac Xad l s s1 s2 c c1 xj1 st.1 st.2) FUEL (0,0))
  (
  (Xah).bind fun a1=>
  some (.inr (a1)))
def Xbz (Xah:XaC) (Xac:Xaj) (Xaf:Xam) (Xad:Xai) (l:List Xan) (xj:Int) (s:Int) (s1:Int) (s2:Int) (c:Nat) (c1:List Int):Option (Sum (Int×Int×Int×Int×Nat×(List Int)) Bool):=
 cond (decide (xj<(l.length:Int)))
  (
  XaL (decide ((0:Int)≤xj∧xj<(l.length:Int))) <|
  (l[xj.toNat]?).bind fun (e:Xan)=>
  XaL (decide ((0:Int)≤xj∧xj<(l.length:Int))) <|
  (Xaf.v1 (XaA.mk (Xap.mk s s1) (XcR.mk c1 c) s2) e.Text e.N).bind fun x1=>
  some (.inl (wI .i64 (xj+1),x1.2.key.A,x1.2.key.B,x1.2.total,x1.2.rows.m0,x1.2.rows.e0)))
  (
  (iter (fun st=>Xcn Xah Xac Xad l s s1 s2 c c1 st) FUEL 0).bind fun o=>some (.inr (o)))
def XbB (Xac:Xaj) (Xad:Xai) (l:List Xan) (s3:Int) (s4:Int) (s5:Int) (c2:Nat) (c3:Nat) (c4:List Int) (c5:List Int) (xj3:Int) (n4:Int) (i1:Int):Option (Sum (Int×Int) (Sum Int Bool)):=
 cond (decide (i1<(l.length:Int)))
  (
  XaL (decide ((0:Int)≤i1∧i1<(l.length:Int))) <|
  (l[i1.toNat]?).bind fun (e5:Xan)=>
  XaL (decide ((0:Int)≤xj3∧xj3<(l.length:Int))) <|
  (l[xj3.toNat]?).bind fun (e6:Xan)=>
  cond (e5.Text==e6.Text)
   (
   XaL (decide ((0:Int)≤i1∧i1<(l.length:Int))) <|
   cond (decide (e5.N≥0))
    (
    XaL (decide ((0:Int)≤i1∧i1<(l.length:Int))) <|
    cond (decide (e5.N≤1048576))
     (
     XaL (decide ((0:Int)≤i1∧i1<(l.length:Int))) <|
     some (.inl (wI .i64 (n4+e5.N),wI .i64 (i1+1))))
     (
     some (.inl (n4,wI .i64 (i1+1)))))
    (
    some (.inl (n4,wI .i64 (i1+1)))))
   (
   some (.inl (n4,wI .i64 (i1+1)))))
  (
  XaL (decide ((0:Int)≤xj3∧xj3<(l.length:Int))) <|
  (l[xj3.toNat]?).bind fun (e7:Xan)=>
  (Xac.v2 (Xaz.mk (Xap.mk s3 s4) (XcI.mk c4 c5 c2 c3) s5) e7.Text).bind fun x21=>
  cond (decide (x21<n4))
   (
   some (.inr (.inr (false))))
   (
   XaL (decide ((0:Int)≤xj3∧xj3<(l.length:Int))) <|
   (Xac.v2 (Xaz.mk (Xap.mk s3 s4) (XcI.mk c4 c5 c2 c3) s5) e7.Text).bind fun x22=>
   (Xad.v2 (Xaz.mk (Xap.mk s3 s4) (XcI.mk c4 c5 c2 c3) s5)).bind fun x23=>
   cond (decide (x22>x23))
    (
    some (.inr (.inr (false))))
    (
    some (.inr (.inl (wI .i64 (xj3+1)))))))
def Xco (Xah:XaC) (Xac:Xaj) (Xad:Xai) (l:List Xan) (s3:Int) (s4:Int) (s5:Int) (c2:Nat) (c3:Nat) (c4:List Int) (c5:List Int) (xj3:Int):Option (Sum Int Bool):=
 cond (decide (xj3<(l.length:Int)))
  (
  iter (fun st=>XbB Xac Xad l s3 s4 s5 c2 c3 c4 c5 xj3 st.1 st.2) FUEL (0,0))
  (
  (Xah).bind fun a2=>
  some (.inr (a2)))
def Xby (Xah:XaC) (Xac:Xaj) (Xaf:Xam) (Xad:Xai) (l:List Xan) (xj2:Int) (s3:Int) (s4:Int) (s5:Int) (c2:Nat) (c3:Nat) (c4:List Int) (c5:List Int):Option (Sum (Int×Int×Int×Int×Nat×Nat×(List Int)×(List Int)) Bool):=
 cond (decide (xj2<(l.length:Int)))
  (
  XaL (decide ((0:Int)≤xj2∧xj2<(l.length:Int))) <|
  (l[xj2.toNat]?).bind fun (e4:Xan)=>
  XaL (decide ((0:Int)≤xj2∧xj2<(l.length:Int))) <|
  (Xaf.v2 (Xaz.mk (Xap.mk s3 s4) (XcI.mk c4 c5 c2 c3) s5) e4.Text e4.N).bind fun x2=>
  some (.inl (wI .i64 (xj2+1),x2.2.key.A,x2.2.key.B,x2.2.total,x2.2.rows.m0,x2.2.rows.m1,x2.2.rows.e0,x2.2.rows.e1)))
  (
  (iter (fun st=>Xco Xah Xac Xad l s3 s4 s5 c2 c3 c4 c5 st) FUEL 0).bind fun o=>some (.inr (o)))
def XbD (Xac:Xaj) (Xad:Xai) (l:List Xan) (s6:Int) (s7:Int) (s8:Int) (c6:Nat) (c7:Nat) (c8:Nat) (c9:List Int) (c10:List Int) (c11:List Int) (xj5:Int) (n6:Int) (i2:Int):Option (Sum (Int×Int) (Sum Int Bool)):=
 cond (decide (i2<(l.length:Int)))
  (
  XaL (decide ((0:Int)≤i2∧i2<(l.length:Int))) <|
  (l[i2.toNat]?).bind fun (e9:Xan)=>
  XaL (decide ((0:Int)≤xj5∧xj5<(l.length:Int))) <|
  (l[xj5.toNat]?).bind fun (e10:Xan)=>
  cond (e9.Text==e10.Text)
   (
   XaL (decide ((0:Int)≤i2∧i2<(l.length:Int))) <|
   cond (decide (e9.N≥0))
    (
    XaL (decide ((0:Int)≤i2∧i2<(l.length:Int))) <|
    cond (decide (e9.N≤1048576))
     (
     XaL (decide ((0:Int)≤i2∧i2<(l.length:Int))) <|
     some (.inl (wI .i64 (n6+e9.N),wI .i64 (i2+1))))
     (
     some (.inl (n6,wI .i64 (i2+1)))))
    (
    some (.inl (n6,wI .i64 (i2+1)))))
   (
   some (.inl (n6,wI .i64 (i2+1)))))
  (
  XaL (decide ((0:Int)≤xj5∧xj5<(l.length:Int))) <|
  (l[xj5.toNat]?).bind fun (e11:Xan)=>
  (Xac.v3 (Xay.mk (Xap.mk s6 s7) (Xcu.mk c9 c10 c11 c6 c7 c8) s8) e11.Text).bind fun x31=>
  cond (decide (x31<n6))
   (
   some (.inr (.inr (false))))
   (
   XaL (decide ((0:Int)≤xj5∧xj5<(l.length:Int))) <|
   (Xac.v3 (Xay.mk (Xap.mk s6 s7) (Xcu.mk c9 c10 c11 c6 c7 c8) s8) e11.Text).bind fun x32=>
   (Xad.v3 (Xay.mk (Xap.mk s6 s7) (Xcu.mk c9 c10 c11 c6 c7 c8) s8)).bind fun x33=>
   cond (decide (x32>x33))
    (
    some (.inr (.inr (false))))
    (
    some (.inr (.inl (wI .i64 (xj5+1)))))))
def Xcq (Xah:XaC) (Xac:Xaj) (Xad:Xai) (l:List Xan) (s6:Int) (s7:Int) (s8:Int) (c6:Nat) (c7:Nat) (c8:Nat) (c9:List Int) (c10:List Int) (c11:List Int) (xj5:Int):Option (Sum Int Bool):=
 cond (decide (xj5<(l.length:Int)))
  (
  iter (fun st=>XbD Xac Xad l s6 s7 s8 c6 c7 c8 c9 c10 c11 xj5 st.1 st.2) FUEL (0,0))
  (
  (Xah).bind fun a3=>
  some (.inr (a3)))
def XbA (Xah:XaC) (Xac:Xaj) (Xaf:Xam) (Xad:Xai) (l:List Xan) (xj4:Int) (s6:Int) (s7:Int) (s8:Int) (c6:Nat) (c7:Nat) (c8:Nat) (c9:List Int) (c10:List Int) (c11:List Int):Option (Sum (Int×Int×Int×Int×Nat×Nat×Nat×(List Int)×(List Int)×(List Int)) Bool):=
 cond (decide (xj4<(l.length:Int)))
  (
  XaL (decide ((0:Int)≤xj4∧xj4<(l.length:Int))) <|
  (l[xj4.toNat]?).bind fun (e8:Xan)=>
  XaL (decide ((0:Int)≤xj4∧xj4<(l.length:Int))) <|
  (Xaf.v3 (Xay.mk (Xap.mk s6 s7) (Xcu.mk c9 c10 c11 c6 c7 c8) s8) e8.Text e8.N).bind fun x3=>
  some (.inl (wI .i64 (xj4+1),x3.2.key.A,x3.2.key.B,x3.2.total,x3.2.rows.m0,x3.2.rows.m1,x3.2.rows.m2,x3.2.rows.e0,x3.2.rows.e1,x3.2.rows.e2)))
  (
  (iter (fun st=>Xcq Xah Xac Xad l s6 s7 s8 c6 c7 c8 c9 c10 c11 st) FUEL 0).bind fun o=>some (.inr (o)))
def Xbo (Xac:Xaj) (Xad:Xai) (l:List Xan) (s9:Int) (s10:Int) (s11:Int) (c12:Nat) (c13:Nat) (c14:Nat) (c15:Nat) (c16:List Int) (c17:List Int) (c18:List Int) (c19:List Int) (xj7:Int) (n8:Int) (i3:Int):Option (Sum (Int×Int) (Sum Int Bool)):=
 cond (decide (i3<(l.length:Int)))
  (
  XaL (decide ((0:Int)≤i3∧i3<(l.length:Int))) <|
  (l[i3.toNat]?).bind fun (e13:Xan)=>
  XaL (decide ((0:Int)≤xj7∧xj7<(l.length:Int))) <|
  (l[xj7.toNat]?).bind fun (e14:Xan)=>
  cond (e13.Text==e14.Text)
   (
   XaL (decide ((0:Int)≤i3∧i3<(l.length:Int))) <|
   cond (decide (e13.N≥0))
    (
    XaL (decide ((0:Int)≤i3∧i3<(l.length:Int))) <|
    cond (decide (e13.N≤1048576))
     (
     XaL (decide ((0:Int)≤i3∧i3<(l.length:Int))) <|
     some (.inl (wI .i64 (n8+e13.N),wI .i64 (i3+1))))
     (
     some (.inl (n8,wI .i64 (i3+1)))))
    (
    some (.inl (n8,wI .i64 (i3+1)))))
   (
   some (.inl (n8,wI .i64 (i3+1)))))
  (
  XaL (decide ((0:Int)≤xj7∧xj7<(l.length:Int))) <|
  (l[xj7.toNat]?).bind fun (e15:Xan)=>
  (Xac.v4 (Xaw.mk (Xap.mk s9 s10) (Xca.mk c16 c17 c18 c19 c12 c13 c14 c15) s11) e15.Text).bind fun x41=>
  cond (decide (x41<n8))
   (
   some (.inr (.inr (false))))
   (
   XaL (decide ((0:Int)≤xj7∧xj7<(l.length:Int))) <|
   (Xac.v4 (Xaw.mk (Xap.mk s9 s10) (Xca.mk c16 c17 c18 c19 c12 c13 c14 c15) s11) e15.Text).bind fun x42=>
   (Xad.v4 (Xaw.mk (Xap.mk s9 s10) (Xca.mk c16 c17 c18 c19 c12 c13 c14 c15) s11)).bind fun x43=>
   cond (decide (x42>x43))
    (
    some (.inr (.inr (false))))
    (
    some (.inr (.inl (wI .i64 (xj7+1)))))))
def Xb8 (Xah:XaC) (Xac:Xaj) (Xad:Xai) (l:List Xan) (s9:Int) (s10:Int) (s11:Int) (c12:Nat) (c13:Nat) (c14:Nat) (c15:Nat) (c16:List Int) (c17:List Int) (c18:List Int) (c19:List Int) (xj7:Int):Option (Sum Int Bool):=
 cond (decide (xj7<(l.length:Int)))
  (
  iter (fun st=>Xbo Xac Xad l s9 s10 s11 c12 c13 c14 c15 c16 c17 c18 c19 xj7 st.1 st.2) FUEL (0,0))
  (
  (Xah).bind fun a4=>
  some (.inr (a4)))
def Xbs (Xah:XaC) (Xac:Xaj) (Xaf:Xam) (Xad:Xai) (l:List Xan) (xj6:Int) (s9:Int) (s10:Int) (s11:Int) (c12:Nat) (c13:Nat) (c14:Nat) (c15:Nat) (c16:List Int) (c17:List Int) (c18:List Int) (c19:List Int):Option (Sum (Int×Int×Int×Int×Nat×Nat×Nat×Nat×(List Int)×(List Int)×(List Int)×(List Int)) Bool):=
 cond (decide (xj6<(l.length:Int)))
  (
  XaL (decide ((0:Int)≤xj6∧xj6<(l.length:Int))) <|
  (l[xj6.toNat]?).bind fun (e12:Xan)=>
  XaL (decide ((0:Int)≤xj6∧xj6<(l.length:Int))) <|
  (Xaf.v4 (Xaw.mk (Xap.mk s9 s10) (Xca.mk c16 c17 c18 c19 c12 c13 c14 c15) s11) e12.Text e12.N).bind fun x4=>
  some (.inl (wI .i64 (xj6+1),x4.2.key.A,x4.2.key.B,x4.2.total,x4.2.rows.m0,x4.2.rows.m1,x4.2.rows.m2,x4.2.rows.m3,x4.2.rows.e0,x4.2.rows.e1,x4.2.rows.e2,x4.2.rows.e3)))
  (
  (iter (fun st=>Xb8 Xah Xac Xad l s9 s10 s11 c12 c13 c14 c15 c16 c17 c18 c19 st) FUEL 0).bind fun o=>some (.inr (o)))
def Xbq (Xac:Xaj) (Xad:Xai) (l:List Xan) (s12:Int) (s13:Int) (s14:Int) (c20:Nat) (c21:Nat) (c22:Nat) (c23:Nat) (c24:Nat) (c25:List Int) (c26:List Int) (c27:List Int) (c28:List Int) (c29:List Int) (xj9:Int) (n10:Int) (i4:Int):Option (Sum (Int×Int) (Sum Int Bool)):=
 cond (decide (i4<(l.length:Int)))
  (
  XaL (decide ((0:Int)≤i4∧i4<(l.length:Int))) <|
  (l[i4.toNat]?).bind fun (e17:Xan)=>
  XaL (decide ((0:Int)≤xj9∧xj9<(l.length:Int))) <|
  (l[xj9.toNat]?).bind fun (e18:Xan)=>
  cond (e17.Text==e18.Text)
   (
   XaL (decide ((0:Int)≤i4∧i4<(l.length:Int))) <|
   cond (decide (e17.N≥0))
    (
    XaL (decide ((0:Int)≤i4∧i4<(l.length:Int))) <|
    cond (decide (e17.N≤1048576))
     (
     XaL (decide ((0:Int)≤i4∧i4<(l.length:Int))) <|
     some (.inl (wI .i64 (n10+e17.N),wI .i64 (i4+1))))
     (
     some (.inl (n10,wI .i64 (i4+1)))))
    (
    some (.inl (n10,wI .i64 (i4+1)))))
   (
   some (.inl (n10,wI .i64 (i4+1)))))
  (
  XaL (decide ((0:Int)≤xj9∧xj9<(l.length:Int))) <|
  (l[xj9.toNat]?).bind fun (e19:Xan)=>
  (Xac.v5 (Xav.mk (Xap.mk s12 s13) (XbU.mk c25 c26 c27 c28 c29 c20 c21 c22 c23 c24) s14) e19.Text).bind fun x51=>
  cond (decide (x51<n10))
   (
   some (.inr (.inr (false))))
   (
   XaL (decide ((0:Int)≤xj9∧xj9<(l.length:Int))) <|
   (Xac.v5 (Xav.mk (Xap.mk s12 s13) (XbU.mk c25 c26 c27 c28 c29 c20 c21 c22 c23 c24) s14) e19.Text).bind fun x52=>
   (Xad.v5 (Xav.mk (Xap.mk s12 s13) (XbU.mk c25 c26 c27 c28 c29 c20 c21 c22 c23 c24) s14)).bind fun x53=>
   cond (decide (x52>x53))
    (
    some (.inr (.inr (false))))
    (
    some (.inr (.inl (wI .i64 (xj9+1)))))))
def Xb7 (Xah:XaC) (Xac:Xaj) (Xad:Xai) (l:List Xan) (s12:Int) (s13:Int) (s14:Int) (c20:Nat) (c21:Nat) (c22:Nat) (c23:Nat) (c24:Nat) (c25:List Int) (c26:List Int) (c27:List Int) (c28:List Int) (c29:List Int) (xj9:Int):Option (Sum Int Bool):=
 cond (decide (xj9<(l.length:Int)))
  (
  iter (fun st=>Xbq Xac Xad l s12 s13 s14 c20 c21 c22 c23 c24 c25 c26 c27 c28 c29 xj9 st.1 st.2) FUEL (0,0))
  (
  (Xah).bind fun a5=>
  some (.inr (a5)))
def Xbp (Xah:XaC) (Xac:Xaj) (Xaf:Xam) (Xad:Xai) (l:List Xan) (xj8:Int) (s12:Int) (s13:Int) (s14:Int) (c20:Nat) (c21:Nat) (c22:Nat) (c23:Nat) (c24:Nat) (c25:List Int) (c26:List Int) (c27:List Int) (c28:List Int) (c29:List Int):Option (Sum (Int×Int×Int×Int×Nat×Nat×Nat×Nat×Nat×(List Int)×(List Int)×(List Int)×(List Int)×(List Int)) Bool):=
 cond (decide (xj8<(l.length:Int)))
  (
  XaL (decide ((0:Int)≤xj8∧xj8<(l.length:Int))) <|
  (l[xj8.toNat]?).bind fun (e16:Xan)=>
  XaL (decide ((0:Int)≤xj8∧xj8<(l.length:Int))) <|
  (Xaf.v5 (Xav.mk (Xap.mk s12 s13) (XbU.mk c25 c26 c27 c28 c29 c20 c21 c22 c23 c24) s14) e16.Text e16.N).bind fun x5=>
  some (.inl (wI .i64 (xj8+1),x5.2.key.A,x5.2.key.B,x5.2.total,x5.2.rows.m0,x5.2.rows.m1,x5.2.rows.m2,x5.2.rows.m3,x5.2.rows.m4,x5.2.rows.e0,x5.2.rows.e1,x5.2.rows.e2,x5.2.rows.e3,x5.2.rows.e4)))
  (
  (iter (fun st=>Xb7 Xah Xac Xad l s12 s13 s14 c20 c21 c22 c23 c24 c25 c26 c27 c28 c29 st) FUEL 0).bind fun o=>some (.inr (o)))
def Xbl (Xac:Xaj) (Xad:Xai) (l:List Xan) (s15:Int) (s16:Int) (s17:Int) (c30:Nat) (c31:Nat) (c32:Nat) (c33:Nat) (c34:Nat) (c35:Nat) (c36:List Int) (c37:List Int) (c38:List Int) (c39:List Int) (c40:List Int) (c41:List Int) (xj11:Int) (n12:Int) (i5:Int):Option (Sum (Int×Int) (Sum Int Bool)):=
 cond (decide (i5<(l.length:Int)))
  (
  XaL (decide ((0:Int)≤i5∧i5<(l.length:Int))) <|
  (l[i5.toNat]?).bind fun (e21:Xan)=>
  XaL (decide ((0:Int)≤xj11∧xj11<(l.length:Int))) <|
  (l[xj11.toNat]?).bind fun (e22:Xan)=>
  cond (e21.Text==e22.Text)
   (
   XaL (decide ((0:Int)≤i5∧i5<(l.length:Int))) <|
   cond (decide (e21.N≥0))
    (
    XaL (decide ((0:Int)≤i5∧i5<(l.length:Int))) <|
    cond (decide (e21.N≤1048576))
     (
     XaL (decide ((0:Int)≤i5∧i5<(l.length:Int))) <|
     some (.inl (wI .i64 (n12+e21.N),wI .i64 (i5+1))))
     (
     some (.inl (n12,wI .i64 (i5+1)))))
    (
    some (.inl (n12,wI .i64 (i5+1)))))
   (
   some (.inl (n12,wI .i64 (i5+1)))))
  (
  XaL (decide ((0:Int)≤xj11∧xj11<(l.length:Int))) <|
  (l[xj11.toNat]?).bind fun (e23:Xan)=>
  (Xac.v6 (Xau.mk (Xap.mk s15 s16) (XbN.mk c36 c37 c38 c39 c40 c41 c30 c31 c32 c33 c34 c35) s17) e23.Text).bind fun x61=>
  cond (decide (x61<n12))
   (
   some (.inr (.inr (false))))
   (
   XaL (decide ((0:Int)≤xj11∧xj11<(l.length:Int))) <|
   (Xac.v6 (Xau.mk (Xap.mk s15 s16) (XbN.mk c36 c37 c38 c39 c40 c41 c30 c31 c32 c33 c34 c35) s17) e23.Text).bind fun x62=>
   (Xad.v6 (Xau.mk (Xap.mk s15 s16) (XbN.mk c36 c37 c38 c39 c40 c41 c30 c31 c32 c33 c34 c35) s17)).bind fun x63=>
   cond (decide (x62>x63))
    (
    some (.inr (.inr (false))))
    (
    some (.inr (.inl (wI .i64 (xj11+1)))))))
def Xb6 (Xah:XaC) (Xac:Xaj) (Xad:Xai) (l:List Xan) (s15:Int) (s16:Int) (s17:Int) (c30:Nat) (c31:Nat) (c32:Nat) (c33:Nat) (c34:Nat) (c35:Nat) (c36:List Int) (c37:List Int) (c38:List Int) (c39:List Int) (c40:List Int) (c41:List Int) (xj11:Int):Option (Sum Int Bool):=
 cond (decide (xj11<(l.length:Int)))
  (
  iter (fun st=>Xbl Xac Xad l s15 s16 s17 c30 c31 c32 c33 c34 c35 c36 c37 c38 c39 c40 c41 xj11 st.1 st.2) FUEL (0,0))
  (
  (Xah).bind fun a6=>
  some (.inr (a6)))
def Xbm (Xah:XaC) (Xac:Xaj) (Xaf:Xam) (Xad:Xai) (l:List Xan) (xj10:Int) (s15:Int) (s16:Int) (s17:Int) (c30:Nat) (c31:Nat) (c32:Nat) (c33:Nat) (c34:Nat) (c35:Nat) (c36:List Int) (c37:List Int) (c38:List Int) (c39:List Int) (c40:List Int) (c41:List Int):Option (Sum (Int×Int×Int×Int×Nat×Nat×Nat×Nat×Nat×Nat×(List Int)×(List Int)×(List Int)×(List Int)×(List Int)×(List Int)) Bool):=
 cond (decide (xj10<(l.length:Int)))
  (
  XaL (decide ((0:Int)≤xj10∧xj10<(l.length:Int))) <|
  (l[xj10.toNat]?).bind fun (e20:Xan)=>
  XaL (decide ((0:Int)≤xj10∧xj10<(l.length:Int))) <|
  (Xaf.v6 (Xau.mk (Xap.mk s15 s16) (XbN.mk c36 c37 c38 c39 c40 c41 c30 c31 c32 c33 c34 c35) s17) e20.Text e20.N).bind fun x6=>
  some (.inl (wI .i64 (xj10+1),x6.2.key.A,x6.2.key.B,x6.2.total,x6.2.rows.m0,x6.2.rows.m1,x6.2.rows.m2,x6.2.rows.m3,x6.2.rows.m4,x6.2.rows.m5,x6.2.rows.e0,x6.2.rows.e1,x6.2.rows.e2,x6.2.rows.e3,x6.2.rows.e4,x6.2.rows.e5)))
  (
  (iter (fun st=>Xb6 Xah Xac Xad l s15 s16 s17 c30 c31 c32 c33 c34 c35 c36 c37 c38 c39 c40 c41 st) FUEL 0).bind fun o=>some (.inr (o)))
def Xbr (Xac:Xaj) (Xad:Xai) (l:List Xan) (s18:Int) (s19:Int) (s20:Int) (c42:Nat) (c43:Nat) (c44:Nat) (c45:Nat) (c46:Nat) (c47:Nat) (c48:Nat) (c49:List Int) (c50:List Int) (c51:List Int) (c52:List Int) (c53:List Int) (c54:List Int) (c55:List Int) (xj13:Int) (n14:Int) (i6:Int):Option (Sum (Int×Int) (Sum Int Bool)):=
 cond (decide (i6<(l.length:Int)))
  (
  XaL (decide ((0:Int)≤i6∧i6<(l.length:Int))) <|
  (l[i6.toNat]?).bind fun (e25:Xan)=>
  XaL (decide ((0:Int)≤xj13∧xj13<(l.length:Int))) <|
  (l[xj13.toNat]?).bind fun (e26:Xan)=>
  cond (e25.Text==e26.Text)
   (
   XaL (decide ((0:Int)≤i6∧i6<(l.length:Int))) <|
   cond (decide (e25.N≥0))
    (
    XaL (decide ((0:Int)≤i6∧i6<(l.length:Int))) <|
    cond (decide (e25.N≤1048576))
     (
     XaL (decide ((0:Int)≤i6∧i6<(l.length:Int))) <|
     some (.inl (wI .i64 (n14+e25.N),wI .i64 (i6+1))))
     (
     some (.inl (n14,wI .i64 (i6+1)))))
    (
    some (.inl (n14,wI .i64 (i6+1)))))
   (
   some (.inl (n14,wI .i64 (i6+1)))))
  (
  XaL (decide ((0:Int)≤xj13∧xj13<(l.length:Int))) <|
  (l[xj13.toNat]?).bind fun (e27:Xan)=>
  (Xac.v7 (Xat.mk (Xap.mk s18 s19) (Xbv.mk c49 c50 c51 c52 c53 c54 c55 c42 c43 c44 c45 c46 c47 c48) s20) e27.Text).bind fun x71=>
  cond (decide (x71<n14))
   (
   some (.inr (.inr (false))))
   (
   XaL (decide ((0:Int)≤xj13∧xj13<(l.length:Int))) <|
   (Xac.v7 (Xat.mk (Xap.mk s18 s19) (Xbv.mk c49 c50 c51 c52 c53 c54 c55 c42 c43 c44 c45 c46 c47 c48) s20) e27.Text).bind fun x72=>
   (Xad.v7 (Xat.mk (Xap.mk s18 s19) (Xbv.mk c49 c50 c51 c52 c53 c54 c55 c42 c43 c44 c45 c46 c47 c48) s20)).bind fun x73=>
   cond (decide (x72>x73))
    (
    some (.inr (.inr (false))))
    (
    some (.inr (.inl (wI .i64 (xj13+1)))))))
def Xb5 (Xah:XaC) (Xac:Xaj) (Xad:Xai) (l:List Xan) (s18:Int) (s19:Int) (s20:Int) (c42:Nat) (c43:Nat) (c44:Nat) (c45:Nat) (c46:Nat) (c47:Nat) (c48:Nat) (c49:List Int) (c50:List Int) (c51:List Int) (c52:List Int) (c53:List Int) (c54:List Int) (c55:List Int) (xj13:Int):Option (Sum Int Bool):=
 cond (decide (xj13<(l.length:Int)))
  (
  iter (fun st=>Xbr Xac Xad l s18 s19 s20 c42 c43 c44 c45 c46 c47 c48 c49 c50 c51 c52 c53 c54 c55 xj13 st.1 st.2) FUEL (0,0))
  (
  (Xah).bind fun a7=>
  some (.inr (a7)))
def Xbt (Xah:XaC) (Xac:Xaj) (Xaf:Xam) (Xad:Xai) (l:List Xan) (xj12:Int) (s18:Int) (s19:Int) (s20:Int) (c42:Nat) (c43:Nat) (c44:Nat) (c45:Nat) (c46:Nat) (c47:Nat) (c48:Nat) (c49:List Int) (c50:List Int) (c51:List Int) (c52:List Int) (c53:List Int) (c54:List Int) (c55:List Int):Option (Sum (Int×Int×Int×Int×Nat×Nat×Nat×Nat×Nat×Nat×Nat×(List Int)×(List Int)×(List Int)×(List Int)×(List Int)×(List Int)×(List Int)) Bool):=
 cond (decide (xj12<(l.length:Int)))
  (
  XaL (decide ((0:Int)≤xj12∧xj12<(l.length:Int))) <|
  (l[xj12.toNat]?).bind fun (e24:Xan)=>
  XaL (decide ((0:Int)≤xj12∧xj12<(l.length:Int))) <|
  (Xaf.v7 (Xat.mk (Xap.mk s18 s19) (Xbv.mk c49 c50 c51 c52 c53 c54 c55 c42 c43 c44 c45 c46 c47 c48) s20) e24.Text e24.N).bind fun x7=>
  some (.inl (wI .i64 (xj12+1),x7.2.key.A,x7.2.key.B,x7.2.total,x7.2.rows.m0,x7.2.rows.m1,x7.2.rows.m2,x7.2.rows.m3,x7.2.rows.m4,x7.2.rows.m5,x7.2.rows.m6,x7.2.rows.e0,x7.2.rows.e1,x7.2.rows.e2,x7.2.rows.e3,x7.2.rows.e4,x7.2.rows.e5,x7.2.rows.e6)))
  (
  (iter (fun st=>Xb5 Xah Xac Xad l s18 s19 s20 c42 c43 c44 c45 c46 c47 c48 c49 c50 c51 c52 c53 c54 c55 st) FUEL 0).bind fun o=>some (.inr (o)))
def Xbk (Xac:Xaj) (Xad:Xai) (l:List Xan) (s21:Int) (s22:Int) (s23:Int) (c56:Nat) (c57:Nat) (c58:Nat) (c59:Nat) (c60:Nat) (c61:Nat) (c62:Nat) (c63:Nat) (c64:List Int) (c65:List Int) (c66:List Int) (c67:List Int) (c68:List Int) (c69:List Int) (c70:List Int) (c71:List Int) (xj15:Int) (n16:Int) (i7:Int):Option (Sum (Int×Int) (Sum Int Bool)):=
 cond (decide (i7<(l.length:Int)))
  (
  XaL (decide ((0:Int)≤i7∧i7<(l.length:Int))) <|
  (l[i7.toNat]?).bind fun (e29:Xan)=>
  XaL (decide ((0:Int)≤xj15∧xj15<(l.length:Int))) <|
  (l[xj15.toNat]?).bind fun (e30:Xan)=>
  cond (e29.Text==e30.Text)
   (
   XaL (decide ((0:Int)≤i7∧i7<(l.length:Int))) <|
   cond (decide (e29.N≥0))
    (
    XaL (decide ((0:Int)≤i7∧i7<(l.length:Int))) <|
    cond (decide (e29.N≤1048576))
     (
     XaL (decide ((0:Int)≤i7∧i7<(l.length:Int))) <|
     some (.inl (wI .i64 (n16+e29.N),wI .i64 (i7+1))))
     (
     some (.inl (n16,wI .i64 (i7+1)))))
    (
    some (.inl (n16,wI .i64 (i7+1)))))
   (
   some (.inl (n16,wI .i64 (i7+1)))))
  (
  XaL (decide ((0:Int)≤xj15∧xj15<(l.length:Int))) <|
  (l[xj15.toNat]?).bind fun (e31:Xan)=>
  (Xac.v8 (Xas.mk (Xap.mk s21 s22) (Xbj.mk c64 c65 c66 c67 c68 c69 c70 c71 c56 c57 c58 c59 c60 c61 c62 c63) s23) e31.Text).bind fun x81=>
  cond (decide (x81<n16))
   (
   some (.inr (.inr (false))))
   (
   XaL (decide ((0:Int)≤xj15∧xj15<(l.length:Int))) <|
   (Xac.v8 (Xas.mk (Xap.mk s21 s22) (Xbj.mk c64 c65 c66 c67 c68 c69 c70 c71 c56 c57 c58 c59 c60 c61 c62 c63) s23) e31.Text).bind fun x82=>
   (Xad.v8 (Xas.mk (Xap.mk s21 s22) (Xbj.mk c64 c65 c66 c67 c68 c69 c70 c71 c56 c57 c58 c59 c60 c61 c62 c63) s23)).bind fun x83=>
   cond (decide (x82>x83))
    (
    some (.inr (.inr (false))))
    (
    some (.inr (.inl (wI .i64 (xj15+1)))))))
def Xb4 (Xah:XaC) (Xac:Xaj) (Xad:Xai) (l:List Xan) (s21:Int) (s22:Int) (s23:Int) (c56:Nat) (c57:Nat) (c58:Nat) (c59:Nat) (c60:Nat) (c61:Nat) (c62:Nat) (c63:Nat) (c64:List Int) (c65:List Int) (c66:List Int) (c67:List Int) (c68:List Int) (c69:List Int) (c70:List Int) (c71:List Int) (xj15:Int):Option (Sum Int Bool):=
 cond (decide (xj15<(l.length:Int)))
  (
  iter (fun st=>Xbk Xac Xad l s21 s22 s23 c56 c57 c58 c59 c60 c61 c62 c63 c64 c65 c66 c67 c68 c69 c70 c71 xj15 st.1 st.2) FUEL (0,0))
  (
  (Xah).bind fun a8=>
  some (.inr (a8)))
def Xbn (Xah:XaC) (Xac:Xaj) (Xaf:Xam) (Xad:Xai) (l:List Xan) (xj14:Int) (s21:Int) (s22:Int) (s23:Int) (c56:Nat) (c57:Nat) (c58:Nat) (c59:Nat) (c60:Nat) (c61:Nat) (c62:Nat) (c63:Nat) (c64:List Int) (c65:List Int) (c66:List Int) (c67:List Int) (c68:List Int) (c69:List Int) (c70:List Int) (c71:List Int):Option (Sum (Int×Int×Int×Int×Nat×Nat×Nat×Nat×Nat×Nat×Nat×Nat×(List Int)×(List Int)×(List Int)×(List Int)×(List Int)×(List Int)×(List Int)×(List Int)) Bool):=
 cond (decide (xj14<(l.length:Int)))
  (
  XaL (decide ((0:Int)≤xj14∧xj14<(l.length:Int))) <|
  (l[xj14.toNat]?).bind fun (e28:Xan)=>
  XaL (decide ((0:Int)≤xj14∧xj14<(l.length:Int))) <|
  (Xaf.v8 (Xas.mk (Xap.mk s21 s22) (Xbj.mk c64 c65 c66 c67 c68 c69 c70 c71 c56 c57 c58 c59 c60 c61 c62 c63) s23) e28.Text e28.N).bind fun x8=>
  some (.inl (wI .i64 (xj14+1),x8.2.key.A,x8.2.key.B,x8.2.total,x8.2.rows.m0,x8.2.rows.m1,x8.2.rows.m2,x8.2.rows.m3,x8.2.rows.m4,x8.2.rows.m5,x8.2.rows.m6,x8.2.rows.m7,x8.2.rows.e0,x8.2.rows.e1,x8.2.rows.e2,x8.2.rows.e3,x8.2.rows.e4,x8.2.rows.e5,x8.2.rows.e6,x8.2.rows.e7)))
  (
  (iter (fun st=>Xb4 Xah Xac Xad l s21 s22 s23 c56 c57 c58 c59 c60 c61 c62 c63 c64 c65 c66 c67 c68 c69 c70 c71 st) FUEL 0).bind fun o=>some (.inr (o)))
def Xeq (Xah:XaC) (XaD:XaS) (Xaq:XaK) (Xac:Xaj) (Xaf:Xam) (Xad:Xai) (rows:Int) (places:Int) (k:Xap) (l:List Xan):Option Bool:=
 (XaD l).bind fun f=>
 cond (!f)
  (
  (Xah).bind fun a=>
  some (a))
  (
  (Xaq (wI .i64 (1+((wI .i64 rows).tmod 8))) (wI .i64 (1+((wI .i64 places).tmod 64))) k).bind fun n=>
  match n with
  | .nil=>
    some (false)
  | .v1 n1=>
    iter (fun st=>Xbz Xah Xac Xaf Xad l st.1 st.2.1 st.2.2.1 st.2.2.2.1 st.2.2.2.2.1 st.2.2.2.2.2) FUEL (0,n1.key.A,n1.key.B,n1.total,n1.rows.m0,n1.rows.e0)
  | .v2 n3=>
    iter (fun st=>Xby Xah Xac Xaf Xad l st.1 st.2.1 st.2.2.1 st.2.2.2.1 st.2.2.2.2.1 st.2.2.2.2.2.1 st.2.2.2.2.2.2.1 st.2.2.2.2.2.2.2) FUEL (0,n3.key.A,n3.key.B,n3.total,n3.rows.m0,n3.rows.m1,n3.rows.e0,n3.rows.e1)
  | .v3 n5=>
    iter (fun st=>XbA Xah Xac Xaf Xad l st.1 st.2.1 st.2.2.1 st.2.2.2.1 st.2.2.2.2.1 st.2.2.2.2.2.1 st.2.2.2.2.2.2.1 st.2.2.2.2.2.2.2.1 st.2.2.2.2.2.2.2.2.1 st.2.2.2.2.2.2.2.2.2) FUEL (0,n5.key.A,n5.key.B,n5.total,n5.rows.m0,n5.rows.m1,n5.rows.m2,n5.rows.e0,n5.rows.e1,n5.rows.e2)
  | .v4 n7=>
    iter (fun st=>Xbs Xah Xac Xaf Xad l st.1 st.2.1 st.2.2.1 st.2.2.2.1 st.2.2.2.2.1 st.2.2.2.2.2.1 st.2.2.2.2.2.2.1 st.2.2.2.2.2.2.2.1 st.2.2.2.2.2.2.2.2.1 st.2.2.2.2.2.2.2.2.2.1 st.2.2.2.2.2.2.2.2.2.2.1 st.2.2.2.2.2.2.2.2.2.2.2) FUEL (0,n7.key.A,n7.key.B,n7.total,n7.rows.m0,n7.rows.m1,n7.rows.m2,n7.rows.m3,n7.rows.e0,n7.rows.e1,n7.rows.e2,n7.rows.e3)
  | .v5 n9=>
    iter (fun st=>Xbp Xah Xac Xaf Xad l st.1 st.2.1 st.2.2.1 st.2.2.2.1 st.2.2.2.2.1 st.2.2.2.2.2.1 st.2.2.2.2.2.2.1 st.2.2.2.2.2.2.2.1 st.2.2.2.2.2.2.2.2.1 st.2.2.2.2.2.2.2.2.2.1 st.2.2.2.2.2.2.2.2.2.2.1 st.2.2.2.2.2.2.2.2.2.2.2.1 st.2.2.2.2.2.2.2.2.2.2.2.2.1 st.2.2.2.2.2.2.2.2.2.2.2.2.2) FUEL (0,n9.key.A,n9.key.B,n9.total,n9.rows.m0,n9.rows.m1,n9.rows.m2,n9.rows.m3,n9.rows.m4,n9.rows.e0,n9.rows.e1,n9.rows.e2,n9.rows.e3,n9.rows.e4)
  | .v6 n11=>
    iter (fun st=>Xbm Xah Xac Xaf Xad l st.1 st.2.1 st.2.2.1 st.2.2.2.1 st.2.2.2.2.1 st.2.2.2.2.2.1 st.2.2.2.2.2.2.1 st.2.2.2.2.2.2.2.1 st.2.2.2.2.2.2.2.2.1 st.2.2.2.2.2.2.2.2.2.1 st.2.2.2.2.2.2.2.2.2.2.1 st.2.2.2.2.2.2.2.2.2.2.2.1 st.2.2.2.2.2.2.2.2.2.2.2.2.1 st.2.2.2.2.2.2.2.2.2.2.2.2.2.1 st.2.2.2.2.2.2.2.2.2.2.2.2.2.2.1 st.2.2.2.2.2.2.2.2.2.2.2.2.2.2.2) FUEL (0,n11.key.A,n11.key.B,n11.total,n11.rows.m0,n11.rows.m1,n11.rows.m2,n11.rows.m3,n11.rows.m4,n11.rows.m5,n11.rows.e0,n11.rows.e1,n11.rows.e2,n11.rows.e3,n11.rows.e4,n11.rows.e5)
  | .v7 n13=>
    iter (fun st=>Xbt Xah Xac Xaf Xad l st.1 st.2.1 st.2.2.1 st.2.2.2.1 st.2.2.2.2.1 st.2.2.2.2.2.1 st.2.2.2.2.2.2.1 st.2.2.2.2.2.2.2.1 st.2.2.2.2.2.2.2.2.1 st.2.2.2.2.2.2.2.2.2.1 st.2.2.2.2.2.2.2.2.2.2.1 st.2.2.2.2.2.2.2.2.2.2.2.1 st.2.2.2.2.2.2.2.2.2.2.2.2.1 st.2.2.2.2.2.2.2.2.2.2.2.2.2.1 st.2.2.2.2.2.2.2.2.2.2.2.2.2.2.1 st.2.2.2.2.2.2.2.2.2.2.2.2.2.2.2.1 st.2.2.2.2.2.2.2.2.2.2.2.2.2.2.2.2.1 st.2.2.2.2.2.2.2.2.2.2.2.2.2.2.2.2.2) FUEL (0,n13.key.A,n13.key.B,n13.total,n13.rows.m0,n13.rows.m1,n13.rows.m2,n13.rows.m3,n13.rows.m4,n13.rows.m5,n13.rows.m6,n13.rows.e0,n13.rows.e1,n13.rows.e2,n13.rows.e3,n13.rows.e4,n13.rows.e5,n13.rows.e6)
  | .v8 n15=>
    iter (fun st=>Xbn Xah Xac Xaf Xad l st.1 st.2.1 st.2.2.1 st.2.2.2.1 st.2.2.2.2.1 st.2.2.2.2.2.1 st.2.2.2.2.2.2.1 st.2.2.2.2.2.2.2.1 st.2.2.2.2.2.2.2.2.1 st.2.2.2.2.2.2.2.2.2.1 st.2.2.2.2.2.2.2.2.2.2.1 st.2.2.2.2.2.2.2.2.2.2.2.1 st.2.2.2.2.2.2.2.2.2.2.2.2.1 st.2.2.2.2.2.2.2.2.2.2.2.2.2.1 st.2.2.2.2.2.2.2.2.2.2.2.2.2.2.1 st.2.2.2.2.2.2.2.2.2.2.2.2.2.2.2.1 st.2.2.2.2.2.2.2.2.2.2.2.2.2.2.2.2.1 st.2.2.2.2.2.2.2.2.2.2.2.2.2.2.2.2.2.1 st.2.2.2.2.2.2.2.2.2.2.2.2.2.2.2.2.2.2.1 st.2.2.2.2.2.2.2.2.2.2.2.2.2.2.2.2.2.2.2) FUEL (0,n15.key.A,n15.key.B,n15.total,n15.rows.m0,n15.rows.m1,n15.rows.m2,n15.rows.m3,n15.rows.m4,n15.rows.m5,n15.rows.m6,n15.rows.m7,n15.rows.e0,n15.rows.e1,n15.rows.e2,n15.rows.e3,n15.rows.e4,n15.rows.e5,n15.rows.e6,n15.rows.e7))
def rx4 (x:Bool):XcJ:=⟨.bool x,[],[none]⟩
abbrev Xfr:=Int→Int→Xap→(List Xan)→Option Bool
def r4 (g:Xfr):Dec:=dV (asI .u8) fun (y0:Int)=>dV (asI .u8) fun (y1:Int)=>dV XgP fun (y2:Xap)=>dSl 0 2 (unR 2 Xhd) fun (y3:List Xan)=>Xev (ofG (g y0 y1 y2 y3) rx4)
def s4 (g:Xfr):XcE:=⟨[.v,.v,.v,.sl 2],r4 g⟩
abbrev XgA (Xah:XaC) (XaD:XaS) (Xaq:XaK) (Xac:Xaj) (Xaf:Xam) (Xad:Xai):List (Nat×XcE):=[(9,s9 Xah),(8,s8 XaD),(10,s10 Xaq),(16,s16 Xac),(12,s12 Xaf),(18,s18 Xad)]
def XAe (l:List Xan) (s:Int) (s1:Int) (s2:Int) (c:Nat) (c1:List Int) (xj1:Int) (n2:Int) (i:Int):VM:=
 ⟨⟨4,116,[(3,.slice (some ⟨0,0,none⟩) l.length 2),(9,.pointer (some ⟨2,0,none⟩)),(11,.int .i64 xj1),(12,.int .i64 n2),(13,.int .i64 i)],[.code XhX,.inLoop XhX,.inBlock 4,.code XmV,.inBlock 3,.code Xmr,.inLoop XgB,.inBlock 2,.code Xig],[],false,none⟩,[],[(0,.row false (vT Xbb l)),(2,.row true [.int .u64 s,.int .u64 s1,.slice (some ⟨3,0,none⟩) 1 1,.int .i64 s2]),(3,.row true [.slice (some ⟨4,0,none⟩) c 1]),(4,.row true (vI .i64 c1))],5⟩
def XuO (l:List Xan) (s:Int) (s1:Int) (s2:Int) (c:Nat) (c1:List Int) (xj1:Int):VM:=
 ⟨⟨4,116,[(3,.slice (some ⟨0,0,none⟩) l.length 2),(9,.pointer (some ⟨2,0,none⟩)),(11,.int .i64 xj1)],[.code XgB,.inLoop XgB,.inBlock 2,.code Xig],[],false,none⟩,[],[(0,.row false (vT Xbb l)),(2,.row true [.int .u64 s,.int .u64 s1,.slice (some ⟨3,0,none⟩) 1 1,.int .i64 s2]),(3,.row true [.slice (some ⟨4,0,none⟩) c 1]),(4,.row true (vI .i64 c1))],5⟩
def Xsk (l:List Xan) (xj:Int) (s:Int) (s1:Int) (s2:Int) (c:Nat) (c1:List Int):VM:=
 ⟨⟨4,116,[(3,.slice (some ⟨0,0,none⟩) l.length 2),(9,.pointer (some ⟨2,0,none⟩)),(10,.int .i64 xj)],[.code XhH,.inLoop XhH,.inBlock 0,.code XmL],[],false,none⟩,[],[(0,.row false (vT Xbb l)),(2,.row true [.int .u64 s,.int .u64 s1,.slice (some ⟨3,0,none⟩) 1 1,.int .i64 s2]),(3,.row true [.slice (some ⟨4,0,none⟩) c 1]),(4,.row true (vI .i64 c1))],5⟩
def XzG (l:List Xan) (s3:Int) (s4:Int) (s5:Int) (c2:Nat) (c3:Nat) (c4:List Int) (c5:List Int) (xj3:Int) (n4:Int) (i1:Int):VM:=
 ⟨⟨4,116,[(3,.slice (some ⟨0,0,none⟩) l.length 2),(9,.pointer (some ⟨2,0,none⟩)),(11,.int .i64 xj3),(12,.int .i64 n4),(13,.int .i64 i1)],[.code XhX,.inLoop XhX,.inBlock 4,.code XmV,.inBlock 3,.code Xmr,.inLoop XgB,.inBlock 2,.code Xig],[],false,none⟩,[],[(0,.row false (vT Xbb l)),(2,.row true [.int .u64 s3,.int .u64 s4,.slice (some ⟨3,0,none⟩) 2 1,.int .i64 s5]),(3,.row true [.slice (some ⟨4,0,none⟩) c2 1,.slice (some ⟨5,0,none⟩) c3 1]),(4,.row true (vI .i64 c4)),(5,.row true (vI .i64 c5))],6⟩
def XuD (l:List Xan) (s3:Int) (s4:Int) (s5:Int) (c2:Nat) (c3:Nat) (c4:List Int) (c5:List Int) (xj3:Int):VM:=
 ⟨⟨4,116,[(3,.slice (some ⟨0,0,none⟩) l.length 2),(9,.pointer (some ⟨2,0,none⟩)),(11,.int .i64 xj3)],[.code XgB,.inLoop XgB,.inBlock 2,.code Xig],[],false,none⟩,[],[(0,.row false (vT Xbb l)),(2,.row true [.int .u64 s3,.int .u64 s4,.slice (some ⟨3,0,none⟩) 2 1,.int .i64 s5]),(3,.row true [.slice (some ⟨4,0,none⟩) c2 1,.slice (some ⟨5,0,none⟩) c3 1]),(4,.row true (vI .i64 c4)),(5,.row true (vI .i64 c5))],6⟩
def Xug (l:List Xan) (xj2:Int) (s3:Int) (s4:Int) (s5:Int) (c2:Nat) (c3:Nat) (c4:List Int) (c5:List Int):VM:=
 ⟨⟨4,116,[(3,.slice (some ⟨0,0,none⟩) l.length 2),(9,.pointer (some ⟨2,0,none⟩)),(10,.int .i64 xj2)],[.code XhH,.inLoop XhH,.inBlock 0,.code XmL],[],false,none⟩,[],[(0,.row false (vT Xbb l)),(2,.row true [.int .u64 s3,.int .u64 s4,.slice (some ⟨3,0,none⟩) 2 1,.int .i64 s5]),(3,.row true [.slice (some ⟨4,0,none⟩) c2 1,.slice (some ⟨5,0,none⟩) c3 1]),(4,.row true (vI .i64 c4)),(5,.row true (vI .i64 c5))],6⟩
def Xze (l:List Xan) (s6:Int) (s7:Int) (s8:Int) (c6:Nat) (c7:Nat) (c8:Nat) (c9:List Int) (c10:List Int) (c11:List Int) (xj5:Int) (n6:Int) (i2:Int):VM:=
 ⟨⟨4,116,[(3,.slice (some ⟨0,0,none⟩) l.length 2),(9,.pointer (some ⟨2,0,none⟩)),(11,.int .i64 xj5),(12,.int .i64 n6),(13,.int .i64 i2)],[.code XhX,.inLoop XhX,.inBlock 4,.code XmV,.inBlock 3,.code Xmr,.inLoop XgB,.inBlock 2,.code Xig],[],false,none⟩,[],[(0,.row false (vT Xbb l)),(2,.row true [.int .u64 s6,.int .u64 s7,.slice (some ⟨3,0,none⟩) 3 1,.int .i64 s8]),(3,.row true [.slice (some ⟨4,0,none⟩) c6 1,.slice (some ⟨5,0,none⟩) c7 1,.slice (some ⟨6,0,none⟩) c8 1]),(4,.row true (vI .i64 c9)),(5,.row true (vI .i64 c10)),(6,.row true (vI .i64 c11))],7⟩
def Xrs (l:List Xan) (s6:Int) (s7:Int) (s8:Int) (c6:Nat) (c7:Nat) (c8:Nat) (c9:List Int) (c10:List Int) (c11:List Int) (xj5:Int):VM:=
 ⟨⟨4,116,[(3,.slice (some ⟨0,0,none⟩) l.length 2),(9,.pointer (some ⟨2,0,none⟩)),(11,.int .i64 xj5)],[.code XgB,.inLoop XgB,.inBlock 2,.code Xig],[],false,none⟩,[],[(0,.row false (vT Xbb l)),(2,.row true [.int .u64 s6,.int .u64 s7,.slice (some ⟨3,0,none⟩) 3 1,.int .i64 s8]),(3,.row true [.slice (some ⟨4,0,none⟩) c6 1,.slice (some ⟨5,0,none⟩) c7 1,.slice (some ⟨6,0,none⟩) c8 1]),(4,.row true (vI .i64 c9)),(5,.row true (vI .i64 c10)),(6,.row true (vI .i64 c11))],7⟩
def Xs0 (l:List Xan) (xj4:Int) (s6:Int) (s7:Int) (s8:Int) (c6:Nat) (c7:Nat) (c8:Nat) (c9:List Int) (c10:List Int) (c11:List Int):VM:=
 ⟨⟨4,116,[(3,.slice (some ⟨0,0,none⟩) l.length 2),(9,.pointer (some ⟨2,0,none⟩)),(10,.int .i64 xj4)],[.code XhH,.inLoop XhH,.inBlock 0,.code XmL],[],false,none⟩,[],[(0,.row false (vT Xbb l)),(2,.row true [.int .u64 s6,.int .u64 s7,.slice (some ⟨3,0,none⟩) 3 1,.int .i64 s8]),(3,.row true [.slice (some ⟨4,0,none⟩) c6 1,.slice (some ⟨5,0,none⟩) c7 1,.slice (some ⟨6,0,none⟩) c8 1]),(4,.row true (vI .i64 c9)),(5,.row true (vI .i64 c10)),(6,.row true (vI .i64 c11))],7⟩
def Xvm (l:List Xan) (s9:Int) (s10:Int) (s11:Int) (c12:Nat) (c13:Nat) (c14:Nat) (c15:Nat) (c16:List Int) (c17:List Int) (c18:List Int) (c19:List Int) (xj7:Int) (n8:Int) (i3:Int):VM:=
 ⟨⟨4,116,[(3,.slice (some ⟨0,0,none⟩) l.length 2),(9,.pointer (some ⟨2,0,none⟩)),(11,.int .i64 xj7),(12,.int .i64 n8),(13,.int .i64 i3)],[.code XhX,.inLoop XhX,.inBlock 4,.code XmV,.inBlock 3,.code Xmr,.inLoop XgB,.inBlock 2,.code Xig],[],false,none⟩,[],[(0,.row false (vT Xbb l)),(2,.row true [.int .u64 s9,.int .u64 s10,.slice (some ⟨3,0,none⟩) 4 1,.int .i64 s11]),(3,.row true [.slice (some ⟨4,0,none⟩) c12 1,.slice (some ⟨5,0,none⟩) c13 1,.slice (some ⟨6,0,none⟩) c14 1,.slice (some ⟨7,0,none⟩) c15 1]),(4,.row true (vI .i64 c16)),(5,.row true (vI .i64 c17)),(6,.row true (vI .i64 c18)),(7,.row true (vI .i64 c19))],8⟩
def Xp7 (l:List Xan) (s9:Int) (s10:Int) (s11:Int) (c12:Nat) (c13:Nat) (c14:Nat) (c15:Nat) (c16:List Int) (c17:List Int) (c18:List Int) (c19:List Int) (xj7:Int):VM:=
 ⟨⟨4,116,[(3,.slice (some ⟨0,0,none⟩) l.length 2),(9,.pointer (some ⟨2,0,none⟩)),(11,.int .i64 xj7)],[.code XgB,.inLoop XgB,.inBlock 2,.code Xig],[],false,none⟩,[],[(0,.row false (vT Xbb l)),(2,.row true [.int .u64 s9,.int .u64 s10,.slice (some ⟨3,0,none⟩) 4 1,.int .i64 s11]),(3,.row true [.slice (some ⟨4,0,none⟩) c12 1,.slice (some ⟨5,0,none⟩) c13 1,.slice (some ⟨6,0,none⟩) c14 1,.slice (some ⟨7,0,none⟩) c15 1]),(4,.row true (vI .i64 c16)),(5,.row true (vI .i64 c17)),(6,.row true (vI .i64 c18)),(7,.row true (vI .i64 c19))],8⟩
def Xqf (l:List Xan) (xj6:Int) (s9:Int) (s10:Int) (s11:Int) (c12:Nat) (c13:Nat) (c14:Nat) (c15:Nat) (c16:List Int) (c17:List Int) (c18:List Int) (c19:List Int):VM:=
 ⟨⟨4,116,[(3,.slice (some ⟨0,0,none⟩) l.length 2),(9,.pointer (some ⟨2,0,none⟩)),(10,.int .i64 xj6)],[.code XhH,.inLoop XhH,.inBlock 0,.code XmL],[],false,none⟩,[],[(0,.row false (vT Xbb l)),(2,.row true [.int .u64 s9,.int .u64 s10,.slice (some ⟨3,0,none⟩) 4 1,.int .i64 s11]),(3,.row true [.slice (some ⟨4,0,none⟩) c12 1,.slice (some ⟨5,0,none⟩) c13 1,.slice (some ⟨6,0,none⟩) c14 1,.slice (some ⟨7,0,none⟩) c15 1]),(4,.row true (vI .i64 c16)),(5,.row true (vI .i64 c17)),(6,.row true (vI .i64 c18)),(7,.row true (vI .i64 c19))],8⟩
def Xvi (l:List Xan) (s12:Int) (s13:Int) (s14:Int) (c20:Nat) (c21:Nat) (c22:Nat) (c23:Nat) (c24:Nat) (c25:List Int) (c26:List Int) (c27:List Int) (c28:List Int) (c29:List Int) (xj9:Int) (n10:Int) (i4:Int):VM:=
 ⟨⟨4,116,[(3,.slice (some ⟨0,0,none⟩) l.length 2),(9,.pointer (some ⟨2,0,none⟩)),(11,.int .i64 xj9),(12,.int .i64 n10),(13,.int .i64 i4)],[.code XhX,.inLoop XhX,.inBlock 4,.code XmV,.inBlock 3,.code Xmr,.inLoop XgB,.inBlock 2,.code Xig],[],false,none⟩,[],[(0,.row false (vT Xbb l)),(2,.row true [.int .u64 s12,.int .u64 s13,.slice (some ⟨3,0,none⟩) 5 1,.int .i64 s14]),(3,.row true [.slice (some ⟨4,0,none⟩) c20 1,.slice (some ⟨5,0,none⟩) c21 1,.slice (some ⟨6,0,none⟩) c22 1,.slice (some ⟨7,0,none⟩) c23 1,.slice (some ⟨8,0,none⟩) c24 1]),(4,.row true (vI .i64 c25)),(5,.row true (vI .i64 c26)),(6,.row true (vI .i64 c27)),(7,.row true (vI .i64 c28)),(8,.row true (vI .i64 c29))],9⟩
def Xqh (l:List Xan) (s12:Int) (s13:Int) (s14:Int) (c20:Nat) (c21:Nat) (c22:Nat) (c23:Nat) (c24:Nat) (c25:List Int) (c26:List Int) (c27:List Int) (c28:List Int) (c29:List Int) (xj9:Int):VM:=
 ⟨⟨4,116,[(3,.slice (some ⟨0,0,none⟩) l.length 2),(9,.pointer (some ⟨2,0,none⟩)),(11,.int .i64 xj9)],[.code XgB,.inLoop XgB,.inBlock 2,.code Xig],[],false,none⟩,[],[(0,.row false (vT Xbb l)),(2,.row true [.int .u64 s12,.int .u64 s13,.slice (some ⟨3,0,none⟩) 5 1,.int .i64 s14]),(3,.row true [.slice (some ⟨4,0,none⟩) c20 1,.slice (some ⟨5,0,none⟩) c21 1,.slice (some ⟨6,0,none⟩) c22 1,.slice (some ⟨7,0,none⟩) c23 1,.slice (some ⟨8,0,none⟩) c24 1]),(4,.row true (vI .i64 c25)),(5,.row true (vI .i64 c26)),(6,.row true (vI .i64 c27)),(7,.row true (vI .i64 c28)),(8,.row true (vI .i64 c29))],9⟩
def Xo3 (l:List Xan) (xj8:Int) (s12:Int) (s13:Int) (s14:Int) (c20:Nat) (c21:Nat) (c22:Nat) (c23:Nat) (c24:Nat) (c25:List Int) (c26:List Int) (c27:List Int) (c28:List Int) (c29:List Int):VM:=
 ⟨⟨4,116,[(3,.slice (some ⟨0,0,none⟩) l.length 2),(9,.pointer (some ⟨2,0,none⟩)),(10,.int .i64 xj8)],[.code XhH,.inLoop XhH,.inBlock 0,.code XmL],[],false,none⟩,[],[(0,.row false (vT Xbb l)),(2,.row true [.int .u64 s12,.int .u64 s13,.slice (some ⟨3,0,none⟩) 5 1,.int .i64 s14]),(3,.row true [.slice (some ⟨4,0,none⟩) c20 1,.slice (some ⟨5,0,none⟩) c21 1,.slice (some ⟨6,0,none⟩) c22 1,.slice (some ⟨7,0,none⟩) c23 1,.slice (some ⟨8,0,none⟩) c24 1]),(4,.row true (vI .i64 c25)),(5,.row true (vI .i64 c26)),(6,.row true (vI .i64 c27)),(7,.row true (vI .i64 c28)),(8,.row true (vI .i64 c29))],9⟩
def XvI (l:List Xan) (s15:Int) (s16:Int) (s17:Int) (c30:Nat) (c31:Nat) (c32:Nat) (c33:Nat) (c34:Nat) (c35:Nat) (c36:List Int) (c37:List Int) (c38:List Int) (c39:List Int) (c40:List Int) (c41:List Int) (xj11:Int) (n12:Int) (i5:Int):VM:=
 ⟨⟨4,116,[(3,.slice (some ⟨0,0,none⟩) l.length 2),(9,.pointer (some ⟨2,0,none⟩)),(11,.int .i64 xj11),(12,.int .i64 n12),(13,.int .i64 i5)],[.code XhX,.inLoop XhX,.inBlock 4,.code XmV,.inBlock 3,.code Xmr,.inLoop XgB,.inBlock 2,.code Xig],[],false,none⟩,[],[(0,.row false (vT Xbb l)),(2,.row true [.int .u64 s15,.int .u64 s16,.slice (some ⟨3,0,none⟩) 6 1,.int .i64 s17]),(3,.row true [.slice (some ⟨4,0,none⟩) c30 1,.slice (some ⟨5,0,none⟩) c31 1,.slice (some ⟨6,0,none⟩) c32 1,.slice (some ⟨7,0,none⟩) c33 1,.slice (some ⟨8,0,none⟩) c34 1,.slice (some ⟨9,0,none⟩) c35 1]),(4,.row true (vI .i64 c36)),(5,.row true (vI .i64 c37)),(6,.row true (vI .i64 c38)),(7,.row true (vI .i64 c39)),(8,.row true (vI .i64 c40)),(9,.row true (vI .i64 c41))],10⟩
def Xpg (l:List Xan) (s15:Int) (s16:Int) (s17:Int) (c30:Nat) (c31:Nat) (c32:Nat) (c33:Nat) (c34:Nat) (c35:Nat) (c36:List Int) (c37:List Int) (c38:List Int) (c39:List Int) (c40:List Int) (c41:List Int) (xj11:Int):VM:=
 ⟨⟨4,116,[(3,.slice (some ⟨0,0,none⟩) l.length 2),(9,.pointer (some ⟨2,0,none⟩)),(11,.int .i64 xj11)],[.code XgB,.inLoop XgB,.inBlock 2,.code Xig],[],false,none⟩,[],[(0,.row false (vT Xbb l)),(2,.row true [.int .u64 s15,.int .u64 s16,.slice (some ⟨3,0,none⟩) 6 1,.int .i64 s17]),(3,.row true [.slice (some ⟨4,0,none⟩) c30 1,.slice (some ⟨5,0,none⟩) c31 1,.slice (some ⟨6,0,none⟩) c32 1,.slice (some ⟨7,0,none⟩) c33 1,.slice (some ⟨8,0,none⟩) c34 1,.slice (some ⟨9,0,none⟩) c35 1]),(4,.row true (vI .i64 c36)),(5,.row true (vI .i64 c37)),(6,.row true (vI .i64 c38)),(7,.row true (vI .i64 c39)),(8,.row true (vI .i64 c40)),(9,.row true (vI .i64 c41))],10⟩
def Xpa (l:List Xan) (xj10:Int) (s15:Int) (s16:Int) (s17:Int) (c30:Nat) (c31:Nat) (c32:Nat) (c33:Nat) (c34:Nat) (c35:Nat) (c36:List Int) (c37:List Int) (c38:List Int) (c39:List Int) (c40:List Int) (c41:List Int):VM:=
 ⟨⟨4,116,[(3,.slice (some ⟨0,0,none⟩) l.length 2),(9,.pointer (some ⟨2,0,none⟩)),(10,.int .i64 xj10)],[.code XhH,.inLoop XhH,.inBlock 0,.code XmL],[],false,none⟩,[],[(0,.row false (vT Xbb l)),(2,.row true [.int .u64 s15,.int .u64 s16,.slice (some ⟨3,0,none⟩) 6 1,.int .i64 s17]),(3,.row true [.slice (some ⟨4,0,none⟩) c30 1,.slice (some ⟨5,0,none⟩) c31 1,.slice (some ⟨6,0,none⟩) c32 1,.slice (some ⟨7,0,none⟩) c33 1,.slice (some ⟨8,0,none⟩) c34 1,.slice (some ⟨9,0,none⟩) c35 1]),(4,.row true (vI .i64 c36)),(5,.row true (vI .i64 c37)),(6,.row true (vI .i64 c38)),(7,.row true (vI .i64 c39)),(8,.row true (vI .i64 c40)),(9,.row true (vI .i64 c41))],10⟩
def Xws (l:List Xan) (s18:Int) (s19:Int) (s20:Int) (c42:Nat) (c43:Nat) (c44:Nat) (c45:Nat) (c46:Nat) (c47:Nat) (c48:Nat) (c49:List Int) (c50:List Int) (c51:List Int) (c52:List Int) (c53:List Int) (c54:List Int) (c55:List Int) (xj13:Int) (n14:Int) (i6:Int):VM:=
 ⟨⟨4,116,[(3,.slice (some ⟨0,0,none⟩) l.length 2),(9,.pointer (some ⟨2,0,none⟩)),(11,.int .i64 xj13),(12,.int .i64 n14),(13,.int .i64 i6)],[.code XhX,.inLoop XhX,.inBlock 4,.code XmV,.inBlock 3,.code Xmr,.inLoop XgB,.inBlock 2,.code Xig],[],false,none⟩,[],[(0,.row false (vT Xbb l)),(2,.row true [.int .u64 s18,.int .u64 s19,.slice (some ⟨3,0,none⟩) 7 1,.int .i64 s20]),(3,.row true [.slice (some ⟨4,0,none⟩) c42 1,.slice (some ⟨5,0,none⟩) c43 1,.slice (some ⟨6,0,none⟩) c44 1,.slice (some ⟨7,0,none⟩) c45 1,.slice (some ⟨8,0,none⟩) c46 1,.slice (some ⟨9,0,none⟩) c47 1,.slice (some ⟨10,0,none⟩) c48 1]),(4,.row true (vI .i64 c49)),(5,.row true (vI .i64 c50)),(6,.row true (vI .i64 c51)),(7,.row true (vI .i64 c52)),(8,.row true (vI .i64 c53)),(9,.row true (vI .i64 c54)),(10,.row true (vI .i64 c55))],11⟩
def Xpp (l:List Xan) (s18:Int) (s19:Int) (s20:Int) (c42:Nat) (c43:Nat) (c44:Nat) (c45:Nat) (c46:Nat) (c47:Nat) (c48:Nat) (c49:List Int) (c50:List Int) (c51:List Int) (c52:List Int) (c53:List Int) (c54:List Int) (c55:List Int) (xj13:Int):VM:=
 ⟨⟨4,116,[(3,.slice (some ⟨0,0,none⟩) l.length 2),(9,.pointer (some ⟨2,0,none⟩)),(11,.int .i64 xj13)],[.code XgB,.inLoop XgB,.inBlock 2,.code Xig],[],false,none⟩,[],[(0,.row false (vT Xbb l)),(2,.row true [.int .u64 s18,.int .u64 s19,.slice (some ⟨3,0,none⟩) 7 1,.int .i64 s20]),(3,.row true [.slice (some ⟨4,0,none⟩) c42 1,.slice (some ⟨5,0,none⟩) c43 1,.slice (some ⟨6,0,none⟩) c44 1,.slice (some ⟨7,0,none⟩) c45 1,.slice (some ⟨8,0,none⟩) c46 1,.slice (some ⟨9,0,none⟩) c47 1,.slice (some ⟨10,0,none⟩) c48 1]),(4,.row true (vI .i64 c49)),(5,.row true (vI .i64 c50)),(6,.row true (vI .i64 c51)),(7,.row true (vI .i64 c52)),(8,.row true (vI .i64 c53)),(9,.row true (vI .i64 c54)),(10,.row true (vI .i64 c55))],11⟩
def Xqg (l:List Xan) (xj12:Int) (s18:Int) (s19:Int) (s20:Int) (c42:Nat) (c43:Nat) (c44:Nat) (c45:Nat) (c46:Nat) (c47:Nat) (c48:Nat) (c49:List Int) (c50:List Int) (c51:List Int) (c52:List Int) (c53:List Int) (c54:List Int) (c55:List Int):VM:=
 ⟨⟨4,116,[(3,.slice (some ⟨0,0,none⟩) l.length 2),(9,.pointer (some ⟨2,0,none⟩)),(10,.int .i64 xj12)],[.code XhH,.inLoop XhH,.inBlock 0,.code XmL],[],false,none⟩,[],[(0,.row false (vT Xbb l)),(2,.row true [.int .u64 s18,.int .u64 s19,.slice (some ⟨3,0,none⟩) 7 1,.int .i64 s20]),(3,.row true [.slice (some ⟨4,0,none⟩) c42 1,.slice (some ⟨5,0,none⟩) c43 1,.slice (some ⟨6,0,none⟩) c44 1,.slice (some ⟨7,0,none⟩) c45 1,.slice (some ⟨8,0,none⟩) c46 1,.slice (some ⟨9,0,none⟩) c47 1,.slice (some ⟨10,0,none⟩) c48 1]),(4,.row true (vI .i64 c49)),(5,.row true (vI .i64 c50)),(6,.row true (vI .i64 c51)),(7,.row true (vI .i64 c52)),(8,.row true (vI .i64 c53)),(9,.row true (vI .i64 c54)),(10,.row true (vI .i64 c55))],11⟩
def Xvf (l:List Xan) (s21:Int) (s22:Int) (s23:Int) (c56:Nat) (c57:Nat) (c58:Nat) (c59:Nat) (c60:Nat) (c61:Nat) (c62:Nat) (c63:Nat) (c64:List Int) (c65:List Int) (c66:List Int) (c67:List Int) (c68:List Int) (c69:List Int) (c70:List Int) (c71:List Int) (xj15:Int) (n16:Int) (i7:Int):VM:=
 ⟨⟨4,116,[(3,.slice (some ⟨0,0,none⟩) l.length 2),(9,.pointer (some ⟨2,0,none⟩)),(11,.int .i64 xj15),(12,.int .i64 n16),(13,.int .i64 i7)],[.code XhX,.inLoop XhX,.inBlock 4,.code XmV,.inBlock 3,.code Xmr,.inLoop XgB,.inBlock 2,.code Xig],[],false,none⟩,[],[(0,.row false (vT Xbb l)),(2,.row true [.int .u64 s21,.int .u64 s22,.slice (some ⟨3,0,none⟩) 8 1,.int .i64 s23]),(3,.row true [.slice (some ⟨4,0,none⟩) c56 1,.slice (some ⟨5,0,none⟩) c57 1,.slice (some ⟨6,0,none⟩) c58 1,.slice (some ⟨7,0,none⟩) c59 1,.slice (some ⟨8,0,none⟩) c60 1,.slice (some ⟨9,0,none⟩) c61 1,.slice (some ⟨10,0,none⟩) c62 1,.slice (some ⟨11,0,none⟩) c63 1]),(4,.row true (vI .i64 c64)),(5,.row true (vI .i64 c65)),(6,.row true (vI .i64 c66)),(7,.row true (vI .i64 c67)),(8,.row true (vI .i64 c68)),(9,.row true (vI .i64 c69)),(10,.row true (vI .i64 c70)),(11,.row true (vI .i64 c71))],12⟩
def XoZ (l:List Xan) (s21:Int) (s22:Int) (s23:Int) (c56:Nat) (c57:Nat) (c58:Nat) (c59:Nat) (c60:Nat) (c61:Nat) (c62:Nat) (c63:Nat) (c64:List Int) (c65:List Int) (c66:List Int) (c67:List Int) (c68:List Int) (c69:List Int) (c70:List Int) (c71:List Int) (xj15:Int):VM:=
 ⟨⟨4,116,[(3,.slice (some ⟨0,0,none⟩) l.length 2),(9,.pointer (some ⟨2,0,none⟩)),(11,.int .i64 xj15)],[.code XgB,.inLoop XgB,.inBlock 2,.code Xig],[],false,none⟩,[],[(0,.row false (vT Xbb l)),(2,.row true [.int .u64 s21,.int .u64 s22,.slice (some ⟨3,0,none⟩) 8 1,.int .i64 s23]),(3,.row true [.slice (some ⟨4,0,none⟩) c56 1,.slice (some ⟨5,0,none⟩) c57 1,.slice (some ⟨6,0,none⟩) c58 1,.slice (some ⟨7,0,none⟩) c59 1,.slice (some ⟨8,0,none⟩) c60 1,.slice (some ⟨9,0,none⟩) c61 1,.slice (some ⟨10,0,none⟩) c62 1,.slice (some ⟨11,0,none⟩) c63 1]),(4,.row true (vI .i64 c64)),(5,.row true (vI .i64 c65)),(6,.row true (vI .i64 c66)),(7,.row true (vI .i64 c67)),(8,.row true (vI .i64 c68)),(9,.row true (vI .i64 c69)),(10,.row true (vI .i64 c70)),(11,.row true (vI .i64 c71))],12⟩
def Xql (l:List Xan) (xj14:Int) (s21:Int) (s22:Int) (s23:Int) (c56:Nat) (c57:Nat) (c58:Nat) (c59:Nat) (c60:Nat) (c61:Nat) (c62:Nat) (c63:Nat) (c64:List Int) (c65:List Int) (c66:List Int) (c67:List Int) (c68:List Int) (c69:List Int) (c70:List Int) (c71:List Int):VM:=
 ⟨⟨4,116,[(3,.slice (some ⟨0,0,none⟩) l.length 2),(9,.pointer (some ⟨2,0,none⟩)),(10,.int .i64 xj14)],[.code XhH,.inLoop XhH,.inBlock 0,.code XmL],[],false,none⟩,[],[(0,.row false (vT Xbb l)),(2,.row true [.int .u64 s21,.int .u64 s22,.slice (some ⟨3,0,none⟩) 8 1,.int .i64 s23]),(3,.row true [.slice (some ⟨4,0,none⟩) c56 1,.slice (some ⟨5,0,none⟩) c57 1,.slice (some ⟨6,0,none⟩) c58 1,.slice (some ⟨7,0,none⟩) c59 1,.slice (some ⟨8,0,none⟩) c60 1,.slice (some ⟨9,0,none⟩) c61 1,.slice (some ⟨10,0,none⟩) c62 1,.slice (some ⟨11,0,none⟩) c63 1]),(4,.row true (vI .i64 c64)),(5,.row true (vI .i64 c65)),(6,.row true (vI .i64 c66)),(7,.row true (vI .i64 c67)),(8,.row true (vI .i64 c68)),(9,.row true (vI .i64 c69)),(10,.row true (vI .i64 c70)),(11,.row true (vI .i64 c71))],12⟩
theorem XAn (Xah:XaC) (XaD:XaS) (Xaq:XaK) (Xac:Xaj) (Xaf:Xam) (Xad:Xai) (hS:XaB Try.prog (XaI (XgA Xah XaD Xaq Xac Xaf Xad))) {l:List Xan} {s:Int} {s1:Int} {s2:Int} {c:Nat} {c1:List Int} {xj1:Int} {res:Bool}:∀ {fuel} {st:Int×Int} {o:Sum Int Bool},iter (fun st=>XbC Xac Xad l s s1 s2 c c1 xj1 st.1 st.2) fuel st=some o→(Sum.elim (fun s0=>XaQ Try.prog 4 1 (XuO l s s1 s2 c c1 s0) (fun v H _=>Res 1 (rx4 res) v H)) (fun r0=>r0=res) o) →
 XaQ Try.prog 4 1 (XAe l s s1 s2 c c1 xj1 st.1 st.2) (fun v H _=>Res 1 (rx4 res) v H):=by
 apply Xa6
 intro st o h hc
 obtain ⟨n2,i⟩:=st
 try dsimp -zeta only at h ⊢
 unfold XbC at h
 have R1:=@Xpo Xac
 have R2:=@Xvh Xad
 have LM:=lm [(0,0),(2,2),(3,3),(4,4)]
 refine Xa3 XaN hS true 3000 ?_
 conv=>whnf
 refine br.h2 h (by rfl) ?_ ?_
 ·clear h;intro hb h;conv=>whnf
  replace h:=XaL.elim h;obtain ⟨hb,h⟩:=h
  try (refine req.intro hb ?_;conv=>whnf)
  replace h:=XbV.elim h;obtain ⟨e3,hy,h⟩:=h
  refine rd.T (j:=0) Xao hy (by first|omega|exact Nat.zero_add _|exact congrArg (·+_) (Nat.zero_add _)) (by decide) rfl ?_
  conv=>whnf
  replace h:=XbV.elim h;obtain ⟨x11,hy,h⟩:=h
  refine Xfx.a (Xpo hy) ?_
  conv=>whnf
  refine br.h h (by rfl) ?_ ?_
  ·clear h;intro hb h;conv=>whnf
   exact W
  clear h;intro hb h;conv=>whnf
  replace h:=XaL.elim h;obtain ⟨hb,h⟩:=h
  try (refine req.intro hb ?_;conv=>whnf)
  refine rd.T (i:=xj1.toNat) (x:=e3) (j:=0) Xao (by assumption) (by first|omega|exact Nat.zero_add _|exact congrArg (·+_) (Nat.zero_add _)) (by decide) rfl ?_
  conv=>whnf
  exact W
 clear h;intro hb h;conv=>whnf
 replace h:=XaL.elim h;obtain ⟨hb,h⟩:=h
 try (refine req.intro hb ?_;conv=>whnf)
 replace h:=XbV.elim h;obtain ⟨e1,hy,h⟩:=h
 refine rd.T (j:=0) Xao hy (by first|omega|exact Nat.zero_add _|exact congrArg (·+_) (Nat.zero_add _)) (by decide) rfl ?_
 conv=>whnf
 replace h:=XaL.elim h;obtain ⟨hb,h⟩:=h
 try (refine req.intro hb ?_;conv=>whnf)
 replace h:=XbV.elim h;obtain ⟨e2,hy,h⟩:=h
 refine rd.T (j:=0) Xao hy (by first|omega|exact Nat.zero_add _|exact congrArg (·+_) (Nat.zero_add _)) (by decide) rfl ?_
 conv=>whnf
 refine br.h2 h (by rfl) ?_ ?_
 ·clear h;intro hb h;conv=>whnf
  exact W
 clear h;intro hb h;conv=>whnf
 replace h:=XaL.elim h;obtain ⟨hb,h⟩:=h
 try (refine req.intro hb ?_;conv=>whnf)
 refine rd.T (i:=i.toNat) (x:=e1) (j:=1) Xao (by assumption) (by first|omega|exact Nat.zero_add _|exact congrArg (·+_) (Nat.zero_add _)) (by decide) rfl ?_
 conv=>whnf
 refine br.h2 h (by rfl) ?_ ?_
 ·clear h;intro hb h;conv=>whnf
  exact W
 clear h;intro hb h;conv=>whnf
 replace h:=XaL.elim h;obtain ⟨hb,h⟩:=h
 try (refine req.intro hb ?_;conv=>whnf)
 refine rd.T (i:=i.toNat) (x:=e1) (j:=1) Xao (by assumption) (by first|omega|exact Nat.zero_add _|exact congrArg (·+_) (Nat.zero_add _)) (by decide) rfl ?_
 conv=>whnf
 refine br.h2 h (by rfl) ?_ ?_
 ·clear h;intro hb h;conv=>whnf
  exact W
 clear h;intro hb h;conv=>whnf
 replace h:=XaL.elim h;obtain ⟨hb,h⟩:=h
 try (refine req.intro hb ?_;conv=>whnf)
 refine rd.T (i:=i.toNat) (x:=e1) (j:=1) Xao (by assumption) (by first|omega|exact Nat.zero_add _|exact congrArg (·+_) (Nat.zero_add _)) (by decide) rfl ?_
 conv=>whnf
 exact W
theorem XyY (Xah:XaC) (XaD:XaS) (Xaq:XaK) (Xac:Xaj) (Xaf:Xam) (Xad:Xai) (hS:XaB Try.prog (XaI (XgA Xah XaD Xaq Xac Xaf Xad))) {l:List Xan} {s:Int} {s1:Int} {s2:Int} {c:Nat} {c1:List Int} {res:Bool}:∀ {fuel} {st:Int} {o:Bool},iter (fun st=>Xcn Xah Xac Xad l s s1 s2 c c1 st) fuel st=some o→(o=res) →
 XaQ Try.prog 4 1 (XuO l s s1 s2 c c1 st) (fun v H _=>Res 1 (rx4 res) v H):=by
 apply Xa6
 intro xj1 o h hc
 try dsimp -zeta only at h ⊢
 unfold Xcn at h
 have R1:=@Xm9 Xah
 have LP:=@XAn Xah XaD Xaq Xac Xaf Xad hS;have LQ:=lm [(0,0),(2,2),(3,3),(4,4)]
 refine Xa3 XaN hS true 3000 ?_
 conv=>whnf
 exact W
theorem Xzr (Xah:XaC) (XaD:XaS) (Xaq:XaK) (Xac:Xaj) (Xaf:Xam) (Xad:Xai) (hS:XaB Try.prog (XaI (XgA Xah XaD Xaq Xac Xaf Xad))) {l:List Xan} {res:Bool}:∀ {fuel} {st:Int×Int×Int×Int×Nat×(List Int)} {o:Bool},iter (fun st=>Xbz Xah Xac Xaf Xad l st.1 st.2.1 st.2.2.1 st.2.2.2.1 st.2.2.2.2.1 st.2.2.2.2.2) fuel st=some o→(o=res) →
 XaQ Try.prog 4 1 (Xsk l st.1 st.2.1 st.2.2.1 st.2.2.2.1 st.2.2.2.2.1 st.2.2.2.2.2) (fun v H _=>Res 1 (rx4 res) v H):=by
 apply Xa6
 intro st o h hc
 obtain ⟨xj,s,s1,s2,c,c1⟩:=st
 try dsimp -zeta only at h ⊢
 unfold Xbz at h
 have R1:=@XvL Xaf
 have LM:=lm [(0,0),(2,2),(3,3),(4,16)]
 have LP:=@XyY Xah XaD Xaq Xac Xaf Xad hS;have LQ:=lm [(0,0),(2,2),(3,3),(4,4)]
 refine Xa3 XaN hS true 3000 ?_
 conv=>whnf
 refine br.h2 h (by rfl) ?_ ?_
 ·clear h;intro hb h;conv=>whnf
  exact W
 clear h;intro hb h;conv=>whnf
 replace h:=XaL.elim h;obtain ⟨hb,h⟩:=h
 try (refine req.intro hb ?_;conv=>whnf)
 replace h:=XbV.elim h;obtain ⟨e,hy,h⟩:=h
 refine rd.T (j:=0) Xao hy (by first|omega|exact Nat.zero_add _|exact congrArg (·+_) (Nat.zero_add _)) (by decide) rfl ?_
 conv=>whnf
 replace h:=XaL.elim h;obtain ⟨hb,h⟩:=h
 try (refine req.intro hb ?_;conv=>whnf)
 refine rd.T (i:=xj.toNat) (x:=e) (j:=1) Xao (by assumption) (by first|omega|exact Nat.zero_add _|exact congrArg (·+_) (Nat.zero_add _)) (by decide) rfl ?_
 conv=>whnf
 exact W
theorem Xyn (Xah:XaC) (XaD:XaS) (Xaq:XaK) (Xac:Xaj) (Xaf:Xam) (Xad:Xai) (hS:XaB Try.prog (XaI (XgA Xah XaD Xaq Xac Xaf Xad))) {l:List Xan} {s3:Int} {s4:Int} {s5:Int} {c2:Nat} {c3:Nat} {c4:List Int} {c5:List Int} {xj3:Int} {res:Bool}:∀ {fuel} {st:Int×Int} {o:Sum Int Bool},iter (fun st=>XbB Xac Xad l s3 s4 s5 c2 c3 c4 c5 xj3 st.1 st.2) fuel st=some o→(Sum.elim (fun s0=>XaQ Try.prog 4 1 (XuD l s3 s4 s5 c2 c3 c4 c5 s0) (fun v H _=>Res 1 (rx4 res) v H)) (fun r0=>r0=res) o) →
 XaQ Try.prog 4 1 (XzG l s3 s4 s5 c2 c3 c4 c5 xj3 st.1 st.2) (fun v H _=>Res 1 (rx4 res) v H):=by
 apply Xa6
 intro st o h hc
 obtain ⟨n4,i1⟩:=st
 try dsimp -zeta only at h ⊢
 unfold XbB at h
 have R1:=@XkW Xac
 have R2:=@XmK Xad
 have LM:=lm [(0,0),(2,2),(3,3),(4,4),(5,5)]
 refine Xa3 XaN hS true 3000 ?_
 conv=>whnf
 refine br.h2 h (by rfl) ?_ ?_
 ·clear h;intro hb h;conv=>whnf
  replace h:=XaL.elim h;obtain ⟨hb,h⟩:=h
  try (refine req.intro hb ?_;conv=>whnf)
  replace h:=XbV.elim h;obtain ⟨e7,hy,h⟩:=h
  refine rd.T (j:=0) Xao hy (by first|omega|exact Nat.zero_add _|exact congrArg (·+_) (Nat.zero_add _)) (by decide) rfl ?_
  conv=>whnf
  replace h:=XbV.elim h;obtain ⟨x21,hy,h⟩:=h
  refine Xfx.a (XkW hy) ?_
  conv=>whnf
  refine br.h h (by rfl) ?_ ?_
  ·clear h;intro hb h;conv=>whnf
   exact W
  clear h;intro hb h;conv=>whnf
  replace h:=XaL.elim h;obtain ⟨hb,h⟩:=h
  try (refine req.intro hb ?_;conv=>whnf)
  refine rd.T (i:=xj3.toNat) (x:=e7) (j:=0) Xao (by assumption) (by first|omega|exact Nat.zero_add _|exact congrArg (·+_) (Nat.zero_add _)) (by decide) rfl ?_
  conv=>whnf
  exact W
 clear h;intro hb h;conv=>whnf
 replace h:=XaL.elim h;obtain ⟨hb,h⟩:=h
 try (refine req.intro hb ?_;conv=>whnf)
 replace h:=XbV.elim h;obtain ⟨e5,hy,h⟩:=h
 refine rd.T (j:=0) Xao hy (by first|omega|exact Nat.zero_add _|exact congrArg (·+_) (Nat.zero_add _)) (by decide) rfl ?_
 conv=>whnf
 replace h:=XaL.elim h;obtain ⟨hb,h⟩:=h
 try (refine req.intro hb ?_;conv=>whnf)
 replace h:=XbV.elim h;obtain ⟨e6,hy,h⟩:=h
 refine rd.T (j:=0) Xao hy (by first|omega|exact Nat.zero_add _|exact congrArg (·+_) (Nat.zero_add _)) (by decide) rfl ?_
 conv=>whnf
 refine br.h2 h (by rfl) ?_ ?_
 ·clear h;intro hb h;conv=>whnf
  exact W
 clear h;intro hb h;conv=>whnf
 replace h:=XaL.elim h;obtain ⟨hb,h⟩:=h
 try (refine req.intro hb ?_;conv=>whnf)
 refine rd.T (i:=i1.toNat) (x:=e5) (j:=1) Xao (by assumption) (by first|omega|exact Nat.zero_add _|exact congrArg (·+_) (Nat.zero_add _)) (by decide) rfl ?_
 conv=>whnf
 refine br.h2 h (by rfl) ?_ ?_
 ·clear h;intro hb h;conv=>whnf
  exact W
 clear h;intro hb h;conv=>whnf
 replace h:=XaL.elim h;obtain ⟨hb,h⟩:=h
 try (refine req.intro hb ?_;conv=>whnf)
 refine rd.T (i:=i1.toNat) (x:=e5) (j:=1) Xao (by assumption) (by first|omega|exact Nat.zero_add _|exact congrArg (·+_) (Nat.zero_add _)) (by decide) rfl ?_
 conv=>whnf
 refine br.h2 h (by rfl) ?_ ?_
 ·clear h;intro hb h;conv=>whnf
  exact W
 clear h;intro hb h;conv=>whnf
 replace h:=XaL.elim h;obtain ⟨hb,h⟩:=h
 try (refine req.intro hb ?_;conv=>whnf)
 refine rd.T (i:=i1.toNat) (x:=e5) (j:=1) Xao (by assumption) (by first|omega|exact Nat.zero_add _|exact congrArg (·+_) (Nat.zero_add _)) (by decide) rfl ?_
 conv=>whnf
 exact W
theorem Xzs (Xah:XaC) (XaD:XaS) (Xaq:XaK) (Xac:Xaj) (Xaf:Xam) (Xad:Xai) (hS:XaB Try.prog (XaI (XgA Xah XaD Xaq Xac Xaf Xad))) {l:List Xan} {s3:Int} {s4:Int} {s5:Int} {c2:Nat} {c3:Nat} {c4:List Int} {c5:List Int} {res:Bool}:∀ {fuel} {st:Int} {o:Bool},iter (fun st=>Xco Xah Xac Xad l s3 s4 s5 c2 c3 c4 c5 st) fuel st=some o→(o=res) →
 XaQ Try.prog 4 1 (XuD l s3 s4 s5 c2 c3 c4 c5 st) (fun v H _=>Res 1 (rx4 res) v H):=by
 apply Xa6
 intro xj3 o h hc
 try dsimp -zeta only at h ⊢
 unfold Xco at h
 have R1:=@Xm9 Xah
 have LP:=@Xyn Xah XaD Xaq Xac Xaf Xad hS;have LQ:=lm [(0,0),(2,2),(3,3),(4,4),(5,5)]
 refine Xa3 XaN hS true 3000 ?_
 conv=>whnf
 exact W
theorem XyR (Xah:XaC) (XaD:XaS) (Xaq:XaK) (Xac:Xaj) (Xaf:Xam) (Xad:Xai) (hS:XaB Try.prog (XaI (XgA Xah XaD Xaq Xac Xaf Xad))) {l:List Xan} {res:Bool}:∀ {fuel} {st:Int×Int×Int×Int×Nat×Nat×(List Int)×(List Int)} {o:Bool},iter (fun st=>Xby Xah Xac Xaf Xad l st.1 st.2.1 st.2.2.1 st.2.2.2.1 st.2.2.2.2.1 st.2.2.2.2.2.1 st.2.2.2.2.2.2.1 st.2.2.2.2.2.2.2) fuel st=some o→(o=res) →
 XaQ Try.prog 4 1 (Xug l st.1 st.2.1 st.2.2.1 st.2.2.2.1 st.2.2.2.2.1 st.2.2.2.2.2.1 st.2.2.2.2.2.2.1 st.2.2.2.2.2.2.2) (fun v H _=>Res 1 (rx4 res) v H):=by
 apply Xa6
 intro st o h hc
 obtain ⟨xj2,s3,s4,s5,c2,c3,c4,c5⟩:=st
 try dsimp -zeta only at h ⊢
 unfold Xby at h
 have R1:=@XkN Xaf
 have LM:=lm [(0,0),(2,2),(3,3),(4,17),(5,18)]
 have LP:=@Xzs Xah XaD Xaq Xac Xaf Xad hS;have LQ:=lm [(0,0),(2,2),(3,3),(4,4),(5,5)]
 refine Xa3 XaN hS true 3000 ?_
 conv=>whnf
 refine br.h2 h (by rfl) ?_ ?_
 ·clear h;intro hb h;conv=>whnf
  exact W
 clear h;intro hb h;conv=>whnf
 replace h:=XaL.elim h;obtain ⟨hb,h⟩:=h
 try (refine req.intro hb ?_;conv=>whnf)
 replace h:=XbV.elim h;obtain ⟨e4,hy,h⟩:=h
 refine rd.T (j:=0) Xao hy (by first|omega|exact Nat.zero_add _|exact congrArg (·+_) (Nat.zero_add _)) (by decide) rfl ?_
 conv=>whnf
 replace h:=XaL.elim h;obtain ⟨hb,h⟩:=h
 try (refine req.intro hb ?_;conv=>whnf)
 refine rd.T (i:=xj2.toNat) (x:=e4) (j:=1) Xao (by assumption) (by first|omega|exact Nat.zero_add _|exact congrArg (·+_) (Nat.zero_add _)) (by decide) rfl ?_
 conv=>whnf
 exact W
theorem Xy9 (Xah:XaC) (XaD:XaS) (Xaq:XaK) (Xac:Xaj) (Xaf:Xam) (Xad:Xai) (hS:XaB Try.prog (XaI (XgA Xah XaD Xaq Xac Xaf Xad))) {l:List Xan} {s6:Int} {s7:Int} {s8:Int} {c6:Nat} {c7:Nat} {c8:Nat} {c9:List Int} {c10:List Int} {c11:List Int} {xj5:Int} {res:Bool}:∀ {fuel} {st:Int×Int} {o:Sum Int Bool},iter (fun st=>XbD Xac Xad l s6 s7 s8 c6 c7 c8 c9 c10 c11 xj5 st.1 st.2) fuel st=some o→(Sum.elim (fun s0=>XaQ Try.prog 4 1 (Xrs l s6 s7 s8 c6 c7 c8 c9 c10 c11 s0) (fun v H _=>Res 1 (rx4 res) v H)) (fun r0=>r0=res) o) →
 XaQ Try.prog 4 1 (Xze l s6 s7 s8 c6 c7 c8 c9 c10 c11 xj5 st.1 st.2) (fun v H _=>Res 1 (rx4 res) v H):=by
 apply Xa6
 intro st o h hc
 obtain ⟨n6,i2⟩:=st
 try dsimp -zeta only at h ⊢
 unfold XbD at h
 have R1:=@Xo5 Xac
 have R2:=@Xxh Xad
 have LM:=lm [(0,0),(2,2),(3,3),(4,4),(5,5),(6,6)]
 refine Xa3 XaN hS true 3000 ?_
 conv=>whnf
 refine br.h2 h (by rfl) ?_ ?_
 ·clear h;intro hb h;conv=>whnf
  replace h:=XaL.elim h;obtain ⟨hb,h⟩:=h
  try (refine req.intro hb ?_;conv=>whnf)
  replace h:=XbV.elim h;obtain ⟨e11,hy,h⟩:=h
  refine rd.T (j:=0) Xao hy (by first|omega|exact Nat.zero_add _|exact congrArg (·+_) (Nat.zero_add _)) (by decide) rfl ?_
  conv=>whnf
  replace h:=XbV.elim h;obtain ⟨x31,hy,h⟩:=h
  refine Xfx.a (Xo5 hy) ?_
  conv=>whnf
  refine br.h h (by rfl) ?_ ?_
  ·clear h;intro hb h;conv=>whnf
   exact W
  clear h;intro hb h;conv=>whnf
  replace h:=XaL.elim h;obtain ⟨hb,h⟩:=h
  try (refine req.intro hb ?_;conv=>whnf)
  refine rd.T (i:=xj5.toNat) (x:=e11) (j:=0) Xao (by assumption) (by first|omega|exact Nat.zero_add _|exact congrArg (·+_) (Nat.zero_add _)) (by decide) rfl ?_
  conv=>whnf
  exact W
 clear h;intro hb h;conv=>whnf
 replace h:=XaL.elim h;obtain ⟨hb,h⟩:=h
 try (refine req.intro hb ?_;conv=>whnf)
 replace h:=XbV.elim h;obtain ⟨e9,hy,h⟩:=h
 refine rd.T (j:=0) Xao hy (by first|omega|exact Nat.zero_add _|exact congrArg (·+_) (Nat.zero_add _)) (by decide) rfl ?_
 conv=>whnf
 replace h:=XaL.elim h;obtain ⟨hb,h⟩:=h
 try (refine req.intro hb ?_;conv=>whnf)
 replace h:=XbV.elim h;obtain ⟨e10,hy,h⟩:=h
 refine rd.T (j:=0) Xao hy (by first|omega|exact Nat.zero_add _|exact congrArg (·+_) (Nat.zero_add _)) (by decide) rfl ?_
 conv=>whnf
 refine br.h2 h (by rfl) ?_ ?_
 ·clear h;intro hb h;conv=>whnf
  exact W
 clear h;intro hb h;conv=>whnf
 replace h:=XaL.elim h;obtain ⟨hb,h⟩:=h
 try (refine req.intro hb ?_;conv=>whnf)
 refine rd.T (i:=i2.toNat) (x:=e9) (j:=1) Xao (by assumption) (by first|omega|exact Nat.zero_add _|exact congrArg (·+_) (Nat.zero_add _)) (by decide) rfl ?_
 conv=>whnf
 refine br.h2 h (by rfl) ?_ ?_
 ·clear h;intro hb h;conv=>whnf
  exact W
 clear h;intro hb h;conv=>whnf
 replace h:=XaL.elim h;obtain ⟨hb,h⟩:=h
 try (refine req.intro hb ?_;conv=>whnf)
 refine rd.T (i:=i2.toNat) (x:=e9) (j:=1) Xao (by assumption) (by first|omega|exact Nat.zero_add _|exact congrArg (·+_) (Nat.zero_add _)) (by decide) rfl ?_
 conv=>whnf
 refine br.h2 h (by rfl) ?_ ?_
 ·clear h;intro hb h;conv=>whnf
  exact W
 clear h;intro hb h;conv=>whnf
 replace h:=XaL.elim h;obtain ⟨hb,h⟩:=h
 try (refine req.intro hb ?_;conv=>whnf)
 refine rd.T (i:=i2.toNat) (x:=e9) (j:=1) Xao (by assumption) (by first|omega|exact Nat.zero_add _|exact congrArg (·+_) (Nat.zero_add _)) (by decide) rfl ?_
 conv=>whnf
 exact W
theorem XAg (Xah:XaC) (XaD:XaS) (Xaq:XaK) (Xac:Xaj) (Xaf:Xam) (Xad:Xai) (hS:XaB Try.prog (XaI (XgA Xah XaD Xaq Xac Xaf Xad))) {l:List Xan} {s6:Int} {s7:Int} {s8:Int} {c6:Nat} {c7:Nat} {c8:Nat} {c9:List Int} {c10:List Int} {c11:List Int} {res:Bool}:∀ {fuel} {st:Int} {o:Bool},iter (fun st=>Xcq Xah Xac Xad l s6 s7 s8 c6 c7 c8 c9 c10 c11 st) fuel st=some o→(o=res) →
 XaQ Try.prog 4 1 (Xrs l s6 s7 s8 c6 c7 c8 c9 c10 c11 st) (fun v H _=>Res 1 (rx4 res) v H):=by
 apply Xa6
 intro xj5 o h hc
 try dsimp -zeta only at h ⊢
 unfold Xcq at h
 have R1:=@Xm9 Xah
 have LP:=@Xy9 Xah XaD Xaq Xac Xaf Xad hS;have LQ:=lm [(0,0),(2,2),(3,3),(4,4),(5,5),(6,6)]
 refine Xa3 XaN hS true 3000 ?_
 conv=>whnf
 exact W
theorem XAA (Xah:XaC) (XaD:XaS) (Xaq:XaK) (Xac:Xaj) (Xaf:Xam) (Xad:Xai) (hS:XaB Try.prog (XaI (XgA Xah XaD Xaq Xac Xaf Xad))) {l:List Xan} {res:Bool}:∀ {fuel} {st:Int×Int×Int×Int×Nat×Nat×Nat×(List Int)×(List Int)×(List Int)} {o:Bool},iter (fun st=>XbA Xah Xac Xaf Xad l st.1 st.2.1 st.2.2.1 st.2.2.2.1 st.2.2.2.2.1 st.2.2.2.2.2.1 st.2.2.2.2.2.2.1 st.2.2.2.2.2.2.2.1 st.2.2.2.2.2.2.2.2.1 st.2.2.2.2.2.2.2.2.2) fuel st=some o→(o=res) →
 XaQ Try.prog 4 1 (Xs0 l st.1 st.2.1 st.2.2.1 st.2.2.2.1 st.2.2.2.2.1 st.2.2.2.2.2.1 st.2.2.2.2.2.2.1 st.2.2.2.2.2.2.2.1 st.2.2.2.2.2.2.2.2.1 st.2.2.2.2.2.2.2.2.2) (fun v H _=>Res 1 (rx4 res) v H):=by
 apply Xa6
 intro st o h hc
 obtain ⟨xj4,s6,s7,s8,c6,c7,c8,c9,c10,c11⟩:=st
 try dsimp -zeta only at h ⊢
 unfold XbA at h
 have R1:=@XvJ Xaf
 have LM:=lm [(0,0),(2,2),(3,3),(4,18),(5,19),(6,20)]
 have LP:=@XAg Xah XaD Xaq Xac Xaf Xad hS;have LQ:=lm [(0,0),(2,2),(3,3),(4,4),(5,5),(6,6)]
 refine Xa3 XaN hS true 3000 ?_
 conv=>whnf
 refine br.h2 h (by rfl) ?_ ?_
 ·clear h;intro hb h;conv=>whnf
  exact W
 clear h;intro hb h;conv=>whnf
 replace h:=XaL.elim h;obtain ⟨hb,h⟩:=h
 try (refine req.intro hb ?_;conv=>whnf)
 replace h:=XbV.elim h;obtain ⟨e8,hy,h⟩:=h
 refine rd.T (j:=0) Xao hy (by first|omega|exact Nat.zero_add _|exact congrArg (·+_) (Nat.zero_add _)) (by decide) rfl ?_
 conv=>whnf
 replace h:=XaL.elim h;obtain ⟨hb,h⟩:=h
 try (refine req.intro hb ?_;conv=>whnf)
 refine rd.T (i:=xj4.toNat) (x:=e8) (j:=1) Xao (by assumption) (by first|omega|exact Nat.zero_add _|exact congrArg (·+_) (Nat.zero_add _)) (by decide) rfl ?_
 conv=>whnf
 exact W
theorem XvY (Xah:XaC) (XaD:XaS) (Xaq:XaK) (Xac:Xaj) (Xaf:Xam) (Xad:Xai) (hS:XaB Try.prog (XaI (XgA Xah XaD Xaq Xac Xaf Xad))) {l:List Xan} {s9:Int} {s10:Int} {s11:Int} {c12:Nat} {c13:Nat} {c14:Nat} {c15:Nat} {c16:List Int} {c17:List Int} {c18:List Int} {c19:List Int} {xj7:Int} {res:Bool}:∀ {fuel} {st:Int×Int} {o:Sum Int Bool},iter (fun st=>Xbo Xac Xad l s9 s10 s11 c12 c13 c14 c15 c16 c17 c18 c19 xj7 st.1 st.2) fuel st=some o→(Sum.elim (fun s0=>XaQ Try.prog 4 1 (Xp7 l s9 s10 s11 c12 c13 c14 c15 c16 c17 c18 c19 s0) (fun v H _=>Res 1 (rx4 res) v H)) (fun r0=>r0=res) o) →
 XaQ Try.prog 4 1 (Xvm l s9 s10 s11 c12 c13 c14 c15 c16 c17 c18 c19 xj7 st.1 st.2) (fun v H _=>Res 1 (rx4 res) v H):=by
 apply Xa6
 intro st o h hc
 obtain ⟨n8,i3⟩:=st
 try dsimp -zeta only at h ⊢
 unfold Xbo at h
 have R1:=@Xpq Xac
 have R2:=@XwP Xad
 have LM:=lm [(0,0),(2,2),(3,3),(4,4),(5,5),(6,6),(7,7)]
 refine Xa3 XaN hS true 3000 ?_
 conv=>whnf
 refine br.h2 h (by rfl) ?_ ?_
 ·clear h;intro hb h;conv=>whnf
  replace h:=XaL.elim h;obtain ⟨hb,h⟩:=h
  try (refine req.intro hb ?_;conv=>whnf)
  replace h:=XbV.elim h;obtain ⟨e15,hy,h⟩:=h
  refine rd.T (j:=0) Xao hy (by first|omega|exact Nat.zero_add _|exact congrArg (·+_) (Nat.zero_add _)) (by decide) rfl ?_
  conv=>whnf
  replace h:=XbV.elim h;obtain ⟨x41,hy,h⟩:=h
  refine Xfx.a (Xpq hy) ?_
  conv=>whnf
  refine br.h h (by rfl) ?_ ?_
  ·clear h;intro hb h;conv=>whnf
   exact W
  clear h;intro hb h;conv=>whnf
  replace h:=XaL.elim h;obtain ⟨hb,h⟩:=h
  try (refine req.intro hb ?_;conv=>whnf)
  refine rd.T (i:=xj7.toNat) (x:=e15) (j:=0) Xao (by assumption) (by first|omega|exact Nat.zero_add _|exact congrArg (·+_) (Nat.zero_add _)) (by decide) rfl ?_
  conv=>whnf
  exact W
 clear h;intro hb h;conv=>whnf
 replace h:=XaL.elim h;obtain ⟨hb,h⟩:=h
 try (refine req.intro hb ?_;conv=>whnf)
 replace h:=XbV.elim h;obtain ⟨e13,hy,h⟩:=h
 refine rd.T (j:=0) Xao hy (by first|omega|exact Nat.zero_add _|exact congrArg (·+_) (Nat.zero_add _)) (by decide) rfl ?_
 conv=>whnf
 replace h:=XaL.elim h;obtain ⟨hb,h⟩:=h
 try (refine req.intro hb ?_;conv=>whnf)
 replace h:=XbV.elim h;obtain ⟨e14,hy,h⟩:=h
 refine rd.T (j:=0) Xao hy (by first|omega|exact Nat.zero_add _|exact congrArg (·+_) (Nat.zero_add _)) (by decide) rfl ?_
 conv=>whnf
 refine br.h2 h (by rfl) ?_ ?_
 ·clear h;intro hb h;conv=>whnf
  exact W
 clear h;intro hb h;conv=>whnf
 replace h:=XaL.elim h;obtain ⟨hb,h⟩:=h
 try (refine req.intro hb ?_;conv=>whnf)
 refine rd.T (i:=i3.toNat) (x:=e13) (j:=1) Xao (by assumption) (by first|omega|exact Nat.zero_add _|exact congrArg (·+_) (Nat.zero_add _)) (by decide) rfl ?_
 conv=>whnf
 refine br.h2 h (by rfl) ?_ ?_
 ·clear h;intro hb h;conv=>whnf
  exact W
 clear h;intro hb h;conv=>whnf
 replace h:=XaL.elim h;obtain ⟨hb,h⟩:=h
 try (refine req.intro hb ?_;conv=>whnf)
 refine rd.T (i:=i3.toNat) (x:=e13) (j:=1) Xao (by assumption) (by first|omega|exact Nat.zero_add _|exact congrArg (·+_) (Nat.zero_add _)) (by decide) rfl ?_
 conv=>whnf
 refine br.h2 h (by rfl) ?_ ?_
 ·clear h;intro hb h;conv=>whnf
  exact W
 clear h;intro hb h;conv=>whnf
 replace h:=XaL.elim h;obtain ⟨hb,h⟩:=h
 try (refine req.intro hb ?_;conv=>whnf)
 refine rd.T (i:=i3.toNat) (x:=e13) (j:=1) Xao (by assumption) (by first|omega|exact Nat.zero_add _|exact congrArg (·+_) (Nat.zero_add _)) (by decide) rfl ?_
 conv=>whnf
 exact W
theorem Xwl (Xah:XaC) (XaD:XaS) (Xaq:XaK) (Xac:Xaj) (Xaf:Xam) (Xad:Xai) (hS:XaB Try.prog (XaI (XgA Xah XaD Xaq Xac Xaf Xad))) {l:List Xan} {s9:Int} {s10:Int} {s11:Int} {c12:Nat} {c13:Nat} {c14:Nat} {c15:Nat} {c16:List Int} {c17:List Int} {c18:List Int} {c19:List Int} {res:Bool}:∀ {fuel} {st:Int} {o:Bool},iter (fun st=>Xb8 Xah Xac Xad l s9 s10 s11 c12 c13 c14 c15 c16 c17 c18 c19 st) fuel st=some o→(o=res) →
 XaQ Try.prog 4 1 (Xp7 l s9 s10 s11 c12 c13 c14 c15 c16 c17 c18 c19 st) (fun v H _=>Res 1 (rx4 res) v H):=by
 apply Xa6
 intro xj7 o h hc
 try dsimp -zeta only at h ⊢
 unfold Xb8 at h
 have R1:=@Xm9 Xah
 have LP:=@XvY Xah XaD Xaq Xac Xaf Xad hS;have LQ:=lm [(0,0),(2,2),(3,3),(4,4),(5,5),(6,6),(7,7)]
 refine Xa3 XaN hS true 3000 ?_
 conv=>whnf
 exact W
theorem XwK (Xah:XaC) (XaD:XaS) (Xaq:XaK) (Xac:Xaj) (Xaf:Xam) (Xad:Xai) (hS:XaB Try.prog (XaI (XgA Xah XaD Xaq Xac Xaf Xad))) {l:List Xan} {res:Bool}:∀ {fuel} {st:Int×Int×Int×Int×Nat×Nat×Nat×Nat×(List Int)×(List Int)×(List Int)×(List Int)} {o:Bool},iter (fun st=>Xbs Xah Xac Xaf Xad l st.1 st.2.1 st.2.2.1 st.2.2.2.1 st.2.2.2.2.1 st.2.2.2.2.2.1 st.2.2.2.2.2.2.1 st.2.2.2.2.2.2.2.1 st.2.2.2.2.2.2.2.2.1 st.2.2.2.2.2.2.2.2.2.1 st.2.2.2.2.2.2.2.2.2.2.1 st.2.2.2.2.2.2.2.2.2.2.2) fuel st=some o→(o=res) →
 XaQ Try.prog 4 1 (Xqf l st.1 st.2.1 st.2.2.1 st.2.2.2.1 st.2.2.2.2.1 st.2.2.2.2.2.1 st.2.2.2.2.2.2.1 st.2.2.2.2.2.2.2.1 st.2.2.2.2.2.2.2.2.1 st.2.2.2.2.2.2.2.2.2.1 st.2.2.2.2.2.2.2.2.2.2.1 st.2.2.2.2.2.2.2.2.2.2.2) (fun v H _=>Res 1 (rx4 res) v H):=by
 apply Xa6
 intro st o h hc
 obtain ⟨xj6,s9,s10,s11,c12,c13,c14,c15,c16,c17,c18,c19⟩:=st
 try dsimp -zeta only at h ⊢
 unfold Xbs at h
 have R1:=@Xv1 Xaf
 have LM:=lm [(0,0),(2,2),(3,3),(4,19),(5,20),(6,21),(7,22)]
 have LP:=@Xwl Xah XaD Xaq Xac Xaf Xad hS;have LQ:=lm [(0,0),(2,2),(3,3),(4,4),(5,5),(6,6),(7,7)]
 refine Xa3 XaN hS true 3000 ?_
 conv=>whnf
 refine br.h2 h (by rfl) ?_ ?_
 ·clear h;intro hb h;conv=>whnf
  exact W
 clear h;intro hb h;conv=>whnf
 replace h:=XaL.elim h;obtain ⟨hb,h⟩:=h
 try (refine req.intro hb ?_;conv=>whnf)
 replace h:=XbV.elim h;obtain ⟨e12,hy,h⟩:=h
 refine rd.T (j:=0) Xao hy (by first|omega|exact Nat.zero_add _|exact congrArg (·+_) (Nat.zero_add _)) (by decide) rfl ?_
 conv=>whnf
 replace h:=XaL.elim h;obtain ⟨hb,h⟩:=h
 try (refine req.intro hb ?_;conv=>whnf)
 refine rd.T (i:=xj6.toNat) (x:=e12) (j:=1) Xao (by assumption) (by first|omega|exact Nat.zero_add _|exact congrArg (·+_) (Nat.zero_add _)) (by decide) rfl ?_
 conv=>whnf
 exact W
theorem Xv3 (Xah:XaC) (XaD:XaS) (Xaq:XaK) (Xac:Xaj) (Xaf:Xam) (Xad:Xai) (hS:XaB Try.prog (XaI (XgA Xah XaD Xaq Xac Xaf Xad))) {l:List Xan} {s12:Int} {s13:Int} {s14:Int} {c20:Nat} {c21:Nat} {c22:Nat} {c23:Nat} {c24:Nat} {c25:List Int} {c26:List Int} {c27:List Int} {c28:List Int} {c29:List Int} {xj9:Int} {res:Bool}:∀ {fuel} {st:Int×Int} {o:Sum Int Bool},iter (fun st=>Xbq Xac Xad l s12 s13 s14 c20 c21 c22 c23 c24 c25 c26 c27 c28 c29 xj9 st.1 st.2) fuel st=some o→(Sum.elim (fun s0=>XaQ Try.prog 4 1 (Xqh l s12 s13 s14 c20 c21 c22 c23 c24 c25 c26 c27 c28 c29 s0) (fun v H _=>Res 1 (rx4 res) v H)) (fun r0=>r0=res) o) →
 XaQ Try.prog 4 1 (Xvi l s12 s13 s14 c20 c21 c22 c23 c24 c25 c26 c27 c28 c29 xj9 st.1 st.2) (fun v H _=>Res 1 (rx4 res) v H):=by
 apply Xa6
 intro st o h hc
 obtain ⟨n10,i4⟩:=st
 try dsimp -zeta only at h ⊢
 unfold Xbq at h
 have R1:=@Xo6 Xac
 have R2:=@Xww Xad
 have LM:=lm [(0,0),(2,2),(3,3),(4,4),(5,5),(6,6),(7,7),(8,8)]
 refine Xa3 XaN hS true 3000 ?_
 conv=>whnf
 refine br.h2 h (by rfl) ?_ ?_
 ·clear h;intro hb h;conv=>whnf
  replace h:=XaL.elim h;obtain ⟨hb,h⟩:=h
  try (refine req.intro hb ?_;conv=>whnf)
  replace h:=XbV.elim h;obtain ⟨e19,hy,h⟩:=h
  refine rd.T (j:=0) Xao hy (by first|omega|exact Nat.zero_add _|exact congrArg (·+_) (Nat.zero_add _)) (by decide) rfl ?_
  conv=>whnf
  replace h:=XbV.elim h;obtain ⟨x51,hy,h⟩:=h
  refine Xfx.a (Xo6 hy) ?_
  conv=>whnf
  refine br.h h (by rfl) ?_ ?_
  ·clear h;intro hb h;conv=>whnf
   exact W
  clear h;intro hb h;conv=>whnf
  replace h:=XaL.elim h;obtain ⟨hb,h⟩:=h
  try (refine req.intro hb ?_;conv=>whnf)
  refine rd.T (i:=xj9.toNat) (x:=e19) (j:=0) Xao (by assumption) (by first|omega|exact Nat.zero_add _|exact congrArg (·+_) (Nat.zero_add _)) (by decide) rfl ?_
  conv=>whnf
  exact W
 clear h;intro hb h;conv=>whnf
 replace h:=XaL.elim h;obtain ⟨hb,h⟩:=h
 try (refine req.intro hb ?_;conv=>whnf)
 replace h:=XbV.elim h;obtain ⟨e17,hy,h⟩:=h
 refine rd.T (j:=0) Xao hy (by first|omega|exact Nat.zero_add _|exact congrArg (·+_) (Nat.zero_add _)) (by decide) rfl ?_
 conv=>whnf
 replace h:=XaL.elim h;obtain ⟨hb,h⟩:=h
 try (refine req.intro hb ?_;conv=>whnf)
 replace h:=XbV.elim h;obtain ⟨e18,hy,h⟩:=h
 refine rd.T (j:=0) Xao hy (by first|omega|exact Nat.zero_add _|exact congrArg (·+_) (Nat.zero_add _)) (by decide) rfl ?_
 conv=>whnf
 refine br.h2 h (by rfl) ?_ ?_
 ·clear h;intro hb h;conv=>whnf
  exact W
 clear h;intro hb h;conv=>whnf
 replace h:=XaL.elim h;obtain ⟨hb,h⟩:=h
 try (refine req.intro hb ?_;conv=>whnf)
 refine rd.T (i:=i4.toNat) (x:=e17) (j:=1) Xao (by assumption) (by first|omega|exact Nat.zero_add _|exact congrArg (·+_) (Nat.zero_add _)) (by decide) rfl ?_
 conv=>whnf
 refine br.h2 h (by rfl) ?_ ?_
 ·clear h;intro hb h;conv=>whnf
  exact W
 clear h;intro hb h;conv=>whnf
 replace h:=XaL.elim h;obtain ⟨hb,h⟩:=h
 try (refine req.intro hb ?_;conv=>whnf)
 refine rd.T (i:=i4.toNat) (x:=e17) (j:=1) Xao (by assumption) (by first|omega|exact Nat.zero_add _|exact congrArg (·+_) (Nat.zero_add _)) (by decide) rfl ?_
 conv=>whnf
 refine br.h2 h (by rfl) ?_ ?_
 ·clear h;intro hb h;conv=>whnf
  exact W
 clear h;intro hb h;conv=>whnf
 replace h:=XaL.elim h;obtain ⟨hb,h⟩:=h
 try (refine req.intro hb ?_;conv=>whnf)
 refine rd.T (i:=i4.toNat) (x:=e17) (j:=1) Xao (by assumption) (by first|omega|exact Nat.zero_add _|exact congrArg (·+_) (Nat.zero_add _)) (by decide) rfl ?_
 conv=>whnf
 exact W
theorem XvD (Xah:XaC) (XaD:XaS) (Xaq:XaK) (Xac:Xaj) (Xaf:Xam) (Xad:Xai) (hS:XaB Try.prog (XaI (XgA Xah XaD Xaq Xac Xaf Xad))) {l:List Xan} {s12:Int} {s13:Int} {s14:Int} {c20:Nat} {c21:Nat} {c22:Nat} {c23:Nat} {c24:Nat} {c25:List Int} {c26:List Int} {c27:List Int} {c28:List Int} {c29:List Int} {res:Bool}:∀ {fuel} {st:Int} {o:Bool},iter (fun st=>Xb7 Xah Xac Xad l s12 s13 s14 c20 c21 c22 c23 c24 c25 c26 c27 c28 c29 st) fuel st=some o→(o=res) →
 XaQ Try.prog 4 1 (Xqh l s12 s13 s14 c20 c21 c22 c23 c24 c25 c26 c27 c28 c29 st) (fun v H _=>Res 1 (rx4 res) v H):=by
 apply Xa6
 intro xj9 o h hc
 try dsimp -zeta only at h ⊢
 unfold Xb7 at h
 have R1:=@Xm9 Xah
 have LP:=@Xv3 Xah XaD Xaq Xac Xaf Xad hS;have LQ:=lm [(0,0),(2,2),(3,3),(4,4),(5,5),(6,6),(7,7),(8,8)]
 refine Xa3 XaN hS true 3000 ?_
 conv=>whnf
 exact W
theorem Xxe (Xah:XaC) (XaD:XaS) (Xaq:XaK) (Xac:Xaj) (Xaf:Xam) (Xad:Xai) (hS:XaB Try.prog (XaI (XgA Xah XaD Xaq Xac Xaf Xad))) {l:List Xan} {res:Bool}:∀ {fuel} {st:Int×Int×Int×Int×Nat×Nat×Nat×Nat×Nat×(List Int)×(List Int)×(List Int)×(List Int)×(List Int)} {o:Bool},iter (fun st=>Xbp Xah Xac Xaf Xad l st.1 st.2.1 st.2.2.1 st.2.2.2.1 st.2.2.2.2.1 st.2.2.2.2.2.1 st.2.2.2.2.2.2.1 st.2.2.2.2.2.2.2.1 st.2.2.2.2.2.2.2.2.1 st.2.2.2.2.2.2.2.2.2.1 st.2.2.2.2.2.2.2.2.2.2.1 st.2.2.2.2.2.2.2.2.2.2.2.1 st.2.2.2.2.2.2.2.2.2.2.2.2.1 st.2.2.2.2.2.2.2.2.2.2.2.2.2) fuel st=some o→(o=res) →
 XaQ Try.prog 4 1 (Xo3 l st.1 st.2.1 st.2.2.1 st.2.2.2.1 st.2.2.2.2.1 st.2.2.2.2.2.1 st.2.2.2.2.2.2.1 st.2.2.2.2.2.2.2.1 st.2.2.2.2.2.2.2.2.1 st.2.2.2.2.2.2.2.2.2.1 st.2.2.2.2.2.2.2.2.2.2.1 st.2.2.2.2.2.2.2.2.2.2.2.1 st.2.2.2.2.2.2.2.2.2.2.2.2.1 st.2.2.2.2.2.2.2.2.2.2.2.2.2) (fun v H _=>Res 1 (rx4 res) v H):=by
 apply Xa6
 intro st o h hc
 obtain ⟨xj8,s12,s13,s14,c20,c21,c22,c23,c24,c25,c26,c27,c28,c29⟩:=st
 try dsimp -zeta only at h ⊢
 unfold Xbp at h
 have R1:=@Xvv Xaf
 have LM:=lm [(0,0),(2,2),(3,3),(4,20),(5,21),(6,22),(7,23),(8,24)]
 have LP:=@XvD Xah XaD Xaq Xac Xaf Xad hS;have LQ:=lm [(0,0),(2,2),(3,3),(4,4),(5,5),(6,6),(7,7),(8,8)]
 refine Xa3 XaN hS true 3000 ?_
 conv=>whnf
 refine br.h2 h (by rfl) ?_ ?_
 ·clear h;intro hb h;conv=>whnf
  exact W
 clear h;intro hb h;conv=>whnf
 replace h:=XaL.elim h;obtain ⟨hb,h⟩:=h
 try (refine req.intro hb ?_;conv=>whnf)
 replace h:=XbV.elim h;obtain ⟨e16,hy,h⟩:=h
 refine rd.T (j:=0) Xao hy (by first|omega|exact Nat.zero_add _|exact congrArg (·+_) (Nat.zero_add _)) (by decide) rfl ?_
 conv=>whnf
 replace h:=XaL.elim h;obtain ⟨hb,h⟩:=h
 try (refine req.intro hb ?_;conv=>whnf)
 refine rd.T (i:=xj8.toNat) (x:=e16) (j:=1) Xao (by assumption) (by first|omega|exact Nat.zero_add _|exact congrArg (·+_) (Nat.zero_add _)) (by decide) rfl ?_
 conv=>whnf
 exact W
theorem XwC (Xah:XaC) (XaD:XaS) (Xaq:XaK) (Xac:Xaj) (Xaf:Xam) (Xad:Xai) (hS:XaB Try.prog (XaI (XgA Xah XaD Xaq Xac Xaf Xad))) {l:List Xan} {s15:Int} {s16:Int} {s17:Int} {c30:Nat} {c31:Nat} {c32:Nat} {c33:Nat} {c34:Nat} {c35:Nat} {c36:List Int} {c37:List Int} {c38:List Int} {c39:List Int} {c40:List Int} {c41:List Int} {xj11:Int} {res:Bool}:∀ {fuel} {st:Int×Int} {o:Sum Int Bool},iter (fun st=>Xbl Xac Xad l s15 s16 s17 c30 c31 c32 c33 c34 c35 c36 c37 c38 c39 c40 c41 xj11 st.1 st.2) fuel st=some o→(Sum.elim (fun s0=>XaQ Try.prog 4 1 (Xpg l s15 s16 s17 c30 c31 c32 c33 c34 c35 c36 c37 c38 c39 c40 c41 s0) (fun v H _=>Res 1 (rx4 res) v H)) (fun r0=>r0=res) o) →
 XaQ Try.prog 4 1 (XvI l s15 s16 s17 c30 c31 c32 c33 c34 c35 c36 c37 c38 c39 c40 c41 xj11 st.1 st.2) (fun v H _=>Res 1 (rx4 res) v H):=by
 apply Xa6
 intro st o h hc
 obtain ⟨n12,i5⟩:=st
 try dsimp -zeta only at h ⊢
 unfold Xbl at h
 have R1:=@Xqe Xac
 have R2:=@Xv9 Xad
 have LM:=lm [(0,0),(2,2),(3,3),(4,4),(5,5),(6,6),(7,7),(8,8),(9,9)]
 refine Xa3 XaN hS true 3000 ?_
 conv=>whnf
 refine br.h2 h (by rfl) ?_ ?_
 ·clear h;intro hb h;conv=>whnf
  replace h:=XaL.elim h;obtain ⟨hb,h⟩:=h
  try (refine req.intro hb ?_;conv=>whnf)
  replace h:=XbV.elim h;obtain ⟨e23,hy,h⟩:=h
  refine rd.T (j:=0) Xao hy (by first|omega|exact Nat.zero_add _|exact congrArg (·+_) (Nat.zero_add _)) (by decide) rfl ?_
  conv=>whnf
  replace h:=XbV.elim h;obtain ⟨x61,hy,h⟩:=h
  refine Xfx.a (Xqe hy) ?_
  conv=>whnf
  refine br.h h (by rfl) ?_ ?_
  ·clear h;intro hb h;conv=>whnf
   exact W
  clear h;intro hb h;conv=>whnf
  replace h:=XaL.elim h;obtain ⟨hb,h⟩:=h
  try (refine req.intro hb ?_;conv=>whnf)
  refine rd.T (i:=xj11.toNat) (x:=e23) (j:=0) Xao (by assumption) (by first|omega|exact Nat.zero_add _|exact congrArg (·+_) (Nat.zero_add _)) (by decide) rfl ?_
  conv=>whnf
  exact W
 clear h;intro hb h;conv=>whnf
 replace h:=XaL.elim h;obtain ⟨hb,h⟩:=h
 try (refine req.intro hb ?_;conv=>whnf)
 replace h:=XbV.elim h;obtain ⟨e21,hy,h⟩:=h
 refine rd.T (j:=0) Xao hy (by first|omega|exact Nat.zero_add _|exact congrArg (·+_) (Nat.zero_add _)) (by decide) rfl ?_
 conv=>whnf
 replace h:=XaL.elim h;obtain ⟨hb,h⟩:=h
 try (refine req.intro hb ?_;conv=>whnf)
 replace h:=XbV.elim h;obtain ⟨e22,hy,h⟩:=h
 refine rd.T (j:=0) Xao hy (by first|omega|exact Nat.zero_add _|exact congrArg (·+_) (Nat.zero_add _)) (by decide) rfl ?_
 conv=>whnf
 refine br.h2 h (by rfl) ?_ ?_
 ·clear h;intro hb h;conv=>whnf
  exact W
 clear h;intro hb h;conv=>whnf
 replace h:=XaL.elim h;obtain ⟨hb,h⟩:=h
 try (refine req.intro hb ?_;conv=>whnf)
 refine rd.T (i:=i5.toNat) (x:=e21) (j:=1) Xao (by assumption) (by first|omega|exact Nat.zero_add _|exact congrArg (·+_) (Nat.zero_add _)) (by decide) rfl ?_
 conv=>whnf
 refine br.h2 h (by rfl) ?_ ?_
 ·clear h;intro hb h;conv=>whnf
  exact W
 clear h;intro hb h;conv=>whnf
 replace h:=XaL.elim h;obtain ⟨hb,h⟩:=h
 try (refine req.intro hb ?_;conv=>whnf)
 refine rd.T (i:=i5.toNat) (x:=e21) (j:=1) Xao (by assumption) (by first|omega|exact Nat.zero_add _|exact congrArg (·+_) (Nat.zero_add _)) (by decide) rfl ?_
 conv=>whnf
 refine br.h2 h (by rfl) ?_ ?_
 ·clear h;intro hb h;conv=>whnf
  exact W
 clear h;intro hb h;conv=>whnf
 replace h:=XaL.elim h;obtain ⟨hb,h⟩:=h
 try (refine req.intro hb ?_;conv=>whnf)
 refine rd.T (i:=i5.toNat) (x:=e21) (j:=1) Xao (by assumption) (by first|omega|exact Nat.zero_add _|exact congrArg (·+_) (Nat.zero_add _)) (by decide) rfl ?_
 conv=>whnf
 exact W
theorem Xw6 (Xah:XaC) (XaD:XaS) (Xaq:XaK) (Xac:Xaj) (Xaf:Xam) (Xad:Xai) (hS:XaB Try.prog (XaI (XgA Xah XaD Xaq Xac Xaf Xad))) {l:List Xan} {s15:Int} {s16:Int} {s17:Int} {c30:Nat} {c31:Nat} {c32:Nat} {c33:Nat} {c34:Nat} {c35:Nat} {c36:List Int} {c37:List Int} {c38:List Int} {c39:List Int} {c40:List Int} {c41:List Int} {res:Bool}:∀ {fuel} {st:Int} {o:Bool},iter (fun st=>Xb6 Xah Xac Xad l s15 s16 s17 c30 c31 c32 c33 c34 c35 c36 c37 c38 c39 c40 c41 st) fuel st=some o→(o=res) →
 XaQ Try.prog 4 1 (Xpg l s15 s16 s17 c30 c31 c32 c33 c34 c35 c36 c37 c38 c39 c40 c41 st) (fun v H _=>Res 1 (rx4 res) v H):=by
 apply Xa6
 intro xj11 o h hc
 try dsimp -zeta only at h ⊢
 unfold Xb6 at h
 have R1:=@Xm9 Xah
 have LP:=@XwC Xah XaD Xaq Xac Xaf Xad hS;have LQ:=lm [(0,0),(2,2),(3,3),(4,4),(5,5),(6,6),(7,7),(8,8),(9,9)]
 refine Xa3 XaN hS true 3000 ?_
 conv=>whnf
 exact W
theorem Xvy (Xah:XaC) (XaD:XaS) (Xaq:XaK) (Xac:Xaj) (Xaf:Xam) (Xad:Xai) (hS:XaB Try.prog (XaI (XgA Xah XaD Xaq Xac Xaf Xad))) {l:List Xan} {res:Bool}:∀ {fuel} {st:Int×Int×Int×Int×Nat×Nat×Nat×Nat×Nat×Nat×(List Int)×(List Int)×(List Int)×(List Int)×(List Int)×(List Int)} {o:Bool},iter (fun st=>Xbm Xah Xac Xaf Xad l st.1 st.2.1 st.2.2.1 st.2.2.2.1 st.2.2.2.2.1 st.2.2.2.2.2.1 st.2.2.2.2.2.2.1 st.2.2.2.2.2.2.2.1 st.2.2.2.2.2.2.2.2.1 st.2.2.2.2.2.2.2.2.2.1 st.2.2.2.2.2.2.2.2.2.2.1 st.2.2.2.2.2.2.2.2.2.2.2.1 st.2.2.2.2.2.2.2.2.2.2.2.2.1 st.2.2.2.2.2.2.2.2.2.2.2.2.2.1 st.2.2.2.2.2.2.2.2.2.2.2.2.2.2.1 st.2.2.2.2.2.2.2.2.2.2.2.2.2.2.2) fuel st=some o→(o=res) →
 XaQ Try.prog 4 1 (Xpa l st.1 st.2.1 st.2.2.1 st.2.2.2.1 st.2.2.2.2.1 st.2.2.2.2.2.1 st.2.2.2.2.2.2.1 st.2.2.2.2.2.2.2.1 st.2.2.2.2.2.2.2.2.1 st.2.2.2.2.2.2.2.2.2.1 st.2.2.2.2.2.2.2.2.2.2.1 st.2.2.2.2.2.2.2.2.2.2.2.1 st.2.2.2.2.2.2.2.2.2.2.2.2.1 st.2.2.2.2.2.2.2.2.2.2.2.2.2.1 st.2.2.2.2.2.2.2.2.2.2.2.2.2.2.1 st.2.2.2.2.2.2.2.2.2.2.2.2.2.2.2) (fun v H _=>Res 1 (rx4 res) v H):=by
 apply Xa6
 intro st o h hc
 obtain ⟨xj10,s15,s16,s17,c30,c31,c32,c33,c34,c35,c36,c37,c38,c39,c40,c41⟩:=st
 try dsimp -zeta only at h ⊢
 unfold Xbm at h
 have R1:=@XwO Xaf
 have LM:=lm [(0,0),(2,2),(3,3),(4,21),(5,22),(6,23),(7,24),(8,25),(9,26)]
 have LP:=@Xw6 Xah XaD Xaq Xac Xaf Xad hS;have LQ:=lm [(0,0),(2,2),(3,3),(4,4),(5,5),(6,6),(7,7),(8,8),(9,9)]
 refine Xa3 XaN hS true 3000 ?_
 conv=>whnf
 refine br.h2 h (by rfl) ?_ ?_
 ·clear h;intro hb h;conv=>whnf
  exact W
 clear h;intro hb h;conv=>whnf
 replace h:=XaL.elim h;obtain ⟨hb,h⟩:=h
 try (refine req.intro hb ?_;conv=>whnf)
 replace h:=XbV.elim h;obtain ⟨e20,hy,h⟩:=h
 refine rd.T (j:=0) Xao hy (by first|omega|exact Nat.zero_add _|exact congrArg (·+_) (Nat.zero_add _)) (by decide) rfl ?_
 conv=>whnf
 replace h:=XaL.elim h;obtain ⟨hb,h⟩:=h
 try (refine req.intro hb ?_;conv=>whnf)
 refine rd.T (i:=xj10.toNat) (x:=e20) (j:=1) Xao (by assumption) (by first|omega|exact Nat.zero_add _|exact congrArg (·+_) (Nat.zero_add _)) (by decide) rfl ?_
 conv=>whnf
 exact W
theorem XwU (Xah:XaC) (XaD:XaS) (Xaq:XaK) (Xac:Xaj) (Xaf:Xam) (Xad:Xai) (hS:XaB Try.prog (XaI (XgA Xah XaD Xaq Xac Xaf Xad))) {l:List Xan} {s18:Int} {s19:Int} {s20:Int} {c42:Nat} {c43:Nat} {c44:Nat} {c45:Nat} {c46:Nat} {c47:Nat} {c48:Nat} {c49:List Int} {c50:List Int} {c51:List Int} {c52:List Int} {c53:List Int} {c54:List Int} {c55:List Int} {xj13:Int} {res:Bool}:∀ {fuel} {st:Int×Int} {o:Sum Int Bool},iter (fun st=>Xbr Xac Xad l s18 s19 s20 c42 c43 c44 c45 c46 c47 c48 c49 c50 c51 c52 c53 c54 c55 xj13 st.1 st.2) fuel st=some o→(Sum.elim (fun s0=>XaQ Try.prog 4 1 (Xpp l s18 s19 s20 c42 c43 c44 c45 c46 c47 c48 c49 c50 c51 c52 c53 c54 c55 s0) (fun v H _=>Res 1 (rx4 res) v H)) (fun r0=>r0=res) o) →
 XaQ Try.prog 4 1 (Xws l s18 s19 s20 c42 c43 c44 c45 c46 c47 c48 c49 c50 c51 c52 c53 c54 c55 xj13 st.1 st.2) (fun v H _=>Res 1 (rx4 res) v H):=by
 apply Xa6
 intro st o h hc
 obtain ⟨n14,i6⟩:=st
 try dsimp -zeta only at h ⊢
 unfold Xbr at h
 have R1:=@Xqa Xac
 have R2:=@Xv8 Xad
 have LM:=lm [(0,0),(2,2),(3,3),(4,4),(5,5),(6,6),(7,7),(8,8),(9,9),(10,10)]
 refine Xa3 XaN hS true 3000 ?_
 conv=>whnf
 refine br.h2 h (by rfl) ?_ ?_
 ·clear h;intro hb h;conv=>whnf
  replace h:=XaL.elim h;obtain ⟨hb,h⟩:=h
  try (refine req.intro hb ?_;conv=>whnf)
  replace h:=XbV.elim h;obtain ⟨e27,hy,h⟩:=h
  refine rd.T (j:=0) Xao hy (by first|omega|exact Nat.zero_add _|exact congrArg (·+_) (Nat.zero_add _)) (by decide) rfl ?_
  conv=>whnf
  replace h:=XbV.elim h;obtain ⟨x71,hy,h⟩:=h
  refine Xfx.a (Xqa hy) ?_
  conv=>whnf
  refine br.h h (by rfl) ?_ ?_
  ·clear h;intro hb h;conv=>whnf
   exact W
  clear h;intro hb h;conv=>whnf
  replace h:=XaL.elim h;obtain ⟨hb,h⟩:=h
  try (refine req.intro hb ?_;conv=>whnf)
  refine rd.T (i:=xj13.toNat) (x:=e27) (j:=0) Xao (by assumption) (by first|omega|exact Nat.zero_add _|exact congrArg (·+_) (Nat.zero_add _)) (by decide) rfl ?_
  conv=>whnf
  exact W
 clear h;intro hb h;conv=>whnf
 replace h:=XaL.elim h;obtain ⟨hb,h⟩:=h
 try (refine req.intro hb ?_;conv=>whnf)
 replace h:=XbV.elim h;obtain ⟨e25,hy,h⟩:=h
 refine rd.T (j:=0) Xao hy (by first|omega|exact Nat.zero_add _|exact congrArg (·+_) (Nat.zero_add _)) (by decide) rfl ?_
 conv=>whnf
 replace h:=XaL.elim h;obtain ⟨hb,h⟩:=h
 try (refine req.intro hb ?_;conv=>whnf)
 replace h:=XbV.elim h;obtain ⟨e26,hy,h⟩:=h
 refine rd.T (j:=0) Xao hy (by first|omega|exact Nat.zero_add _|exact congrArg (·+_) (Nat.zero_add _)) (by decide) rfl ?_
 conv=>whnf
 refine br.h2 h (by rfl) ?_ ?_
 ·clear h;intro hb h;conv=>whnf
  exact W
 clear h;intro hb h;conv=>whnf
 replace h:=XaL.elim h;obtain ⟨hb,h⟩:=h
 try (refine req.intro hb ?_;conv=>whnf)
 refine rd.T (i:=i6.toNat) (x:=e25) (j:=1) Xao (by assumption) (by first|omega|exact Nat.zero_add _|exact congrArg (·+_) (Nat.zero_add _)) (by decide) rfl ?_
 conv=>whnf
 refine br.h2 h (by rfl) ?_ ?_
 ·clear h;intro hb h;conv=>whnf
  exact W
 clear h;intro hb h;conv=>whnf
 replace h:=XaL.elim h;obtain ⟨hb,h⟩:=h
 try (refine req.intro hb ?_;conv=>whnf)
 refine rd.T (i:=i6.toNat) (x:=e25) (j:=1) Xao (by assumption) (by first|omega|exact Nat.zero_add _|exact congrArg (·+_) (Nat.zero_add _)) (by decide) rfl ?_
 conv=>whnf
 refine br.h2 h (by rfl) ?_ ?_
 ·clear h;intro hb h;conv=>whnf
  exact W
 clear h;intro hb h;conv=>whnf
 replace h:=XaL.elim h;obtain ⟨hb,h⟩:=h
 try (refine req.intro hb ?_;conv=>whnf)
 refine rd.T (i:=i6.toNat) (x:=e25) (j:=1) Xao (by assumption) (by first|omega|exact Nat.zero_add _|exact congrArg (·+_) (Nat.zero_add _)) (by decide) rfl ?_
 conv=>whnf
 exact W
theorem Xvt (Xah:XaC) (XaD:XaS) (Xaq:XaK) (Xac:Xaj) (Xaf:Xam) (Xad:Xai) (hS:XaB Try.prog (XaI (XgA Xah XaD Xaq Xac Xaf Xad))) {l:List Xan} {s18:Int} {s19:Int} {s20:Int} {c42:Nat} {c43:Nat} {c44:Nat} {c45:Nat} {c46:Nat} {c47:Nat} {c48:Nat} {c49:List Int} {c50:List Int} {c51:List Int} {c52:List Int} {c53:List Int} {c54:List Int} {c55:List Int} {res:Bool}:∀ {fuel} {st:Int} {o:Bool},iter (fun st=>Xb5 Xah Xac Xad l s18 s19 s20 c42 c43 c44 c45 c46 c47 c48 c49 c50 c51 c52 c53 c54 c55 st) fuel st=some o→(o=res) →
 XaQ Try.prog 4 1 (Xpp l s18 s19 s20 c42 c43 c44 c45 c46 c47 c48 c49 c50 c51 c52 c53 c54 c55 st) (fun v H _=>Res 1 (rx4 res) v H):=by
 apply Xa6
 intro xj13 o h hc
 try dsimp -zeta only at h ⊢
 unfold Xb5 at h
 have R1:=@Xm9 Xah
 have LP:=@XwU Xah XaD Xaq Xac Xaf Xad hS;have LQ:=lm [(0,0),(2,2),(3,3),(4,4),(5,5),(6,6),(7,7),(8,8),(9,9),(10,10)]
 refine Xa3 XaN hS true 3000 ?_
 conv=>whnf
 exact W
theorem XwL (Xah:XaC) (XaD:XaS) (Xaq:XaK) (Xac:Xaj) (Xaf:Xam) (Xad:Xai) (hS:XaB Try.prog (XaI (XgA Xah XaD Xaq Xac Xaf Xad))) {l:List Xan} {res:Bool}:∀ {fuel} {st:Int×Int×Int×Int×Nat×Nat×Nat×Nat×Nat×Nat×Nat×(List Int)×(List Int)×(List Int)×(List Int)×(List Int)×(List Int)×(List Int)} {o:Bool},iter (fun st=>Xbt Xah Xac Xaf Xad l st.1 st.2.1 st.2.2.1 st.2.2.2.1 st.2.2.2.2.1 st.2.2.2.2.2.1 st.2.2.2.2.2.2.1 st.2.2.2.2.2.2.2.1 st.2.2.2.2.2.2.2.2.1 st.2.2.2.2.2.2.2.2.2.1 st.2.2.2.2.2.2.2.2.2.2.1 st.2.2.2.2.2.2.2.2.2.2.2.1 st.2.2.2.2.2.2.2.2.2.2.2.2.1 st.2.2.2.2.2.2.2.2.2.2.2.2.2.1 st.2.2.2.2.2.2.2.2.2.2.2.2.2.2.1 st.2.2.2.2.2.2.2.2.2.2.2.2.2.2.2.1 st.2.2.2.2.2.2.2.2.2.2.2.2.2.2.2.2.1 st.2.2.2.2.2.2.2.2.2.2.2.2.2.2.2.2.2) fuel st=some o→(o=res) →
 XaQ Try.prog 4 1 (Xqg l st.1 st.2.1 st.2.2.1 st.2.2.2.1 st.2.2.2.2.1 st.2.2.2.2.2.1 st.2.2.2.2.2.2.1 st.2.2.2.2.2.2.2.1 st.2.2.2.2.2.2.2.2.1 st.2.2.2.2.2.2.2.2.2.1 st.2.2.2.2.2.2.2.2.2.2.1 st.2.2.2.2.2.2.2.2.2.2.2.1 st.2.2.2.2.2.2.2.2.2.2.2.2.1 st.2.2.2.2.2.2.2.2.2.2.2.2.2.1 st.2.2.2.2.2.2.2.2.2.2.2.2.2.2.1 st.2.2.2.2.2.2.2.2.2.2.2.2.2.2.2.1 st.2.2.2.2.2.2.2.2.2.2.2.2.2.2.2.2.1 st.2.2.2.2.2.2.2.2.2.2.2.2.2.2.2.2.2) (fun v H _=>Res 1 (rx4 res) v H):=by
 apply Xa6
 intro st o h hc
 obtain ⟨xj12,s18,s19,s20,c42,c43,c44,c45,c46,c47,c48,c49,c50,c51,c52,c53,c54,c55⟩:=st
 try dsimp -zeta only at h ⊢
 unfold Xbt at h
 have R1:=@XwY Xaf
 have LM:=lm [(0,0),(2,2),(3,3),(4,22),(5,23),(6,24),(7,25),(8,26),(9,27),(10,28)]
 have LP:=@Xvt Xah XaD Xaq Xac Xaf Xad hS;have LQ:=lm [(0,0),(2,2),(3,3),(4,4),(5,5),(6,6),(7,7),(8,8),(9,9),(10,10)]
 refine Xa3 XaN hS true 3000 ?_
 conv=>whnf
 refine br.h2 h (by rfl) ?_ ?_
 ·clear h;intro hb h;conv=>whnf
  exact W
 clear h;intro hb h;conv=>whnf
 replace h:=XaL.elim h;obtain ⟨hb,h⟩:=h
 try (refine req.intro hb ?_;conv=>whnf)
 replace h:=XbV.elim h;obtain ⟨e24,hy,h⟩:=h
 refine rd.T (j:=0) Xao hy (by first|omega|exact Nat.zero_add _|exact congrArg (·+_) (Nat.zero_add _)) (by decide) rfl ?_
 conv=>whnf
 replace h:=XaL.elim h;obtain ⟨hb,h⟩:=h
 try (refine req.intro hb ?_;conv=>whnf)
 refine rd.T (i:=xj12.toNat) (x:=e24) (j:=1) Xao (by assumption) (by first|omega|exact Nat.zero_add _|exact congrArg (·+_) (Nat.zero_add _)) (by decide) rfl ?_
 conv=>whnf
 exact W
theorem Xve (Xah:XaC) (XaD:XaS) (Xaq:XaK) (Xac:Xaj) (Xaf:Xam) (Xad:Xai) (hS:XaB Try.prog (XaI (XgA Xah XaD Xaq Xac Xaf Xad))) {l:List Xan} {s21:Int} {s22:Int} {s23:Int} {c56:Nat} {c57:Nat} {c58:Nat} {c59:Nat} {c60:Nat} {c61:Nat} {c62:Nat} {c63:Nat} {c64:List Int} {c65:List Int} {c66:List Int} {c67:List Int} {c68:List Int} {c69:List Int} {c70:List Int} {c71:List Int} {xj15:Int} {res:Bool}:∀ {fuel} {st:Int×Int} {o:Sum Int Bool},iter (fun st=>Xbk Xac Xad l s21 s22 s23 c56 c57 c58 c59 c60 c61 c62 c63 c64 c65 c66 c67 c68 c69 c70 c71 xj15 st.1 st.2) fuel st=some o→(Sum.elim (fun s0=>XaQ Try.prog 4 1 (XoZ l s21 s22 s23 c56 c57 c58 c59 c60 c61 c62 c63 c64 c65 c66 c67 c68 c69 c70 c71 s0) (fun v H _=>Res 1 (rx4 res) v H)) (fun r0=>r0=res) o) →
 XaQ Try.prog 4 1 (Xvf l s21 s22 s23 c56 c57 c58 c59 c60 c61 c62 c63 c64 c65 c66 c67 c68 c69 c70 c71 xj15 st.1 st.2) (fun v H _=>Res 1 (rx4 res) v H):=by
 apply Xa6
 intro st o h hc
 obtain ⟨n16,i7⟩:=st
 try dsimp -zeta only at h ⊢
 unfold Xbk at h
 have R1:=@XpQ Xac
 have R2:=@Xv6 Xad
 have LM:=lm [(0,0),(2,2),(3,3),(4,4),(5,5),(6,6),(7,7),(8,8),(9,9),(10,10),(11,11)]
 refine Xa3 XaN hS true 3000 ?_
 conv=>whnf
 refine br.h2 h (by rfl) ?_ ?_
 ·clear h;intro hb h;conv=>whnf
  replace h:=XaL.elim h;obtain ⟨hb,h⟩:=h
  try (refine req.intro hb ?_;conv=>whnf)
  replace h:=XbV.elim h;obtain ⟨e31,hy,h⟩:=h
  refine rd.T (j:=0) Xao hy (by first|omega|exact Nat.zero_add _|exact congrArg (·+_) (Nat.zero_add _)) (by decide) rfl ?_
  conv=>whnf
  replace h:=XbV.elim h;obtain ⟨x81,hy,h⟩:=h
  refine Xfx.a (XpQ hy) ?_
  conv=>whnf
  refine br.h h (by rfl) ?_ ?_
  ·clear h;intro hb h;conv=>whnf
   exact W
  clear h;intro hb h;conv=>whnf
  replace h:=XaL.elim h;obtain ⟨hb,h⟩:=h
  try (refine req.intro hb ?_;conv=>whnf)
  refine rd.T (i:=xj15.toNat) (x:=e31) (j:=0) Xao (by assumption) (by first|omega|exact Nat.zero_add _|exact congrArg (·+_) (Nat.zero_add _)) (by decide) rfl ?_
  conv=>whnf
  exact W
 clear h;intro hb h;conv=>whnf
 replace h:=XaL.elim h;obtain ⟨hb,h⟩:=h
 try (refine req.intro hb ?_;conv=>whnf)
 replace h:=XbV.elim h;obtain ⟨e29,hy,h⟩:=h
 refine rd.T (j:=0) Xao hy (by first|omega|exact Nat.zero_add _|exact congrArg (·+_) (Nat.zero_add _)) (by decide) rfl ?_
 conv=>whnf
 replace h:=XaL.elim h;obtain ⟨hb,h⟩:=h
 try (refine req.intro hb ?_;conv=>whnf)
 replace h:=XbV.elim h;obtain ⟨e30,hy,h⟩:=h
 refine rd.T (j:=0) Xao hy (by first|omega|exact Nat.zero_add _|exact congrArg (·+_) (Nat.zero_add _)) (by decide) rfl ?_
 conv=>whnf
 refine br.h2 h (by rfl) ?_ ?_
 ·clear h;intro hb h;conv=>whnf
  exact W
 clear h;intro hb h;conv=>whnf
 replace h:=XaL.elim h;obtain ⟨hb,h⟩:=h
 try (refine req.intro hb ?_;conv=>whnf)
 refine rd.T (i:=i7.toNat) (x:=e29) (j:=1) Xao (by assumption) (by first|omega|exact Nat.zero_add _|exact congrArg (·+_) (Nat.zero_add _)) (by decide) rfl ?_
 conv=>whnf
 refine br.h2 h (by rfl) ?_ ?_
 ·clear h;intro hb h;conv=>whnf
  exact W
 clear h;intro hb h;conv=>whnf
 replace h:=XaL.elim h;obtain ⟨hb,h⟩:=h
 try (refine req.intro hb ?_;conv=>whnf)
 refine rd.T (i:=i7.toNat) (x:=e29) (j:=1) Xao (by assumption) (by first|omega|exact Nat.zero_add _|exact congrArg (·+_) (Nat.zero_add _)) (by decide) rfl ?_
 conv=>whnf
 refine br.h2 h (by rfl) ?_ ?_
 ·clear h;intro hb h;conv=>whnf
  exact W
 clear h;intro hb h;conv=>whnf
 replace h:=XaL.elim h;obtain ⟨hb,h⟩:=h
 try (refine req.intro hb ?_;conv=>whnf)
 refine rd.T (i:=i7.toNat) (x:=e29) (j:=1) Xao (by assumption) (by first|omega|exact Nat.zero_add _|exact congrArg (·+_) (Nat.zero_add _)) (by decide) rfl ?_
 conv=>whnf
 exact W
theorem XvZ (Xah:XaC) (XaD:XaS) (Xaq:XaK) (Xac:Xaj) (Xaf:Xam) (Xad:Xai) (hS:XaB Try.prog (XaI (XgA Xah XaD Xaq Xac Xaf Xad))) {l:List Xan} {s21:Int} {s22:Int} {s23:Int} {c56:Nat} {c57:Nat} {c58:Nat} {c59:Nat} {c60:Nat} {c61:Nat} {c62:Nat} {c63:Nat} {c64:List Int} {c65:List Int} {c66:List Int} {c67:List Int} {c68:List Int} {c69:List Int} {c70:List Int} {c71:List Int} {res:Bool}:∀ {fuel} {st:Int} {o:Bool},iter (fun st=>Xb4 Xah Xac Xad l s21 s22 s23 c56 c57 c58 c59 c60 c61 c62 c63 c64 c65 c66 c67 c68 c69 c70 c71 st) fuel st=some o→(o=res) →
 XaQ Try.prog 4 1 (XoZ l s21 s22 s23 c56 c57 c58 c59 c60 c61 c62 c63 c64 c65 c66 c67 c68 c69 c70 c71 st) (fun v H _=>Res 1 (rx4 res) v H):=by
 apply Xa6
 intro xj15 o h hc
 try dsimp -zeta only at h ⊢
 unfold Xb4 at h
 have R1:=@Xm9 Xah
 have LP:=@Xve Xah XaD Xaq Xac Xaf Xad hS;have LQ:=lm [(0,0),(2,2),(3,3),(4,4),(5,5),(6,6),(7,7),(8,8),(9,9),(10,10),(11,11)]
 refine Xa3 XaN hS true 3000 ?_
 conv=>whnf
 exact W
theorem XvF (Xah:XaC) (XaD:XaS) (Xaq:XaK) (Xac:Xaj) (Xaf:Xam) (Xad:Xai) (hS:XaB Try.prog (XaI (XgA Xah XaD Xaq Xac Xaf Xad))) {l:List Xan} {res:Bool}:∀ {fuel} {st:Int×Int×Int×Int×Nat×Nat×Nat×Nat×Nat×Nat×Nat×Nat×(List Int)×(List Int)×(List Int)×(List Int)×(List Int)×(List Int)×(List Int)×(List Int)} {o:Bool},iter (fun st=>Xbn Xah Xac Xaf Xad l st.1 st.2.1 st.2.2.1 st.2.2.2.1 st.2.2.2.2.1 st.2.2.2.2.2.1 st.2.2.2.2.2.2.1 st.2.2.2.2.2.2.2.1 st.2.2.2.2.2.2.2.2.1 st.2.2.2.2.2.2.2.2.2.1 st.2.2.2.2.2.2.2.2.2.2.1 st.2.2.2.2.2.2.2.2.2.2.2.1 st.2.2.2.2.2.2.2.2.2.2.2.2.1 st.2.2.2.2.2.2.2.2.2.2.2.2.2.1 st.2.2.2.2.2.2.2.2.2.2.2.2.2.2.1 st.2.2.2.2.2.2.2.2.2.2.2.2.2.2.2.1 st.2.2.2.2.2.2.2.2.2.2.2.2.2.2.2.2.1 st.2.2.2.2.2.2.2.2.2.2.2.2.2.2.2.2.2.1 st.2.2.2.2.2.2.2.2.2.2.2.2.2.2.2.2.2.2.1 st.2.2.2.2.2.2.2.2.2.2.2.2.2.2.2.2.2.2.2) fuel st=some o→(o=res) →
 XaQ Try.prog 4 1 (Xql l st.1 st.2.1 st.2.2.1 st.2.2.2.1 st.2.2.2.2.1 st.2.2.2.2.2.1 st.2.2.2.2.2.2.1 st.2.2.2.2.2.2.2.1 st.2.2.2.2.2.2.2.2.1 st.2.2.2.2.2.2.2.2.2.1 st.2.2.2.2.2.2.2.2.2.2.1 st.2.2.2.2.2.2.2.2.2.2.2.1 st.2.2.2.2.2.2.2.2.2.2.2.2.1 st.2.2.2.2.2.2.2.2.2.2.2.2.2.1 st.2.2.2.2.2.2.2.2.2.2.2.2.2.2.1 st.2.2.2.2.2.2.2.2.2.2.2.2.2.2.2.1 st.2.2.2.2.2.2.2.2.2.2.2.2.2.2.2.2.1 st.2.2.2.2.2.2.2.2.2.2.2.2.2.2.2.2.2.1 st.2.2.2.2.2.2.2.2.2.2.2.2.2.2.2.2.2.2.1 st.2.2.2.2.2.2.2.2.2.2.2.2.2.2.2.2.2.2.2) (fun v H _=>Res 1 (rx4 res) v H):=by
 apply Xa6
 intro st o h hc
 obtain ⟨xj14,s21,s22,s23,c56,c57,c58,c59,c60,c61,c62,c63,c64,c65,c66,c67,c68,c69,c70,c71⟩:=st
 try dsimp -zeta only at h ⊢
 unfold Xbn at h
 have R1:=@Xxk Xaf
 have LM:=lm [(0,0),(2,2),(3,3),(4,23),(5,24),(6,25),(7,26),(8,27),(9,28),(10,29),(11,30)]
 have LP:=@XvZ Xah XaD Xaq Xac Xaf Xad hS;have LQ:=lm [(0,0),(2,2),(3,3),(4,4),(5,5),(6,6),(7,7),(8,8),(9,9),(10,10),(11,11)]
 refine Xa3 XaN hS true 3000 ?_
 conv=>whnf
 refine br.h2 h (by rfl) ?_ ?_
 ·clear h;intro hb h;conv=>whnf
  exact W
 clear h;intro hb h;conv=>whnf
 replace h:=XaL.elim h;obtain ⟨hb,h⟩:=h
 try (refine req.intro hb ?_;conv=>whnf)
 replace h:=XbV.elim h;obtain ⟨e28,hy,h⟩:=h
 refine rd.T (j:=0) Xao hy (by first|omega|exact Nat.zero_add _|exact congrArg (·+_) (Nat.zero_add _)) (by decide) rfl ?_
 conv=>whnf
 replace h:=XaL.elim h;obtain ⟨hb,h⟩:=h
 try (refine req.intro hb ?_;conv=>whnf)
 refine rd.T (i:=xj14.toNat) (x:=e28) (j:=1) Xao (by assumption) (by first|omega|exact Nat.zero_add _|exact congrArg (·+_) (Nat.zero_add _)) (by decide) rfl ?_
 conv=>whnf
 exact W
theorem leads4 (Xah:XaC) (XaD:XaS) (Xaq:XaK) (Xac:Xaj) (Xaf:Xam) (Xad:Xai) (hS:XaB Try.prog (XaI (XgA Xah XaD Xaq Xac Xaf Xad))) (rows:Int) (places:Int) (k:Xap) (l:List Xan) (res:Bool) (h:Xeq Xah XaD Xaq Xac Xaf Xad rows places k l=some res) :
 XaQ Try.prog 4 1 ⟨⟨4,116,[(0,.int .u8 rows),(1,.int .u8 places),(2,.agg ⟨[.int .u64 k.A,.int .u64 k.B]⟩),(3,.slice (some ⟨0,0,none⟩) l.length 2)],[.code XDs],[],false,none⟩,[],[(0,.row false (vT Xbb l))],1⟩ (fun v H _=>Res 1 (rx4 res) v H):=by
 unfold Xeq at h
 have R1:=@Xm9 Xah
 refine Xa3 XaN hS true 3000 ?_
 conv=>whnf
 replace h:=XbV.elim h;obtain ⟨f,hy,h⟩:=h
 refine Xfx.a (r8_eq hy) ?_
 conv=>whnf
 refine br.h h (by rfl) ?_ ?_
 ·clear h;intro hb h;conv=>whnf
  exact W
 clear h;intro hb h;conv=>whnf
 replace h:=XbV.elim h;obtain ⟨n,hy,h⟩:=h
 cases n
 case nil=>
  refine Xfx.a (XhD hy) ?_
  conv=>whnf
  exact W
 case v1 n1=>
  refine Xfx.a (XhD hy) ?_
  conv=>whnf
  have hl:=Xzr Xah XaD Xaq Xac Xaf Xad hS h rfl;simp only [Xsk] at hl
  exact Xuq hl [(0,0),(2,2),(3,3),(4,4)] rfl
 case v2 n3=>
  refine Xfx.a (XhD hy) ?_
  conv=>whnf
  have hl:=XyR Xah XaD Xaq Xac Xaf Xad hS h rfl;simp only [Xug] at hl
  exact Xuq hl [(0,0),(2,2),(3,3),(4,4),(5,5)] rfl
 case v3 n5=>
  refine Xfx.a (XhD hy) ?_
  conv=>whnf
  have hl:=XAA Xah XaD Xaq Xac Xaf Xad hS h rfl;simp only [Xs0] at hl
  exact Xuq hl [(0,0),(2,2),(3,3),(4,4),(5,5),(6,6)] rfl
 case v4 n7=>
  refine Xfx.a (XhD hy) ?_
  conv=>whnf
  have hl:=XwK Xah XaD Xaq Xac Xaf Xad hS h rfl;simp only [Xqf] at hl
  exact Xuq hl [(0,0),(2,2),(3,3),(4,4),(5,5),(6,6),(7,7)] rfl
 case v5 n9=>
  refine Xfx.a (XhD hy) ?_
  conv=>whnf
  have hl:=Xxe Xah XaD Xaq Xac Xaf Xad hS h rfl;simp only [Xo3] at hl
  exact Xuq hl [(0,0),(2,2),(3,3),(4,4),(5,5),(6,6),(7,7),(8,8)] rfl
 case v6 n11=>
  refine Xfx.a (XhD hy) ?_
  conv=>whnf
  have hl:=Xvy Xah XaD Xaq Xac Xaf Xad hS h rfl;simp only [Xpa] at hl
  exact Xuq hl [(0,0),(2,2),(3,3),(4,4),(5,5),(6,6),(7,7),(8,8),(9,9)] rfl
 case v7 n13=>
  refine Xfx.a (XhD hy) ?_
  conv=>whnf
  have hl:=XwL Xah XaD Xaq Xac Xaf Xad hS h rfl;simp only [Xqg] at hl
  exact Xuq hl [(0,0),(2,2),(3,3),(4,4),(5,5),(6,6),(7,7),(8,8),(9,9),(10,10)] rfl
 case v8 n15=>
  refine Xfx.a (XhD hy) ?_
  conv=>whnf
  have hl:=XvF Xah XaD Xaq Xac Xaf Xad hS h rfl;simp only [Xql] at hl
  exact Xuq hl [(0,0),(2,2),(3,3),(4,4),(5,5),(6,6),(7,7),(8,8),(9,9),(10,10),(11,11)] rfl
def Xg2:Xfr:=Xeq Xah XaD Xaq Xac Xaf Xad
end Go.Vm.Code
namespace Go.Vm.Code
open Go Go.Vm
set_option maxHeartbeats 4000000
theorem Xg4 {α:Type} {Q:Prop} [Decidable Q] (hQ:Q) (e:Xan) (t:List UInt8) {a b:Option α}:(cond (e.Text==t) (XaL (decide Q)<|cond (decide (e.N≥0)) (XaL (decide Q)<|cond (decide (e.N≤1048576)) (XaL (decide Q)<|a) b) b) b)=if (e.Text==t&&Xja e)=true then a else b:=by
 unfold Xja
 cases e.Text==t
 ·rfl
 rw [cond_true,XaH hQ,Bool.true_and]
 by_cases h1:e.N≥0
 ·rw [XbS h1,XaH hQ]
  by_cases h2:e.N≤1048576
  ·rw [XbS h2,XaH hQ,decide_eq_true ⟨h1,h2⟩];rfl
  ·rw [XaW h2,decide_eq_false (fun h=>h2 h.2)];rfl
 ·rw [XaW h1,decide_eq_false (fun h=>h1 h.1)];rfl
theorem Xh0 {k:Xap} {p:Nat} (hp:1≤p) {l:List Xan} (h30:l.length≤30) (t:List UInt8) {n:Nat} (hn:1≤n):eqS t l≤XkX k p (SK k p l) t n∧XkX k p (SK k p l) t n≤(SK k p l).tot:=by
 have h:=Xhj t l
 have hc:cap (eqS t l)=eqS t l:=by unfold cap;rw [if_pos (by omega)]
 have:=Xlg (k:=k) (p:=p) (x:=SK k p l) (t:=t) (m:=eqS t l) (M:=(SK k p l).tot) (by omega) (fun i=>by have:=XsO hp k l t i;rw [hc] at this;exact this) n
 exact ⟨this.1,this.2 hn⟩
theorem XCz {k:Xap} {p:Nat} (hp:1≤p∧p≤4096) {l:List Xan} (h30:l.length≤30) (hl:∀ e∈l,e.Text.length≤20) {j:Nat} (hj:j<l.length):iter (fun st=>XbC Xac Xad l k.A k.B (SK k p l).tot p ((SK k p l).R 0) (j:Int) st.1 st.2) FUEL (0,0)=some (.inl ((j+1:Nat):Int)):=by
 refine Xcr (fun i=>(eqS (l[j]).Text (l.take i),(i:Int))) _ l.length (fun i hi=>?_) ?_ (by rw [XcD];omega)
 ·show XbC Xac Xad l k.A k.B (SK k p l).tot p ((SK k p l).R 0) (j:Int) (eqS (l[j]).Text (l.take i)) (i:Int)=_
  unfold XbC
  have hr:=Xhj (l[j]).Text (l.take i)
  rw [List.length_take] at hr
  rw [XbS (by omega),XaH (by omega),Int.toNat_natCast,List.getElem?_eq_getElem hi,Option.bind_some,XaH (by omega),Int.toNat_natCast,List.getElem?_eq_getElem hj,Option.bind_some,Xg4 (by omega),XgU _ hi,Xey (n:=(i:Int)+1) (by omega) (by omega)]
  split
  ·rename_i hm
   have hN:0≤(l[i]).N∧(l[i]).N≤1048576:=of_decide_eq_true (Bool.and_eq_true _ _▸hm).2
   rw [Xey (by omega) (by omega)];rfl
  ·rfl
 ·show XbC Xac Xad l k.A k.B (SK k p l).tot p ((SK k p l).R 0) (j:Int) (eqS (l[j]).Text (l.take l.length)) (l.length:Int)=_
  unfold XbC
  have hb:=Xh0 hp.1 h30 (k:=k) (l[j]).Text (n:=1) (by decide)
  have hg:Xac.v1 ⟨⟨k.A,k.B⟩,⟨(SK k p l).R 0,p⟩,(SK k p l).tot⟩ (l[j]).Text=some (XkX k p (SK k p l) (l[j]).Text 1):=Xr9 hp (XgR.SK k p l) (hl _ (List.getElem_mem hj))
  rw [List.take_length,XaW (by omega),XaH (by omega),Int.toNat_natCast,List.getElem?_eq_getElem hj,Option.bind_some,hg,Option.bind_some,XaW (by omega),XaH (by omega),Option.bind_some,show Xad.v1 ⟨⟨k.A,k.B⟩,⟨(SK k p l).R 0,p⟩,(SK k p l).tot⟩=some (SK k p l).tot from rfl,Option.bind_some,XaW (by omega),Xey (by omega) (by omega)];rfl
theorem XBU {k:Xap} {p:Nat} (hp:1≤p∧p≤4096) {l:List Xan} (h30:l.length≤30) (hl:∀ e∈l,e.Text.length≤20):iter (fun st=>Xcn Xah Xac Xad l k.A k.B (SK k p l).tot p ((SK k p l).R 0) st) FUEL 0=some true:=by
 refine Xcr (fun j=>(j:Int)) _ l.length (fun j hj=>?_) ?_ (by rw [XcD];omega)
 ·unfold Xcn
  rw [XbS (by omega),XCz hp h30 hl hj]
 ·unfold Xcn
  rw [XaW (by omega),Xhr];rfl
theorem lawB1 {k:Xap} {p:Nat} (hp:1≤p∧p≤4096) {l:List Xan} (h30:l.length≤30) (hl:∀ e∈l,e.Text.length≤20):iter (fun st=>Xbz Xah Xac Xaf Xad l st.1 st.2.1 st.2.2.1 st.2.2.2.1 st.2.2.2.2.1 st.2.2.2.2.2) FUEL (0,k.A,k.B,(newS p).tot,p,(newS p).R 0)=some true:=by
 refine Xcr (fun j=>((j:Int),k.A,k.B,(SK k p (l.take j)).tot,p,(SK k p (l.take j)).R 0)) _ l.length (fun j hj=>?_) ?_ (by rw [XcD];omega)
 ·show Xbz Xah Xac Xaf Xad l (j:Int) k.A k.B (SK k p (l.take j)).tot p ((SK k p (l.take j)).R 0)=_
  unfold Xbz
  have hp1:Xaf.v1 ⟨⟨k.A,k.B⟩,⟨(SK k p (l.take j)).R 0,p⟩,(SK k p (l.take j)).tot⟩ (l[j]).Text (l[j]).N=some (Xja l[j],XxA k p (stepS k p (SK k p (l.take j)) l[j])):=Xzo hp (XgR.SK k p _) (hl _ (List.getElem_mem hj))
  rw [XbS (by omega),XaH (by omega),Int.toNat_natCast,List.getElem?_eq_getElem hj,Option.bind_some,XaH (by omega),hp1,Option.bind_some,←Xid _ _ hj,Xey (by omega) (by omega)];rfl
 ·show Xbz Xah Xac Xaf Xad l (l.length:Int) k.A k.B (SK k p (l.take l.length)).tot p ((SK k p (l.take l.length)).R 0)=_
  unfold Xbz
  rw [XaW (by omega),List.take_length,XBU hp h30 hl];rfl
theorem XCH {k:Xap} {p:Nat} (hp:1≤p∧p≤4096) {l:List Xan} (h30:l.length≤30) (hl:∀ e∈l,e.Text.length≤20) {j:Nat} (hj:j<l.length):iter (fun st=>XbB Xac Xad l k.A k.B (SK k p l).tot p p ((SK k p l).R 0) ((SK k p l).R 1) (j:Int) st.1 st.2) FUEL (0,0)=some (.inl ((j+1:Nat):Int)):=by
 refine Xcr (fun i=>(eqS (l[j]).Text (l.take i),(i:Int))) _ l.length (fun i hi=>?_) ?_ (by rw [XcD];omega)
 ·show XbB Xac Xad l k.A k.B (SK k p l).tot p p ((SK k p l).R 0) ((SK k p l).R 1) (j:Int) (eqS (l[j]).Text (l.take i)) (i:Int)=_
  unfold XbB
  have hr:=Xhj (l[j]).Text (l.take i)
  rw [List.length_take] at hr
  rw [XbS (by omega),XaH (by omega),Int.toNat_natCast,List.getElem?_eq_getElem hi,Option.bind_some,XaH (by omega),Int.toNat_natCast,List.getElem?_eq_getElem hj,Option.bind_some,Xg4 (by omega),XgU _ hi,Xey (n:=(i:Int)+1) (by omega) (by omega)]
  split
  ·rename_i hm
   have hN:0≤(l[i]).N∧(l[i]).N≤1048576:=of_decide_eq_true (Bool.and_eq_true _ _▸hm).2
   rw [Xey (by omega) (by omega)];rfl
  ·rfl
 ·show XbB Xac Xad l k.A k.B (SK k p l).tot p p ((SK k p l).R 0) ((SK k p l).R 1) (j:Int) (eqS (l[j]).Text (l.take l.length)) (l.length:Int)=_
  unfold XbB
  have hb:=Xh0 hp.1 h30 (k:=k) (l[j]).Text (n:=2) (by decide)
  have hg:Xac.v2 ⟨⟨k.A,k.B⟩,⟨(SK k p l).R 0,(SK k p l).R 1,p,p⟩,(SK k p l).tot⟩ (l[j]).Text=some (XkX k p (SK k p l) (l[j]).Text 2):=XrT hp (XgR.SK k p l) (hl _ (List.getElem_mem hj))
  rw [List.take_length,XaW (by omega),XaH (by omega),Int.toNat_natCast,List.getElem?_eq_getElem hj,Option.bind_some,hg,Option.bind_some,XaW (by omega),XaH (by omega),Option.bind_some,show Xad.v2 ⟨⟨k.A,k.B⟩,⟨(SK k p l).R 0,(SK k p l).R 1,p,p⟩,(SK k p l).tot⟩=some (SK k p l).tot from rfl,Option.bind_some,XaW (by omega),Xey (by omega) (by omega)];rfl
theorem XDc {k:Xap} {p:Nat} (hp:1≤p∧p≤4096) {l:List Xan} (h30:l.length≤30) (hl:∀ e∈l,e.Text.length≤20):iter (fun st=>Xco Xah Xac Xad l k.A k.B (SK k p l).tot p p ((SK k p l).R 0) ((SK k p l).R 1) st) FUEL 0=some true:=by
 refine Xcr (fun j=>(j:Int)) _ l.length (fun j hj=>?_) ?_ (by rw [XcD];omega)
 ·unfold Xco
  rw [XbS (by omega),XCH hp h30 hl hj]
 ·unfold Xco
  rw [XaW (by omega),Xhr];rfl
theorem lawB2 {k:Xap} {p:Nat} (hp:1≤p∧p≤4096) {l:List Xan} (h30:l.length≤30) (hl:∀ e∈l,e.Text.length≤20):iter (fun st=>Xby Xah Xac Xaf Xad l st.1 st.2.1 st.2.2.1 st.2.2.2.1 st.2.2.2.2.1 st.2.2.2.2.2.1 st.2.2.2.2.2.2.1 st.2.2.2.2.2.2.2) FUEL (0,k.A,k.B,(newS p).tot,p,p,(newS p).R 0,(newS p).R 1)=some true:=by
 refine Xcr (fun j=>((j:Int),k.A,k.B,(SK k p (l.take j)).tot,p,p,(SK k p (l.take j)).R 0,(SK k p (l.take j)).R 1)) _ l.length (fun j hj=>?_) ?_ (by rw [XcD];omega)
 ·show Xby Xah Xac Xaf Xad l (j:Int) k.A k.B (SK k p (l.take j)).tot p p ((SK k p (l.take j)).R 0) ((SK k p (l.take j)).R 1)=_
  unfold Xby
  have hp1:Xaf.v2 ⟨⟨k.A,k.B⟩,⟨(SK k p (l.take j)).R 0,(SK k p (l.take j)).R 1,p,p⟩,(SK k p (l.take j)).tot⟩ (l[j]).Text (l[j]).N=some (Xja l[j],XxM k p (stepS k p (SK k p (l.take j)) l[j])):=XyH hp (XgR.SK k p _) (hl _ (List.getElem_mem hj))
  rw [XbS (by omega),XaH (by omega),Int.toNat_natCast,List.getElem?_eq_getElem hj,Option.bind_some,XaH (by omega),hp1,Option.bind_some,←Xid _ _ hj,Xey (by omega) (by omega)];rfl
 ·show Xby Xah Xac Xaf Xad l (l.length:Int) k.A k.B (SK k p (l.take l.length)).tot p p ((SK k p (l.take l.length)).R 0) ((SK k p (l.take l.length)).R 1)=_
  unfold Xby
  rw [XaW (by omega),List.take_length,XDc hp h30 hl];rfl
theorem XBV {k:Xap} {p:Nat} (hp:1≤p∧p≤4096) {l:List Xan} (h30:l.length≤30) (hl:∀ e∈l,e.Text.length≤20) {j:Nat} (hj:j<l.length):iter (fun st=>XbD Xac Xad l k.A k.B (SK k p l).tot p p p ((SK k p l).R 0) ((SK k p l).R 1) ((SK k p l).R 2) (j:Int) st.1 st.2) FUEL (0,0)=some (.inl ((j+1:Nat):Int)):=by
 refine Xcr (fun i=>(eqS (l[j]).Text (l.take i),(i:Int))) _ l.length (fun i hi=>?_) ?_ (by rw [XcD];omega)
 ·show XbD Xac Xad l k.A k.B (SK k p l).tot p p p ((SK k p l).R 0) ((SK k p l).R 1) ((SK k p l).R 2) (j:Int) (eqS (l[j]).Text (l.take i)) (i:Int)=_
  unfold XbD
  have hr:=Xhj (l[j]).Text (l.take i)
  rw [List.length_take] at hr
  rw [XbS (by omega),XaH (by omega),Int.toNat_natCast,List.getElem?_eq_getElem hi,Option.bind_some,XaH (by omega),Int.toNat_natCast,List.getElem?_eq_getElem hj,Option.bind_some,Xg4 (by omega),XgU _ hi,Xey (n:=(i:Int)+1) (by omega) (by omega)]
  split
  ·rename_i hm
   have hN:0≤(l[i]).N∧(l[i]).N≤1048576:=of_decide_eq_true (Bool.and_eq_true _ _▸hm).2
   rw [Xey (by omega) (by omega)];rfl
  ·rfl
 ·show XbD Xac Xad l k.A k.B (SK k p l).tot p p p ((SK k p l).R 0) ((SK k p l).R 1) ((SK k p l).R 2) (j:Int) (eqS (l[j]).Text (l.take l.length)) (l.length:Int)=_
  unfold XbD
  have hb:=Xh0 hp.1 h30 (k:=k) (l[j]).Text (n:=3) (by decide)
  have hg:Xac.v3 ⟨⟨k.A,k.B⟩,⟨(SK k p l).R 0,(SK k p l).R 1,(SK k p l).R 2,p,p,p⟩,(SK k p l).tot⟩ (l[j]).Text=some (XkX k p (SK k p l) (l[j]).Text 3):=XsM hp (XgR.SK k p l) (hl _ (List.getElem_mem hj))
  rw [List.take_length,XaW (by omega),XaH (by omega),Int.toNat_natCast,List.getElem?_eq_getElem hj,Option.bind_some,hg,Option.bind_some,XaW (by omega),XaH (by omega),Option.bind_some,show Xad.v3 ⟨⟨k.A,k.B⟩,⟨(SK k p l).R 0,(SK k p l).R 1,(SK k p l).R 2,p,p,p⟩,(SK k p l).tot⟩=some (SK k p l).tot from rfl,Option.bind_some,XaW (by omega),Xey (by omega) (by omega)];rfl
theorem XCW {k:Xap} {p:Nat} (hp:1≤p∧p≤4096) {l:List Xan} (h30:l.length≤30) (hl:∀ e∈l,e.Text.length≤20):iter (fun st=>Xcq Xah Xac Xad l k.A k.B (SK k p l).tot p p p ((SK k p l).R 0) ((SK k p l).R 1) ((SK k p l).R 2) st) FUEL 0=some true:=by
 refine Xcr (fun j=>(j:Int)) _ l.length (fun j hj=>?_) ?_ (by rw [XcD];omega)
 ·unfold Xcq
  rw [XbS (by omega),XBV hp h30 hl hj]
 ·unfold Xcq
  rw [XaW (by omega),Xhr];rfl
theorem lawB3 {k:Xap} {p:Nat} (hp:1≤p∧p≤4096) {l:List Xan} (h30:l.length≤30) (hl:∀ e∈l,e.Text.length≤20):iter (fun st=>XbA Xah Xac Xaf Xad l st.1 st.2.1 st.2.2.1 st.2.2.2.1 st.2.2.2.2.1 st.2.2.2.2.2.1 st.2.2.2.2.2.2.1 st.2.2.2.2.2.2.2.1 st.2.2.2.2.2.2.2.2.1 st.2.2.2.2.2.2.2.2.2) FUEL (0,k.A,k.B,(newS p).tot,p,p,p,(newS p).R 0,(newS p).R 1,(newS p).R 2)=some true:=by
 refine Xcr (fun j=>((j:Int),k.A,k.B,(SK k p (l.take j)).tot,p,p,p,(SK k p (l.take j)).R 0,(SK k p (l.take j)).R 1,(SK k p (l.take j)).R 2)) _ l.length (fun j hj=>?_) ?_ (by rw [XcD];omega)
 ·show XbA Xah Xac Xaf Xad l (j:Int) k.A k.B (SK k p (l.take j)).tot p p p ((SK k p (l.take j)).R 0) ((SK k p (l.take j)).R 1) ((SK k p (l.take j)).R 2)=_
  unfold XbA
  have hp1:Xaf.v3 ⟨⟨k.A,k.B⟩,⟨(SK k p (l.take j)).R 0,(SK k p (l.take j)).R 1,(SK k p (l.take j)).R 2,p,p,p⟩,(SK k p (l.take j)).tot⟩ (l[j]).Text (l[j]).N=some (Xja l[j],XxY k p (stepS k p (SK k p (l.take j)) l[j])):=Xz8 hp (XgR.SK k p _) (hl _ (List.getElem_mem hj))
  rw [XbS (by omega),XaH (by omega),Int.toNat_natCast,List.getElem?_eq_getElem hj,Option.bind_some,XaH (by omega),hp1,Option.bind_some,←Xid _ _ hj,Xey (by omega) (by omega)];rfl
 ·show XbA Xah Xac Xaf Xad l (l.length:Int) k.A k.B (SK k p (l.take l.length)).tot p p p ((SK k p (l.take l.length)).R 0) ((SK k p (l.take l.length)).R 1) ((SK k p (l.take l.length)).R 2)=_
  unfold XbA
  rw [XaW (by omega),List.take_length,XCW hp h30 hl];rfl
theorem XDo {k:Xap} {p:Nat} (hp:1≤p∧p≤4096) {l:List Xan} (h30:l.length≤30) (hl:∀ e∈l,e.Text.length≤20) {j:Nat} (hj:j<l.length):iter (fun st=>Xbo Xac Xad l k.A k.B (SK k p l).tot p p p p ((SK k p l).R 0) ((SK k p l).R 1) ((SK k p l).R 2) ((SK k p l).R 3) (j:Int) st.1 st.2) FUEL (0,0)=some (.inl ((j+1:Nat):Int)):=by
 refine Xcr (fun i=>(eqS (l[j]).Text (l.take i),(i:Int))) _ l.length (fun i hi=>?_) ?_ (by rw [XcD];omega)
 ·show Xbo Xac Xad l k.A k.B (SK k p l).tot p p p p ((SK k p l).R 0) ((SK k p l).R 1) ((SK k p l).R 2) ((SK k p l).R 3) (j:Int) (eqS (l[j]).Text (l.take i)) (i:Int)=_
  unfold Xbo
  have hr:=Xhj (l[j]).Text (l.take i)
  rw [List.length_take] at hr
  rw [XbS (by omega),XaH (by omega),Int.toNat_natCast,List.getElem?_eq_getElem hi,Option.bind_some,XaH (by omega),Int.toNat_natCast,List.getElem?_eq_getElem hj,Option.bind_some,Xg4 (by omega),XgU _ hi,Xey (n:=(i:Int)+1) (by omega) (by omega)]
  split
  ·rename_i hm
   have hN:0≤(l[i]).N∧(l[i]).N≤1048576:=of_decide_eq_true (Bool.and_eq_true _ _▸hm).2
   rw [Xey (by omega) (by omega)];rfl
  ·rfl
 ·show Xbo Xac Xad l k.A k.B (SK k p l).tot p p p p ((SK k p l).R 0) ((SK k p l).R 1) ((SK k p l).R 2) ((SK k p l).R 3) (j:Int) (eqS (l[j]).Text (l.take l.length)) (l.length:Int)=_
  unfold Xbo
  have hb:=Xh0 hp.1 h30 (k:=k) (l[j]).Text (n:=4) (by decide)
  have hg:Xac.v4 ⟨⟨k.A,k.B⟩,⟨(SK k p l).R 0,(SK k p l).R 1,(SK k p l).R 2,(SK k p l).R 3,p,p,p,p⟩,(SK k p l).tot⟩ (l[j]).Text=some (XkX k p (SK k p l) (l[j]).Text 4):=Xuf hp (XgR.SK k p l) (hl _ (List.getElem_mem hj))
  rw [List.take_length,XaW (by omega),XaH (by omega),Int.toNat_natCast,List.getElem?_eq_getElem hj,Option.bind_some,hg,Option.bind_some,XaW (by omega),XaH (by omega),Option.bind_some,show Xad.v4 ⟨⟨k.A,k.B⟩,⟨(SK k p l).R 0,(SK k p l).R 1,(SK k p l).R 2,(SK k p l).R 3,p,p,p,p⟩,(SK k p l).tot⟩=some (SK k p l).tot from rfl,Option.bind_some,XaW (by omega),Xey (by omega) (by omega)];rfl
theorem XCx {k:Xap} {p:Nat} (hp:1≤p∧p≤4096) {l:List Xan} (h30:l.length≤30) (hl:∀ e∈l,e.Text.length≤20):iter (fun st=>Xb8 Xah Xac Xad l k.A k.B (SK k p l).tot p p p p ((SK k p l).R 0) ((SK k p l).R 1) ((SK k p l).R 2) ((SK k p l).R 3) st) FUEL 0=some true:=by
 refine Xcr (fun j=>(j:Int)) _ l.length (fun j hj=>?_) ?_ (by rw [XcD];omega)
 ·unfold Xb8
  rw [XbS (by omega),XDo hp h30 hl hj]
 ·unfold Xb8
  rw [XaW (by omega),Xhr];rfl
theorem lawB4 {k:Xap} {p:Nat} (hp:1≤p∧p≤4096) {l:List Xan} (h30:l.length≤30) (hl:∀ e∈l,e.Text.length≤20):iter (fun st=>Xbs Xah Xac Xaf Xad l st.1 st.2.1 st.2.2.1 st.2.2.2.1 st.2.2.2.2.1 st.2.2.2.2.2.1 st.2.2.2.2.2.2.1 st.2.2.2.2.2.2.2.1 st.2.2.2.2.2.2.2.2.1 st.2.2.2.2.2.2.2.2.2.1 st.2.2.2.2.2.2.2.2.2.2.1 st.2.2.2.2.2.2.2.2.2.2.2) FUEL (0,k.A,k.B,(newS p).tot,p,p,p,p,(newS p).R 0,(newS p).R 1,(newS p).R 2,(newS p).R 3)=some true:=by
 refine Xcr (fun j=>((j:Int),k.A,k.B,(SK k p (l.take j)).tot,p,p,p,p,(SK k p (l.take j)).R 0,(SK k p (l.take j)).R 1,(SK k p (l.take j)).R 2,(SK k p (l.take j)).R 3)) _ l.length (fun j hj=>?_) ?_ (by rw [XcD];omega)
 ·show Xbs Xah Xac Xaf Xad l (j:Int) k.A k.B (SK k p (l.take j)).tot p p p p ((SK k p (l.take j)).R 0) ((SK k p (l.take j)).R 1) ((SK k p (l.take j)).R 2) ((SK k p (l.take j)).R 3)=_
  unfold Xbs
  have hp1:Xaf.v4 ⟨⟨k.A,k.B⟩,⟨(SK k p (l.take j)).R 0,(SK k p (l.take j)).R 1,(SK k p (l.take j)).R 2,(SK k p (l.take j)).R 3,p,p,p,p⟩,(SK k p (l.take j)).tot⟩ (l[j]).Text (l[j]).N=some (Xja l[j],Xxo k p (stepS k p (SK k p (l.take j)) l[j])):=Xyx hp (XgR.SK k p _) (hl _ (List.getElem_mem hj))
  rw [XbS (by omega),XaH (by omega),Int.toNat_natCast,List.getElem?_eq_getElem hj,Option.bind_some,XaH (by omega),hp1,Option.bind_some,←Xid _ _ hj,Xey (by omega) (by omega)];rfl
 ·show Xbs Xah Xac Xaf Xad l (l.length:Int) k.A k.B (SK k p (l.take l.length)).tot p p p p ((SK k p (l.take l.length)).R 0) ((SK k p (l.take l.length)).R 1) ((SK k p (l.take l.length)).R 2) ((SK k p (l.take l.length)).R 3)=_
  unfold Xbs
  rw [XaW (by omega),List.take_length,XCx hp h30 hl];rfl
theorem XBm {k:Xap} {p:Nat} (hp:1≤p∧p≤4096) {l:List Xan} (h30:l.length≤30) (hl:∀ e∈l,e.Text.length≤20) {j:Nat} (hj:j<l.length):iter (fun st=>Xbq Xac Xad l k.A k.B (SK k p l).tot p p p p p ((SK k p l).R 0) ((SK k p l).R 1) ((SK k p l).R 2) ((SK k p l).R 3) ((SK k p l).R 4) (j:Int) st.1 st.2) FUEL (0,0)=some (.inl ((j+1:Nat):Int)):=by
 refine Xcr (fun i=>(eqS (l[j]).Text (l.take i),(i:Int))) _ l.length (fun i hi=>?_) ?_ (by rw [XcD];omega)
 ·show Xbq Xac Xad l k.A k.B (SK k p l).tot p p p p p ((SK k p l).R 0) ((SK k p l).R 1) ((SK k p l).R 2) ((SK k p l).R 3) ((SK k p l).R 4) (j:Int) (eqS (l[j]).Text (l.take i)) (i:Int)=_
  unfold Xbq
  have hr:=Xhj (l[j]).Text (l.take i)
  rw [List.length_take] at hr
  rw [XbS (by omega),XaH (by omega),Int.toNat_natCast,List.getElem?_eq_getElem hi,Option.bind_some,XaH (by omega),Int.toNat_natCast,List.getElem?_eq_getElem hj,Option.bind_some,Xg4 (by omega),XgU _ hi,Xey (n:=(i:Int)+1) (by omega) (by omega)]
  split
  ·rename_i hm
   have hN:0≤(l[i]).N∧(l[i]).N≤1048576:=of_decide_eq_true (Bool.and_eq_true _ _▸hm).2
   rw [Xey (by omega) (by omega)];rfl
  ·rfl
 ·show Xbq Xac Xad l k.A k.B (SK k p l).tot p p p p p ((SK k p l).R 0) ((SK k p l).R 1) ((SK k p l).R 2) ((SK k p l).R 3) ((SK k p l).R 4) (j:Int) (eqS (l[j]).Text (l.take l.length)) (l.length:Int)=_
  unfold Xbq
  have hb:=Xh0 hp.1 h30 (k:=k) (l[j]).Text (n:=5) (by decide)
  have hg:Xac.v5 ⟨⟨k.A,k.B⟩,⟨(SK k p l).R 0,(SK k p l).R 1,(SK k p l).R 2,(SK k p l).R 3,(SK k p l).R 4,p,p,p,p,p⟩,(SK k p l).tot⟩ (l[j]).Text=some (XkX k p (SK k p l) (l[j]).Text 5):=Xrv hp (XgR.SK k p l) (hl _ (List.getElem_mem hj))
  rw [List.take_length,XaW (by omega),XaH (by omega),Int.toNat_natCast,List.getElem?_eq_getElem hj,Option.bind_some,hg,Option.bind_some,XaW (by omega),XaH (by omega),Option.bind_some,show Xad.v5 ⟨⟨k.A,k.B⟩,⟨(SK k p l).R 0,(SK k p l).R 1,(SK k p l).R 2,(SK k p l).R 3,(SK k p l).R 4,p,p,p,p,p⟩,(SK k p l).tot⟩=some (SK k p l).tot from rfl,Option.bind_some,XaW (by omega),Xey (by omega) (by omega)];rfl
theorem XCQ {k:Xap} {p:Nat} (hp:1≤p∧p≤4096) {l:List Xan} (h30:l.length≤30) (hl:∀ e∈l,e.Text.length≤20):iter (fun st=>Xb7 Xah Xac Xad l k.A k.B (SK k p l).tot p p p p p ((SK k p l).R 0) ((SK k p l).R 1) ((SK k p l).R 2) ((SK k p l).R 3) ((SK k p l).R 4) st) FUEL 0=some true:=by
 refine Xcr (fun j=>(j:Int)) _ l.length (fun j hj=>?_) ?_ (by rw [XcD];omega)
 ·unfold Xb7
  rw [XbS (by omega),XBm hp h30 hl hj]
 ·unfold Xb7
  rw [XaW (by omega),Xhr];rfl
theorem lawB5 {k:Xap} {p:Nat} (hp:1≤p∧p≤4096) {l:List Xan} (h30:l.length≤30) (hl:∀ e∈l,e.Text.length≤20):iter (fun st=>Xbp Xah Xac Xaf Xad l st.1 st.2.1 st.2.2.1 st.2.2.2.1 st.2.2.2.2.1 st.2.2.2.2.2.1 st.2.2.2.2.2.2.1 st.2.2.2.2.2.2.2.1 st.2.2.2.2.2.2.2.2.1 st.2.2.2.2.2.2.2.2.2.1 st.2.2.2.2.2.2.2.2.2.2.1 st.2.2.2.2.2.2.2.2.2.2.2.1 st.2.2.2.2.2.2.2.2.2.2.2.2.1 st.2.2.2.2.2.2.2.2.2.2.2.2.2) FUEL (0,k.A,k.B,(newS p).tot,p,p,p,p,p,(newS p).R 0,(newS p).R 1,(newS p).R 2,(newS p).R 3,(newS p).R 4)=some true:=by
 refine Xcr (fun j=>((j:Int),k.A,k.B,(SK k p (l.take j)).tot,p,p,p,p,p,(SK k p (l.take j)).R 0,(SK k p (l.take j)).R 1,(SK k p (l.take j)).R 2,(SK k p (l.take j)).R 3,(SK k p (l.take j)).R 4)) _ l.length (fun j hj=>?_) ?_ (by rw [XcD];omega)
 ·show Xbp Xah Xac Xaf Xad l (j:Int) k.A k.B (SK k p (l.take j)).tot p p p p p ((SK k p (l.take j)).R 0) ((SK k p (l.take j)).R 1) ((SK k p (l.take j)).R 2) ((SK k p (l.take j)).R 3) ((SK k p (l.take j)).R 4)=_
  unfold Xbp
  have hp1:Xaf.v5 ⟨⟨k.A,k.B⟩,⟨(SK k p (l.take j)).R 0,(SK k p (l.take j)).R 1,(SK k p (l.take j)).R 2,(SK k p (l.take j)).R 3,(SK k p (l.take j)).R 4,p,p,p,p,p⟩,(SK k p (l.take j)).tot⟩ (l[j]).Text (l[j]).N=some (Xja l[j],Xxn k p (stepS k p (SK k p (l.take j)) l[j])):=XyE hp (XgR.SK k p _) (hl _ (List.getElem_mem hj))
  rw [XbS (by omega),XaH (by omega),Int.toNat_natCast,List.getElem?_eq_getElem hj,Option.bind_some,XaH (by omega),hp1,Option.bind_some,←Xid _ _ hj,Xey (by omega) (by omega)];rfl
 ·show Xbp Xah Xac Xaf Xad l (l.length:Int) k.A k.B (SK k p (l.take l.length)).tot p p p p p ((SK k p (l.take l.length)).R 0) ((SK k p (l.take l.length)).R 1) ((SK k p (l.take l.length)).R 2) ((SK k p (l.take l.length)).R 3) ((SK k p (l.take l.length)).R 4)=_
  unfold Xbp
  rw [XaW (by omega),List.take_length,XCQ hp h30 hl];rfl
theorem XCk {k:Xap} {p:Nat} (hp:1≤p∧p≤4096) {l:List Xan} (h30:l.length≤30) (hl:∀ e∈l,e.Text.length≤20) {j:Nat} (hj:j<l.length):iter (fun st=>Xbl Xac Xad l k.A k.B (SK k p l).tot p p p p p p ((SK k p l).R 0) ((SK k p l).R 1) ((SK k p l).R 2) ((SK k p l).R 3) ((SK k p l).R 4) ((SK k p l).R 5) (j:Int) st.1 st.2) FUEL (0,0)=some (.inl ((j+1:Nat):Int)):=by
 refine Xcr (fun i=>(eqS (l[j]).Text (l.take i),(i:Int))) _ l.length (fun i hi=>?_) ?_ (by rw [XcD];omega)
 ·show Xbl Xac Xad l k.A k.B (SK k p l).tot p p p p p p ((SK k p l).R 0) ((SK k p l).R 1) ((SK k p l).R 2) ((SK k p l).R 3) ((SK k p l).R 4) ((SK k p l).R 5) (j:Int) (eqS (l[j]).Text (l.take i)) (i:Int)=_
  unfold Xbl
  have hr:=Xhj (l[j]).Text (l.take i)
  rw [List.length_take] at hr
  rw [XbS (by omega),XaH (by omega),Int.toNat_natCast,List.getElem?_eq_getElem hi,Option.bind_some,XaH (by omega),Int.toNat_natCast,List.getElem?_eq_getElem hj,Option.bind_some,Xg4 (by omega),XgU _ hi,Xey (n:=(i:Int)+1) (by omega) (by omega)]
  split
  ·rename_i hm
   have hN:0≤(l[i]).N∧(l[i]).N≤1048576:=of_decide_eq_true (Bool.and_eq_true _ _▸hm).2
   rw [Xey (by omega) (by omega)];rfl
  ·rfl
 ·show Xbl Xac Xad l k.A k.B (SK k p l).tot p p p p p p ((SK k p l).R 0) ((SK k p l).R 1) ((SK k p l).R 2) ((SK k p l).R 3) ((SK k p l).R 4) ((SK k p l).R 5) (j:Int) (eqS (l[j]).Text (l.take l.length)) (l.length:Int)=_
  unfold Xbl
  have hb:=Xh0 hp.1 h30 (k:=k) (l[j]).Text (n:=6) (by decide)
  have hg:Xac.v6 ⟨⟨k.A,k.B⟩,⟨(SK k p l).R 0,(SK k p l).R 1,(SK k p l).R 2,(SK k p l).R 3,(SK k p l).R 4,(SK k p l).R 5,p,p,p,p,p,p⟩,(SK k p l).tot⟩ (l[j]).Text=some (XkX k p (SK k p l) (l[j]).Text 6):=Xrt hp (XgR.SK k p l) (hl _ (List.getElem_mem hj))
  rw [List.take_length,XaW (by omega),XaH (by omega),Int.toNat_natCast,List.getElem?_eq_getElem hj,Option.bind_some,hg,Option.bind_some,XaW (by omega),XaH (by omega),Option.bind_some,show Xad.v6 ⟨⟨k.A,k.B⟩,⟨(SK k p l).R 0,(SK k p l).R 1,(SK k p l).R 2,(SK k p l).R 3,(SK k p l).R 4,(SK k p l).R 5,p,p,p,p,p,p⟩,(SK k p l).tot⟩=some (SK k p l).tot from rfl,Option.bind_some,XaW (by omega),Xey (by omega) (by omega)];rfl
theorem XDw {k:Xap} {p:Nat} (hp:1≤p∧p≤4096) {l:List Xan} (h30:l.length≤30) (hl:∀ e∈l,e.Text.length≤20):iter (fun st=>Xb6 Xah Xac Xad l k.A k.B (SK k p l).tot p p p p p p ((SK k p l).R 0) ((SK k p l).R 1) ((SK k p l).R 2) ((SK k p l).R 3) ((SK k p l).R 4) ((SK k p l).R 5) st) FUEL 0=some true:=by
 refine Xcr (fun j=>(j:Int)) _ l.length (fun j hj=>?_) ?_ (by rw [XcD];omega)
 ·unfold Xb6
  rw [XbS (by omega),XCk hp h30 hl hj]
 ·unfold Xb6
  rw [XaW (by omega),Xhr];rfl
theorem lawB6 {k:Xap} {p:Nat} (hp:1≤p∧p≤4096) {l:List Xan} (h30:l.length≤30) (hl:∀ e∈l,e.Text.length≤20):iter (fun st=>Xbm Xah Xac Xaf Xad l st.1 st.2.1 st.2.2.1 st.2.2.2.1 st.2.2.2.2.1 st.2.2.2.2.2.1 st.2.2.2.2.2.2.1 st.2.2.2.2.2.2.2.1 st.2.2.2.2.2.2.2.2.1 st.2.2.2.2.2.2.2.2.2.1 st.2.2.2.2.2.2.2.2.2.2.1 st.2.2.2.2.2.2.2.2.2.2.2.1 st.2.2.2.2.2.2.2.2.2.2.2.2.1 st.2.2.2.2.2.2.2.2.2.2.2.2.2.1 st.2.2.2.2.2.2.2.2.2.2.2.2.2.2.1 st.2.2.2.2.2.2.2.2.2.2.2.2.2.2.2) FUEL (0,k.A,k.B,(newS p).tot,p,p,p,p,p,p,(newS p).R 0,(newS p).R 1,(newS p).R 2,(newS p).R 3,(newS p).R 4,(newS p).R 5)=some true:=by
 refine Xcr (fun j=>((j:Int),k.A,k.B,(SK k p (l.take j)).tot,p,p,p,p,p,p,(SK k p (l.take j)).R 0,(SK k p (l.take j)).R 1,(SK k p (l.take j)).R 2,(SK k p (l.take j)).R 3,(SK k p (l.take j)).R 4,(SK k p (l.take j)).R 5)) _ l.length (fun j hj=>?_) ?_ (by rw [XcD];omega)
 ·show Xbm Xah Xac Xaf Xad l (j:Int) k.A k.B (SK k p (l.take j)).tot p p p p p p ((SK k p (l.take j)).R 0) ((SK k p (l.take j)).R 1) ((SK k p (l.take j)).R 2) ((SK k p (l.take j)).R 3) ((SK k p (l.take j)).R 4) ((SK k p (l.take j)).R 5)=_
  unfold Xbm
  have hp1:Xaf.v6 ⟨⟨k.A,k.B⟩,⟨(SK k p (l.take j)).R 0,(SK k p (l.take j)).R 1,(SK k p (l.take j)).R 2,(SK k p (l.take j)).R 3,(SK k p (l.take j)).R 4,(SK k p (l.take j)).R 5,p,p,p,p,p,p⟩,(SK k p (l.take j)).tot⟩ (l[j]).Text (l[j]).N=some (Xja l[j],Xyc k p (stepS k p (SK k p (l.take j)) l[j])):=Xyw hp (XgR.SK k p _) (hl _ (List.getElem_mem hj))
  rw [XbS (by omega),XaH (by omega),Int.toNat_natCast,List.getElem?_eq_getElem hj,Option.bind_some,XaH (by omega),hp1,Option.bind_some,←Xid _ _ hj,Xey (by omega) (by omega)];rfl
 ·show Xbm Xah Xac Xaf Xad l (l.length:Int) k.A k.B (SK k p (l.take l.length)).tot p p p p p p ((SK k p (l.take l.length)).R 0) ((SK k p (l.take l.length)).R 1) ((SK k p (l.take l.length)).R 2) ((SK k p (l.take l.length)).R 3) ((SK k p (l.take l.length)).R 4) ((SK k p (l.take l.length)).R 5)=_
  unfold Xbm
  rw [XaW (by omega),List.take_length,XDw hp h30 hl];rfl
theorem XBl {k:Xap} {p:Nat} (hp:1≤p∧p≤4096) {l:List Xan} (h30:l.length≤30) (hl:∀ e∈l,e.Text.length≤20) {j:Nat} (hj:j<l.length):iter (fun st=>Xbr Xac Xad l k.A k.B (SK k p l).tot p p p p p p p ((SK k p l).R 0) ((SK k p l).R 1) ((SK k p l).R 2) ((SK k p l).R 3) ((SK k p l).R 4) ((SK k p l).R 5) ((SK k p l).R 6) (j:Int) st.1 st.2) FUEL (0,0)=some (.inl ((j+1:Nat):Int)):=by
 refine Xcr (fun i=>(eqS (l[j]).Text (l.take i),(i:Int))) _ l.length (fun i hi=>?_) ?_ (by rw [XcD];omega)
 ·show Xbr Xac Xad l k.A k.B (SK k p l).tot p p p p p p p ((SK k p l).R 0) ((SK k p l).R 1) ((SK k p l).R 2) ((SK k p l).R 3) ((SK k p l).R 4) ((SK k p l).R 5) ((SK k p l).R 6) (j:Int) (eqS (l[j]).Text (l.take i)) (i:Int)=_
  unfold Xbr
  have hr:=Xhj (l[j]).Text (l.take i)
  rw [List.length_take] at hr
  rw [XbS (by omega),XaH (by omega),Int.toNat_natCast,List.getElem?_eq_getElem hi,Option.bind_some,XaH (by omega),Int.toNat_natCast,List.getElem?_eq_getElem hj,Option.bind_some,Xg4 (by omega),XgU _ hi,Xey (n:=(i:Int)+1) (by omega) (by omega)]
  split
  ·rename_i hm
   have hN:0≤(l[i]).N∧(l[i]).N≤1048576:=of_decide_eq_true (Bool.and_eq_true _ _▸hm).2
   rw [Xey (by omega) (by omega)];rfl
  ·rfl
 ·show Xbr Xac Xad l k.A k.B (SK k p l).tot p p p p p p p ((SK k p l).R 0) ((SK k p l).R 1) ((SK k p l).R 2) ((SK k p l).R 3) ((SK k p l).R 4) ((SK k p l).R 5) ((SK k p l).R 6) (j:Int) (eqS (l[j]).Text (l.take l.length)) (l.length:Int)=_
  unfold Xbr
  have hb:=Xh0 hp.1 h30 (k:=k) (l[j]).Text (n:=7) (by decide)
  have hg:Xac.v7 ⟨⟨k.A,k.B⟩,⟨(SK k p l).R 0,(SK k p l).R 1,(SK k p l).R 2,(SK k p l).R 3,(SK k p l).R 4,(SK k p l).R 5,(SK k p l).R 6,p,p,p,p,p,p,p⟩,(SK k p l).tot⟩ (l[j]).Text=some (XkX k p (SK k p l) (l[j]).Text 7):=XtW hp (XgR.SK k p l) (hl _ (List.getElem_mem hj))
  rw [List.take_length,XaW (by omega),XaH (by omega),Int.toNat_natCast,List.getElem?_eq_getElem hj,Option.bind_some,hg,Option.bind_some,XaW (by omega),XaH (by omega),Option.bind_some,show Xad.v7 ⟨⟨k.A,k.B⟩,⟨(SK k p l).R 0,(SK k p l).R 1,(SK k p l).R 2,(SK k p l).R 3,(SK k p l).R 4,(SK k p l).R 5,(SK k p l).R 6,p,p,p,p,p,p,p⟩,(SK k p l).tot⟩=some (SK k p l).tot from rfl,Option.bind_some,XaW (by omega),Xey (by omega) (by omega)];rfl
theorem XCY {k:Xap} {p:Nat} (hp:1≤p∧p≤4096) {l:List Xan} (h30:l.length≤30) (hl:∀ e∈l,e.Text.length≤20):iter (fun st=>Xb5 Xah Xac Xad l k.A k.B (SK k p l).tot p p p p p p p ((SK k p l).R 0) ((SK k p l).R 1) ((SK k p l).R 2) ((SK k p l).R 3) ((SK k p l).R 4) ((SK k p l).R 5) ((SK k p l).R 6) st) FUEL 0=some true:=by
 refine Xcr (fun j=>(j:Int)) _ l.length (fun j hj=>?_) ?_ (by rw [XcD];omega)
 ·unfold Xb5
  rw [XbS (by omega),XBl hp h30 hl hj]
 ·unfold Xb5
  rw [XaW (by omega),Xhr];rfl
theorem lawB7 {k:Xap} {p:Nat} (hp:1≤p∧p≤4096) {l:List Xan} (h30:l.length≤30) (hl:∀ e∈l,e.Text.length≤20):iter (fun st=>Xbt Xah Xac Xaf Xad l st.1 st.2.1 st.2.2.1 st.2.2.2.1 st.2.2.2.2.1 st.2.2.2.2.2.1 st.2.2.2.2.2.2.1 st.2.2.2.2.2.2.2.1 st.2.2.2.2.2.2.2.2.1 st.2.2.2.2.2.2.2.2.2.1 st.2.2.2.2.2.2.2.2.2.2.1 st.2.2.2.2.2.2.2.2.2.2.2.1 st.2.2.2.2.2.2.2.2.2.2.2.2.1 st.2.2.2.2.2.2.2.2.2.2.2.2.2.1 st.2.2.2.2.2.2.2.2.2.2.2.2.2.2.1 st.2.2.2.2.2.2.2.2.2.2.2.2.2.2.2.1 st.2.2.2.2.2.2.2.2.2.2.2.2.2.2.2.2.1 st.2.2.2.2.2.2.2.2.2.2.2.2.2.2.2.2.2) FUEL (0,k.A,k.B,(newS p).tot,p,p,p,p,p,p,p,(newS p).R 0,(newS p).R 1,(newS p).R 2,(newS p).R 3,(newS p).R 4,(newS p).R 5,(newS p).R 6)=some true:=by
 refine Xcr (fun j=>((j:Int),k.A,k.B,(SK k p (l.take j)).tot,p,p,p,p,p,p,p,(SK k p (l.take j)).R 0,(SK k p (l.take j)).R 1,(SK k p (l.take j)).R 2,(SK k p (l.take j)).R 3,(SK k p (l.take j)).R 4,(SK k p (l.take j)).R 5,(SK k p (l.take j)).R 6)) _ l.length (fun j hj=>?_) ?_ (by rw [XcD];omega)
 ·show Xbt Xah Xac Xaf Xad l (j:Int) k.A k.B (SK k p (l.take j)).tot p p p p p p p ((SK k p (l.take j)).R 0) ((SK k p (l.take j)).R 1) ((SK k p (l.take j)).R 2) ((SK k p (l.take j)).R 3) ((SK k p (l.take j)).R 4) ((SK k p (l.take j)).R 5) ((SK k p (l.take j)).R 6)=_
  unfold Xbt
  have hp1:Xaf.v7 ⟨⟨k.A,k.B⟩,⟨(SK k p (l.take j)).R 0,(SK k p (l.take j)).R 1,(SK k p (l.take j)).R 2,(SK k p (l.take j)).R 3,(SK k p (l.take j)).R 4,(SK k p (l.take j)).R 5,(SK k p (l.take j)).R 6,p,p,p,p,p,p,p⟩,(SK k p (l.take j)).tot⟩ (l[j]).Text (l[j]).N=some (Xja l[j],XxK k p (stepS k p (SK k p (l.take j)) l[j])):=XyT hp (XgR.SK k p _) (hl _ (List.getElem_mem hj))
  rw [XbS (by omega),XaH (by omega),Int.toNat_natCast,List.getElem?_eq_getElem hj,Option.bind_some,XaH (by omega),hp1,Option.bind_some,←Xid _ _ hj,Xey (by omega) (by omega)];rfl
 ·show Xbt Xah Xac Xaf Xad l (l.length:Int) k.A k.B (SK k p (l.take l.length)).tot p p p p p p p ((SK k p (l.take l.length)).R 0) ((SK k p (l.take l.length)).R 1) ((SK k p (l.take l.length)).R 2) ((SK k p (l.take l.length)).R 3) ((SK k p (l.take l.length)).R 4) ((SK k p (l.take l.length)).R 5) ((SK k p (l.take l.length)).R 6)=_
  unfold Xbt
  rw [XaW (by omega),List.take_length,XCY hp h30 hl];rfl
theorem XBv {k:Xap} {p:Nat} (hp:1≤p∧p≤4096) {l:List Xan} (h30:l.length≤30) (hl:∀ e∈l,e.Text.length≤20) {j:Nat} (hj:j<l.length):iter (fun st=>Xbk Xac Xad l k.A k.B (SK k p l).tot p p p p p p p p ((SK k p l).R 0) ((SK k p l).R 1) ((SK k p l).R 2) ((SK k p l).R 3) ((SK k p l).R 4) ((SK k p l).R 5) ((SK k p l).R 6) ((SK k p l).R 7) (j:Int) st.1 st.2) FUEL (0,0)=some (.inl ((j+1:Nat):Int)):=by
 refine Xcr (fun i=>(eqS (l[j]).Text (l.take i),(i:Int))) _ l.length (fun i hi=>?_) ?_ (by rw [XcD];omega)
 ·show Xbk Xac Xad l k.A k.B (SK k p l).tot p p p p p p p p ((SK k p l).R 0) ((SK k p l).R 1) ((SK k p l).R 2) ((SK k p l).R 3) ((SK k p l).R 4) ((SK k p l).R 5) ((SK k p l).R 6) ((SK k p l).R 7) (j:Int) (eqS (l[j]).Text (l.take i)) (i:Int)=_
  unfold Xbk
  have hr:=Xhj (l[j]).Text (l.take i)
  rw [List.length_take] at hr
  rw [XbS (by omega),XaH (by omega),Int.toNat_natCast,List.getElem?_eq_getElem hi,Option.bind_some,XaH (by omega),Int.toNat_natCast,List.getElem?_eq_getElem hj,Option.bind_some,Xg4 (by omega),XgU _ hi,Xey (n:=(i:Int)+1) (by omega) (by omega)]
  split
  ·rename_i hm
   have hN:0≤(l[i]).N∧(l[i]).N≤1048576:=of_decide_eq_true (Bool.and_eq_true _ _▸hm).2
   rw [Xey (by omega) (by omega)];rfl
  ·rfl
 ·show Xbk Xac Xad l k.A k.B (SK k p l).tot p p p p p p p p ((SK k p l).R 0) ((SK k p l).R 1) ((SK k p l).R 2) ((SK k p l).R 3) ((SK k p l).R 4) ((SK k p l).R 5) ((SK k p l).R 6) ((SK k p l).R 7) (j:Int) (eqS (l[j]).Text (l.take l.length)) (l.length:Int)=_
  unfold Xbk
  have hb:=Xh0 hp.1 h30 (k:=k) (l[j]).Text (n:=8) (by decide)
  have hg:Xac.v8 ⟨⟨k.A,k.B⟩,⟨(SK k p l).R 0,(SK k p l).R 1,(SK k p l).R 2,(SK k p l).R 3,(SK k p l).R 4,(SK k p l).R 5,(SK k p l).R 6,(SK k p l).R 7,p,p,p,p,p,p,p,p⟩,(SK k p l).tot⟩ (l[j]).Text=some (XkX k p (SK k p l) (l[j]).Text 8):=XsW hp (XgR.SK k p l) (hl _ (List.getElem_mem hj))
  rw [List.take_length,XaW (by omega),XaH (by omega),Int.toNat_natCast,List.getElem?_eq_getElem hj,Option.bind_some,hg,Option.bind_some,XaW (by omega),XaH (by omega),Option.bind_some,show Xad.v8 ⟨⟨k.A,k.B⟩,⟨(SK k p l).R 0,(SK k p l).R 1,(SK k p l).R 2,(SK k p l).R 3,(SK k p l).R 4,(SK k p l).R 5,(SK k p l).R 6,(SK k p l).R 7,p,p,p,p,p,p,p,p⟩,(SK k p l).tot⟩=some (SK k p l).tot from rfl,Option.bind_some,XaW (by omega),Xey (by omega) (by omega)];rfl
theorem XCP {k:Xap} {p:Nat} (hp:1≤p∧p≤4096) {l:List Xan} (h30:l.length≤30) (hl:∀ e∈l,e.Text.length≤20):iter (fun st=>Xb4 Xah Xac Xad l k.A k.B (SK k p l).tot p p p p p p p p ((SK k p l).R 0) ((SK k p l).R 1) ((SK k p l).R 2) ((SK k p l).R 3) ((SK k p l).R 4) ((SK k p l).R 5) ((SK k p l).R 6) ((SK k p l).R 7) st) FUEL 0=some true:=by
 refine Xcr (fun j=>(j:Int)) _ l.length (fun j hj=>?_) ?_ (by rw [XcD];omega)
 ·unfold Xb4
  rw [XbS (by omega),XBv hp h30 hl hj]
 ·unfold Xb4
  rw [XaW (by omega),Xhr];rfl
theorem lawB8 {k:Xap} {p:Nat} (hp:1≤p∧p≤4096) {l:List Xan} (h30:l.length≤30) (hl:∀ e∈l,e.Text.length≤20):iter (fun st=>Xbn Xah Xac Xaf Xad l st.1 st.2.1 st.2.2.1 st.2.2.2.1 st.2.2.2.2.1 st.2.2.2.2.2.1 st.2.2.2.2.2.2.1 st.2.2.2.2.2.2.2.1 st.2.2.2.2.2.2.2.2.1 st.2.2.2.2.2.2.2.2.2.1 st.2.2.2.2.2.2.2.2.2.2.1 st.2.2.2.2.2.2.2.2.2.2.2.1 st.2.2.2.2.2.2.2.2.2.2.2.2.1 st.2.2.2.2.2.2.2.2.2.2.2.2.2.1 st.2.2.2.2.2.2.2.2.2.2.2.2.2.2.1 st.2.2.2.2.2.2.2.2.2.2.2.2.2.2.2.1 st.2.2.2.2.2.2.2.2.2.2.2.2.2.2.2.2.1 st.2.2.2.2.2.2.2.2.2.2.2.2.2.2.2.2.2.1 st.2.2.2.2.2.2.2.2.2.2.2.2.2.2.2.2.2.2.1 st.2.2.2.2.2.2.2.2.2.2.2.2.2.2.2.2.2.2.2) FUEL (0,k.A,k.B,(newS p).tot,p,p,p,p,p,p,p,p,(newS p).R 0,(newS p).R 1,(newS p).R 2,(newS p).R 3,(newS p).R 4,(newS p).R 5,(newS p).R 6,(newS p).R 7)=some true:=by
 refine Xcr (fun j=>((j:Int),k.A,k.B,(SK k p (l.take j)).tot,p,p,p,p,p,p,p,p,(SK k p (l.take j)).R 0,(SK k p (l.take j)).R 1,(SK k p (l.take j)).R 2,(SK k p (l.take j)).R 3,(SK k p (l.take j)).R 4,(SK k p (l.take j)).R 5,(SK k p (l.take j)).R 6,(SK k p (l.take j)).R 7)) _ l.length (fun j hj=>?_) ?_ (by rw [XcD];omega)
 ·show Xbn Xah Xac Xaf Xad l (j:Int) k.A k.B (SK k p (l.take j)).tot p p p p p p p p ((SK k p (l.take j)).R 0) ((SK k p (l.take j)).R 1) ((SK k p (l.take j)).R 2) ((SK k p (l.take j)).R 3) ((SK k p (l.take j)).R 4) ((SK k p (l.take j)).R 5) ((SK k p (l.take j)).R 6) ((SK k p (l.take j)).R 7)=_
  unfold Xbn
  have hp1:Xaf.v8 ⟨⟨k.A,k.B⟩,⟨(SK k p (l.take j)).R 0,(SK k p (l.take j)).R 1,(SK k p (l.take j)).R 2,(SK k p (l.take j)).R 3,(SK k p (l.take j)).R 4,(SK k p (l.take j)).R 5,(SK k p (l.take j)).R 6,(SK k p (l.take j)).R 7,p,p,p,p,p,p,p,p⟩,(SK k p (l.take j)).tot⟩ (l[j]).Text (l[j]).N=some (Xja l[j],XxZ k p (stepS k p (SK k p (l.take j)) l[j])):=XAL hp (XgR.SK k p _) (hl _ (List.getElem_mem hj))
  rw [XbS (by omega),XaH (by omega),Int.toNat_natCast,List.getElem?_eq_getElem hj,Option.bind_some,XaH (by omega),hp1,Option.bind_some,←Xid _ _ hj,Xey (by omega) (by omega)];rfl
 ·show Xbn Xah Xac Xaf Xad l (l.length:Int) k.A k.B (SK k p (l.take l.length)).tot p p p p p p p p ((SK k p (l.take l.length)).R 0) ((SK k p (l.take l.length)).R 1) ((SK k p (l.take l.length)).R 2) ((SK k p (l.take l.length)).R 3) ((SK k p (l.take l.length)).R 4) ((SK k p (l.take l.length)).R 5) ((SK k p (l.take l.length)).R 6) ((SK k p (l.take l.length)).R 7)=_
  unfold Xbn
  rw [XaW (by omega),List.take_length,XCP hp h30 hl];rfl
theorem sketchBounds (rows places:Int) (k:Xap) (l:List Xan) (h1:0≤rows∧rows<256) (h2:0≤places∧places<256):Xg2 rows places k l=some true:=by
 unfold Xg2 Xeq
 rw [few50,Option.bind_some]
 cases hf:(decide (l.length≤30)&&(l.take 30).all fun e=>decide (e.Text.length≤20)) with
 | false=>rw [show (!false)=true from rfl,cond_true,Xhr];rfl
 | true=>
   obtain ⟨h30,hl⟩:=Xvp hf
   rw [show (!true)=false from rfl,cond_false,Xey (n:=rows) (by omega) (by omega),Xey (n:=places) (by omega) (by omega),Int.tmod_eq_emod_of_nonneg h1.1,Int.tmod_eq_emod_of_nonneg h2.1,
    Xey (n:=1+rows%8) (by omega) (by omega),Xey (n:=1+places%64) (by omega) (by omega)]
   obtain ⟨p,hp⟩:∃ p:Nat,1+places%64=(p:Int):=⟨(1+places%64).toNat,by omega⟩
   have hp1:1≤p∧p≤4096:=by omega
   obtain ⟨r,hr,hr1,hr2⟩:∃ r:Nat,1+rows%8=(r:Int)∧1≤r∧r≤8:=⟨(1+rows%8).toNat,by omega,by omega,by omega⟩
   rw [hp,hr,XBb (by omega) hp1,Int.toNat_natCast,Option.bind_some]
   obtain rfl|rfl|rfl|rfl|rfl|rfl|rfl|rfl:r=1∨r=2∨r=3∨r=4∨r=5∨r=6∨r=7∨r=8:=by omega
   ·exact lawB1 hp1 h30 hl
   ·exact lawB2 hp1 h30 hl
   ·exact lawB3 hp1 h30 hl
   ·exact lawB4 hp1 h30 hl
   ·exact lawB5 hp1 h30 hl
   ·exact lawB6 hp1 h30 hl
   ·exact lawB7 hp1 h30 hl
   ·exact lawB8 hp1 h30 hl
end Go.Vm.Code
