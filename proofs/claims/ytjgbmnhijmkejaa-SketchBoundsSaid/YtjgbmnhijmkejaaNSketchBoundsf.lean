import Derived.Test.YtjgbmnhijmkejaaNSketchBoundse
namespace Go.Vm.Code
open Go Go.Vm Go.Proofs
set_option maxRecDepth 100000
set_option maxHeartbeats 4000000
set_option linter.unusedVariables false
def XbL (Xac:Xap) (Xad:Xao) (l:List Xaz) (s:Int) (s1:Int) (s2:Int) (c:Nat) (c1:List Int) (xj1:Int) (n2:Int) (i:Int):Option (Sum (Int×Int) (Sum Int Bool)):=
 cond (decide (i<(l.length:Int)))
  (
  XaU (decide ((0:Int)≤i∧i<(l.length:Int))) <|
  (l[i.toNat]?).bind fun (e1:Xaz)=>
  XaU (decide ((0:Int)≤xj1∧xj1<(l.length:Int))) <|
  (l[xj1.toNat]?).bind fun (e2:Xaz)=>
  cond (e1.Text==e2.Text)
   (
   XaU (decide ((0:Int)≤i∧i<(l.length:Int))) <|
   cond (decide (e1.N≥0))
    (
    XaU (decide ((0:Int)≤i∧i<(l.length:Int))) <|
    cond (decide (e1.N≤1048576))
     (
     XaU (decide ((0:Int)≤i∧i<(l.length:Int))) <|
     some (.inl (wI .i64 (n2+e1.N),wI .i64 (i+1))))
     (
     some (.inl (n2,wI .i64 (i+1)))))
    (
    some (.inl (n2,wI .i64 (i+1)))))
   (
   some (.inl (n2,wI .i64 (i+1)))))
  (
  XaU (decide ((0:Int)≤xj1∧xj1<(l.length:Int))) <|
  (l[xj1.toNat]?).bind fun (e3:Xaz)=>
  (Xac.v1 (XaH.mk (XaD.mk s s1) (XdW.mk c1 c) s2) e3.Text).bind fun x11=>
  cond (decide (x11<n2))
   (
   some (.inr (.inr (false))))
   (
   XaU (decide ((0:Int)≤xj1∧xj1<(l.length:Int))) <|
   (Xac.v1 (XaH.mk (XaD.mk s s1) (XdW.mk c1 c) s2) e3.Text).bind fun x12=>
   (Xad.v1 (XaH.mk (XaD.mk s s1) (XdW.mk c1 c) s2)).bind fun x13=>
   cond (decide (x12>x13))
    (
    some (.inr (.inr (false))))
    (
    some (.inr (.inl (wI .i64 (xj1+1)))))))
def Xcj (Xal:XaQ) (Xac:Xap) (Xad:Xao) (l:List Xaz) (s:Int) (s1:Int) (s2:Int) (c:Nat) (c1:List Int) (xj1:Int):Option (Sum Int Bool):=
 cond (decide (xj1<(l.length:Int)))
  (
  iter (fun st=>XbL Xac Xad l s s1 s2 c c1 xj1 st.1 st.2) FUEL (0,0))
  (
  (Xal).bind fun a1=>
  some (.inr (a1)))
def XbO (Xal:XaQ) (Xac:Xap) (Xah:Xau) (Xad:Xao) (l:List Xaz) (xj:Int) (s:Int) (s1:Int) (s2:Int) (c:Nat) (c1:List Int):Option (Sum (Int×Int×Int×Int×Nat×(List Int)) Bool):=
 cond (decide (xj<(l.length:Int)))
  (
  XaU (decide ((0:Int)≤xj∧xj<(l.length:Int))) <|
  (l[xj.toNat]?).bind fun (e:Xaz)=>
  XaU (decide ((0:Int)≤xj∧xj<(l.length:Int))) <|
  (Xah.v1 (XaH.mk (XaD.mk s s1) (XdW.mk c1 c) s2) e.Text e.N).bind fun x1=>
  some (.inl (wI .i64 (xj+1),x1.2.key.A,x1.2.key.B,x1.2.total,x1.2.rows.m0,x1.2.rows.e0)))
  (
  (iter (fun st=>Xcj Xal Xac Xad l s s1 s2 c c1 st) FUEL 0).bind fun o=>some (.inr (o)))
def XbN (Xac:Xap) (Xad:Xao) (l:List Xaz) (s3:Int) (s4:Int) (s5:Int) (c2:Nat) (c3:Nat) (c4:List Int) (c5:List Int) (xj3:Int) (n4:Int) (i1:Int):Option (Sum (Int×Int) (Sum Int Bool)):=
 cond (decide (i1<(l.length:Int)))
  (
  XaU (decide ((0:Int)≤i1∧i1<(l.length:Int))) <|
  (l[i1.toNat]?).bind fun (e5:Xaz)=>
  XaU (decide ((0:Int)≤xj3∧xj3<(l.length:Int))) <|
  (l[xj3.toNat]?).bind fun (e6:Xaz)=>
  cond (e5.Text==e6.Text)
   (
   XaU (decide ((0:Int)≤i1∧i1<(l.length:Int))) <|
   cond (decide (e5.N≥0))
    (
    XaU (decide ((0:Int)≤i1∧i1<(l.length:Int))) <|
    cond (decide (e5.N≤1048576))
     (
     XaU (decide ((0:Int)≤i1∧i1<(l.length:Int))) <|
     some (.inl (wI .i64 (n4+e5.N),wI .i64 (i1+1))))
     (
     some (.inl (n4,wI .i64 (i1+1)))))
    (
    some (.inl (n4,wI .i64 (i1+1)))))
   (
   some (.inl (n4,wI .i64 (i1+1)))))
  (
  XaU (decide ((0:Int)≤xj3∧xj3<(l.length:Int))) <|
  (l[xj3.toNat]?).bind fun (e7:Xaz)=>
  (Xac.v2 (XaG.mk (XaD.mk s3 s4) (Xc5.mk c4 c5 c2 c3) s5) e7.Text).bind fun x21=>
  cond (decide (x21<n4))
   (
   some (.inr (.inr (false))))
   (
   XaU (decide ((0:Int)≤xj3∧xj3<(l.length:Int))) <|
   (Xac.v2 (XaG.mk (XaD.mk s3 s4) (Xc5.mk c4 c5 c2 c3) s5) e7.Text).bind fun x22=>
   (Xad.v2 (XaG.mk (XaD.mk s3 s4) (Xc5.mk c4 c5 c2 c3) s5)).bind fun x23=>
   cond (decide (x22>x23))
    (
    some (.inr (.inr (false))))
    (
    some (.inr (.inl (wI .i64 (xj3+1)))))))
def Xch (Xal:XaQ) (Xac:Xap) (Xad:Xao) (l:List Xaz) (s3:Int) (s4:Int) (s5:Int) (c2:Nat) (c3:Nat) (c4:List Int) (c5:List Int) (xj3:Int):Option (Sum Int Bool):=
 cond (decide (xj3<(l.length:Int)))
  (
  iter (fun st=>XbN Xac Xad l s3 s4 s5 c2 c3 c4 c5 xj3 st.1 st.2) FUEL (0,0))
  (
  (Xal).bind fun a2=>
  some (.inr (a2)))
def XbP (Xal:XaQ) (Xac:Xap) (Xah:Xau) (Xad:Xao) (l:List Xaz) (xj2:Int) (s3:Int) (s4:Int) (s5:Int) (c2:Nat) (c3:Nat) (c4:List Int) (c5:List Int):Option (Sum (Int×Int×Int×Int×Nat×Nat×(List Int)×(List Int)) Bool):=
 cond (decide (xj2<(l.length:Int)))
  (
  XaU (decide ((0:Int)≤xj2∧xj2<(l.length:Int))) <|
  (l[xj2.toNat]?).bind fun (e4:Xaz)=>
  XaU (decide ((0:Int)≤xj2∧xj2<(l.length:Int))) <|
  (Xah.v2 (XaG.mk (XaD.mk s3 s4) (Xc5.mk c4 c5 c2 c3) s5) e4.Text e4.N).bind fun x2=>
  some (.inl (wI .i64 (xj2+1),x2.2.key.A,x2.2.key.B,x2.2.total,x2.2.rows.m0,x2.2.rows.m1,x2.2.rows.e0,x2.2.rows.e1)))
  (
  (iter (fun st=>Xch Xal Xac Xad l s3 s4 s5 c2 c3 c4 c5 st) FUEL 0).bind fun o=>some (.inr (o)))
def XbM (Xac:Xap) (Xad:Xao) (l:List Xaz) (s6:Int) (s7:Int) (s8:Int) (c6:Nat) (c7:Nat) (c8:Nat) (c9:List Int) (c10:List Int) (c11:List Int) (xj5:Int) (n6:Int) (i2:Int):Option (Sum (Int×Int) (Sum Int Bool)):=
 cond (decide (i2<(l.length:Int)))
  (
  XaU (decide ((0:Int)≤i2∧i2<(l.length:Int))) <|
  (l[i2.toNat]?).bind fun (e9:Xaz)=>
  XaU (decide ((0:Int)≤xj5∧xj5<(l.length:Int))) <|
  (l[xj5.toNat]?).bind fun (e10:Xaz)=>
  cond (e9.Text==e10.Text)
   (
   XaU (decide ((0:Int)≤i2∧i2<(l.length:Int))) <|
   cond (decide (e9.N≥0))
    (
    XaU (decide ((0:Int)≤i2∧i2<(l.length:Int))) <|
    cond (decide (e9.N≤1048576))
     (
     XaU (decide ((0:Int)≤i2∧i2<(l.length:Int))) <|
     some (.inl (wI .i64 (n6+e9.N),wI .i64 (i2+1))))
     (
     some (.inl (n6,wI .i64 (i2+1)))))
    (
    some (.inl (n6,wI .i64 (i2+1)))))
   (
   some (.inl (n6,wI .i64 (i2+1)))))
  (
  XaU (decide ((0:Int)≤xj5∧xj5<(l.length:Int))) <|
  (l[xj5.toNat]?).bind fun (e11:Xaz)=>
  (Xac.v3 (XaF.mk (XaD.mk s6 s7) (XcN.mk c9 c10 c11 c6 c7 c8) s8) e11.Text).bind fun x31=>
  cond (decide (x31<n6))
   (
   some (.inr (.inr (false))))
   (
   XaU (decide ((0:Int)≤xj5∧xj5<(l.length:Int))) <|
   (Xac.v3 (XaF.mk (XaD.mk s6 s7) (XcN.mk c9 c10 c11 c6 c7 c8) s8) e11.Text).bind fun x32=>
   (Xad.v3 (XaF.mk (XaD.mk s6 s7) (XcN.mk c9 c10 c11 c6 c7 c8) s8)).bind fun x33=>
   cond (decide (x32>x33))
    (
    some (.inr (.inr (false))))
    (
    some (.inr (.inl (wI .i64 (xj5+1)))))))
def Xcf (Xal:XaQ) (Xac:Xap) (Xad:Xao) (l:List Xaz) (s6:Int) (s7:Int) (s8:Int) (c6:Nat) (c7:Nat) (c8:Nat) (c9:List Int) (c10:List Int) (c11:List Int) (xj5:Int):Option (Sum Int Bool):=
 cond (decide (xj5<(l.length:Int)))
  (
  iter (fun st=>XbM Xac Xad l s6 s7 s8 c6 c7 c8 c9 c10 c11 xj5 st.1 st.2) FUEL (0,0))
  (
  (Xal).bind fun a3=>
  some (.inr (a3)))
def XbK (Xal:XaQ) (Xac:Xap) (Xah:Xau) (Xad:Xao) (l:List Xaz) (xj4:Int) (s6:Int) (s7:Int) (s8:Int) (c6:Nat) (c7:Nat) (c8:Nat) (c9:List Int) (c10:List Int) (c11:List Int):Option (Sum (Int×Int×Int×Int×Nat×Nat×Nat×(List Int)×(List Int)×(List Int)) Bool):=
 cond (decide (xj4<(l.length:Int)))
  (
  XaU (decide ((0:Int)≤xj4∧xj4<(l.length:Int))) <|
  (l[xj4.toNat]?).bind fun (e8:Xaz)=>
  XaU (decide ((0:Int)≤xj4∧xj4<(l.length:Int))) <|
  (Xah.v3 (XaF.mk (XaD.mk s6 s7) (XcN.mk c9 c10 c11 c6 c7 c8) s8) e8.Text e8.N).bind fun x3=>
  some (.inl (wI .i64 (xj4+1),x3.2.key.A,x3.2.key.B,x3.2.total,x3.2.rows.m0,x3.2.rows.m1,x3.2.rows.m2,x3.2.rows.e0,x3.2.rows.e1,x3.2.rows.e2)))
  (
  (iter (fun st=>Xcf Xal Xac Xad l s6 s7 s8 c6 c7 c8 c9 c10 c11 st) FUEL 0).bind fun o=>some (.inr (o)))
def XbD (Xac:Xap) (Xad:Xao) (l:List Xaz) (s9:Int) (s10:Int) (s11:Int) (c12:Nat) (c13:Nat) (c14:Nat) (c15:Nat) (c16:List Int) (c17:List Int) (c18:List Int) (c19:List Int) (xj7:Int) (n8:Int) (i3:Int):Option (Sum (Int×Int) (Sum Int Bool)):=
 cond (decide (i3<(l.length:Int)))
  (
  XaU (decide ((0:Int)≤i3∧i3<(l.length:Int))) <|
  (l[i3.toNat]?).bind fun (e13:Xaz)=>
  XaU (decide ((0:Int)≤xj7∧xj7<(l.length:Int))) <|
  (l[xj7.toNat]?).bind fun (e14:Xaz)=>
  cond (e13.Text==e14.Text)
   (
   XaU (decide ((0:Int)≤i3∧i3<(l.length:Int))) <|
   cond (decide (e13.N≥0))
    (
    XaU (decide ((0:Int)≤i3∧i3<(l.length:Int))) <|
    cond (decide (e13.N≤1048576))
     (
     XaU (decide ((0:Int)≤i3∧i3<(l.length:Int))) <|
     some (.inl (wI .i64 (n8+e13.N),wI .i64 (i3+1))))
     (
     some (.inl (n8,wI .i64 (i3+1)))))
    (
    some (.inl (n8,wI .i64 (i3+1)))))
   (
   some (.inl (n8,wI .i64 (i3+1)))))
  (
  XaU (decide ((0:Int)≤xj7∧xj7<(l.length:Int))) <|
  (l[xj7.toNat]?).bind fun (e15:Xaz)=>
  (Xac.v4 (XaC.mk (XaD.mk s9 s10) (XcD.mk c16 c17 c18 c19 c12 c13 c14 c15) s11) e15.Text).bind fun x41=>
  cond (decide (x41<n8))
   (
   some (.inr (.inr (false))))
   (
   XaU (decide ((0:Int)≤xj7∧xj7<(l.length:Int))) <|
   (Xac.v4 (XaC.mk (XaD.mk s9 s10) (XcD.mk c16 c17 c18 c19 c12 c13 c14 c15) s11) e15.Text).bind fun x42=>
   (Xad.v4 (XaC.mk (XaD.mk s9 s10) (XcD.mk c16 c17 c18 c19 c12 c13 c14 c15) s11)).bind fun x43=>
   cond (decide (x42>x43))
    (
    some (.inr (.inr (false))))
    (
    some (.inr (.inl (wI .i64 (xj7+1)))))))
def Xcb (Xal:XaQ) (Xac:Xap) (Xad:Xao) (l:List Xaz) (s9:Int) (s10:Int) (s11:Int) (c12:Nat) (c13:Nat) (c14:Nat) (c15:Nat) (c16:List Int) (c17:List Int) (c18:List Int) (c19:List Int) (xj7:Int):Option (Sum Int Bool):=
 cond (decide (xj7<(l.length:Int)))
  (
  iter (fun st=>XbD Xac Xad l s9 s10 s11 c12 c13 c14 c15 c16 c17 c18 c19 xj7 st.1 st.2) FUEL (0,0))
  (
  (Xal).bind fun a4=>
  some (.inr (a4)))
def XbB (Xal:XaQ) (Xac:Xap) (Xah:Xau) (Xad:Xao) (l:List Xaz) (xj6:Int) (s9:Int) (s10:Int) (s11:Int) (c12:Nat) (c13:Nat) (c14:Nat) (c15:Nat) (c16:List Int) (c17:List Int) (c18:List Int) (c19:List Int):Option (Sum (Int×Int×Int×Int×Nat×Nat×Nat×Nat×(List Int)×(List Int)×(List Int)×(List Int)) Bool):=
 cond (decide (xj6<(l.length:Int)))
  (
  XaU (decide ((0:Int)≤xj6∧xj6<(l.length:Int))) <|
  (l[xj6.toNat]?).bind fun (e12:Xaz)=>
  XaU (decide ((0:Int)≤xj6∧xj6<(l.length:Int))) <|
  (Xah.v4 (XaC.mk (XaD.mk s9 s10) (XcD.mk c16 c17 c18 c19 c12 c13 c14 c15) s11) e12.Text e12.N).bind fun x4=>
  some (.inl (wI .i64 (xj6+1),x4.2.key.A,x4.2.key.B,x4.2.total,x4.2.rows.m0,x4.2.rows.m1,x4.2.rows.m2,x4.2.rows.m3,x4.2.rows.e0,x4.2.rows.e1,x4.2.rows.e2,x4.2.rows.e3)))
  (
  (iter (fun st=>Xcb Xal Xac Xad l s9 s10 s11 c12 c13 c14 c15 c16 c17 c18 c19 st) FUEL 0).bind fun o=>some (.inr (o)))
def XbE (Xac:Xap) (Xad:Xao) (l:List Xaz) (s12:Int) (s13:Int) (s14:Int) (c20:Nat) (c21:Nat) (c22:Nat) (c23:Nat) (c24:Nat) (c25:List Int) (c26:List Int) (c27:List Int) (c28:List Int) (c29:List Int) (xj9:Int) (n10:Int) (i4:Int):Option (Sum (Int×Int) (Sum Int Bool)):=
 cond (decide (i4<(l.length:Int)))
  (
  XaU (decide ((0:Int)≤i4∧i4<(l.length:Int))) <|
  (l[i4.toNat]?).bind fun (e17:Xaz)=>
  XaU (decide ((0:Int)≤xj9∧xj9<(l.length:Int))) <|
  (l[xj9.toNat]?).bind fun (e18:Xaz)=>
  cond (e17.Text==e18.Text)
   (
   XaU (decide ((0:Int)≤i4∧i4<(l.length:Int))) <|
   cond (decide (e17.N≥0))
    (
    XaU (decide ((0:Int)≤i4∧i4<(l.length:Int))) <|
    cond (decide (e17.N≤1048576))
     (
     XaU (decide ((0:Int)≤i4∧i4<(l.length:Int))) <|
     some (.inl (wI .i64 (n10+e17.N),wI .i64 (i4+1))))
     (
     some (.inl (n10,wI .i64 (i4+1)))))
    (
    some (.inl (n10,wI .i64 (i4+1)))))
   (
   some (.inl (n10,wI .i64 (i4+1)))))
  (
  XaU (decide ((0:Int)≤xj9∧xj9<(l.length:Int))) <|
  (l[xj9.toNat]?).bind fun (e19:Xaz)=>
  (Xac.v5 (XaB.mk (XaD.mk s12 s13) (Xcr.mk c25 c26 c27 c28 c29 c20 c21 c22 c23 c24) s14) e19.Text).bind fun x51=>
  cond (decide (x51<n10))
   (
   some (.inr (.inr (false))))
   (
   XaU (decide ((0:Int)≤xj9∧xj9<(l.length:Int))) <|
   (Xac.v5 (XaB.mk (XaD.mk s12 s13) (Xcr.mk c25 c26 c27 c28 c29 c20 c21 c22 c23 c24) s14) e19.Text).bind fun x52=>
   (Xad.v5 (XaB.mk (XaD.mk s12 s13) (Xcr.mk c25 c26 c27 c28 c29 c20 c21 c22 c23 c24) s14)).bind fun x53=>
   cond (decide (x52>x53))
    (
    some (.inr (.inr (false))))
    (
    some (.inr (.inl (wI .i64 (xj9+1)))))))
def Xb9 (Xal:XaQ) (Xac:Xap) (Xad:Xao) (l:List Xaz) (s12:Int) (s13:Int) (s14:Int) (c20:Nat) (c21:Nat) (c22:Nat) (c23:Nat) (c24:Nat) (c25:List Int) (c26:List Int) (c27:List Int) (c28:List Int) (c29:List Int) (xj9:Int):Option (Sum Int Bool):=
 cond (decide (xj9<(l.length:Int)))
  (
  iter (fun st=>XbE Xac Xad l s12 s13 s14 c20 c21 c22 c23 c24 c25 c26 c27 c28 c29 xj9 st.1 st.2) FUEL (0,0))
  (
  (Xal).bind fun a5=>
  some (.inr (a5)))
def Xby (Xal:XaQ) (Xac:Xap) (Xah:Xau) (Xad:Xao) (l:List Xaz) (xj8:Int) (s12:Int) (s13:Int) (s14:Int) (c20:Nat) (c21:Nat) (c22:Nat) (c23:Nat) (c24:Nat) (c25:List Int) (c26:List Int) (c27:List Int) (c28:List Int) (c29:List Int):Option (Sum (Int×Int×Int×Int×Nat×Nat×Nat×Nat×Nat×(List Int)×(List Int)×(List Int)×(List Int)×(List Int)) Bool):=
 cond (decide (xj8<(l.length:Int)))
  (
  XaU (decide ((0:Int)≤xj8∧xj8<(l.length:Int))) <|
  (l[xj8.toNat]?).bind fun (e16:Xaz)=>
  XaU (decide ((0:Int)≤xj8∧xj8<(l.length:Int))) <|
  (Xah.v5 (XaB.mk (XaD.mk s12 s13) (Xcr.mk c25 c26 c27 c28 c29 c20 c21 c22 c23 c24) s14) e16.Text e16.N).bind fun x5=>
  some (.inl (wI .i64 (xj8+1),x5.2.key.A,x5.2.key.B,x5.2.total,x5.2.rows.m0,x5.2.rows.m1,x5.2.rows.m2,x5.2.rows.m3,x5.2.rows.m4,x5.2.rows.e0,x5.2.rows.e1,x5.2.rows.e2,x5.2.rows.e3,x5.2.rows.e4)))
  (
  (iter (fun st=>Xb9 Xal Xac Xad l s12 s13 s14 c20 c21 c22 c23 c24 c25 c26 c27 c28 c29 st) FUEL 0).bind fun o=>some (.inr (o)))
def XbA (Xac:Xap) (Xad:Xao) (l:List Xaz) (s15:Int) (s16:Int) (s17:Int) (c30:Nat) (c31:Nat) (c32:Nat) (c33:Nat) (c34:Nat) (c35:Nat) (c36:List Int) (c37:List Int) (c38:List Int) (c39:List Int) (c40:List Int) (c41:List Int) (xj11:Int) (n12:Int) (i5:Int):Option (Sum (Int×Int) (Sum Int Bool)):=
 cond (decide (i5<(l.length:Int)))
  (
  XaU (decide ((0:Int)≤i5∧i5<(l.length:Int))) <|
  (l[i5.toNat]?).bind fun (e21:Xaz)=>
  XaU (decide ((0:Int)≤xj11∧xj11<(l.length:Int))) <|
  (l[xj11.toNat]?).bind fun (e22:Xaz)=>
  cond (e21.Text==e22.Text)
   (
   XaU (decide ((0:Int)≤i5∧i5<(l.length:Int))) <|
   cond (decide (e21.N≥0))
    (
    XaU (decide ((0:Int)≤i5∧i5<(l.length:Int))) <|
    cond (decide (e21.N≤1048576))
     (
     XaU (decide ((0:Int)≤i5∧i5<(l.length:Int))) <|
     some (.inl (wI .i64 (n12+e21.N),wI .i64 (i5+1))))
     (
     some (.inl (n12,wI .i64 (i5+1)))))
    (
    some (.inl (n12,wI .i64 (i5+1)))))
   (
   some (.inl (n12,wI .i64 (i5+1)))))
  (
  XaU (decide ((0:Int)≤xj11∧xj11<(l.length:Int))) <|
  (l[xj11.toNat]?).bind fun (e23:Xaz)=>
  (Xac.v6 (Xay.mk (XaD.mk s15 s16) (Xb5.mk c36 c37 c38 c39 c40 c41 c30 c31 c32 c33 c34 c35) s17) e23.Text).bind fun x61=>
  cond (decide (x61<n12))
   (
   some (.inr (.inr (false))))
   (
   XaU (decide ((0:Int)≤xj11∧xj11<(l.length:Int))) <|
   (Xac.v6 (Xay.mk (XaD.mk s15 s16) (Xb5.mk c36 c37 c38 c39 c40 c41 c30 c31 c32 c33 c34 c35) s17) e23.Text).bind fun x62=>
   (Xad.v6 (Xay.mk (XaD.mk s15 s16) (Xb5.mk c36 c37 c38 c39 c40 c41 c30 c31 c32 c33 c34 c35) s17)).bind fun x63=>
   cond (decide (x62>x63))
    (
    some (.inr (.inr (false))))
    (
    some (.inr (.inl (wI .i64 (xj11+1)))))))
def Xca (Xal:XaQ) (Xac:Xap) (Xad:Xao) (l:List Xaz) (s15:Int) (s16:Int) (s17:Int) (c30:Nat) (c31:Nat) (c32:Nat) (c33:Nat) (c34:Nat) (c35:Nat) (c36:List Int) (c37:List Int) (c38:List Int) (c39:List Int) (c40:List Int) (c41:List Int) (xj11:Int):Option (Sum Int Bool):=
 cond (decide (xj11<(l.length:Int)))
  (
  iter (fun st=>XbA Xac Xad l s15 s16 s17 c30 c31 c32 c33 c34 c35 c36 c37 c38 c39 c40 c41 xj11 st.1 st.2) FUEL (0,0))
  (
  (Xal).bind fun a6=>
  some (.inr (a6)))
def XbH (Xal:XaQ) (Xac:Xap) (Xah:Xau) (Xad:Xao) (l:List Xaz) (xj10:Int) (s15:Int) (s16:Int) (s17:Int) (c30:Nat) (c31:Nat) (c32:Nat) (c33:Nat) (c34:Nat) (c35:Nat) (c36:List Int) (c37:List Int) (c38:List Int) (c39:List Int) (c40:List Int) (c41:List Int):Option (Sum (Int×Int×Int×Int×Nat×Nat×Nat×Nat×Nat×Nat×(List Int)×(List Int)×(List Int)×(List Int)×(List Int)×(List Int)) Bool):=
 cond (decide (xj10<(l.length:Int)))
  (
  XaU (decide ((0:Int)≤xj10∧xj10<(l.length:Int))) <|
  (l[xj10.toNat]?).bind fun (e20:Xaz)=>
  XaU (decide ((0:Int)≤xj10∧xj10<(l.length:Int))) <|
  (Xah.v6 (Xay.mk (XaD.mk s15 s16) (Xb5.mk c36 c37 c38 c39 c40 c41 c30 c31 c32 c33 c34 c35) s17) e20.Text e20.N).bind fun x6=>
  some (.inl (wI .i64 (xj10+1),x6.2.key.A,x6.2.key.B,x6.2.total,x6.2.rows.m0,x6.2.rows.m1,x6.2.rows.m2,x6.2.rows.m3,x6.2.rows.m4,x6.2.rows.m5,x6.2.rows.e0,x6.2.rows.e1,x6.2.rows.e2,x6.2.rows.e3,x6.2.rows.e4,x6.2.rows.e5)))
  (
  (iter (fun st=>Xca Xal Xac Xad l s15 s16 s17 c30 c31 c32 c33 c34 c35 c36 c37 c38 c39 c40 c41 st) FUEL 0).bind fun o=>some (.inr (o)))
def Xbz (Xac:Xap) (Xad:Xao) (l:List Xaz) (s18:Int) (s19:Int) (s20:Int) (c42:Nat) (c43:Nat) (c44:Nat) (c45:Nat) (c46:Nat) (c47:Nat) (c48:Nat) (c49:List Int) (c50:List Int) (c51:List Int) (c52:List Int) (c53:List Int) (c54:List Int) (c55:List Int) (xj13:Int) (n14:Int) (i6:Int):Option (Sum (Int×Int) (Sum Int Bool)):=
 cond (decide (i6<(l.length:Int)))
  (
  XaU (decide ((0:Int)≤i6∧i6<(l.length:Int))) <|
  (l[i6.toNat]?).bind fun (e25:Xaz)=>
  XaU (decide ((0:Int)≤xj13∧xj13<(l.length:Int))) <|
  (l[xj13.toNat]?).bind fun (e26:Xaz)=>
  cond (e25.Text==e26.Text)
   (
   XaU (decide ((0:Int)≤i6∧i6<(l.length:Int))) <|
   cond (decide (e25.N≥0))
    (
    XaU (decide ((0:Int)≤i6∧i6<(l.length:Int))) <|
    cond (decide (e25.N≤1048576))
     (
     XaU (decide ((0:Int)≤i6∧i6<(l.length:Int))) <|
     some (.inl (wI .i64 (n14+e25.N),wI .i64 (i6+1))))
     (
     some (.inl (n14,wI .i64 (i6+1)))))
    (
    some (.inl (n14,wI .i64 (i6+1)))))
   (
   some (.inl (n14,wI .i64 (i6+1)))))
  (
  XaU (decide ((0:Int)≤xj13∧xj13<(l.length:Int))) <|
  (l[xj13.toNat]?).bind fun (e27:Xaz)=>
  (Xac.v7 (Xaw.mk (XaD.mk s18 s19) (XbT.mk c49 c50 c51 c52 c53 c54 c55 c42 c43 c44 c45 c46 c47 c48) s20) e27.Text).bind fun x71=>
  cond (decide (x71<n14))
   (
   some (.inr (.inr (false))))
   (
   XaU (decide ((0:Int)≤xj13∧xj13<(l.length:Int))) <|
   (Xac.v7 (Xaw.mk (XaD.mk s18 s19) (XbT.mk c49 c50 c51 c52 c53 c54 c55 c42 c43 c44 c45 c46 c47 c48) s20) e27.Text).bind fun x72=>
   (Xad.v7 (Xaw.mk (XaD.mk s18 s19) (XbT.mk c49 c50 c51 c52 c53 c54 c55 c42 c43 c44 c45 c46 c47 c48) s20)).bind fun x73=>
   cond (decide (x72>x73))
    (
    some (.inr (.inr (false))))
    (
    some (.inr (.inl (wI .i64 (xj13+1)))))))
def Xb7 (Xal:XaQ) (Xac:Xap) (Xad:Xao) (l:List Xaz) (s18:Int) (s19:Int) (s20:Int) (c42:Nat) (c43:Nat) (c44:Nat) (c45:Nat) (c46:Nat) (c47:Nat) (c48:Nat) (c49:List Int) (c50:List Int) (c51:List Int) (c52:List Int) (c53:List Int) (c54:List Int) (c55:List Int) (xj13:Int):Option (Sum Int Bool):=
 cond (decide (xj13<(l.length:Int)))
  (
  iter (fun st=>Xbz Xac Xad l s18 s19 s20 c42 c43 c44 c45 c46 c47 c48 c49 c50 c51 c52 c53 c54 c55 xj13 st.1 st.2) FUEL (0,0))
  (
  (Xal).bind fun a7=>
  some (.inr (a7)))
def XbG (Xal:XaQ) (Xac:Xap) (Xah:Xau) (Xad:Xao) (l:List Xaz) (xj12:Int) (s18:Int) (s19:Int) (s20:Int) (c42:Nat) (c43:Nat) (c44:Nat) (c45:Nat) (c46:Nat) (c47:Nat) (c48:Nat) (c49:List Int) (c50:List Int) (c51:List Int) (c52:List Int) (c53:List Int) (c54:List Int) (c55:List Int):Option (Sum (Int×Int×Int×Int×Nat×Nat×Nat×Nat×Nat×Nat×Nat×(List Int)×(List Int)×(List Int)×(List Int)×(List Int)×(List Int)×(List Int)) Bool):=
 cond (decide (xj12<(l.length:Int)))
  (
  XaU (decide ((0:Int)≤xj12∧xj12<(l.length:Int))) <|
  (l[xj12.toNat]?).bind fun (e24:Xaz)=>
  XaU (decide ((0:Int)≤xj12∧xj12<(l.length:Int))) <|
  (Xah.v7 (Xaw.mk (XaD.mk s18 s19) (XbT.mk c49 c50 c51 c52 c53 c54 c55 c42 c43 c44 c45 c46 c47 c48) s20) e24.Text e24.N).bind fun x7=>
  some (.inl (wI .i64 (xj12+1),x7.2.key.A,x7.2.key.B,x7.2.total,x7.2.rows.m0,x7.2.rows.m1,x7.2.rows.m2,x7.2.rows.m3,x7.2.rows.m4,x7.2.rows.m5,x7.2.rows.m6,x7.2.rows.e0,x7.2.rows.e1,x7.2.rows.e2,x7.2.rows.e3,x7.2.rows.e4,x7.2.rows.e5,x7.2.rows.e6)))
  (
  (iter (fun st=>Xb7 Xal Xac Xad l s18 s19 s20 c42 c43 c44 c45 c46 c47 c48 c49 c50 c51 c52 c53 c54 c55 st) FUEL 0).bind fun o=>some (.inr (o)))
def XbF (Xac:Xap) (Xad:Xao) (l:List Xaz) (s21:Int) (s22:Int) (s23:Int) (c56:Nat) (c57:Nat) (c58:Nat) (c59:Nat) (c60:Nat) (c61:Nat) (c62:Nat) (c63:Nat) (c64:List Int) (c65:List Int) (c66:List Int) (c67:List Int) (c68:List Int) (c69:List Int) (c70:List Int) (c71:List Int) (xj15:Int) (n16:Int) (i7:Int):Option (Sum (Int×Int) (Sum Int Bool)):=
 cond (decide (i7<(l.length:Int)))
  (
  XaU (decide ((0:Int)≤i7∧i7<(l.length:Int))) <|
  (l[i7.toNat]?).bind fun (e29:Xaz)=>
  XaU (decide ((0:Int)≤xj15∧xj15<(l.length:Int))) <|
  (l[xj15.toNat]?).bind fun (e30:Xaz)=>
  cond (e29.Text==e30.Text)
   (
   XaU (decide ((0:Int)≤i7∧i7<(l.length:Int))) <|
   cond (decide (e29.N≥0))
    (
    XaU (decide ((0:Int)≤i7∧i7<(l.length:Int))) <|
    cond (decide (e29.N≤1048576))
     (
     XaU (decide ((0:Int)≤i7∧i7<(l.length:Int))) <|
     some (.inl (wI .i64 (n16+e29.N),wI .i64 (i7+1))))
     (
     some (.inl (n16,wI .i64 (i7+1)))))
    (
    some (.inl (n16,wI .i64 (i7+1)))))
   (
   some (.inl (n16,wI .i64 (i7+1)))))
  (
  XaU (decide ((0:Int)≤xj15∧xj15<(l.length:Int))) <|
  (l[xj15.toNat]?).bind fun (e31:Xaz)=>
  (Xac.v8 (Xav.mk (XaD.mk s21 s22) (XbQ.mk c64 c65 c66 c67 c68 c69 c70 c71 c56 c57 c58 c59 c60 c61 c62 c63) s23) e31.Text).bind fun x81=>
  cond (decide (x81<n16))
   (
   some (.inr (.inr (false))))
   (
   XaU (decide ((0:Int)≤xj15∧xj15<(l.length:Int))) <|
   (Xac.v8 (Xav.mk (XaD.mk s21 s22) (XbQ.mk c64 c65 c66 c67 c68 c69 c70 c71 c56 c57 c58 c59 c60 c61 c62 c63) s23) e31.Text).bind fun x82=>
   (Xad.v8 (Xav.mk (XaD.mk s21 s22) (XbQ.mk c64 c65 c66 c67 c68 c69 c70 c71 c56 c57 c58 c59 c60 c61 c62 c63) s23)).bind fun x83=>
   cond (decide (x82>x83))
    (
    some (.inr (.inr (false))))
    (
    some (.inr (.inl (wI .i64 (xj15+1)))))))
def Xb8 (Xal:XaQ) (Xac:Xap) (Xad:Xao) (l:List Xaz) (s21:Int) (s22:Int) (s23:Int) (c56:Nat) (c57:Nat) (c58:Nat) (c59:Nat) (c60:Nat) (c61:Nat) (c62:Nat) (c63:Nat) (c64:List Int) (c65:List Int) (c66:List Int) (c67:List Int) (c68:List Int) (c69:List Int) (c70:List Int) (c71:List Int) (xj15:Int):Option (Sum Int Bool):=
 cond (decide (xj15<(l.length:Int)))
  (
  iter (fun st=>XbF Xac Xad l s21 s22 s23 c56 c57 c58 c59 c60 c61 c62 c63 c64 c65 c66 c67 c68 c69 c70 c71 xj15 st.1 st.2) FUEL (0,0))
  (
  (Xal).bind fun a8=>
  some (.inr (a8)))
def XbC (Xal:XaQ) (Xac:Xap) (Xah:Xau) (Xad:Xao) (l:List Xaz) (xj14:Int) (s21:Int) (s22:Int) (s23:Int) (c56:Nat) (c57:Nat) (c58:Nat) (c59:Nat) (c60:Nat) (c61:Nat) (c62:Nat) (c63:Nat) (c64:List Int) (c65:List Int) (c66:List Int) (c67:List Int) (c68:List Int) (c69:List Int) (c70:List Int) (c71:List Int):Option (Sum (Int×Int×Int×Int×Nat×Nat×Nat×Nat×Nat×Nat×Nat×Nat×(List Int)×(List Int)×(List Int)×(List Int)×(List Int)×(List Int)×(List Int)×(List Int)) Bool):=
 cond (decide (xj14<(l.length:Int)))
  (
  XaU (decide ((0:Int)≤xj14∧xj14<(l.length:Int))) <|
  (l[xj14.toNat]?).bind fun (e28:Xaz)=>
  XaU (decide ((0:Int)≤xj14∧xj14<(l.length:Int))) <|
  (Xah.v8 (Xav.mk (XaD.mk s21 s22) (XbQ.mk c64 c65 c66 c67 c68 c69 c70 c71 c56 c57 c58 c59 c60 c61 c62 c63) s23) e28.Text e28.N).bind fun x8=>
  some (.inl (wI .i64 (xj14+1),x8.2.key.A,x8.2.key.B,x8.2.total,x8.2.rows.m0,x8.2.rows.m1,x8.2.rows.m2,x8.2.rows.m3,x8.2.rows.m4,x8.2.rows.m5,x8.2.rows.m6,x8.2.rows.m7,x8.2.rows.e0,x8.2.rows.e1,x8.2.rows.e2,x8.2.rows.e3,x8.2.rows.e4,x8.2.rows.e5,x8.2.rows.e6,x8.2.rows.e7)))
  (
  (iter (fun st=>Xb8 Xal Xac Xad l s21 s22 s23 c56 c57 c58 c59 c60 c61 c62 c63 c64 c65 c66 c67 c68 c69 c70 c71 st) FUEL 0).bind fun o=>some (.inr (o)))
def Xfi (Xal:XaQ) (XaS:Xa9) (XaE:Xa2) (Xac:Xap) (Xah:Xau) (Xad:Xao) (rows:Int) (places:Int) (k:XaD) (l:List Xaz):Option Bool:=
 (XaS l).bind fun f=>
 cond (!f)
  (
  (Xal).bind fun a=>
  some (a))
  (
  (XaE (wI .i64 (1+((wI .i64 rows).tmod 8))) (wI .i64 (1+((wI .i64 places).tmod 64))) k).bind fun n=>
  match n with
  | .nil=>
    some (false)
  | .v1 n1=>
    iter (fun st=>XbO Xal Xac Xah Xad l st.1 st.2.1 st.2.2.1 st.2.2.2.1 st.2.2.2.2.1 st.2.2.2.2.2) FUEL (0,n1.key.A,n1.key.B,n1.total,n1.rows.m0,n1.rows.e0)
  | .v2 n3=>
    iter (fun st=>XbP Xal Xac Xah Xad l st.1 st.2.1 st.2.2.1 st.2.2.2.1 st.2.2.2.2.1 st.2.2.2.2.2.1 st.2.2.2.2.2.2.1 st.2.2.2.2.2.2.2) FUEL (0,n3.key.A,n3.key.B,n3.total,n3.rows.m0,n3.rows.m1,n3.rows.e0,n3.rows.e1)
  | .v3 n5=>
    iter (fun st=>XbK Xal Xac Xah Xad l st.1 st.2.1 st.2.2.1 st.2.2.2.1 st.2.2.2.2.1 st.2.2.2.2.2.1 st.2.2.2.2.2.2.1 st.2.2.2.2.2.2.2.1 st.2.2.2.2.2.2.2.2.1 st.2.2.2.2.2.2.2.2.2) FUEL (0,n5.key.A,n5.key.B,n5.total,n5.rows.m0,n5.rows.m1,n5.rows.m2,n5.rows.e0,n5.rows.e1,n5.rows.e2)
  | .v4 n7=>
    iter (fun st=>XbB Xal Xac Xah Xad l st.1 st.2.1 st.2.2.1 st.2.2.2.1 st.2.2.2.2.1 st.2.2.2.2.2.1 st.2.2.2.2.2.2.1 st.2.2.2.2.2.2.2.1 st.2.2.2.2.2.2.2.2.1 st.2.2.2.2.2.2.2.2.2.1 st.2.2.2.2.2.2.2.2.2.2.1 st.2.2.2.2.2.2.2.2.2.2.2) FUEL (0,n7.key.A,n7.key.B,n7.total,n7.rows.m0,n7.rows.m1,n7.rows.m2,n7.rows.m3,n7.rows.e0,n7.rows.e1,n7.rows.e2,n7.rows.e3)
  | .v5 n9=>
    iter (fun st=>Xby Xal Xac Xah Xad l st.1 st.2.1 st.2.2.1 st.2.2.2.1 st.2.2.2.2.1 st.2.2.2.2.2.1 st.2.2.2.2.2.2.1 st.2.2.2.2.2.2.2.1 st.2.2.2.2.2.2.2.2.1 st.2.2.2.2.2.2.2.2.2.1 st.2.2.2.2.2.2.2.2.2.2.1 st.2.2.2.2.2.2.2.2.2.2.2.1 st.2.2.2.2.2.2.2.2.2.2.2.2.1 st.2.2.2.2.2.2.2.2.2.2.2.2.2) FUEL (0,n9.key.A,n9.key.B,n9.total,n9.rows.m0,n9.rows.m1,n9.rows.m2,n9.rows.m3,n9.rows.m4,n9.rows.e0,n9.rows.e1,n9.rows.e2,n9.rows.e3,n9.rows.e4)
  | .v6 n11=>
    iter (fun st=>XbH Xal Xac Xah Xad l st.1 st.2.1 st.2.2.1 st.2.2.2.1 st.2.2.2.2.1 st.2.2.2.2.2.1 st.2.2.2.2.2.2.1 st.2.2.2.2.2.2.2.1 st.2.2.2.2.2.2.2.2.1 st.2.2.2.2.2.2.2.2.2.1 st.2.2.2.2.2.2.2.2.2.2.1 st.2.2.2.2.2.2.2.2.2.2.2.1 st.2.2.2.2.2.2.2.2.2.2.2.2.1 st.2.2.2.2.2.2.2.2.2.2.2.2.2.1 st.2.2.2.2.2.2.2.2.2.2.2.2.2.2.1 st.2.2.2.2.2.2.2.2.2.2.2.2.2.2.2) FUEL (0,n11.key.A,n11.key.B,n11.total,n11.rows.m0,n11.rows.m1,n11.rows.m2,n11.rows.m3,n11.rows.m4,n11.rows.m5,n11.rows.e0,n11.rows.e1,n11.rows.e2,n11.rows.e3,n11.rows.e4,n11.rows.e5)
  | .v7 n13=>
    iter (fun st=>XbG Xal Xac Xah Xad l st.1 st.2.1 st.2.2.1 st.2.2.2.1 st.2.2.2.2.1 st.2.2.2.2.2.1 st.2.2.2.2.2.2.1 st.2.2.2.2.2.2.2.1 st.2.2.2.2.2.2.2.2.1 st.2.2.2.2.2.2.2.2.2.1 st.2.2.2.2.2.2.2.2.2.2.1 st.2.2.2.2.2.2.2.2.2.2.2.1 st.2.2.2.2.2.2.2.2.2.2.2.2.1 st.2.2.2.2.2.2.2.2.2.2.2.2.2.1 st.2.2.2.2.2.2.2.2.2.2.2.2.2.2.1 st.2.2.2.2.2.2.2.2.2.2.2.2.2.2.2.1 st.2.2.2.2.2.2.2.2.2.2.2.2.2.2.2.2.1 st.2.2.2.2.2.2.2.2.2.2.2.2.2.2.2.2.2) FUEL (0,n13.key.A,n13.key.B,n13.total,n13.rows.m0,n13.rows.m1,n13.rows.m2,n13.rows.m3,n13.rows.m4,n13.rows.m5,n13.rows.m6,n13.rows.e0,n13.rows.e1,n13.rows.e2,n13.rows.e3,n13.rows.e4,n13.rows.e5,n13.rows.e6)
  | .v8 n15=>
    iter (fun st=>XbC Xal Xac Xah Xad l st.1 st.2.1 st.2.2.1 st.2.2.2.1 st.2.2.2.2.1 st.2.2.2.2.2.1 st.2.2.2.2.2.2.1 st.2.2.2.2.2.2.2.1 st.2.2.2.2.2.2.2.2.1 st.2.2.2.2.2.2.2.2.2.1 st.2.2.2.2.2.2.2.2.2.2.1 st.2.2.2.2.2.2.2.2.2.2.2.1 st.2.2.2.2.2.2.2.2.2.2.2.2.1 st.2.2.2.2.2.2.2.2.2.2.2.2.2.1 st.2.2.2.2.2.2.2.2.2.2.2.2.2.2.1 st.2.2.2.2.2.2.2.2.2.2.2.2.2.2.2.1 st.2.2.2.2.2.2.2.2.2.2.2.2.2.2.2.2.1 st.2.2.2.2.2.2.2.2.2.2.2.2.2.2.2.2.2.1 st.2.2.2.2.2.2.2.2.2.2.2.2.2.2.2.2.2.2.1 st.2.2.2.2.2.2.2.2.2.2.2.2.2.2.2.2.2.2.2) FUEL (0,n15.key.A,n15.key.B,n15.total,n15.rows.m0,n15.rows.m1,n15.rows.m2,n15.rows.m3,n15.rows.m4,n15.rows.m5,n15.rows.m6,n15.rows.m7,n15.rows.e0,n15.rows.e1,n15.rows.e2,n15.rows.e3,n15.rows.e4,n15.rows.e5,n15.rows.e6,n15.rows.e7))
def rx4 (x:Bool):Xdj:=⟨.bool x,[],[none]⟩
abbrev Xgq:=Int→Int→XaD→(List Xaz)→Option Bool
def r4 (g:Xgq):Dec:=dV (asI .u8) fun (y0:Int)=>dV (asI .u8) fun (y1:Int)=>dV XhL fun (y2:XaD)=>dSl 0 2 (unR 2 Xin) fun (y3:List Xaz)=>Xfq (ofG (g y0 y1 y2 y3) rx4)
def s4 (g:Xgq):Xc3:=⟨[.v,.v,.v,.sl 2],r4 g⟩
abbrev XhA (Xal:XaQ) (XaS:Xa9) (XaE:Xa2) (Xac:Xap) (Xah:Xau) (Xad:Xao):List (Nat×Xc3):=[(9,s9 Xal),(8,s8 XaS),(10,s10 XaE),(16,s16 Xac),(12,s12 Xah),(18,s18 Xad)]
def Xjm (l:List Xaz) (s:Int) (s1:Int) (s2:Int) (c:Nat) (c1:List Int) (xj1:Int) (n2:Int) (i:Int):VM:=
 ⟨⟨4,116,[(3,.slice (some ⟨0,0,none⟩) l.length 2),(9,.pointer (some ⟨2,0,none⟩)),(11,.int .i64 xj1),(12,.int .i64 n2),(13,.int .i64 i)],[.code XjA,.inLoop XjA,.inBlock 4,.code Xoq,.inBlock 3,.code Xop,.inLoop Xhy,.inBlock 2,.code Xje],[],false,none⟩,[],[(0,.row false (vT Xbt l)),(2,.row true [.int .u64 s,.int .u64 s1,.slice (some ⟨3,0,none⟩) 1 1,.int .i64 s2]),(3,.row true [.slice (some ⟨4,0,none⟩) c 1]),(4,.row true (vI .i64 c1))],5⟩
def XkC (l:List Xaz) (s:Int) (s1:Int) (s2:Int) (c:Nat) (c1:List Int) (xj1:Int):VM:=
 ⟨⟨4,116,[(3,.slice (some ⟨0,0,none⟩) l.length 2),(9,.pointer (some ⟨2,0,none⟩)),(11,.int .i64 xj1)],[.code Xhy,.inLoop Xhy,.inBlock 2,.code Xje],[],false,none⟩,[],[(0,.row false (vT Xbt l)),(2,.row true [.int .u64 s,.int .u64 s1,.slice (some ⟨3,0,none⟩) 1 1,.int .i64 s2]),(3,.row true [.slice (some ⟨4,0,none⟩) c 1]),(4,.row true (vI .i64 c1))],5⟩
def Xm4 (l:List Xaz) (xj:Int) (s:Int) (s1:Int) (s2:Int) (c:Nat) (c1:List Int):VM:=
 ⟨⟨4,116,[(3,.slice (some ⟨0,0,none⟩) l.length 2),(9,.pointer (some ⟨2,0,none⟩)),(10,.int .i64 xj)],[.code XiX,.inLoop XiX,.inBlock 0,.code XnW],[],false,none⟩,[],[(0,.row false (vT Xbt l)),(2,.row true [.int .u64 s,.int .u64 s1,.slice (some ⟨3,0,none⟩) 1 1,.int .i64 s2]),(3,.row true [.slice (some ⟨4,0,none⟩) c 1]),(4,.row true (vI .i64 c1))],5⟩
def XjM (l:List Xaz) (s3:Int) (s4:Int) (s5:Int) (c2:Nat) (c3:Nat) (c4:List Int) (c5:List Int) (xj3:Int) (n4:Int) (i1:Int):VM:=
 ⟨⟨4,116,[(3,.slice (some ⟨0,0,none⟩) l.length 2),(9,.pointer (some ⟨2,0,none⟩)),(11,.int .i64 xj3),(12,.int .i64 n4),(13,.int .i64 i1)],[.code XjA,.inLoop XjA,.inBlock 4,.code Xoq,.inBlock 3,.code Xop,.inLoop Xhy,.inBlock 2,.code Xje],[],false,none⟩,[],[(0,.row false (vT Xbt l)),(2,.row true [.int .u64 s3,.int .u64 s4,.slice (some ⟨3,0,none⟩) 2 1,.int .i64 s5]),(3,.row true [.slice (some ⟨4,0,none⟩) c2 1,.slice (some ⟨5,0,none⟩) c3 1]),(4,.row true (vI .i64 c4)),(5,.row true (vI .i64 c5))],6⟩
def XkM (l:List Xaz) (s3:Int) (s4:Int) (s5:Int) (c2:Nat) (c3:Nat) (c4:List Int) (c5:List Int) (xj3:Int):VM:=
 ⟨⟨4,116,[(3,.slice (some ⟨0,0,none⟩) l.length 2),(9,.pointer (some ⟨2,0,none⟩)),(11,.int .i64 xj3)],[.code Xhy,.inLoop Xhy,.inBlock 2,.code Xje],[],false,none⟩,[],[(0,.row false (vT Xbt l)),(2,.row true [.int .u64 s3,.int .u64 s4,.slice (some ⟨3,0,none⟩) 2 1,.int .i64 s5]),(3,.row true [.slice (some ⟨4,0,none⟩) c2 1,.slice (some ⟨5,0,none⟩) c3 1]),(4,.row true (vI .i64 c4)),(5,.row true (vI .i64 c5))],6⟩
def XmQ (l:List Xaz) (xj2:Int) (s3:Int) (s4:Int) (s5:Int) (c2:Nat) (c3:Nat) (c4:List Int) (c5:List Int):VM:=
 ⟨⟨4,116,[(3,.slice (some ⟨0,0,none⟩) l.length 2),(9,.pointer (some ⟨2,0,none⟩)),(10,.int .i64 xj2)],[.code XiX,.inLoop XiX,.inBlock 0,.code XnW],[],false,none⟩,[],[(0,.row false (vT Xbt l)),(2,.row true [.int .u64 s3,.int .u64 s4,.slice (some ⟨3,0,none⟩) 2 1,.int .i64 s5]),(3,.row true [.slice (some ⟨4,0,none⟩) c2 1,.slice (some ⟨5,0,none⟩) c3 1]),(4,.row true (vI .i64 c4)),(5,.row true (vI .i64 c5))],6⟩
def Xjt (l:List Xaz) (s6:Int) (s7:Int) (s8:Int) (c6:Nat) (c7:Nat) (c8:Nat) (c9:List Int) (c10:List Int) (c11:List Int) (xj5:Int) (n6:Int) (i2:Int):VM:=
 ⟨⟨4,116,[(3,.slice (some ⟨0,0,none⟩) l.length 2),(9,.pointer (some ⟨2,0,none⟩)),(11,.int .i64 xj5),(12,.int .i64 n6),(13,.int .i64 i2)],[.code XjA,.inLoop XjA,.inBlock 4,.code Xoq,.inBlock 3,.code Xop,.inLoop Xhy,.inBlock 2,.code Xje],[],false,none⟩,[],[(0,.row false (vT Xbt l)),(2,.row true [.int .u64 s6,.int .u64 s7,.slice (some ⟨3,0,none⟩) 3 1,.int .i64 s8]),(3,.row true [.slice (some ⟨4,0,none⟩) c6 1,.slice (some ⟨5,0,none⟩) c7 1,.slice (some ⟨6,0,none⟩) c8 1]),(4,.row true (vI .i64 c9)),(5,.row true (vI .i64 c10)),(6,.row true (vI .i64 c11))],7⟩
def XkJ (l:List Xaz) (s6:Int) (s7:Int) (s8:Int) (c6:Nat) (c7:Nat) (c8:Nat) (c9:List Int) (c10:List Int) (c11:List Int) (xj5:Int):VM:=
 ⟨⟨4,116,[(3,.slice (some ⟨0,0,none⟩) l.length 2),(9,.pointer (some ⟨2,0,none⟩)),(11,.int .i64 xj5)],[.code Xhy,.inLoop Xhy,.inBlock 2,.code Xje],[],false,none⟩,[],[(0,.row false (vT Xbt l)),(2,.row true [.int .u64 s6,.int .u64 s7,.slice (some ⟨3,0,none⟩) 3 1,.int .i64 s8]),(3,.row true [.slice (some ⟨4,0,none⟩) c6 1,.slice (some ⟨5,0,none⟩) c7 1,.slice (some ⟨6,0,none⟩) c8 1]),(4,.row true (vI .i64 c9)),(5,.row true (vI .i64 c10)),(6,.row true (vI .i64 c11))],7⟩
def XmP (l:List Xaz) (xj4:Int) (s6:Int) (s7:Int) (s8:Int) (c6:Nat) (c7:Nat) (c8:Nat) (c9:List Int) (c10:List Int) (c11:List Int):VM:=
 ⟨⟨4,116,[(3,.slice (some ⟨0,0,none⟩) l.length 2),(9,.pointer (some ⟨2,0,none⟩)),(10,.int .i64 xj4)],[.code XiX,.inLoop XiX,.inBlock 0,.code XnW],[],false,none⟩,[],[(0,.row false (vT Xbt l)),(2,.row true [.int .u64 s6,.int .u64 s7,.slice (some ⟨3,0,none⟩) 3 1,.int .i64 s8]),(3,.row true [.slice (some ⟨4,0,none⟩) c6 1,.slice (some ⟨5,0,none⟩) c7 1,.slice (some ⟨6,0,none⟩) c8 1]),(4,.row true (vI .i64 c9)),(5,.row true (vI .i64 c10)),(6,.row true (vI .i64 c11))],7⟩
def Xh3 (l:List Xaz) (s9:Int) (s10:Int) (s11:Int) (c12:Nat) (c13:Nat) (c14:Nat) (c15:Nat) (c16:List Int) (c17:List Int) (c18:List Int) (c19:List Int) (xj7:Int) (n8:Int) (i3:Int):VM:=
 ⟨⟨4,116,[(3,.slice (some ⟨0,0,none⟩) l.length 2),(9,.pointer (some ⟨2,0,none⟩)),(11,.int .i64 xj7),(12,.int .i64 n8),(13,.int .i64 i3)],[.code XjA,.inLoop XjA,.inBlock 4,.code Xoq,.inBlock 3,.code Xop,.inLoop Xhy,.inBlock 2,.code Xje],[],false,none⟩,[],[(0,.row false (vT Xbt l)),(2,.row true [.int .u64 s9,.int .u64 s10,.slice (some ⟨3,0,none⟩) 4 1,.int .i64 s11]),(3,.row true [.slice (some ⟨4,0,none⟩) c12 1,.slice (some ⟨5,0,none⟩) c13 1,.slice (some ⟨6,0,none⟩) c14 1,.slice (some ⟨7,0,none⟩) c15 1]),(4,.row true (vI .i64 c16)),(5,.row true (vI .i64 c17)),(6,.row true (vI .i64 c18)),(7,.row true (vI .i64 c19))],8⟩
def Xiq (l:List Xaz) (s9:Int) (s10:Int) (s11:Int) (c12:Nat) (c13:Nat) (c14:Nat) (c15:Nat) (c16:List Int) (c17:List Int) (c18:List Int) (c19:List Int) (xj7:Int):VM:=
 ⟨⟨4,116,[(3,.slice (some ⟨0,0,none⟩) l.length 2),(9,.pointer (some ⟨2,0,none⟩)),(11,.int .i64 xj7)],[.code Xhy,.inLoop Xhy,.inBlock 2,.code Xje],[],false,none⟩,[],[(0,.row false (vT Xbt l)),(2,.row true [.int .u64 s9,.int .u64 s10,.slice (some ⟨3,0,none⟩) 4 1,.int .i64 s11]),(3,.row true [.slice (some ⟨4,0,none⟩) c12 1,.slice (some ⟨5,0,none⟩) c13 1,.slice (some ⟨6,0,none⟩) c14 1,.slice (some ⟨7,0,none⟩) c15 1]),(4,.row true (vI .i64 c16)),(5,.row true (vI .i64 c17)),(6,.row true (vI .i64 c18)),(7,.row true (vI .i64 c19))],8⟩
def Xlm (l:List Xaz) (xj6:Int) (s9:Int) (s10:Int) (s11:Int) (c12:Nat) (c13:Nat) (c14:Nat) (c15:Nat) (c16:List Int) (c17:List Int) (c18:List Int) (c19:List Int):VM:=
 ⟨⟨4,116,[(3,.slice (some ⟨0,0,none⟩) l.length 2),(9,.pointer (some ⟨2,0,none⟩)),(10,.int .i64 xj6)],[.code XiX,.inLoop XiX,.inBlock 0,.code XnW],[],false,none⟩,[],[(0,.row false (vT Xbt l)),(2,.row true [.int .u64 s9,.int .u64 s10,.slice (some ⟨3,0,none⟩) 4 1,.int .i64 s11]),(3,.row true [.slice (some ⟨4,0,none⟩) c12 1,.slice (some ⟨5,0,none⟩) c13 1,.slice (some ⟨6,0,none⟩) c14 1,.slice (some ⟨7,0,none⟩) c15 1]),(4,.row true (vI .i64 c16)),(5,.row true (vI .i64 c17)),(6,.row true (vI .i64 c18)),(7,.row true (vI .i64 c19))],8⟩
def Xh2 (l:List Xaz) (s12:Int) (s13:Int) (s14:Int) (c20:Nat) (c21:Nat) (c22:Nat) (c23:Nat) (c24:Nat) (c25:List Int) (c26:List Int) (c27:List Int) (c28:List Int) (c29:List Int) (xj9:Int) (n10:Int) (i4:Int):VM:=
 ⟨⟨4,116,[(3,.slice (some ⟨0,0,none⟩) l.length 2),(9,.pointer (some ⟨2,0,none⟩)),(11,.int .i64 xj9),(12,.int .i64 n10),(13,.int .i64 i4)],[.code XjA,.inLoop XjA,.inBlock 4,.code Xoq,.inBlock 3,.code Xop,.inLoop Xhy,.inBlock 2,.code Xje],[],false,none⟩,[],[(0,.row false (vT Xbt l)),(2,.row true [.int .u64 s12,.int .u64 s13,.slice (some ⟨3,0,none⟩) 5 1,.int .i64 s14]),(3,.row true [.slice (some ⟨4,0,none⟩) c20 1,.slice (some ⟨5,0,none⟩) c21 1,.slice (some ⟨6,0,none⟩) c22 1,.slice (some ⟨7,0,none⟩) c23 1,.slice (some ⟨8,0,none⟩) c24 1]),(4,.row true (vI .i64 c25)),(5,.row true (vI .i64 c26)),(6,.row true (vI .i64 c27)),(7,.row true (vI .i64 c28)),(8,.row true (vI .i64 c29))],9⟩
def Xip (l:List Xaz) (s12:Int) (s13:Int) (s14:Int) (c20:Nat) (c21:Nat) (c22:Nat) (c23:Nat) (c24:Nat) (c25:List Int) (c26:List Int) (c27:List Int) (c28:List Int) (c29:List Int) (xj9:Int):VM:=
 ⟨⟨4,116,[(3,.slice (some ⟨0,0,none⟩) l.length 2),(9,.pointer (some ⟨2,0,none⟩)),(11,.int .i64 xj9)],[.code Xhy,.inLoop Xhy,.inBlock 2,.code Xje],[],false,none⟩,[],[(0,.row false (vT Xbt l)),(2,.row true [.int .u64 s12,.int .u64 s13,.slice (some ⟨3,0,none⟩) 5 1,.int .i64 s14]),(3,.row true [.slice (some ⟨4,0,none⟩) c20 1,.slice (some ⟨5,0,none⟩) c21 1,.slice (some ⟨6,0,none⟩) c22 1,.slice (some ⟨7,0,none⟩) c23 1,.slice (some ⟨8,0,none⟩) c24 1]),(4,.row true (vI .i64 c25)),(5,.row true (vI .i64 c26)),(6,.row true (vI .i64 c27)),(7,.row true (vI .i64 c28)),(8,.row true (vI .i64 c29))],9⟩
def Xlj (l:List Xaz) (xj8:Int) (s12:Int) (s13:Int) (s14:Int) (c20:Nat) (c21:Nat) (c22:Nat) (c23:Nat) (c24:Nat) (c25:List Int) (c26:List Int) (c27:List Int) (c28:List Int) (c29:List Int):VM:=
 ⟨⟨4,116,[(3,.slice (some ⟨0,0,none⟩) l.length 2),(9,.pointer (some ⟨2,0,none⟩)),(10,.int .i64 xj8)],[.code XiX,.inLoop XiX,.inBlock 0,.code XnW],[],false,none⟩,[],[(0,.row false (vT Xbt l)),(2,.row true [.int .u64 s12,.int .u64 s13,.slice (some ⟨3,0,none⟩) 5 1,.int .i64 s14]),(3,.row true [.slice (some ⟨4,0,none⟩) c20 1,.slice (some ⟨5,0,none⟩) c21 1,.slice (some ⟨6,0,none⟩) c22 1,.slice (some ⟨7,0,none⟩) c23 1,.slice (some ⟨8,0,none⟩) c24 1]),(4,.row true (vI .i64 c25)),(5,.row true (vI .i64 c26)),(6,.row true (vI .i64 c27)),(7,.row true (vI .i64 c28)),(8,.row true (vI .i64 c29))],9⟩
def Xh5 (l:List Xaz) (s15:Int) (s16:Int) (s17:Int) (c30:Nat) (c31:Nat) (c32:Nat) (c33:Nat) (c34:Nat) (c35:Nat) (c36:List Int) (c37:List Int) (c38:List Int) (c39:List Int) (c40:List Int) (c41:List Int) (xj11:Int) (n12:Int) (i5:Int):VM:=
 ⟨⟨4,116,[(3,.slice (some ⟨0,0,none⟩) l.length 2),(9,.pointer (some ⟨2,0,none⟩)),(11,.int .i64 xj11),(12,.int .i64 n12),(13,.int .i64 i5)],[.code XjA,.inLoop XjA,.inBlock 4,.code Xoq,.inBlock 3,.code Xop,.inLoop Xhy,.inBlock 2,.code Xje],[],false,none⟩,[],[(0,.row false (vT Xbt l)),(2,.row true [.int .u64 s15,.int .u64 s16,.slice (some ⟨3,0,none⟩) 6 1,.int .i64 s17]),(3,.row true [.slice (some ⟨4,0,none⟩) c30 1,.slice (some ⟨5,0,none⟩) c31 1,.slice (some ⟨6,0,none⟩) c32 1,.slice (some ⟨7,0,none⟩) c33 1,.slice (some ⟨8,0,none⟩) c34 1,.slice (some ⟨9,0,none⟩) c35 1]),(4,.row true (vI .i64 c36)),(5,.row true (vI .i64 c37)),(6,.row true (vI .i64 c38)),(7,.row true (vI .i64 c39)),(8,.row true (vI .i64 c40)),(9,.row true (vI .i64 c41))],10⟩
def XiM (l:List Xaz) (s15:Int) (s16:Int) (s17:Int) (c30:Nat) (c31:Nat) (c32:Nat) (c33:Nat) (c34:Nat) (c35:Nat) (c36:List Int) (c37:List Int) (c38:List Int) (c39:List Int) (c40:List Int) (c41:List Int) (xj11:Int):VM:=
 ⟨⟨4,116,[(3,.slice (some ⟨0,0,none⟩) l.length 2),(9,.pointer (some ⟨2,0,none⟩)),(11,.int .i64 xj11)],[.code Xhy,.inLoop Xhy,.inBlock 2,.code Xje],[],false,none⟩,[],[(0,.row false (vT Xbt l)),(2,.row true [.int .u64 s15,.int .u64 s16,.slice (some ⟨3,0,none⟩) 6 1,.int .i64 s17]),(3,.row true [.slice (some ⟨4,0,none⟩) c30 1,.slice (some ⟨5,0,none⟩) c31 1,.slice (some ⟨6,0,none⟩) c32 1,.slice (some ⟨7,0,none⟩) c33 1,.slice (some ⟨8,0,none⟩) c34 1,.slice (some ⟨9,0,none⟩) c35 1]),(4,.row true (vI .i64 c36)),(5,.row true (vI .i64 c37)),(6,.row true (vI .i64 c38)),(7,.row true (vI .i64 c39)),(8,.row true (vI .i64 c40)),(9,.row true (vI .i64 c41))],10⟩
def Xld (l:List Xaz) (xj10:Int) (s15:Int) (s16:Int) (s17:Int) (c30:Nat) (c31:Nat) (c32:Nat) (c33:Nat) (c34:Nat) (c35:Nat) (c36:List Int) (c37:List Int) (c38:List Int) (c39:List Int) (c40:List Int) (c41:List Int):VM:=
 ⟨⟨4,116,[(3,.slice (some ⟨0,0,none⟩) l.length 2),(9,.pointer (some ⟨2,0,none⟩)),(10,.int .i64 xj10)],[.code XiX,.inLoop XiX,.inBlock 0,.code XnW],[],false,none⟩,[],[(0,.row false (vT Xbt l)),(2,.row true [.int .u64 s15,.int .u64 s16,.slice (some ⟨3,0,none⟩) 6 1,.int .i64 s17]),(3,.row true [.slice (some ⟨4,0,none⟩) c30 1,.slice (some ⟨5,0,none⟩) c31 1,.slice (some ⟨6,0,none⟩) c32 1,.slice (some ⟨7,0,none⟩) c33 1,.slice (some ⟨8,0,none⟩) c34 1,.slice (some ⟨9,0,none⟩) c35 1]),(4,.row true (vI .i64 c36)),(5,.row true (vI .i64 c37)),(6,.row true (vI .i64 c38)),(7,.row true (vI .i64 c39)),(8,.row true (vI .i64 c40)),(9,.row true (vI .i64 c41))],10⟩
def XhR (l:List Xaz) (s18:Int) (s19:Int) (s20:Int) (c42:Nat) (c43:Nat) (c44:Nat) (c45:Nat) (c46:Nat) (c47:Nat) (c48:Nat) (c49:List Int) (c50:List Int) (c51:List Int) (c52:List Int) (c53:List Int) (c54:List Int) (c55:List Int) (xj13:Int) (n14:Int) (i6:Int):VM:=
 ⟨⟨4,116,[(3,.slice (some ⟨0,0,none⟩) l.length 2),(9,.pointer (some ⟨2,0,none⟩)),(11,.int .i64 xj13),(12,.int .i64 n14),(13,.int .i64 i6)],[.code XjA,.inLoop XjA,.inBlock 4,.code Xoq,.inBlock 3,.code Xop,.inLoop Xhy,.inBlock 2,.code Xje],[],false,none⟩,[],[(0,.row false (vT Xbt l)),(2,.row true [.int .u64 s18,.int .u64 s19,.slice (some ⟨3,0,none⟩) 7 1,.int .i64 s20]),(3,.row true [.slice (some ⟨4,0,none⟩) c42 1,.slice (some ⟨5,0,none⟩) c43 1,.slice (some ⟨6,0,none⟩) c44 1,.slice (some ⟨7,0,none⟩) c45 1,.slice (some ⟨8,0,none⟩) c46 1,.slice (some ⟨9,0,none⟩) c47 1,.slice (some ⟨10,0,none⟩) c48 1]),(4,.row true (vI .i64 c49)),(5,.row true (vI .i64 c50)),(6,.row true (vI .i64 c51)),(7,.row true (vI .i64 c52)),(8,.row true (vI .i64 c53)),(9,.row true (vI .i64 c54)),(10,.row true (vI .i64 c55))],11⟩
def XiP (l:List Xaz) (s18:Int) (s19:Int) (s20:Int) (c42:Nat) (c43:Nat) (c44:Nat) (c45:Nat) (c46:Nat) (c47:Nat) (c48:Nat) (c49:List Int) (c50:List Int) (c51:List Int) (c52:List Int) (c53:List Int) (c54:List Int) (c55:List Int) (xj13:Int):VM:=
 ⟨⟨4,116,[(3,.slice (some ⟨0,0,none⟩) l.length 2),(9,.pointer (some ⟨2,0,none⟩)),(11,.int .i64 xj13)],[.code Xhy,.inLoop Xhy,.inBlock 2,.code Xje],[],false,none⟩,[],[(0,.row false (vT Xbt l)),(2,.row true [.int .u64 s18,.int .u64 s19,.slice (some ⟨3,0,none⟩) 7 1,.int .i64 s20]),(3,.row true [.slice (some ⟨4,0,none⟩) c42 1,.slice (some ⟨5,0,none⟩) c43 1,.slice (some ⟨6,0,none⟩) c44 1,.slice (some ⟨7,0,none⟩) c45 1,.slice (some ⟨8,0,none⟩) c46 1,.slice (some ⟨9,0,none⟩) c47 1,.slice (some ⟨10,0,none⟩) c48 1]),(4,.row true (vI .i64 c49)),(5,.row true (vI .i64 c50)),(6,.row true (vI .i64 c51)),(7,.row true (vI .i64 c52)),(8,.row true (vI .i64 c53)),(9,.row true (vI .i64 c54)),(10,.row true (vI .i64 c55))],11⟩
def Xk4 (l:List Xaz) (xj12:Int) (s18:Int) (s19:Int) (s20:Int) (c42:Nat) (c43:Nat) (c44:Nat) (c45:Nat) (c46:Nat) (c47:Nat) (c48:Nat) (c49:List Int) (c50:List Int) (c51:List Int) (c52:List Int) (c53:List Int) (c54:List Int) (c55:List Int):VM:=
 ⟨⟨4,116,[(3,.slice (some ⟨0,0,none⟩) l.length 2),(9,.pointer (some ⟨2,0,none⟩)),(10,.int .i64 xj12)],[.code XiX,.inLoop XiX,.inBlock 0,.code XnW],[],false,none⟩,[],[(0,.row false (vT Xbt l)),(2,.row true [.int .u64 s18,.int .u64 s19,.slice (some ⟨3,0,none⟩) 7 1,.int .i64 s20]),(3,.row true [.slice (some ⟨4,0,none⟩) c42 1,.slice (some ⟨5,0,none⟩) c43 1,.slice (some ⟨6,0,none⟩) c44 1,.slice (some ⟨7,0,none⟩) c45 1,.slice (some ⟨8,0,none⟩) c46 1,.slice (some ⟨9,0,none⟩) c47 1,.slice (some ⟨10,0,none⟩) c48 1]),(4,.row true (vI .i64 c49)),(5,.row true (vI .i64 c50)),(6,.row true (vI .i64 c51)),(7,.row true (vI .i64 c52)),(8,.row true (vI .i64 c53)),(9,.row true (vI .i64 c54)),(10,.row true (vI .i64 c55))],11⟩
def Xh4 (l:List Xaz) (s21:Int) (s22:Int) (s23:Int) (c56:Nat) (c57:Nat) (c58:Nat) (c59:Nat) (c60:Nat) (c61:Nat) (c62:Nat) (c63:Nat) (c64:List Int) (c65:List Int) (c66:List Int) (c67:List Int) (c68:List Int) (c69:List Int) (c70:List Int) (c71:List Int) (xj15:Int) (n16:Int) (i7:Int):VM:=
 ⟨⟨4,116,[(3,.slice (some ⟨0,0,none⟩) l.length 2),(9,.pointer (some ⟨2,0,none⟩)),(11,.int .i64 xj15),(12,.int .i64 n16),(13,.int .i64 i7)],[.code XjA,.inLoop XjA,.inBlock 4,.code Xoq,.inBlock 3,.code Xop,.inLoop Xhy,.inBlock 2,.code Xje],[],false,none⟩,[],[(0,.row false (vT Xbt l)),(2,.row true [.int .u64 s21,.int .u64 s22,.slice (some ⟨3,0,none⟩) 8 1,.int .i64 s23]),(3,.row true [.slice (some ⟨4,0,none⟩) c56 1,.slice (some ⟨5,0,none⟩) c57 1,.slice (some ⟨6,0,none⟩) c58 1,.slice (some ⟨7,0,none⟩) c59 1,.slice (some ⟨8,0,none⟩) c60 1,.slice (some ⟨9,0,none⟩) c61 1,.slice (some ⟨10,0,none⟩) c62 1,.slice (some ⟨11,0,none⟩) c63 1]),(4,.row true (vI .i64 c64)),(5,.row true (vI .i64 c65)),(6,.row true (vI .i64 c66)),(7,.row true (vI .i64 c67)),(8,.row true (vI .i64 c68)),(9,.row true (vI .i64 c69)),(10,.row true (vI .i64 c70)),(11,.row true (vI .i64 c71))],12⟩
def Xiv (l:List Xaz) (s21:Int) (s22:Int) (s23:Int) (c56:Nat) (c57:Nat) (c58:Nat) (c59:Nat) (c60:Nat) (c61:Nat) (c62:Nat) (c63:Nat) (c64:List Int) (c65:List Int) (c66:List Int) (c67:List Int) (c68:List Int) (c69:List Int) (c70:List Int) (c71:List Int) (xj15:Int):VM:=
 ⟨⟨4,116,[(3,.slice (some ⟨0,0,none⟩) l.length 2),(9,.pointer (some ⟨2,0,none⟩)),(11,.int .i64 xj15)],[.code Xhy,.inLoop Xhy,.inBlock 2,.code Xje],[],false,none⟩,[],[(0,.row false (vT Xbt l)),(2,.row true [.int .u64 s21,.int .u64 s22,.slice (some ⟨3,0,none⟩) 8 1,.int .i64 s23]),(3,.row true [.slice (some ⟨4,0,none⟩) c56 1,.slice (some ⟨5,0,none⟩) c57 1,.slice (some ⟨6,0,none⟩) c58 1,.slice (some ⟨7,0,none⟩) c59 1,.slice (some ⟨8,0,none⟩) c60 1,.slice (some ⟨9,0,none⟩) c61 1,.slice (some ⟨10,0,none⟩) c62 1,.slice (some ⟨11,0,none⟩) c63 1]),(4,.row true (vI .i64 c64)),(5,.row true (vI .i64 c65)),(6,.row true (vI .i64 c66)),(7,.row true (vI .i64 c67)),(8,.row true (vI .i64 c68)),(9,.row true (vI .i64 c69)),(10,.row true (vI .i64 c70)),(11,.row true (vI .i64 c71))],12⟩
def Xlk (l:List Xaz) (xj14:Int) (s21:Int) (s22:Int) (s23:Int) (c56:Nat) (c57:Nat) (c58:Nat) (c59:Nat) (c60:Nat) (c61:Nat) (c62:Nat) (c63:Nat) (c64:List Int) (c65:List Int) (c66:List Int) (c67:List Int) (c68:List Int) (c69:List Int) (c70:List Int) (c71:List Int):VM:=
 ⟨⟨4,116,[(3,.slice (some ⟨0,0,none⟩) l.length 2),(9,.pointer (some ⟨2,0,none⟩)),(10,.int .i64 xj14)],[.code XiX,.inLoop XiX,.inBlock 0,.code XnW],[],false,none⟩,[],[(0,.row false (vT Xbt l)),(2,.row true [.int .u64 s21,.int .u64 s22,.slice (some ⟨3,0,none⟩) 8 1,.int .i64 s23]),(3,.row true [.slice (some ⟨4,0,none⟩) c56 1,.slice (some ⟨5,0,none⟩) c57 1,.slice (some ⟨6,0,none⟩) c58 1,.slice (some ⟨7,0,none⟩) c59 1,.slice (some ⟨8,0,none⟩) c60 1,.slice (some ⟨9,0,none⟩) c61 1,.slice (some ⟨10,0,none⟩) c62 1,.slice (some ⟨11,0,none⟩) c63 1]),(4,.row true (vI .i64 c64)),(5,.row true (vI .i64 c65)),(6,.row true (vI .i64 c66)),(7,.row true (vI .i64 c67)),(8,.row true (vI .i64 c68)),(9,.row true (vI .i64 c69)),(10,.row true (vI .i64 c70)),(11,.row true (vI .i64 c71))],12⟩
theorem XzV (Xal:XaQ) (XaS:Xa9) (XaE:Xa2) (Xac:Xap) (Xah:Xau) (Xad:Xao) (hS:XaL Try.prog (XaY (XhA Xal XaS XaE Xac Xah Xad))) (l:List Xaz) (s:Int) (s1:Int) (s2:Int) (c:Nat) (c1:List Int) (xj1:Int) (res:Bool):∀ fuel (st:Int×Int) (o:Sum Int Bool),iter (fun st=>XbL Xac Xad l s s1 s2 c c1 xj1 st.1 st.2) fuel st=some o→(Sum.elim (fun s0=>Xa0 Try.prog 4 1 (XkC l s s1 s2 c c1 s0) (fun v H _=>Res 1 (rx4 res) v H)) (fun r0=>r0=res) o) →
 Xa0 Try.prog 4 1 (Xjm l s s1 s2 c c1 xj1 st.1 st.2) (fun v H _=>Res 1 (rx4 res) v H):=by
 intro fuel st o h hc
 refine Xbl (head:=fun st=>Xjm l s s1 s2 c c1 xj1 st.1 st.2) (C:=fun o=>(Sum.elim (fun s0=>Xa0 Try.prog 4 1 (XkC l s s1 s2 c c1 s0) (fun v H _=>Res 1 (rx4 res) v H)) (fun r0=>r0=res) o)) ?_ fuel st o h hc
 clear h hc o st fuel
 intro st o h hc
 obtain ⟨n2,i⟩:=st
 replace h:XbL Xac Xad l s s1 s2 c c1 xj1 n2 i=some o:=h
 show Xa0 Try.prog 4 1 (Xjm l s s1 s2 c c1 xj1 n2 i) (fun v H _=>Res 1 (rx4 res) v H)
 unfold XbL at h
 refine Xa1 XaJ hS true 3000 ?_
 conv=>whnf
 refine br.h2 h (by rfl) ?_ ?_
 ·clear h;intro hb h;conv=>whnf
  replace h:=XaU.elim h;obtain ⟨hb,h⟩:=h
  try (refine req.intro hb ?_;conv=>whnf)
  replace h:=XaK.elim h;obtain ⟨e3,hy,h⟩:=h
  refine rd.T (j:=0) XaA hy (by first|omega|exact Nat.zero_add _|exact congrArg (·+_) (Nat.zero_add _)) (by decide) rfl ?_
  conv=>whnf
  replace h:=XaK.elim h;obtain ⟨x11,hy,h⟩:=h
  refine Xbn.XaO [] (Xar («as»:=[.pointer (some ⟨0,0,none⟩),.string ⟨⟨e3.Text⟩⟩]) (ws:=[.blk 2 false,.blk 3 false,.blk 4 false,.no,.no,.no,.no,.no,.no,.no]) (n:=0) (m:=0) (t':=5) (Xam (Xa6 rfl rfl (Xai rfl rfl rfl rfl (Xai rfl rfl rfl rfl (Xai rfl rfl (Xat) rfl (Xan (Xan (Xan (Xan (Xan (Xan (Xan XaR)))))))))) rfl) rfl (Xam rfl rfl XaP)) rfl (by rfl) (Xrf hy) rfl rfl rfl rfl (Xab rfl (Xab rfl (Xab rfl (Xab rfl (Xab rfl (Xab rfl (Xab rfl (Xab rfl (Xab rfl (Xab rfl XaN)))))))))) XaM rfl) ?_
  conv=>whnf
  refine br.h h (by rfl) ?_ ?_
  ·clear h;intro hb h;conv=>whnf
   exact W
  clear h;intro hb h;conv=>whnf
  replace h:=XaU.elim h;obtain ⟨hb,h⟩:=h
  try (refine req.intro hb ?_;conv=>whnf)
  refine rd.T (i:=xj1.toNat) (x:=e3) (j:=0) XaA (by assumption) (by first|omega|exact Nat.zero_add _|exact congrArg (·+_) (Nat.zero_add _)) (by decide) rfl ?_
  conv=>whnf
  replace h:=XaK.elim h;obtain ⟨x12,hy,h⟩:=h
  refine Xbn.XaO [] (Xar («as»:=[.pointer (some ⟨0,0,none⟩),.string ⟨⟨e3.Text⟩⟩]) (ws:=[.blk 2 false,.blk 3 false,.blk 4 false,.no,.no,.no,.no,.no,.no,.no]) (n:=0) (m:=0) (t':=5) (Xam (Xa6 rfl rfl (Xai rfl rfl rfl rfl (Xai rfl rfl rfl rfl (Xai rfl rfl (Xat) rfl (Xan (Xan (Xan (Xan (Xan (Xan (Xan XaR)))))))))) rfl) rfl (Xam rfl rfl XaP)) rfl (by rfl) (Xrf hy) rfl rfl rfl rfl (Xab rfl (Xab rfl (Xab rfl (Xab rfl (Xab rfl (Xab rfl (Xab rfl (Xab rfl (Xab rfl (Xab rfl XaN)))))))))) XaM rfl) ?_
  conv=>whnf
  replace h:=XaK.elim h;obtain ⟨x13,hy,h⟩:=h
  refine Xbn.XaO [] (Xar («as»:=[.pointer (some ⟨0,0,none⟩)]) (ws:=[.blk 2 false,.blk 3 false,.blk 4 false,.no,.no,.no,.no,.no,.no,.no]) (n:=0) (m:=0) (t':=5) (Xam (Xa6 rfl rfl (Xai rfl rfl rfl rfl (Xai rfl rfl rfl rfl (Xai rfl rfl (Xat) rfl (Xan (Xan (Xan (Xan (Xan (Xan (Xan XaR)))))))))) rfl) rfl XaP) rfl (by rfl) (XwR hy) rfl rfl rfl rfl (Xab rfl (Xab rfl (Xab rfl (Xab rfl (Xab rfl (Xab rfl (Xab rfl (Xab rfl (Xab rfl (Xab rfl XaN)))))))))) XaM rfl) ?_
  conv=>whnf
  refine br.h h (by rfl) ?_ ?_
  ·clear h;intro hb h;conv=>whnf
   exact W
  clear h;intro hb h;conv=>whnf
  cases h;simp only [Sum.elim_inr,Sum.elim_inl,XkC] at hc
  exact Xfj hc [(0,0),(2,2),(3,3),(4,4)] rfl
 clear h;intro hb h;conv=>whnf
 replace h:=XaU.elim h;obtain ⟨hb,h⟩:=h
 try (refine req.intro hb ?_;conv=>whnf)
 replace h:=XaK.elim h;obtain ⟨e1,hy,h⟩:=h
 refine rd.T (j:=0) XaA hy (by first|omega|exact Nat.zero_add _|exact congrArg (·+_) (Nat.zero_add _)) (by decide) rfl ?_
 conv=>whnf
 replace h:=XaU.elim h;obtain ⟨hb,h⟩:=h
 try (refine req.intro hb ?_;conv=>whnf)
 replace h:=XaK.elim h;obtain ⟨e2,hy,h⟩:=h
 refine rd.T (j:=0) XaA hy (by first|omega|exact Nat.zero_add _|exact congrArg (·+_) (Nat.zero_add _)) (by decide) rfl ?_
 conv=>whnf
 refine br.h2 h (by rfl) ?_ ?_
 ·clear h;intro hb h;conv=>whnf
  cases h;simp only [Sum.elim_inl,Xjm] at hc
  exact Xfj hc [(0,0),(2,2),(3,3),(4,4)] rfl
 clear h;intro hb h;conv=>whnf
 replace h:=XaU.elim h;obtain ⟨hb,h⟩:=h
 try (refine req.intro hb ?_;conv=>whnf)
 refine rd.T (i:=i.toNat) (x:=e1) (j:=1) XaA (by assumption) (by first|omega|exact Nat.zero_add _|exact congrArg (·+_) (Nat.zero_add _)) (by decide) rfl ?_
 conv=>whnf
 refine br.h2 h (by rfl) ?_ ?_
 ·clear h;intro hb h;conv=>whnf
  cases h;simp only [Sum.elim_inl,Xjm] at hc
  exact Xfj hc [(0,0),(2,2),(3,3),(4,4)] rfl
 clear h;intro hb h;conv=>whnf
 replace h:=XaU.elim h;obtain ⟨hb,h⟩:=h
 try (refine req.intro hb ?_;conv=>whnf)
 refine rd.T (i:=i.toNat) (x:=e1) (j:=1) XaA (by assumption) (by first|omega|exact Nat.zero_add _|exact congrArg (·+_) (Nat.zero_add _)) (by decide) rfl ?_
 conv=>whnf
 refine br.h2 h (by rfl) ?_ ?_
 ·clear h;intro hb h;conv=>whnf
  cases h;simp only [Sum.elim_inl,Xjm] at hc
  exact Xfj hc [(0,0),(2,2),(3,3),(4,4)] rfl
 clear h;intro hb h;conv=>whnf
 replace h:=XaU.elim h;obtain ⟨hb,h⟩:=h
 try (refine req.intro hb ?_;conv=>whnf)
 refine rd.T (i:=i.toNat) (x:=e1) (j:=1) XaA (by assumption) (by first|omega|exact Nat.zero_add _|exact congrArg (·+_) (Nat.zero_add _)) (by decide) rfl ?_
 conv=>whnf
 cases h;simp only [Sum.elim_inl,Xjm] at hc
 exact Xfj hc [(0,0),(2,2),(3,3),(4,4)] rfl
theorem XAE (Xal:XaQ) (XaS:Xa9) (XaE:Xa2) (Xac:Xap) (Xah:Xau) (Xad:Xao) (hS:XaL Try.prog (XaY (XhA Xal XaS XaE Xac Xah Xad))) (l:List Xaz) (s:Int) (s1:Int) (s2:Int) (c:Nat) (c1:List Int) (res:Bool):∀ fuel (st:Int) (o:Bool),iter (fun st=>Xcj Xal Xac Xad l s s1 s2 c c1 st) fuel st=some o→(o=res) →
 Xa0 Try.prog 4 1 (XkC l s s1 s2 c c1 st) (fun v H _=>Res 1 (rx4 res) v H):=by
 intro fuel st o h hc
 refine Xbl (head:=fun st=>XkC l s s1 s2 c c1 st) (C:=fun o=>(o=res)) ?_ fuel st o h hc
 clear h hc o st fuel
 intro xj1 o h hc
 replace h:Xcj Xal Xac Xad l s s1 s2 c c1 xj1=some o:=h
 show Xa0 Try.prog 4 1 (XkC l s s1 s2 c c1 xj1) (fun v H _=>Res 1 (rx4 res) v H)
 unfold Xcj at h
 have R1:=@Xoy Xal
 refine Xa1 XaJ hS true 3000 ?_
 conv=>whnf
 refine br.h h (by rfl) ?_ ?_
 ·clear h;intro hb h;conv=>whnf
  have hl:=XzV Xal XaS XaE Xac Xah Xad hS _ _ _ _ _ _ _ res _ _ _ h hc;simp only [Xjm] at hl
  exact Xfj hl [(0,0),(2,2),(3,3),(4,4)] rfl
 clear h;intro hb h;conv=>whnf
 exact W
theorem XB8 (Xal:XaQ) (XaS:Xa9) (XaE:Xa2) (Xac:Xap) (Xah:Xau) (Xad:Xao) (hS:XaL Try.prog (XaY (XhA Xal XaS XaE Xac Xah Xad))) (l:List Xaz) (res:Bool):∀ fuel (st:Int×Int×Int×Int×Nat×(List Int)) (o:Bool),iter (fun st=>XbO Xal Xac Xah Xad l st.1 st.2.1 st.2.2.1 st.2.2.2.1 st.2.2.2.2.1 st.2.2.2.2.2) fuel st=some o→(o=res) →
 Xa0 Try.prog 4 1 (Xm4 l st.1 st.2.1 st.2.2.1 st.2.2.2.1 st.2.2.2.2.1 st.2.2.2.2.2) (fun v H _=>Res 1 (rx4 res) v H):=by
 intro fuel st o h hc
 refine Xbl (head:=fun st=>Xm4 l st.1 st.2.1 st.2.2.1 st.2.2.2.1 st.2.2.2.2.1 st.2.2.2.2.2) (C:=fun o=>(o=res)) ?_ fuel st o h hc
 clear h hc o st fuel
 intro st o h hc
 obtain ⟨xj,s,s1,s2,c,c1⟩:=st
 replace h:XbO Xal Xac Xah Xad l xj s s1 s2 c c1=some o:=h
 show Xa0 Try.prog 4 1 (Xm4 l xj s s1 s2 c c1) (fun v H _=>Res 1 (rx4 res) v H)
 unfold XbO at h
 refine Xa1 XaJ hS true 3000 ?_
 conv=>whnf
 refine br.h2 h (by rfl) ?_ ?_
 ·clear h;intro hb h;conv=>whnf
  obtain ⟨y,hy,h2⟩:=XaK.elim h;cases h2
  have hl:=XAE Xal XaS XaE Xac Xah Xad hS _ _ _ _ _ _ res _ _ _ hy hc;simp only [XkC] at hl
  exact Xfj hl [(0,0),(2,2),(3,3),(4,4)] rfl
 clear h;intro hb h;conv=>whnf
 replace h:=XaU.elim h;obtain ⟨hb,h⟩:=h
 try (refine req.intro hb ?_;conv=>whnf)
 replace h:=XaK.elim h;obtain ⟨e,hy,h⟩:=h
 refine rd.T (j:=0) XaA hy (by first|omega|exact Nat.zero_add _|exact congrArg (·+_) (Nat.zero_add _)) (by decide) rfl ?_
 conv=>whnf
 replace h:=XaU.elim h;obtain ⟨hb,h⟩:=h
 try (refine req.intro hb ?_;conv=>whnf)
 refine rd.T (i:=xj.toNat) (x:=e) (j:=1) XaA (by assumption) (by first|omega|exact Nat.zero_add _|exact congrArg (·+_) (Nat.zero_add _)) (by decide) rfl ?_
 conv=>whnf
 replace h:=XaK.elim h;obtain ⟨x1,hy,h⟩:=h
 refine Xbn.XaO [2,3] (Xar («as»:=[.pointer (some ⟨0,0,none⟩),.string ⟨⟨e.Text⟩⟩,.int .i64 e.N]) (ws:=[.blk 2 true,.blk 3 true,.blk 4 true,.no,.no,.no,.no,.no,.no,.no]) (n:=1) (m:=0) (t':=17) (Xam (Xa6 rfl rfl (Xai rfl rfl rfl rfl (Xai rfl rfl rfl rfl (Xai rfl rfl (Xat) rfl (Xan (Xan (Xan (Xan (Xan (Xan (Xan XaR)))))))))) rfl) rfl (Xam rfl rfl (Xam rfl rfl XaP))) rfl (by rfl) (Xwd hy) rfl rfl rfl rfl (Xfo rfl rfl rfl rfl (Xfo rfl rfl rfl rfl (XcC (Xab rfl (Xab rfl (Xab rfl (Xab rfl (Xab rfl (Xab rfl (Xab rfl XaN)))))))))) (XbR (Xat) XaM) rfl) ?_
 conv=>whnf
 cases h;simp only [Sum.elim_inl,Xm4] at hc
 exact Xfj hc [(0,0),(2,2),(3,3),(4,16)] rfl
theorem XBT (Xal:XaQ) (XaS:Xa9) (XaE:Xa2) (Xac:Xap) (Xah:Xau) (Xad:Xao) (hS:XaL Try.prog (XaY (XhA Xal XaS XaE Xac Xah Xad))) (l:List Xaz) (s3:Int) (s4:Int) (s5:Int) (c2:Nat) (c3:Nat) (c4:List Int) (c5:List Int) (xj3:Int) (res:Bool):∀ fuel (st:Int×Int) (o:Sum Int Bool),iter (fun st=>XbN Xac Xad l s3 s4 s5 c2 c3 c4 c5 xj3 st.1 st.2) fuel st=some o→(Sum.elim (fun s0=>Xa0 Try.prog 4 1 (XkM l s3 s4 s5 c2 c3 c4 c5 s0) (fun v H _=>Res 1 (rx4 res) v H)) (fun r0=>r0=res) o) →
 Xa0 Try.prog 4 1 (XjM l s3 s4 s5 c2 c3 c4 c5 xj3 st.1 st.2) (fun v H _=>Res 1 (rx4 res) v H):=by
 intro fuel st o h hc
 refine Xbl (head:=fun st=>XjM l s3 s4 s5 c2 c3 c4 c5 xj3 st.1 st.2) (C:=fun o=>(Sum.elim (fun s0=>Xa0 Try.prog 4 1 (XkM l s3 s4 s5 c2 c3 c4 c5 s0) (fun v H _=>Res 1 (rx4 res) v H)) (fun r0=>r0=res) o)) ?_ fuel st o h hc
 clear h hc o st fuel
 intro st o h hc
 obtain ⟨n4,i1⟩:=st
 replace h:XbN Xac Xad l s3 s4 s5 c2 c3 c4 c5 xj3 n4 i1=some o:=h
 show Xa0 Try.prog 4 1 (XjM l s3 s4 s5 c2 c3 c4 c5 xj3 n4 i1) (fun v H _=>Res 1 (rx4 res) v H)
 unfold XbN at h
 refine Xa1 XaJ hS true 3000 ?_
 conv=>whnf
 refine br.h2 h (by rfl) ?_ ?_
 ·clear h;intro hb h;conv=>whnf
  replace h:=XaU.elim h;obtain ⟨hb,h⟩:=h
  try (refine req.intro hb ?_;conv=>whnf)
  replace h:=XaK.elim h;obtain ⟨e7,hy,h⟩:=h
  refine rd.T (j:=0) XaA hy (by first|omega|exact Nat.zero_add _|exact congrArg (·+_) (Nat.zero_add _)) (by decide) rfl ?_
  conv=>whnf
  replace h:=XaK.elim h;obtain ⟨x21,hy,h⟩:=h
  refine Xbn.XaO [] (Xar («as»:=[.pointer (some ⟨0,0,none⟩),.string ⟨⟨e7.Text⟩⟩]) (ws:=[.blk 2 false,.blk 3 false,.blk 4 false,.blk 5 false,.no,.no,.no,.no,.no,.no]) (n:=0) (m:=0) (t':=6) (Xam (Xa6 rfl rfl (Xai rfl rfl rfl rfl (Xai rfl rfl rfl rfl (Xai rfl rfl (Xat) rfl (Xai rfl rfl (Xat) rfl (Xan (Xan (Xan (Xan (Xan (Xan XaR)))))))))) rfl) rfl (Xam rfl rfl XaP)) rfl (by rfl) (XkU hy) rfl rfl rfl rfl (Xab rfl (Xab rfl (Xab rfl (Xab rfl (Xab rfl (Xab rfl (Xab rfl (Xab rfl (Xab rfl (Xab rfl XaN)))))))))) XaM rfl) ?_
  conv=>whnf
  refine br.h h (by rfl) ?_ ?_
  ·clear h;intro hb h;conv=>whnf
   exact W
  clear h;intro hb h;conv=>whnf
  replace h:=XaU.elim h;obtain ⟨hb,h⟩:=h
  try (refine req.intro hb ?_;conv=>whnf)
  refine rd.T (i:=xj3.toNat) (x:=e7) (j:=0) XaA (by assumption) (by first|omega|exact Nat.zero_add _|exact congrArg (·+_) (Nat.zero_add _)) (by decide) rfl ?_
  conv=>whnf
  replace h:=XaK.elim h;obtain ⟨x22,hy,h⟩:=h
  refine Xbn.XaO [] (Xar («as»:=[.pointer (some ⟨0,0,none⟩),.string ⟨⟨e7.Text⟩⟩]) (ws:=[.blk 2 false,.blk 3 false,.blk 4 false,.blk 5 false,.no,.no,.no,.no,.no,.no]) (n:=0) (m:=0) (t':=6) (Xam (Xa6 rfl rfl (Xai rfl rfl rfl rfl (Xai rfl rfl rfl rfl (Xai rfl rfl (Xat) rfl (Xai rfl rfl (Xat) rfl (Xan (Xan (Xan (Xan (Xan (Xan XaR)))))))))) rfl) rfl (Xam rfl rfl XaP)) rfl (by rfl) (XkU hy) rfl rfl rfl rfl (Xab rfl (Xab rfl (Xab rfl (Xab rfl (Xab rfl (Xab rfl (Xab rfl (Xab rfl (Xab rfl (Xab rfl XaN)))))))))) XaM rfl) ?_
  conv=>whnf
  replace h:=XaK.elim h;obtain ⟨x23,hy,h⟩:=h
  refine Xbn.XaO [] (Xar («as»:=[.pointer (some ⟨0,0,none⟩)]) (ws:=[.blk 2 false,.blk 3 false,.blk 4 false,.blk 5 false,.no,.no,.no,.no,.no,.no]) (n:=0) (m:=0) (t':=6) (Xam (Xa6 rfl rfl (Xai rfl rfl rfl rfl (Xai rfl rfl rfl rfl (Xai rfl rfl (Xat) rfl (Xai rfl rfl (Xat) rfl (Xan (Xan (Xan (Xan (Xan (Xan XaR)))))))))) rfl) rfl XaP) rfl (by rfl) (Xoc hy) rfl rfl rfl rfl (Xab rfl (Xab rfl (Xab rfl (Xab rfl (Xab rfl (Xab rfl (Xab rfl (Xab rfl (Xab rfl (Xab rfl XaN)))))))))) XaM rfl) ?_
  conv=>whnf
  refine br.h h (by rfl) ?_ ?_
  ·clear h;intro hb h;conv=>whnf
   exact W
  clear h;intro hb h;conv=>whnf
  cases h;simp only [Sum.elim_inr,Sum.elim_inl,XkM] at hc
  exact Xfj hc [(0,0),(2,2),(3,3),(4,4),(5,5)] rfl
 clear h;intro hb h;conv=>whnf
 replace h:=XaU.elim h;obtain ⟨hb,h⟩:=h
 try (refine req.intro hb ?_;conv=>whnf)
 replace h:=XaK.elim h;obtain ⟨e5,hy,h⟩:=h
 refine rd.T (j:=0) XaA hy (by first|omega|exact Nat.zero_add _|exact congrArg (·+_) (Nat.zero_add _)) (by decide) rfl ?_
 conv=>whnf
 replace h:=XaU.elim h;obtain ⟨hb,h⟩:=h
 try (refine req.intro hb ?_;conv=>whnf)
 replace h:=XaK.elim h;obtain ⟨e6,hy,h⟩:=h
 refine rd.T (j:=0) XaA hy (by first|omega|exact Nat.zero_add _|exact congrArg (·+_) (Nat.zero_add _)) (by decide) rfl ?_
 conv=>whnf
 refine br.h2 h (by rfl) ?_ ?_
 ·clear h;intro hb h;conv=>whnf
  cases h;simp only [Sum.elim_inl,XjM] at hc
  exact Xfj hc [(0,0),(2,2),(3,3),(4,4),(5,5)] rfl
 clear h;intro hb h;conv=>whnf
 replace h:=XaU.elim h;obtain ⟨hb,h⟩:=h
 try (refine req.intro hb ?_;conv=>whnf)
 refine rd.T (i:=i1.toNat) (x:=e5) (j:=1) XaA (by assumption) (by first|omega|exact Nat.zero_add _|exact congrArg (·+_) (Nat.zero_add _)) (by decide) rfl ?_
 conv=>whnf
 refine br.h2 h (by rfl) ?_ ?_
 ·clear h;intro hb h;conv=>whnf
  cases h;simp only [Sum.elim_inl,XjM] at hc
  exact Xfj hc [(0,0),(2,2),(3,3),(4,4),(5,5)] rfl
 clear h;intro hb h;conv=>whnf
 replace h:=XaU.elim h;obtain ⟨hb,h⟩:=h
 try (refine req.intro hb ?_;conv=>whnf)
 refine rd.T (i:=i1.toNat) (x:=e5) (j:=1) XaA (by assumption) (by first|omega|exact Nat.zero_add _|exact congrArg (·+_) (Nat.zero_add _)) (by decide) rfl ?_
 conv=>whnf
 refine br.h2 h (by rfl) ?_ ?_
 ·clear h;intro hb h;conv=>whnf
  cases h;simp only [Sum.elim_inl,XjM] at hc
  exact Xfj hc [(0,0),(2,2),(3,3),(4,4),(5,5)] rfl
 clear h;intro hb h;conv=>whnf
 replace h:=XaU.elim h;obtain ⟨hb,h⟩:=h
 try (refine req.intro hb ?_;conv=>whnf)
 refine rd.T (i:=i1.toNat) (x:=e5) (j:=1) XaA (by assumption) (by first|omega|exact Nat.zero_add _|exact congrArg (·+_) (Nat.zero_add _)) (by decide) rfl ?_
 conv=>whnf
 cases h;simp only [Sum.elim_inl,XjM] at hc
 exact Xfj hc [(0,0),(2,2),(3,3),(4,4),(5,5)] rfl
theorem XzX (Xal:XaQ) (XaS:Xa9) (XaE:Xa2) (Xac:Xap) (Xah:Xau) (Xad:Xao) (hS:XaL Try.prog (XaY (XhA Xal XaS XaE Xac Xah Xad))) (l:List Xaz) (s3:Int) (s4:Int) (s5:Int) (c2:Nat) (c3:Nat) (c4:List Int) (c5:List Int) (res:Bool):∀ fuel (st:Int) (o:Bool),iter (fun st=>Xch Xal Xac Xad l s3 s4 s5 c2 c3 c4 c5 st) fuel st=some o→(o=res) →
 Xa0 Try.prog 4 1 (XkM l s3 s4 s5 c2 c3 c4 c5 st) (fun v H _=>Res 1 (rx4 res) v H):=by
 intro fuel st o h hc
 refine Xbl (head:=fun st=>XkM l s3 s4 s5 c2 c3 c4 c5 st) (C:=fun o=>(o=res)) ?_ fuel st o h hc
 clear h hc o st fuel
 intro xj3 o h hc
 replace h:Xch Xal Xac Xad l s3 s4 s5 c2 c3 c4 c5 xj3=some o:=h
 show Xa0 Try.prog 4 1 (XkM l s3 s4 s5 c2 c3 c4 c5 xj3) (fun v H _=>Res 1 (rx4 res) v H)
 unfold Xch at h
 have R1:=@Xoy Xal
 refine Xa1 XaJ hS true 3000 ?_
 conv=>whnf
 refine br.h h (by rfl) ?_ ?_
 ·clear h;intro hb h;conv=>whnf
  have hl:=XBT Xal XaS XaE Xac Xah Xad hS _ _ _ _ _ _ _ _ _ res _ _ _ h hc;simp only [XjM] at hl
  exact Xfj hl [(0,0),(2,2),(3,3),(4,4),(5,5)] rfl
 clear h;intro hb h;conv=>whnf
 exact W
theorem Xze (Xal:XaQ) (XaS:Xa9) (XaE:Xa2) (Xac:Xap) (Xah:Xau) (Xad:Xao) (hS:XaL Try.prog (XaY (XhA Xal XaS XaE Xac Xah Xad))) (l:List Xaz) (res:Bool):∀ fuel (st:Int×Int×Int×Int×Nat×Nat×(List Int)×(List Int)) (o:Bool),iter (fun st=>XbP Xal Xac Xah Xad l st.1 st.2.1 st.2.2.1 st.2.2.2.1 st.2.2.2.2.1 st.2.2.2.2.2.1 st.2.2.2.2.2.2.1 st.2.2.2.2.2.2.2) fuel st=some o→(o=res) →
 Xa0 Try.prog 4 1 (XmQ l st.1 st.2.1 st.2.2.1 st.2.2.2.1 st.2.2.2.2.1 st.2.2.2.2.2.1 st.2.2.2.2.2.2.1 st.2.2.2.2.2.2.2) (fun v H _=>Res 1 (rx4 res) v H):=by
 intro fuel st o h hc
 refine Xbl (head:=fun st=>XmQ l st.1 st.2.1 st.2.2.1 st.2.2.2.1 st.2.2.2.2.1 st.2.2.2.2.2.1 st.2.2.2.2.2.2.1 st.2.2.2.2.2.2.2) (C:=fun o=>(o=res)) ?_ fuel st o h hc
 clear h hc o st fuel
 intro st o h hc
 obtain ⟨xj2,s3,s4,s5,c2,c3,c4,c5⟩:=st
 replace h:XbP Xal Xac Xah Xad l xj2 s3 s4 s5 c2 c3 c4 c5=some o:=h
 show Xa0 Try.prog 4 1 (XmQ l xj2 s3 s4 s5 c2 c3 c4 c5) (fun v H _=>Res 1 (rx4 res) v H)
 unfold XbP at h
 refine Xa1 XaJ hS true 3000 ?_
 conv=>whnf
 refine br.h2 h (by rfl) ?_ ?_
 ·clear h;intro hb h;conv=>whnf
  obtain ⟨y,hy,h2⟩:=XaK.elim h;cases h2
  have hl:=XzX Xal XaS XaE Xac Xah Xad hS _ _ _ _ _ _ _ _ res _ _ _ hy hc;simp only [XkM] at hl
  exact Xfj hl [(0,0),(2,2),(3,3),(4,4),(5,5)] rfl
 clear h;intro hb h;conv=>whnf
 replace h:=XaU.elim h;obtain ⟨hb,h⟩:=h
 try (refine req.intro hb ?_;conv=>whnf)
 replace h:=XaK.elim h;obtain ⟨e4,hy,h⟩:=h
 refine rd.T (j:=0) XaA hy (by first|omega|exact Nat.zero_add _|exact congrArg (·+_) (Nat.zero_add _)) (by decide) rfl ?_
 conv=>whnf
 replace h:=XaU.elim h;obtain ⟨hb,h⟩:=h
 try (refine req.intro hb ?_;conv=>whnf)
 refine rd.T (i:=xj2.toNat) (x:=e4) (j:=1) XaA (by assumption) (by first|omega|exact Nat.zero_add _|exact congrArg (·+_) (Nat.zero_add _)) (by decide) rfl ?_
 conv=>whnf
 replace h:=XaK.elim h;obtain ⟨x2,hy,h⟩:=h
 refine Xbn.XaO [2,3] (Xar («as»:=[.pointer (some ⟨0,0,none⟩),.string ⟨⟨e4.Text⟩⟩,.int .i64 e4.N]) (ws:=[.blk 2 true,.blk 3 true,.blk 4 true,.blk 5 true,.no,.no,.no,.no,.no,.no]) (n:=2) (m:=0) (t':=19) (Xam (Xa6 rfl rfl (Xai rfl rfl rfl rfl (Xai rfl rfl rfl rfl (Xai rfl rfl (Xat) rfl (Xai rfl rfl (Xat) rfl (Xan (Xan (Xan (Xan (Xan (Xan XaR)))))))))) rfl) rfl (Xam rfl rfl (Xam rfl rfl XaP))) rfl (by rfl) (Xmm hy) rfl rfl rfl rfl (Xfo rfl rfl rfl rfl (Xfo rfl rfl rfl rfl (XcC (XcC (Xab rfl (Xab rfl (Xab rfl (Xab rfl (Xab rfl (Xab rfl XaN)))))))))) (XbR (Xat) (XbR (Xat) XaM)) rfl) ?_
 conv=>whnf
 cases h;simp only [Sum.elim_inl,XmQ] at hc
 exact Xfj hc [(0,0),(2,2),(3,3),(4,17),(5,18)] rfl
theorem XzR (Xal:XaQ) (XaS:Xa9) (XaE:Xa2) (Xac:Xap) (Xah:Xau) (Xad:Xao) (hS:XaL Try.prog (XaY (XhA Xal XaS XaE Xac Xah Xad))) (l:List Xaz) (s6:Int) (s7:Int) (s8:Int) (c6:Nat) (c7:Nat) (c8:Nat) (c9:List Int) (c10:List Int) (c11:List Int) (xj5:Int) (res:Bool):∀ fuel (st:Int×Int) (o:Sum Int Bool),iter (fun st=>XbM Xac Xad l s6 s7 s8 c6 c7 c8 c9 c10 c11 xj5 st.1 st.2) fuel st=some o→(Sum.elim (fun s0=>Xa0 Try.prog 4 1 (XkJ l s6 s7 s8 c6 c7 c8 c9 c10 c11 s0) (fun v H _=>Res 1 (rx4 res) v H)) (fun r0=>r0=res) o) →
 Xa0 Try.prog 4 1 (Xjt l s6 s7 s8 c6 c7 c8 c9 c10 c11 xj5 st.1 st.2) (fun v H _=>Res 1 (rx4 res) v H):=by
 intro fuel st o h hc
 refine Xbl (head:=fun st=>Xjt l s6 s7 s8 c6 c7 c8 c9 c10 c11 xj5 st.1 st.2) (C:=fun o=>(Sum.elim (fun s0=>Xa0 Try.prog 4 1 (XkJ l s6 s7 s8 c6 c7 c8 c9 c10 c11 s0) (fun v H _=>Res 1 (rx4 res) v H)) (fun r0=>r0=res) o)) ?_ fuel st o h hc
 clear h hc o st fuel
 intro st o h hc
 obtain ⟨n6,i2⟩:=st
 replace h:XbM Xac Xad l s6 s7 s8 c6 c7 c8 c9 c10 c11 xj5 n6 i2=some o:=h
 show Xa0 Try.prog 4 1 (Xjt l s6 s7 s8 c6 c7 c8 c9 c10 c11 xj5 n6 i2) (fun v H _=>Res 1 (rx4 res) v H)
 unfold XbM at h
 refine Xa1 XaJ hS true 3000 ?_
 conv=>whnf
 refine br.h2 h (by rfl) ?_ ?_
 ·clear h;intro hb h;conv=>whnf
  replace h:=XaU.elim h;obtain ⟨hb,h⟩:=h
  try (refine req.intro hb ?_;conv=>whnf)
  replace h:=XaK.elim h;obtain ⟨e11,hy,h⟩:=h
  refine rd.T (j:=0) XaA hy (by first|omega|exact Nat.zero_add _|exact congrArg (·+_) (Nat.zero_add _)) (by decide) rfl ?_
  conv=>whnf
  replace h:=XaK.elim h;obtain ⟨x31,hy,h⟩:=h
  refine Xbn.XaO [] (Xar («as»:=[.pointer (some ⟨0,0,none⟩),.string ⟨⟨e11.Text⟩⟩]) (ws:=[.blk 2 false,.blk 3 false,.blk 4 false,.blk 5 false,.blk 6 false,.no,.no,.no,.no,.no]) (n:=0) (m:=0) (t':=7) (Xam (Xa6 rfl rfl (Xai rfl rfl rfl rfl (Xai rfl rfl rfl rfl (Xai rfl rfl (Xat) rfl (Xai rfl rfl (Xat) rfl (Xai rfl rfl (Xat) rfl (Xan (Xan (Xan (Xan (Xan XaR)))))))))) rfl) rfl (Xam rfl rfl XaP)) rfl (by rfl) (Xrv hy) rfl rfl rfl rfl (Xab rfl (Xab rfl (Xab rfl (Xab rfl (Xab rfl (Xab rfl (Xab rfl (Xab rfl (Xab rfl (Xab rfl XaN)))))))))) XaM rfl) ?_
  conv=>whnf
  refine br.h h (by rfl) ?_ ?_
  ·clear h;intro hb h;conv=>whnf
   exact W
  clear h;intro hb h;conv=>whnf
  replace h:=XaU.elim h;obtain ⟨hb,h⟩:=h
  try (refine req.intro hb ?_;conv=>whnf)
  refine rd.T (i:=xj5.toNat) (x:=e11) (j:=0) XaA (by assumption) (by first|omega|exact Nat.zero_add _|exact congrArg (·+_) (Nat.zero_add _)) (by decide) rfl ?_
  conv=>whnf
  replace h:=XaK.elim h;obtain ⟨x32,hy,h⟩:=h
  refine Xbn.XaO [] (Xar («as»:=[.pointer (some ⟨0,0,none⟩),.string ⟨⟨e11.Text⟩⟩]) (ws:=[.blk 2 false,.blk 3 false,.blk 4 false,.blk 5 false,.blk 6 false,.no,.no,.no,.no,.no]) (n:=0) (m:=0) (t':=7) (Xam (Xa6 rfl rfl (Xai rfl rfl rfl rfl (Xai rfl rfl rfl rfl (Xai rfl rfl (Xat) rfl (Xai rfl rfl (Xat) rfl (Xai rfl rfl (Xat) rfl (Xan (Xan (Xan (Xan (Xan XaR)))))))))) rfl) rfl (Xam rfl rfl XaP)) rfl (by rfl) (Xrv hy) rfl rfl rfl rfl (Xab rfl (Xab rfl (Xab rfl (Xab rfl (Xab rfl (Xab rfl (Xab rfl (Xab rfl (Xab rfl (Xab rfl XaN)))))))))) XaM rfl) ?_
  conv=>whnf
  replace h:=XaK.elim h;obtain ⟨x33,hy,h⟩:=h
  refine Xbn.XaO [] (Xar («as»:=[.pointer (some ⟨0,0,none⟩)]) (ws:=[.blk 2 false,.blk 3 false,.blk 4 false,.blk 5 false,.blk 6 false,.no,.no,.no,.no,.no]) (n:=0) (m:=0) (t':=7) (Xam (Xa6 rfl rfl (Xai rfl rfl rfl rfl (Xai rfl rfl rfl rfl (Xai rfl rfl (Xat) rfl (Xai rfl rfl (Xat) rfl (Xai rfl rfl (Xat) rfl (Xan (Xan (Xan (Xan (Xan XaR)))))))))) rfl) rfl XaP) rfl (by rfl) (XwL hy) rfl rfl rfl rfl (Xab rfl (Xab rfl (Xab rfl (Xab rfl (Xab rfl (Xab rfl (Xab rfl (Xab rfl (Xab rfl (Xab rfl XaN)))))))))) XaM rfl) ?_
  conv=>whnf
  refine br.h h (by rfl) ?_ ?_
  ·clear h;intro hb h;conv=>whnf
   exact W
  clear h;intro hb h;conv=>whnf
  cases h;simp only [Sum.elim_inr,Sum.elim_inl,XkJ] at hc
  exact Xfj hc [(0,0),(2,2),(3,3),(4,4),(5,5),(6,6)] rfl
 clear h;intro hb h;conv=>whnf
 replace h:=XaU.elim h;obtain ⟨hb,h⟩:=h
 try (refine req.intro hb ?_;conv=>whnf)
 replace h:=XaK.elim h;obtain ⟨e9,hy,h⟩:=h
 refine rd.T (j:=0) XaA hy (by first|omega|exact Nat.zero_add _|exact congrArg (·+_) (Nat.zero_add _)) (by decide) rfl ?_
 conv=>whnf
 replace h:=XaU.elim h;obtain ⟨hb,h⟩:=h
 try (refine req.intro hb ?_;conv=>whnf)
 replace h:=XaK.elim h;obtain ⟨e10,hy,h⟩:=h
 refine rd.T (j:=0) XaA hy (by first|omega|exact Nat.zero_add _|exact congrArg (·+_) (Nat.zero_add _)) (by decide) rfl ?_
 conv=>whnf
 refine br.h2 h (by rfl) ?_ ?_
 ·clear h;intro hb h;conv=>whnf
  cases h;simp only [Sum.elim_inl,Xjt] at hc
  exact Xfj hc [(0,0),(2,2),(3,3),(4,4),(5,5),(6,6)] rfl
 clear h;intro hb h;conv=>whnf
 replace h:=XaU.elim h;obtain ⟨hb,h⟩:=h
 try (refine req.intro hb ?_;conv=>whnf)
 refine rd.T (i:=i2.toNat) (x:=e9) (j:=1) XaA (by assumption) (by first|omega|exact Nat.zero_add _|exact congrArg (·+_) (Nat.zero_add _)) (by decide) rfl ?_
 conv=>whnf
 refine br.h2 h (by rfl) ?_ ?_
 ·clear h;intro hb h;conv=>whnf
  cases h;simp only [Sum.elim_inl,Xjt] at hc
  exact Xfj hc [(0,0),(2,2),(3,3),(4,4),(5,5),(6,6)] rfl
 clear h;intro hb h;conv=>whnf
 replace h:=XaU.elim h;obtain ⟨hb,h⟩:=h
 try (refine req.intro hb ?_;conv=>whnf)
 refine rd.T (i:=i2.toNat) (x:=e9) (j:=1) XaA (by assumption) (by first|omega|exact Nat.zero_add _|exact congrArg (·+_) (Nat.zero_add _)) (by decide) rfl ?_
 conv=>whnf
 refine br.h2 h (by rfl) ?_ ?_
 ·clear h;intro hb h;conv=>whnf
  cases h;simp only [Sum.elim_inl,Xjt] at hc
  exact Xfj hc [(0,0),(2,2),(3,3),(4,4),(5,5),(6,6)] rfl
 clear h;intro hb h;conv=>whnf
 replace h:=XaU.elim h;obtain ⟨hb,h⟩:=h
 try (refine req.intro hb ?_;conv=>whnf)
 refine rd.T (i:=i2.toNat) (x:=e9) (j:=1) XaA (by assumption) (by first|omega|exact Nat.zero_add _|exact congrArg (·+_) (Nat.zero_add _)) (by decide) rfl ?_
 conv=>whnf
 cases h;simp only [Sum.elim_inl,Xjt] at hc
 exact Xfj hc [(0,0),(2,2),(3,3),(4,4),(5,5),(6,6)] rfl
theorem XAW (Xal:XaQ) (XaS:Xa9) (XaE:Xa2) (Xac:Xap) (Xah:Xau) (Xad:Xao) (hS:XaL Try.prog (XaY (XhA Xal XaS XaE Xac Xah Xad))) (l:List Xaz) (s6:Int) (s7:Int) (s8:Int) (c6:Nat) (c7:Nat) (c8:Nat) (c9:List Int) (c10:List Int) (c11:List Int) (res:Bool):∀ fuel (st:Int) (o:Bool),iter (fun st=>Xcf Xal Xac Xad l s6 s7 s8 c6 c7 c8 c9 c10 c11 st) fuel st=some o→(o=res) →
 Xa0 Try.prog 4 1 (XkJ l s6 s7 s8 c6 c7 c8 c9 c10 c11 st) (fun v H _=>Res 1 (rx4 res) v H):=by
 intro fuel st o h hc
 refine Xbl (head:=fun st=>XkJ l s6 s7 s8 c6 c7 c8 c9 c10 c11 st) (C:=fun o=>(o=res)) ?_ fuel st o h hc
 clear h hc o st fuel
 intro xj5 o h hc
 replace h:Xcf Xal Xac Xad l s6 s7 s8 c6 c7 c8 c9 c10 c11 xj5=some o:=h
 show Xa0 Try.prog 4 1 (XkJ l s6 s7 s8 c6 c7 c8 c9 c10 c11 xj5) (fun v H _=>Res 1 (rx4 res) v H)
 unfold Xcf at h
 have R1:=@Xoy Xal
 refine Xa1 XaJ hS true 3000 ?_
 conv=>whnf
 refine br.h h (by rfl) ?_ ?_
 ·clear h;intro hb h;conv=>whnf
  have hl:=XzR Xal XaS XaE Xac Xah Xad hS _ _ _ _ _ _ _ _ _ _ _ res _ _ _ h hc;simp only [Xjt] at hl
  exact Xfj hl [(0,0),(2,2),(3,3),(4,4),(5,5),(6,6)] rfl
 clear h;intro hb h;conv=>whnf
 exact W
theorem XA8 (Xal:XaQ) (XaS:Xa9) (XaE:Xa2) (Xac:Xap) (Xah:Xau) (Xad:Xao) (hS:XaL Try.prog (XaY (XhA Xal XaS XaE Xac Xah Xad))) (l:List Xaz) (res:Bool):∀ fuel (st:Int×Int×Int×Int×Nat×Nat×Nat×(List Int)×(List Int)×(List Int)) (o:Bool),iter (fun st=>XbK Xal Xac Xah Xad l st.1 st.2.1 st.2.2.1 st.2.2.2.1 st.2.2.2.2.1 st.2.2.2.2.2.1 st.2.2.2.2.2.2.1 st.2.2.2.2.2.2.2.1 st.2.2.2.2.2.2.2.2.1 st.2.2.2.2.2.2.2.2.2) fuel st=some o→(o=res) →
 Xa0 Try.prog 4 1 (XmP l st.1 st.2.1 st.2.2.1 st.2.2.2.1 st.2.2.2.2.1 st.2.2.2.2.2.1 st.2.2.2.2.2.2.1 st.2.2.2.2.2.2.2.1 st.2.2.2.2.2.2.2.2.1 st.2.2.2.2.2.2.2.2.2) (fun v H _=>Res 1 (rx4 res) v H):=by
 intro fuel st o h hc
 refine Xbl (head:=fun st=>XmP l st.1 st.2.1 st.2.2.1 st.2.2.2.1 st.2.2.2.2.1 st.2.2.2.2.2.1 st.2.2.2.2.2.2.1 st.2.2.2.2.2.2.2.1 st.2.2.2.2.2.2.2.2.1 st.2.2.2.2.2.2.2.2.2) (C:=fun o=>(o=res)) ?_ fuel st o h hc
 clear h hc o st fuel
 intro st o h hc
 obtain ⟨xj4,s6,s7,s8,c6,c7,c8,c9,c10,c11⟩:=st
 replace h:XbK Xal Xac Xah Xad l xj4 s6 s7 s8 c6 c7 c8 c9 c10 c11=some o:=h
 show Xa0 Try.prog 4 1 (XmP l xj4 s6 s7 s8 c6 c7 c8 c9 c10 c11) (fun v H _=>Res 1 (rx4 res) v H)
 unfold XbK at h
 refine Xa1 XaJ hS true 3000 ?_
 conv=>whnf
 refine br.h2 h (by rfl) ?_ ?_
 ·clear h;intro hb h;conv=>whnf
  obtain ⟨y,hy,h2⟩:=XaK.elim h;cases h2
  have hl:=XAW Xal XaS XaE Xac Xah Xad hS _ _ _ _ _ _ _ _ _ _ res _ _ _ hy hc;simp only [XkJ] at hl
  exact Xfj hl [(0,0),(2,2),(3,3),(4,4),(5,5),(6,6)] rfl
 clear h;intro hb h;conv=>whnf
 replace h:=XaU.elim h;obtain ⟨hb,h⟩:=h
 try (refine req.intro hb ?_;conv=>whnf)
 replace h:=XaK.elim h;obtain ⟨e8,hy,h⟩:=h
 refine rd.T (j:=0) XaA hy (by first|omega|exact Nat.zero_add _|exact congrArg (·+_) (Nat.zero_add _)) (by decide) rfl ?_
 conv=>whnf
 replace h:=XaU.elim h;obtain ⟨hb,h⟩:=h
 try (refine req.intro hb ?_;conv=>whnf)
 refine rd.T (i:=xj4.toNat) (x:=e8) (j:=1) XaA (by assumption) (by first|omega|exact Nat.zero_add _|exact congrArg (·+_) (Nat.zero_add _)) (by decide) rfl ?_
 conv=>whnf
 replace h:=XaK.elim h;obtain ⟨x3,hy,h⟩:=h
 refine Xbn.XaO [2,3] (Xar («as»:=[.pointer (some ⟨0,0,none⟩),.string ⟨⟨e8.Text⟩⟩,.int .i64 e8.N]) (ws:=[.blk 2 true,.blk 3 true,.blk 4 true,.blk 5 true,.blk 6 true,.no,.no,.no,.no,.no]) (n:=3) (m:=0) (t':=21) (Xam (Xa6 rfl rfl (Xai rfl rfl rfl rfl (Xai rfl rfl rfl rfl (Xai rfl rfl (Xat) rfl (Xai rfl rfl (Xat) rfl (Xai rfl rfl (Xat) rfl (Xan (Xan (Xan (Xan (Xan XaR)))))))))) rfl) rfl (Xam rfl rfl (Xam rfl rfl XaP))) rfl (by rfl) (Xw2 hy) rfl rfl rfl rfl (Xfo rfl rfl rfl rfl (Xfo rfl rfl rfl rfl (XcC (XcC (XcC (Xab rfl (Xab rfl (Xab rfl (Xab rfl (Xab rfl XaN)))))))))) (XbR (Xat) (XbR (Xat) (XbR (Xat) XaM))) rfl) ?_
 conv=>whnf
 cases h;simp only [Sum.elim_inl,XmP] at hc
 exact Xfj hc [(0,0),(2,2),(3,3),(4,18),(5,19),(6,20)] rfl
theorem Xxj (Xal:XaQ) (XaS:Xa9) (XaE:Xa2) (Xac:Xap) (Xah:Xau) (Xad:Xao) (hS:XaL Try.prog (XaY (XhA Xal XaS XaE Xac Xah Xad))) (l:List Xaz) (s9:Int) (s10:Int) (s11:Int) (c12:Nat) (c13:Nat) (c14:Nat) (c15:Nat) (c16:List Int) (c17:List Int) (c18:List Int) (c19:List Int) (xj7:Int) (res:Bool):∀ fuel (st:Int×Int) (o:Sum Int Bool),iter (fun st=>XbD Xac Xad l s9 s10 s11 c12 c13 c14 c15 c16 c17 c18 c19 xj7 st.1 st.2) fuel st=some o→(Sum.elim (fun s0=>Xa0 Try.prog 4 1 (Xiq l s9 s10 s11 c12 c13 c14 c15 c16 c17 c18 c19 s0) (fun v H _=>Res 1 (rx4 res) v H)) (fun r0=>r0=res) o) →
 Xa0 Try.prog 4 1 (Xh3 l s9 s10 s11 c12 c13 c14 c15 c16 c17 c18 c19 xj7 st.1 st.2) (fun v H _=>Res 1 (rx4 res) v H):=by
 intro fuel st o h hc
 refine Xbl (head:=fun st=>Xh3 l s9 s10 s11 c12 c13 c14 c15 c16 c17 c18 c19 xj7 st.1 st.2) (C:=fun o=>(Sum.elim (fun s0=>Xa0 Try.prog 4 1 (Xiq l s9 s10 s11 c12 c13 c14 c15 c16 c17 c18 c19 s0) (fun v H _=>Res 1 (rx4 res) v H)) (fun r0=>r0=res) o)) ?_ fuel st o h hc
 clear h hc o st fuel
 intro st o h hc
 obtain ⟨n8,i3⟩:=st
 replace h:XbD Xac Xad l s9 s10 s11 c12 c13 c14 c15 c16 c17 c18 c19 xj7 n8 i3=some o:=h
 show Xa0 Try.prog 4 1 (Xh3 l s9 s10 s11 c12 c13 c14 c15 c16 c17 c18 c19 xj7 n8 i3) (fun v H _=>Res 1 (rx4 res) v H)
 unfold XbD at h
 refine Xa1 XaJ hS true 3000 ?_
 conv=>whnf
 refine br.h2 h (by rfl) ?_ ?_
 ·clear h;intro hb h;conv=>whnf
  replace h:=XaU.elim h;obtain ⟨hb,h⟩:=h
  try (refine req.intro hb ?_;conv=>whnf)
  replace h:=XaK.elim h;obtain ⟨e15,hy,h⟩:=h
  refine rd.T (j:=0) XaA hy (by first|omega|exact Nat.zero_add _|exact congrArg (·+_) (Nat.zero_add _)) (by decide) rfl ?_
  conv=>whnf
  replace h:=XaK.elim h;obtain ⟨x41,hy,h⟩:=h
  refine Xbn.XaO [] (Xar («as»:=[.pointer (some ⟨0,0,none⟩),.string ⟨⟨e15.Text⟩⟩]) (ws:=[.blk 2 false,.blk 3 false,.blk 4 false,.blk 5 false,.blk 6 false,.blk 7 false,.no,.no,.no,.no]) (n:=0) (m:=0) (t':=8) (Xam (Xa6 rfl rfl (Xai rfl rfl rfl rfl (Xai rfl rfl rfl rfl (Xai rfl rfl (Xat) rfl (Xai rfl rfl (Xat) rfl (Xai rfl rfl (Xat) rfl (Xai rfl rfl (Xat) rfl (Xan (Xan (Xan (Xan XaR)))))))))) rfl) rfl (Xam rfl rfl XaP)) rfl (by rfl) (Xry hy) rfl rfl rfl rfl (Xab rfl (Xab rfl (Xab rfl (Xab rfl (Xab rfl (Xab rfl (Xab rfl (Xab rfl (Xab rfl (Xab rfl XaN)))))))))) XaM rfl) ?_
  conv=>whnf
  refine br.h h (by rfl) ?_ ?_
  ·clear h;intro hb h;conv=>whnf
   exact W
  clear h;intro hb h;conv=>whnf
  replace h:=XaU.elim h;obtain ⟨hb,h⟩:=h
  try (refine req.intro hb ?_;conv=>whnf)
  refine rd.T (i:=xj7.toNat) (x:=e15) (j:=0) XaA (by assumption) (by first|omega|exact Nat.zero_add _|exact congrArg (·+_) (Nat.zero_add _)) (by decide) rfl ?_
  conv=>whnf
  replace h:=XaK.elim h;obtain ⟨x42,hy,h⟩:=h
  refine Xbn.XaO [] (Xar («as»:=[.pointer (some ⟨0,0,none⟩),.string ⟨⟨e15.Text⟩⟩]) (ws:=[.blk 2 false,.blk 3 false,.blk 4 false,.blk 5 false,.blk 6 false,.blk 7 false,.no,.no,.no,.no]) (n:=0) (m:=0) (t':=8) (Xam (Xa6 rfl rfl (Xai rfl rfl rfl rfl (Xai rfl rfl rfl rfl (Xai rfl rfl (Xat) rfl (Xai rfl rfl (Xat) rfl (Xai rfl rfl (Xat) rfl (Xai rfl rfl (Xat) rfl (Xan (Xan (Xan (Xan XaR)))))))))) rfl) rfl (Xam rfl rfl XaP)) rfl (by rfl) (Xry hy) rfl rfl rfl rfl (Xab rfl (Xab rfl (Xab rfl (Xab rfl (Xab rfl (Xab rfl (Xab rfl (Xab rfl (Xab rfl (Xab rfl XaN)))))))))) XaM rfl) ?_
  conv=>whnf
  replace h:=XaK.elim h;obtain ⟨x43,hy,h⟩:=h
  refine Xbn.XaO [] (Xar («as»:=[.pointer (some ⟨0,0,none⟩)]) (ws:=[.blk 2 false,.blk 3 false,.blk 4 false,.blk 5 false,.blk 6 false,.blk 7 false,.no,.no,.no,.no]) (n:=0) (m:=0) (t':=8) (Xam (Xa6 rfl rfl (Xai rfl rfl rfl rfl (Xai rfl rfl rfl rfl (Xai rfl rfl (Xat) rfl (Xai rfl rfl (Xat) rfl (Xai rfl rfl (Xat) rfl (Xai rfl rfl (Xat) rfl (Xan (Xan (Xan (Xan XaR)))))))))) rfl) rfl XaP) rfl (by rfl) (Xwi hy) rfl rfl rfl rfl (Xab rfl (Xab rfl (Xab rfl (Xab rfl (Xab rfl (Xab rfl (Xab rfl (Xab rfl (Xab rfl (Xab rfl XaN)))))))))) XaM rfl) ?_
  conv=>whnf
  refine br.h h (by rfl) ?_ ?_
  ·clear h;intro hb h;conv=>whnf
   exact W
  clear h;intro hb h;conv=>whnf
  cases h;simp only [Sum.elim_inr,Sum.elim_inl,Xiq] at hc
  exact Xfj hc [(0,0),(2,2),(3,3),(4,4),(5,5),(6,6),(7,7)] rfl
 clear h;intro hb h;conv=>whnf
 replace h:=XaU.elim h;obtain ⟨hb,h⟩:=h
 try (refine req.intro hb ?_;conv=>whnf)
 replace h:=XaK.elim h;obtain ⟨e13,hy,h⟩:=h
 refine rd.T (j:=0) XaA hy (by first|omega|exact Nat.zero_add _|exact congrArg (·+_) (Nat.zero_add _)) (by decide) rfl ?_
 conv=>whnf
 replace h:=XaU.elim h;obtain ⟨hb,h⟩:=h
 try (refine req.intro hb ?_;conv=>whnf)
 replace h:=XaK.elim h;obtain ⟨e14,hy,h⟩:=h
 refine rd.T (j:=0) XaA hy (by first|omega|exact Nat.zero_add _|exact congrArg (·+_) (Nat.zero_add _)) (by decide) rfl ?_
 conv=>whnf
 refine br.h2 h (by rfl) ?_ ?_
 ·clear h;intro hb h;conv=>whnf
  cases h;simp only [Sum.elim_inl,Xh3] at hc
  exact Xfj hc [(0,0),(2,2),(3,3),(4,4),(5,5),(6,6),(7,7)] rfl
 clear h;intro hb h;conv=>whnf
 replace h:=XaU.elim h;obtain ⟨hb,h⟩:=h
 try (refine req.intro hb ?_;conv=>whnf)
 refine rd.T (i:=i3.toNat) (x:=e13) (j:=1) XaA (by assumption) (by first|omega|exact Nat.zero_add _|exact congrArg (·+_) (Nat.zero_add _)) (by decide) rfl ?_
 conv=>whnf
 refine br.h2 h (by rfl) ?_ ?_
 ·clear h;intro hb h;conv=>whnf
  cases h;simp only [Sum.elim_inl,Xh3] at hc
  exact Xfj hc [(0,0),(2,2),(3,3),(4,4),(5,5),(6,6),(7,7)] rfl
 clear h;intro hb h;conv=>whnf
 replace h:=XaU.elim h;obtain ⟨hb,h⟩:=h
 try (refine req.intro hb ?_;conv=>whnf)
 refine rd.T (i:=i3.toNat) (x:=e13) (j:=1) XaA (by assumption) (by first|omega|exact Nat.zero_add _|exact congrArg (·+_) (Nat.zero_add _)) (by decide) rfl ?_
 conv=>whnf
 refine br.h2 h (by rfl) ?_ ?_
 ·clear h;intro hb h;conv=>whnf
  cases h;simp only [Sum.elim_inl,Xh3] at hc
  exact Xfj hc [(0,0),(2,2),(3,3),(4,4),(5,5),(6,6),(7,7)] rfl
 clear h;intro hb h;conv=>whnf
 replace h:=XaU.elim h;obtain ⟨hb,h⟩:=h
 try (refine req.intro hb ?_;conv=>whnf)
 refine rd.T (i:=i3.toNat) (x:=e13) (j:=1) XaA (by assumption) (by first|omega|exact Nat.zero_add _|exact congrArg (·+_) (Nat.zero_add _)) (by decide) rfl ?_
 conv=>whnf
 cases h;simp only [Sum.elim_inl,Xh3] at hc
 exact Xfj hc [(0,0),(2,2),(3,3),(4,4),(5,5),(6,6),(7,7)] rfl
theorem XwQ (Xal:XaQ) (XaS:Xa9) (XaE:Xa2) (Xac:Xap) (Xah:Xau) (Xad:Xao) (hS:XaL Try.prog (XaY (XhA Xal XaS XaE Xac Xah Xad))) (l:List Xaz) (s9:Int) (s10:Int) (s11:Int) (c12:Nat) (c13:Nat) (c14:Nat) (c15:Nat) (c16:List Int) (c17:List Int) (c18:List Int) (c19:List Int) (res:Bool):∀ fuel (st:Int) (o:Bool),iter (fun st=>Xcb Xal Xac Xad l s9 s10 s11 c12 c13 c14 c15 c16 c17 c18 c19 st) fuel st=some o→(o=res) →
 Xa0 Try.prog 4 1 (Xiq l s9 s10 s11 c12 c13 c14 c15 c16 c17 c18 c19 st) (fun v H _=>Res 1 (rx4 res) v H):=by
 intro fuel st o h hc
 refine Xbl (head:=fun st=>Xiq l s9 s10 s11 c12 c13 c14 c15 c16 c17 c18 c19 st) (C:=fun o=>(o=res)) ?_ fuel st o h hc
 clear h hc o st fuel
 intro xj7 o h hc
 replace h:Xcb Xal Xac Xad l s9 s10 s11 c12 c13 c14 c15 c16 c17 c18 c19 xj7=some o:=h
 show Xa0 Try.prog 4 1 (Xiq l s9 s10 s11 c12 c13 c14 c15 c16 c17 c18 c19 xj7) (fun v H _=>Res 1 (rx4 res) v H)
 unfold Xcb at h
 have R1:=@Xoy Xal
 refine Xa1 XaJ hS true 3000 ?_
 conv=>whnf
 refine br.h h (by rfl) ?_ ?_
 ·clear h;intro hb h;conv=>whnf
  have hl:=Xxj Xal XaS XaE Xac Xah Xad hS _ _ _ _ _ _ _ _ _ _ _ _ _ res _ _ _ h hc;simp only [Xh3] at hl
  exact Xfj hl [(0,0),(2,2),(3,3),(4,4),(5,5),(6,6),(7,7)] rfl
 clear h;intro hb h;conv=>whnf
 exact W
theorem XwJ (Xal:XaQ) (XaS:Xa9) (XaE:Xa2) (Xac:Xap) (Xah:Xau) (Xad:Xao) (hS:XaL Try.prog (XaY (XhA Xal XaS XaE Xac Xah Xad))) (l:List Xaz) (res:Bool):∀ fuel (st:Int×Int×Int×Int×Nat×Nat×Nat×Nat×(List Int)×(List Int)×(List Int)×(List Int)) (o:Bool),iter (fun st=>XbB Xal Xac Xah Xad l st.1 st.2.1 st.2.2.1 st.2.2.2.1 st.2.2.2.2.1 st.2.2.2.2.2.1 st.2.2.2.2.2.2.1 st.2.2.2.2.2.2.2.1 st.2.2.2.2.2.2.2.2.1 st.2.2.2.2.2.2.2.2.2.1 st.2.2.2.2.2.2.2.2.2.2.1 st.2.2.2.2.2.2.2.2.2.2.2) fuel st=some o→(o=res) →
 Xa0 Try.prog 4 1 (Xlm l st.1 st.2.1 st.2.2.1 st.2.2.2.1 st.2.2.2.2.1 st.2.2.2.2.2.1 st.2.2.2.2.2.2.1 st.2.2.2.2.2.2.2.1 st.2.2.2.2.2.2.2.2.1 st.2.2.2.2.2.2.2.2.2.1 st.2.2.2.2.2.2.2.2.2.2.1 st.2.2.2.2.2.2.2.2.2.2.2) (fun v H _=>Res 1 (rx4 res) v H):=by
 intro fuel st o h hc
 refine Xbl (head:=fun st=>Xlm l st.1 st.2.1 st.2.2.1 st.2.2.2.1 st.2.2.2.2.1 st.2.2.2.2.2.1 st.2.2.2.2.2.2.1 st.2.2.2.2.2.2.2.1 st.2.2.2.2.2.2.2.2.1 st.2.2.2.2.2.2.2.2.2.1 st.2.2.2.2.2.2.2.2.2.2.1 st.2.2.2.2.2.2.2.2.2.2.2) (C:=fun o=>(o=res)) ?_ fuel st o h hc
 clear h hc o st fuel
 intro st o h hc
 obtain ⟨xj6,s9,s10,s11,c12,c13,c14,c15,c16,c17,c18,c19⟩:=st
 replace h:XbB Xal Xac Xah Xad l xj6 s9 s10 s11 c12 c13 c14 c15 c16 c17 c18 c19=some o:=h
 show Xa0 Try.prog 4 1 (Xlm l xj6 s9 s10 s11 c12 c13 c14 c15 c16 c17 c18 c19) (fun v H _=>Res 1 (rx4 res) v H)
 unfold XbB at h
 refine Xa1 XaJ hS true 3000 ?_
 conv=>whnf
 refine br.h2 h (by rfl) ?_ ?_
 ·clear h;intro hb h;conv=>whnf
  obtain ⟨y,hy,h2⟩:=XaK.elim h;cases h2
  have hl:=XwQ Xal XaS XaE Xac Xah Xad hS _ _ _ _ _ _ _ _ _ _ _ _ res _ _ _ hy hc;simp only [Xiq] at hl
  exact Xfj hl [(0,0),(2,2),(3,3),(4,4),(5,5),(6,6),(7,7)] rfl
 clear h;intro hb h;conv=>whnf
 replace h:=XaU.elim h;obtain ⟨hb,h⟩:=h
 try (refine req.intro hb ?_;conv=>whnf)
 replace h:=XaK.elim h;obtain ⟨e12,hy,h⟩:=h
 refine rd.T (j:=0) XaA hy (by first|omega|exact Nat.zero_add _|exact congrArg (·+_) (Nat.zero_add _)) (by decide) rfl ?_
 conv=>whnf
 replace h:=XaU.elim h;obtain ⟨hb,h⟩:=h
 try (refine req.intro hb ?_;conv=>whnf)
 refine rd.T (i:=xj6.toNat) (x:=e12) (j:=1) XaA (by assumption) (by first|omega|exact Nat.zero_add _|exact congrArg (·+_) (Nat.zero_add _)) (by decide) rfl ?_
 conv=>whnf
 replace h:=XaK.elim h;obtain ⟨x4,hy,h⟩:=h
 refine Xbn.XaO [2,3] (Xar («as»:=[.pointer (some ⟨0,0,none⟩),.string ⟨⟨e12.Text⟩⟩,.int .i64 e12.N]) (ws:=[.blk 2 true,.blk 3 true,.blk 4 true,.blk 5 true,.blk 6 true,.blk 7 true,.no,.no,.no,.no]) (n:=4) (m:=0) (t':=23) (Xam (Xa6 rfl rfl (Xai rfl rfl rfl rfl (Xai rfl rfl rfl rfl (Xai rfl rfl (Xat) rfl (Xai rfl rfl (Xat) rfl (Xai rfl rfl (Xat) rfl (Xai rfl rfl (Xat) rfl (Xan (Xan (Xan (Xan XaR)))))))))) rfl) rfl (Xam rfl rfl (Xam rfl rfl XaP))) rfl (by rfl) (Xv9 hy) rfl rfl rfl rfl (Xfo rfl rfl rfl rfl (Xfo rfl rfl rfl rfl (XcC (XcC (XcC (XcC (Xab rfl (Xab rfl (Xab rfl (Xab rfl XaN)))))))))) (XbR (Xat) (XbR (Xat) (XbR (Xat) (XbR (Xat) XaM)))) rfl) ?_
 conv=>whnf
 cases h;simp only [Sum.elim_inl,Xlm] at hc
 exact Xfj hc [(0,0),(2,2),(3,3),(4,19),(5,20),(6,21),(7,22)] rfl
theorem Xwq (Xal:XaQ) (XaS:Xa9) (XaE:Xa2) (Xac:Xap) (Xah:Xau) (Xad:Xao) (hS:XaL Try.prog (XaY (XhA Xal XaS XaE Xac Xah Xad))) (l:List Xaz) (s12:Int) (s13:Int) (s14:Int) (c20:Nat) (c21:Nat) (c22:Nat) (c23:Nat) (c24:Nat) (c25:List Int) (c26:List Int) (c27:List Int) (c28:List Int) (c29:List Int) (xj9:Int) (res:Bool):∀ fuel (st:Int×Int) (o:Sum Int Bool),iter (fun st=>XbE Xac Xad l s12 s13 s14 c20 c21 c22 c23 c24 c25 c26 c27 c28 c29 xj9 st.1 st.2) fuel st=some o→(Sum.elim (fun s0=>Xa0 Try.prog 4 1 (Xip l s12 s13 s14 c20 c21 c22 c23 c24 c25 c26 c27 c28 c29 s0) (fun v H _=>Res 1 (rx4 res) v H)) (fun r0=>r0=res) o) →
 Xa0 Try.prog 4 1 (Xh2 l s12 s13 s14 c20 c21 c22 c23 c24 c25 c26 c27 c28 c29 xj9 st.1 st.2) (fun v H _=>Res 1 (rx4 res) v H):=by
 intro fuel st o h hc
 refine Xbl (head:=fun st=>Xh2 l s12 s13 s14 c20 c21 c22 c23 c24 c25 c26 c27 c28 c29 xj9 st.1 st.2) (C:=fun o=>(Sum.elim (fun s0=>Xa0 Try.prog 4 1 (Xip l s12 s13 s14 c20 c21 c22 c23 c24 c25 c26 c27 c28 c29 s0) (fun v H _=>Res 1 (rx4 res) v H)) (fun r0=>r0=res) o)) ?_ fuel st o h hc
 clear h hc o st fuel
 intro st o h hc
 obtain ⟨n10,i4⟩:=st
 replace h:XbE Xac Xad l s12 s13 s14 c20 c21 c22 c23 c24 c25 c26 c27 c28 c29 xj9 n10 i4=some o:=h
 show Xa0 Try.prog 4 1 (Xh2 l s12 s13 s14 c20 c21 c22 c23 c24 c25 c26 c27 c28 c29 xj9 n10 i4) (fun v H _=>Res 1 (rx4 res) v H)
 unfold XbE at h
 refine Xa1 XaJ hS true 3000 ?_
 conv=>whnf
 refine br.h2 h (by rfl) ?_ ?_
 ·clear h;intro hb h;conv=>whnf
  replace h:=XaU.elim h;obtain ⟨hb,h⟩:=h
  try (refine req.intro hb ?_;conv=>whnf)
  replace h:=XaK.elim h;obtain ⟨e19,hy,h⟩:=h
  refine rd.T (j:=0) XaA hy (by first|omega|exact Nat.zero_add _|exact congrArg (·+_) (Nat.zero_add _)) (by decide) rfl ?_
  conv=>whnf
  replace h:=XaK.elim h;obtain ⟨x51,hy,h⟩:=h
  refine Xbn.XaO [] (Xar («as»:=[.pointer (some ⟨0,0,none⟩),.string ⟨⟨e19.Text⟩⟩]) (ws:=[.blk 2 false,.blk 3 false,.blk 4 false,.blk 5 false,.blk 6 false,.blk 7 false,.blk 8 false,.no,.no,.no]) (n:=0) (m:=0) (t':=9) (Xam (Xa6 rfl rfl (Xai rfl rfl rfl rfl (Xai rfl rfl rfl rfl (Xai rfl rfl (Xat) rfl (Xai rfl rfl (Xat) rfl (Xai rfl rfl (Xat) rfl (Xai rfl rfl (Xat) rfl (Xai rfl rfl (Xat) rfl (Xan (Xan (Xan XaR)))))))))) rfl) rfl (Xam rfl rfl XaP)) rfl (by rfl) (XqU hy) rfl rfl rfl rfl (Xab rfl (Xab rfl (Xab rfl (Xab rfl (Xab rfl (Xab rfl (Xab rfl (Xab rfl (Xab rfl (Xab rfl XaN)))))))))) XaM rfl) ?_
  conv=>whnf
  refine br.h h (by rfl) ?_ ?_
  ·clear h;intro hb h;conv=>whnf
   exact W
  clear h;intro hb h;conv=>whnf
  replace h:=XaU.elim h;obtain ⟨hb,h⟩:=h
  try (refine req.intro hb ?_;conv=>whnf)
  refine rd.T (i:=xj9.toNat) (x:=e19) (j:=0) XaA (by assumption) (by first|omega|exact Nat.zero_add _|exact congrArg (·+_) (Nat.zero_add _)) (by decide) rfl ?_
  conv=>whnf
  replace h:=XaK.elim h;obtain ⟨x52,hy,h⟩:=h
  refine Xbn.XaO [] (Xar («as»:=[.pointer (some ⟨0,0,none⟩),.string ⟨⟨e19.Text⟩⟩]) (ws:=[.blk 2 false,.blk 3 false,.blk 4 false,.blk 5 false,.blk 6 false,.blk 7 false,.blk 8 false,.no,.no,.no]) (n:=0) (m:=0) (t':=9) (Xam (Xa6 rfl rfl (Xai rfl rfl rfl rfl (Xai rfl rfl rfl rfl (Xai rfl rfl (Xat) rfl (Xai rfl rfl (Xat) rfl (Xai rfl rfl (Xat) rfl (Xai rfl rfl (Xat) rfl (Xai rfl rfl (Xat) rfl (Xan (Xan (Xan XaR)))))))))) rfl) rfl (Xam rfl rfl XaP)) rfl (by rfl) (XqU hy) rfl rfl rfl rfl (Xab rfl (Xab rfl (Xab rfl (Xab rfl (Xab rfl (Xab rfl (Xab rfl (Xab rfl (Xab rfl (Xab rfl XaN)))))))))) XaM rfl) ?_
  conv=>whnf
  replace h:=XaK.elim h;obtain ⟨x53,hy,h⟩:=h
  refine Xbn.XaO [] (Xar («as»:=[.pointer (some ⟨0,0,none⟩)]) (ws:=[.blk 2 false,.blk 3 false,.blk 4 false,.blk 5 false,.blk 6 false,.blk 7 false,.blk 8 false,.no,.no,.no]) (n:=0) (m:=0) (t':=9) (Xam (Xa6 rfl rfl (Xai rfl rfl rfl rfl (Xai rfl rfl rfl rfl (Xai rfl rfl (Xat) rfl (Xai rfl rfl (Xat) rfl (Xai rfl rfl (Xat) rfl (Xai rfl rfl (Xat) rfl (Xai rfl rfl (Xat) rfl (Xan (Xan (Xan XaR)))))))))) rfl) rfl XaP) rfl (by rfl) (Xwa hy) rfl rfl rfl rfl (Xab rfl (Xab rfl (Xab rfl (Xab rfl (Xab rfl (Xab rfl (Xab rfl (Xab rfl (Xab rfl (Xab rfl XaN)))))))))) XaM rfl) ?_
  conv=>whnf
  refine br.h h (by rfl) ?_ ?_
  ·clear h;intro hb h;conv=>whnf
   exact W
  clear h;intro hb h;conv=>whnf
  cases h;simp only [Sum.elim_inr,Sum.elim_inl,Xip] at hc
  exact Xfj hc [(0,0),(2,2),(3,3),(4,4),(5,5),(6,6),(7,7),(8,8)] rfl
 clear h;intro hb h;conv=>whnf
 replace h:=XaU.elim h;obtain ⟨hb,h⟩:=h
 try (refine req.intro hb ?_;conv=>whnf)
 replace h:=XaK.elim h;obtain ⟨e17,hy,h⟩:=h
 refine rd.T (j:=0) XaA hy (by first|omega|exact Nat.zero_add _|exact congrArg (·+_) (Nat.zero_add _)) (by decide) rfl ?_
 conv=>whnf
 replace h:=XaU.elim h;obtain ⟨hb,h⟩:=h
 try (refine req.intro hb ?_;conv=>whnf)
 replace h:=XaK.elim h;obtain ⟨e18,hy,h⟩:=h
 refine rd.T (j:=0) XaA hy (by first|omega|exact Nat.zero_add _|exact congrArg (·+_) (Nat.zero_add _)) (by decide) rfl ?_
 conv=>whnf
 refine br.h2 h (by rfl) ?_ ?_
 ·clear h;intro hb h;conv=>whnf
  cases h;simp only [Sum.elim_inl,Xh2] at hc
  exact Xfj hc [(0,0),(2,2),(3,3),(4,4),(5,5),(6,6),(7,7),(8,8)] rfl
 clear h;intro hb h;conv=>whnf
 replace h:=XaU.elim h;obtain ⟨hb,h⟩:=h
 try (refine req.intro hb ?_;conv=>whnf)
 refine rd.T (i:=i4.toNat) (x:=e17) (j:=1) XaA (by assumption) (by first|omega|exact Nat.zero_add _|exact congrArg (·+_) (Nat.zero_add _)) (by decide) rfl ?_
 conv=>whnf
 refine br.h2 h (by rfl) ?_ ?_
 ·clear h;intro hb h;conv=>whnf
  cases h;simp only [Sum.elim_inl,Xh2] at hc
  exact Xfj hc [(0,0),(2,2),(3,3),(4,4),(5,5),(6,6),(7,7),(8,8)] rfl
 clear h;intro hb h;conv=>whnf
 replace h:=XaU.elim h;obtain ⟨hb,h⟩:=h
 try (refine req.intro hb ?_;conv=>whnf)
 refine rd.T (i:=i4.toNat) (x:=e17) (j:=1) XaA (by assumption) (by first|omega|exact Nat.zero_add _|exact congrArg (·+_) (Nat.zero_add _)) (by decide) rfl ?_
 conv=>whnf
 refine br.h2 h (by rfl) ?_ ?_
 ·clear h;intro hb h;conv=>whnf
  cases h;simp only [Sum.elim_inl,Xh2] at hc
  exact Xfj hc [(0,0),(2,2),(3,3),(4,4),(5,5),(6,6),(7,7),(8,8)] rfl
 clear h;intro hb h;conv=>whnf
 replace h:=XaU.elim h;obtain ⟨hb,h⟩:=h
 try (refine req.intro hb ?_;conv=>whnf)
 refine rd.T (i:=i4.toNat) (x:=e17) (j:=1) XaA (by assumption) (by first|omega|exact Nat.zero_add _|exact congrArg (·+_) (Nat.zero_add _)) (by decide) rfl ?_
 conv=>whnf
 cases h;simp only [Sum.elim_inl,Xh2] at hc
 exact Xfj hc [(0,0),(2,2),(3,3),(4,4),(5,5),(6,6),(7,7),(8,8)] rfl
theorem Xx5 (Xal:XaQ) (XaS:Xa9) (XaE:Xa2) (Xac:Xap) (Xah:Xau) (Xad:Xao) (hS:XaL Try.prog (XaY (XhA Xal XaS XaE Xac Xah Xad))) (l:List Xaz) (s12:Int) (s13:Int) (s14:Int) (c20:Nat) (c21:Nat) (c22:Nat) (c23:Nat) (c24:Nat) (c25:List Int) (c26:List Int) (c27:List Int) (c28:List Int) (c29:List Int) (res:Bool):∀ fuel (st:Int) (o:Bool),iter (fun st=>Xb9 Xal Xac Xad l s12 s13 s14 c20 c21 c22 c23 c24 c25 c26 c27 c28 c29 st) fuel st=some o→(o=res) →
 Xa0 Try.prog 4 1 (Xip l s12 s13 s14 c20 c21 c22 c23 c24 c25 c26 c27 c28 c29 st) (fun v H _=>Res 1 (rx4 res) v H):=by
 intro fuel st o h hc
 refine Xbl (head:=fun st=>Xip l s12 s13 s14 c20 c21 c22 c23 c24 c25 c26 c27 c28 c29 st) (C:=fun o=>(o=res)) ?_ fuel st o h hc
 clear h hc o st fuel
 intro xj9 o h hc
 replace h:Xb9 Xal Xac Xad l s12 s13 s14 c20 c21 c22 c23 c24 c25 c26 c27 c28 c29 xj9=some o:=h
 show Xa0 Try.prog 4 1 (Xip l s12 s13 s14 c20 c21 c22 c23 c24 c25 c26 c27 c28 c29 xj9) (fun v H _=>Res 1 (rx4 res) v H)
 unfold Xb9 at h
 have R1:=@Xoy Xal
 refine Xa1 XaJ hS true 3000 ?_
 conv=>whnf
 refine br.h h (by rfl) ?_ ?_
 ·clear h;intro hb h;conv=>whnf
  have hl:=Xwq Xal XaS XaE Xac Xah Xad hS _ _ _ _ _ _ _ _ _ _ _ _ _ _ _ res _ _ _ h hc;simp only [Xh2] at hl
  exact Xfj hl [(0,0),(2,2),(3,3),(4,4),(5,5),(6,6),(7,7),(8,8)] rfl
 clear h;intro hb h;conv=>whnf
 exact W
theorem XxA (Xal:XaQ) (XaS:Xa9) (XaE:Xa2) (Xac:Xap) (Xah:Xau) (Xad:Xao) (hS:XaL Try.prog (XaY (XhA Xal XaS XaE Xac Xah Xad))) (l:List Xaz) (res:Bool):∀ fuel (st:Int×Int×Int×Int×Nat×Nat×Nat×Nat×Nat×(List Int)×(List Int)×(List Int)×(List Int)×(List Int)) (o:Bool),iter (fun st=>Xby Xal Xac Xah Xad l st.1 st.2.1 st.2.2.1 st.2.2.2.1 st.2.2.2.2.1 st.2.2.2.2.2.1 st.2.2.2.2.2.2.1 st.2.2.2.2.2.2.2.1 st.2.2.2.2.2.2.2.2.1 st.2.2.2.2.2.2.2.2.2.1 st.2.2.2.2.2.2.2.2.2.2.1 st.2.2.2.2.2.2.2.2.2.2.2.1 st.2.2.2.2.2.2.2.2.2.2.2.2.1 st.2.2.2.2.2.2.2.2.2.2.2.2.2) fuel st=some o→(o=res) →
 Xa0 Try.prog 4 1 (Xlj l st.1 st.2.1 st.2.2.1 st.2.2.2.1 st.2.2.2.2.1 st.2.2.2.2.2.1 st.2.2.2.2.2.2.1 st.2.2.2.2.2.2.2.1 st.2.2.2.2.2.2.2.2.1 st.2.2.2.2.2.2.2.2.2.1 st.2.2.2.2.2.2.2.2.2.2.1 st.2.2.2.2.2.2.2.2.2.2.2.1 st.2.2.2.2.2.2.2.2.2.2.2.2.1 st.2.2.2.2.2.2.2.2.2.2.2.2.2) (fun v H _=>Res 1 (rx4 res) v H):=by
 intro fuel st o h hc
 refine Xbl (head:=fun st=>Xlj l st.1 st.2.1 st.2.2.1 st.2.2.2.1 st.2.2.2.2.1 st.2.2.2.2.2.1 st.2.2.2.2.2.2.1 st.2.2.2.2.2.2.2.1 st.2.2.2.2.2.2.2.2.1 st.2.2.2.2.2.2.2.2.2.1 st.2.2.2.2.2.2.2.2.2.2.1 st.2.2.2.2.2.2.2.2.2.2.2.1 st.2.2.2.2.2.2.2.2.2.2.2.2.1 st.2.2.2.2.2.2.2.2.2.2.2.2.2) (C:=fun o=>(o=res)) ?_ fuel st o h hc
 clear h hc o st fuel
 intro st o h hc
 obtain ⟨xj8,s12,s13,s14,c20,c21,c22,c23,c24,c25,c26,c27,c28,c29⟩:=st
 replace h:Xby Xal Xac Xah Xad l xj8 s12 s13 s14 c20 c21 c22 c23 c24 c25 c26 c27 c28 c29=some o:=h
 show Xa0 Try.prog 4 1 (Xlj l xj8 s12 s13 s14 c20 c21 c22 c23 c24 c25 c26 c27 c28 c29) (fun v H _=>Res 1 (rx4 res) v H)
 unfold Xby at h
 refine Xa1 XaJ hS true 3000 ?_
 conv=>whnf
 refine br.h2 h (by rfl) ?_ ?_
 ·clear h;intro hb h;conv=>whnf
  obtain ⟨y,hy,h2⟩:=XaK.elim h;cases h2
  have hl:=Xx5 Xal XaS XaE Xac Xah Xad hS _ _ _ _ _ _ _ _ _ _ _ _ _ _ res _ _ _ hy hc;simp only [Xip] at hl
  exact Xfj hl [(0,0),(2,2),(3,3),(4,4),(5,5),(6,6),(7,7),(8,8)] rfl
 clear h;intro hb h;conv=>whnf
 replace h:=XaU.elim h;obtain ⟨hb,h⟩:=h
 try (refine req.intro hb ?_;conv=>whnf)
 replace h:=XaK.elim h;obtain ⟨e16,hy,h⟩:=h
 refine rd.T (j:=0) XaA hy (by first|omega|exact Nat.zero_add _|exact congrArg (·+_) (Nat.zero_add _)) (by decide) rfl ?_
 conv=>whnf
 replace h:=XaU.elim h;obtain ⟨hb,h⟩:=h
 try (refine req.intro hb ?_;conv=>whnf)
 refine rd.T (i:=xj8.toNat) (x:=e16) (j:=1) XaA (by assumption) (by first|omega|exact Nat.zero_add _|exact congrArg (·+_) (Nat.zero_add _)) (by decide) rfl ?_
 conv=>whnf
 replace h:=XaK.elim h;obtain ⟨x5,hy,h⟩:=h
 refine Xbn.XaO [2,3] (Xar («as»:=[.pointer (some ⟨0,0,none⟩),.string ⟨⟨e16.Text⟩⟩,.int .i64 e16.N]) (ws:=[.blk 2 true,.blk 3 true,.blk 4 true,.blk 5 true,.blk 6 true,.blk 7 true,.blk 8 true,.no,.no,.no]) (n:=5) (m:=0) (t':=25) (Xam (Xa6 rfl rfl (Xai rfl rfl rfl rfl (Xai rfl rfl rfl rfl (Xai rfl rfl (Xat) rfl (Xai rfl rfl (Xat) rfl (Xai rfl rfl (Xat) rfl (Xai rfl rfl (Xat) rfl (Xai rfl rfl (Xat) rfl (Xan (Xan (Xan XaR)))))))))) rfl) rfl (Xam rfl rfl (Xam rfl rfl XaP))) rfl (by rfl) (XwO hy) rfl rfl rfl rfl (Xfo rfl rfl rfl rfl (Xfo rfl rfl rfl rfl (XcC (XcC (XcC (XcC (XcC (Xab rfl (Xab rfl (Xab rfl XaN)))))))))) (XbR (Xat) (XbR (Xat) (XbR (Xat) (XbR (Xat) (XbR (Xat) XaM))))) rfl) ?_
 conv=>whnf
 cases h;simp only [Sum.elim_inl,Xlj] at hc
 exact Xfj hc [(0,0),(2,2),(3,3),(4,20),(5,21),(6,22),(7,23),(8,24)] rfl
theorem Xw0 (Xal:XaQ) (XaS:Xa9) (XaE:Xa2) (Xac:Xap) (Xah:Xau) (Xad:Xao) (hS:XaL Try.prog (XaY (XhA Xal XaS XaE Xac Xah Xad))) (l:List Xaz) (s15:Int) (s16:Int) (s17:Int) (c30:Nat) (c31:Nat) (c32:Nat) (c33:Nat) (c34:Nat) (c35:Nat) (c36:List Int) (c37:List Int) (c38:List Int) (c39:List Int) (c40:List Int) (c41:List Int) (xj11:Int) (res:Bool):∀ fuel (st:Int×Int) (o:Sum Int Bool),iter (fun st=>XbA Xac Xad l s15 s16 s17 c30 c31 c32 c33 c34 c35 c36 c37 c38 c39 c40 c41 xj11 st.1 st.2) fuel st=some o→(Sum.elim (fun s0=>Xa0 Try.prog 4 1 (XiM l s15 s16 s17 c30 c31 c32 c33 c34 c35 c36 c37 c38 c39 c40 c41 s0) (fun v H _=>Res 1 (rx4 res) v H)) (fun r0=>r0=res) o) →
 Xa0 Try.prog 4 1 (Xh5 l s15 s16 s17 c30 c31 c32 c33 c34 c35 c36 c37 c38 c39 c40 c41 xj11 st.1 st.2) (fun v H _=>Res 1 (rx4 res) v H):=by
 intro fuel st o h hc
 refine Xbl (head:=fun st=>Xh5 l s15 s16 s17 c30 c31 c32 c33 c34 c35 c36 c37 c38 c39 c40 c41 xj11 st.1 st.2) (C:=fun o=>(Sum.elim (fun s0=>Xa0 Try.prog 4 1 (XiM l s15 s16 s17 c30 c31 c32 c33 c34 c35 c36 c37 c38 c39 c40 c41 s0) (fun v H _=>Res 1 (rx4 res) v H)) (fun r0=>r0=res) o)) ?_ fuel st o h hc
 clear h hc o st fuel
 intro st o h hc
 obtain ⟨n12,i5⟩:=st
 replace h:XbA Xac Xad l s15 s16 s17 c30 c31 c32 c33 c34 c35 c36 c37 c38 c39 c40 c41 xj11 n12 i5=some o:=h
 show Xa0 Try.prog 4 1 (Xh5 l s15 s16 s17 c30 c31 c32 c33 c34 c35 c36 c37 c38 c39 c40 c41 xj11 n12 i5) (fun v H _=>Res 1 (rx4 res) v H)
 unfold XbA at h
 refine Xa1 XaJ hS true 3000 ?_
 conv=>whnf
 refine br.h2 h (by rfl) ?_ ?_
 ·clear h;intro hb h;conv=>whnf
  replace h:=XaU.elim h;obtain ⟨hb,h⟩:=h
  try (refine req.intro hb ?_;conv=>whnf)
  replace h:=XaK.elim h;obtain ⟨e23,hy,h⟩:=h
  refine rd.T (j:=0) XaA hy (by first|omega|exact Nat.zero_add _|exact congrArg (·+_) (Nat.zero_add _)) (by decide) rfl ?_
  conv=>whnf
  replace h:=XaK.elim h;obtain ⟨x61,hy,h⟩:=h
  refine Xbn.XaO [] (Xar («as»:=[.pointer (some ⟨0,0,none⟩),.string ⟨⟨e23.Text⟩⟩]) (ws:=[.blk 2 false,.blk 3 false,.blk 4 false,.blk 5 false,.blk 6 false,.blk 7 false,.blk 8 false,.blk 9 false,.no,.no]) (n:=0) (m:=0) (t':=10) (Xam (Xa6 rfl rfl (Xai rfl rfl rfl rfl (Xai rfl rfl rfl rfl (Xai rfl rfl (Xat) rfl (Xai rfl rfl (Xat) rfl (Xai rfl rfl (Xat) rfl (Xai rfl rfl (Xat) rfl (Xai rfl rfl (Xat) rfl (Xai rfl rfl (Xat) rfl (Xan (Xan XaR)))))))))) rfl) rfl (Xam rfl rfl XaP)) rfl (by rfl) (XqO hy) rfl rfl rfl rfl (Xab rfl (Xab rfl (Xab rfl (Xab rfl (Xab rfl (Xab rfl (Xab rfl (Xab rfl (Xab rfl (Xab rfl XaN)))))))))) XaM rfl) ?_
  conv=>whnf
  refine br.h h (by rfl) ?_ ?_
  ·clear h;intro hb h;conv=>whnf
   exact W
  clear h;intro hb h;conv=>whnf
  replace h:=XaU.elim h;obtain ⟨hb,h⟩:=h
  try (refine req.intro hb ?_;conv=>whnf)
  refine rd.T (i:=xj11.toNat) (x:=e23) (j:=0) XaA (by assumption) (by first|omega|exact Nat.zero_add _|exact congrArg (·+_) (Nat.zero_add _)) (by decide) rfl ?_
  conv=>whnf
  replace h:=XaK.elim h;obtain ⟨x62,hy,h⟩:=h
  refine Xbn.XaO [] (Xar («as»:=[.pointer (some ⟨0,0,none⟩),.string ⟨⟨e23.Text⟩⟩]) (ws:=[.blk 2 false,.blk 3 false,.blk 4 false,.blk 5 false,.blk 6 false,.blk 7 false,.blk 8 false,.blk 9 false,.no,.no]) (n:=0) (m:=0) (t':=10) (Xam (Xa6 rfl rfl (Xai rfl rfl rfl rfl (Xai rfl rfl rfl rfl (Xai rfl rfl (Xat) rfl (Xai rfl rfl (Xat) rfl (Xai rfl rfl (Xat) rfl (Xai rfl rfl (Xat) rfl (Xai rfl rfl (Xat) rfl (Xai rfl rfl (Xat) rfl (Xan (Xan XaR)))))))))) rfl) rfl (Xam rfl rfl XaP)) rfl (by rfl) (XqO hy) rfl rfl rfl rfl (Xab rfl (Xab rfl (Xab rfl (Xab rfl (Xab rfl (Xab rfl (Xab rfl (Xab rfl (Xab rfl (Xab rfl XaN)))))))))) XaM rfl) ?_
  conv=>whnf
  replace h:=XaK.elim h;obtain ⟨x63,hy,h⟩:=h
  refine Xbn.XaO [] (Xar («as»:=[.pointer (some ⟨0,0,none⟩)]) (ws:=[.blk 2 false,.blk 3 false,.blk 4 false,.blk 5 false,.blk 6 false,.blk 7 false,.blk 8 false,.blk 9 false,.no,.no]) (n:=0) (m:=0) (t':=10) (Xam (Xa6 rfl rfl (Xai rfl rfl rfl rfl (Xai rfl rfl rfl rfl (Xai rfl rfl (Xat) rfl (Xai rfl rfl (Xat) rfl (Xai rfl rfl (Xat) rfl (Xai rfl rfl (Xat) rfl (Xai rfl rfl (Xat) rfl (Xai rfl rfl (Xat) rfl (Xan (Xan XaR)))))))))) rfl) rfl XaP) rfl (by rfl) (Xwf hy) rfl rfl rfl rfl (Xab rfl (Xab rfl (Xab rfl (Xab rfl (Xab rfl (Xab rfl (Xab rfl (Xab rfl (Xab rfl (Xab rfl XaN)))))))))) XaM rfl) ?_
  conv=>whnf
  refine br.h h (by rfl) ?_ ?_
  ·clear h;intro hb h;conv=>whnf
   exact W
  clear h;intro hb h;conv=>whnf
  cases h;simp only [Sum.elim_inr,Sum.elim_inl,XiM] at hc
  exact Xfj hc [(0,0),(2,2),(3,3),(4,4),(5,5),(6,6),(7,7),(8,8),(9,9)] rfl
 clear h;intro hb h;conv=>whnf
 replace h:=XaU.elim h;obtain ⟨hb,h⟩:=h
 try (refine req.intro hb ?_;conv=>whnf)
 replace h:=XaK.elim h;obtain ⟨e21,hy,h⟩:=h
 refine rd.T (j:=0) XaA hy (by first|omega|exact Nat.zero_add _|exact congrArg (·+_) (Nat.zero_add _)) (by decide) rfl ?_
 conv=>whnf
 replace h:=XaU.elim h;obtain ⟨hb,h⟩:=h
 try (refine req.intro hb ?_;conv=>whnf)
 replace h:=XaK.elim h;obtain ⟨e22,hy,h⟩:=h
 refine rd.T (j:=0) XaA hy (by first|omega|exact Nat.zero_add _|exact congrArg (·+_) (Nat.zero_add _)) (by decide) rfl ?_
 conv=>whnf
 refine br.h2 h (by rfl) ?_ ?_
 ·clear h;intro hb h;conv=>whnf
  cases h;simp only [Sum.elim_inl,Xh5] at hc
  exact Xfj hc [(0,0),(2,2),(3,3),(4,4),(5,5),(6,6),(7,7),(8,8),(9,9)] rfl
 clear h;intro hb h;conv=>whnf
 replace h:=XaU.elim h;obtain ⟨hb,h⟩:=h
 try (refine req.intro hb ?_;conv=>whnf)
 refine rd.T (i:=i5.toNat) (x:=e21) (j:=1) XaA (by assumption) (by first|omega|exact Nat.zero_add _|exact congrArg (·+_) (Nat.zero_add _)) (by decide) rfl ?_
 conv=>whnf
 refine br.h2 h (by rfl) ?_ ?_
 ·clear h;intro hb h;conv=>whnf
  cases h;simp only [Sum.elim_inl,Xh5] at hc
  exact Xfj hc [(0,0),(2,2),(3,3),(4,4),(5,5),(6,6),(7,7),(8,8),(9,9)] rfl
 clear h;intro hb h;conv=>whnf
 replace h:=XaU.elim h;obtain ⟨hb,h⟩:=h
 try (refine req.intro hb ?_;conv=>whnf)
 refine rd.T (i:=i5.toNat) (x:=e21) (j:=1) XaA (by assumption) (by first|omega|exact Nat.zero_add _|exact congrArg (·+_) (Nat.zero_add _)) (by decide) rfl ?_
 conv=>whnf
 refine br.h2 h (by rfl) ?_ ?_
 ·clear h;intro hb h;conv=>whnf
  cases h;simp only [Sum.elim_inl,Xh5] at hc
  exact Xfj hc [(0,0),(2,2),(3,3),(4,4),(5,5),(6,6),(7,7),(8,8),(9,9)] rfl
 clear h;intro hb h;conv=>whnf
 replace h:=XaU.elim h;obtain ⟨hb,h⟩:=h
 try (refine req.intro hb ?_;conv=>whnf)
 refine rd.T (i:=i5.toNat) (x:=e21) (j:=1) XaA (by assumption) (by first|omega|exact Nat.zero_add _|exact congrArg (·+_) (Nat.zero_add _)) (by decide) rfl ?_
 conv=>whnf
 cases h;simp only [Sum.elim_inl,Xh5] at hc
 exact Xfj hc [(0,0),(2,2),(3,3),(4,4),(5,5),(6,6),(7,7),(8,8),(9,9)] rfl
theorem XwK (Xal:XaQ) (XaS:Xa9) (XaE:Xa2) (Xac:Xap) (Xah:Xau) (Xad:Xao) (hS:XaL Try.prog (XaY (XhA Xal XaS XaE Xac Xah Xad))) (l:List Xaz) (s15:Int) (s16:Int) (s17:Int) (c30:Nat) (c31:Nat) (c32:Nat) (c33:Nat) (c34:Nat) (c35:Nat) (c36:List Int) (c37:List Int) (c38:List Int) (c39:List Int) (c40:List Int) (c41:List Int) (res:Bool):∀ fuel (st:Int) (o:Bool),iter (fun st=>Xca Xal Xac Xad l s15 s16 s17 c30 c31 c32 c33 c34 c35 c36 c37 c38 c39 c40 c41 st) fuel st=some o→(o=res) →
 Xa0 Try.prog 4 1 (XiM l s15 s16 s17 c30 c31 c32 c33 c34 c35 c36 c37 c38 c39 c40 c41 st) (fun v H _=>Res 1 (rx4 res) v H):=by
 intro fuel st o h hc
 refine Xbl (head:=fun st=>XiM l s15 s16 s17 c30 c31 c32 c33 c34 c35 c36 c37 c38 c39 c40 c41 st) (C:=fun o=>(o=res)) ?_ fuel st o h hc
 clear h hc o st fuel
 intro xj11 o h hc
 replace h:Xca Xal Xac Xad l s15 s16 s17 c30 c31 c32 c33 c34 c35 c36 c37 c38 c39 c40 c41 xj11=some o:=h
 show Xa0 Try.prog 4 1 (XiM l s15 s16 s17 c30 c31 c32 c33 c34 c35 c36 c37 c38 c39 c40 c41 xj11) (fun v H _=>Res 1 (rx4 res) v H)
 unfold Xca at h
 have R1:=@Xoy Xal
 refine Xa1 XaJ hS true 3000 ?_
 conv=>whnf
 refine br.h h (by rfl) ?_ ?_
 ·clear h;intro hb h;conv=>whnf
  have hl:=Xw0 Xal XaS XaE Xac Xah Xad hS _ _ _ _ _ _ _ _ _ _ _ _ _ _ _ _ _ res _ _ _ h hc;simp only [Xh5] at hl
  exact Xfj hl [(0,0),(2,2),(3,3),(4,4),(5,5),(6,6),(7,7),(8,8),(9,9)] rfl
 clear h;intro hb h;conv=>whnf
 exact W
theorem XwS (Xal:XaQ) (XaS:Xa9) (XaE:Xa2) (Xac:Xap) (Xah:Xau) (Xad:Xao) (hS:XaL Try.prog (XaY (XhA Xal XaS XaE Xac Xah Xad))) (l:List Xaz) (res:Bool):∀ fuel (st:Int×Int×Int×Int×Nat×Nat×Nat×Nat×Nat×Nat×(List Int)×(List Int)×(List Int)×(List Int)×(List Int)×(List Int)) (o:Bool),iter (fun st=>XbH Xal Xac Xah Xad l st.1 st.2.1 st.2.2.1 st.2.2.2.1 st.2.2.2.2.1 st.2.2.2.2.2.1 st.2.2.2.2.2.2.1 st.2.2.2.2.2.2.2.1 st.2.2.2.2.2.2.2.2.1 st.2.2.2.2.2.2.2.2.2.1 st.2.2.2.2.2.2.2.2.2.2.1 st.2.2.2.2.2.2.2.2.2.2.2.1 st.2.2.2.2.2.2.2.2.2.2.2.2.1 st.2.2.2.2.2.2.2.2.2.2.2.2.2.1 st.2.2.2.2.2.2.2.2.2.2.2.2.2.2.1 st.2.2.2.2.2.2.2.2.2.2.2.2.2.2.2) fuel st=some o→(o=res) →
 Xa0 Try.prog 4 1 (Xld l st.1 st.2.1 st.2.2.1 st.2.2.2.1 st.2.2.2.2.1 st.2.2.2.2.2.1 st.2.2.2.2.2.2.1 st.2.2.2.2.2.2.2.1 st.2.2.2.2.2.2.2.2.1 st.2.2.2.2.2.2.2.2.2.1 st.2.2.2.2.2.2.2.2.2.2.1 st.2.2.2.2.2.2.2.2.2.2.2.1 st.2.2.2.2.2.2.2.2.2.2.2.2.1 st.2.2.2.2.2.2.2.2.2.2.2.2.2.1 st.2.2.2.2.2.2.2.2.2.2.2.2.2.2.1 st.2.2.2.2.2.2.2.2.2.2.2.2.2.2.2) (fun v H _=>Res 1 (rx4 res) v H):=by
 intro fuel st o h hc
 refine Xbl (head:=fun st=>Xld l st.1 st.2.1 st.2.2.1 st.2.2.2.1 st.2.2.2.2.1 st.2.2.2.2.2.1 st.2.2.2.2.2.2.1 st.2.2.2.2.2.2.2.1 st.2.2.2.2.2.2.2.2.1 st.2.2.2.2.2.2.2.2.2.1 st.2.2.2.2.2.2.2.2.2.2.1 st.2.2.2.2.2.2.2.2.2.2.2.1 st.2.2.2.2.2.2.2.2.2.2.2.2.1 st.2.2.2.2.2.2.2.2.2.2.2.2.2.1 st.2.2.2.2.2.2.2.2.2.2.2.2.2.2.1 st.2.2.2.2.2.2.2.2.2.2.2.2.2.2.2) (C:=fun o=>(o=res)) ?_ fuel st o h hc
 clear h hc o st fuel
 intro st o h hc
 obtain ⟨xj10,s15,s16,s17,c30,c31,c32,c33,c34,c35,c36,c37,c38,c39,c40,c41⟩:=st
 replace h:XbH Xal Xac Xah Xad l xj10 s15 s16 s17 c30 c31 c32 c33 c34 c35 c36 c37 c38 c39 c40 c41=some o:=h
 show Xa0 Try.prog 4 1 (Xld l xj10 s15 s16 s17 c30 c31 c32 c33 c34 c35 c36 c37 c38 c39 c40 c41) (fun v H _=>Res 1 (rx4 res) v H)
 unfold XbH at h
 refine Xa1 XaJ hS true 3000 ?_
 conv=>whnf
 refine br.h2 h (by rfl) ?_ ?_
 ·clear h;intro hb h;conv=>whnf
  obtain ⟨y,hy,h2⟩:=XaK.elim h;cases h2
  have hl:=XwK Xal XaS XaE Xac Xah Xad hS _ _ _ _ _ _ _ _ _ _ _ _ _ _ _ _ res _ _ _ hy hc;simp only [XiM] at hl
  exact Xfj hl [(0,0),(2,2),(3,3),(4,4),(5,5),(6,6),(7,7),(8,8),(9,9)] rfl
 clear h;intro hb h;conv=>whnf
 replace h:=XaU.elim h;obtain ⟨hb,h⟩:=h
 try (refine req.intro hb ?_;conv=>whnf)
 replace h:=XaK.elim h;obtain ⟨e20,hy,h⟩:=h
 refine rd.T (j:=0) XaA hy (by first|omega|exact Nat.zero_add _|exact congrArg (·+_) (Nat.zero_add _)) (by decide) rfl ?_
 conv=>whnf
 replace h:=XaU.elim h;obtain ⟨hb,h⟩:=h
 try (refine req.intro hb ?_;conv=>whnf)
 refine rd.T (i:=xj10.toNat) (x:=e20) (j:=1) XaA (by assumption) (by first|omega|exact Nat.zero_add _|exact congrArg (·+_) (Nat.zero_add _)) (by decide) rfl ?_
 conv=>whnf
 replace h:=XaK.elim h;obtain ⟨x6,hy,h⟩:=h
 refine Xbn.XaO [2,3] (Xar («as»:=[.pointer (some ⟨0,0,none⟩),.string ⟨⟨e20.Text⟩⟩,.int .i64 e20.N]) (ws:=[.blk 2 true,.blk 3 true,.blk 4 true,.blk 5 true,.blk 6 true,.blk 7 true,.blk 8 true,.blk 9 true,.no,.no]) (n:=6) (m:=0) (t':=27) (Xam (Xa6 rfl rfl (Xai rfl rfl rfl rfl (Xai rfl rfl rfl rfl (Xai rfl rfl (Xat) rfl (Xai rfl rfl (Xat) rfl (Xai rfl rfl (Xat) rfl (Xai rfl rfl (Xat) rfl (Xai rfl rfl (Xat) rfl (Xai rfl rfl (Xat) rfl (Xan (Xan XaR)))))))))) rfl) rfl (Xam rfl rfl (Xam rfl rfl XaP))) rfl (by rfl) (Xwc hy) rfl rfl rfl rfl (Xfo rfl rfl rfl rfl (Xfo rfl rfl rfl rfl (XcC (XcC (XcC (XcC (XcC (XcC (Xab rfl (Xab rfl XaN)))))))))) (XbR (Xat) (XbR (Xat) (XbR (Xat) (XbR (Xat) (XbR (Xat) (XbR (Xat) XaM)))))) rfl) ?_
 conv=>whnf
 cases h;simp only [Sum.elim_inl,Xld] at hc
 exact Xfj hc [(0,0),(2,2),(3,3),(4,21),(5,22),(6,23),(7,24),(8,25),(9,26)] rfl
theorem Xxv (Xal:XaQ) (XaS:Xa9) (XaE:Xa2) (Xac:Xap) (Xah:Xau) (Xad:Xao) (hS:XaL Try.prog (XaY (XhA Xal XaS XaE Xac Xah Xad))) (l:List Xaz) (s18:Int) (s19:Int) (s20:Int) (c42:Nat) (c43:Nat) (c44:Nat) (c45:Nat) (c46:Nat) (c47:Nat) (c48:Nat) (c49:List Int) (c50:List Int) (c51:List Int) (c52:List Int) (c53:List Int) (c54:List Int) (c55:List Int) (xj13:Int) (res:Bool):∀ fuel (st:Int×Int) (o:Sum Int Bool),iter (fun st=>Xbz Xac Xad l s18 s19 s20 c42 c43 c44 c45 c46 c47 c48 c49 c50 c51 c52 c53 c54 c55 xj13 st.1 st.2) fuel st=some o→(Sum.elim (fun s0=>Xa0 Try.prog 4 1 (XiP l s18 s19 s20 c42 c43 c44 c45 c46 c47 c48 c49 c50 c51 c52 c53 c54 c55 s0) (fun v H _=>Res 1 (rx4 res) v H)) (fun r0=>r0=res) o) →
 Xa0 Try.prog 4 1 (XhR l s18 s19 s20 c42 c43 c44 c45 c46 c47 c48 c49 c50 c51 c52 c53 c54 c55 xj13 st.1 st.2) (fun v H _=>Res 1 (rx4 res) v H):=by
 intro fuel st o h hc
 refine Xbl (head:=fun st=>XhR l s18 s19 s20 c42 c43 c44 c45 c46 c47 c48 c49 c50 c51 c52 c53 c54 c55 xj13 st.1 st.2) (C:=fun o=>(Sum.elim (fun s0=>Xa0 Try.prog 4 1 (XiP l s18 s19 s20 c42 c43 c44 c45 c46 c47 c48 c49 c50 c51 c52 c53 c54 c55 s0) (fun v H _=>Res 1 (rx4 res) v H)) (fun r0=>r0=res) o)) ?_ fuel st o h hc
 clear h hc o st fuel
 intro st o h hc
 obtain ⟨n14,i6⟩:=st
 replace h:Xbz Xac Xad l s18 s19 s20 c42 c43 c44 c45 c46 c47 c48 c49 c50 c51 c52 c53 c54 c55 xj13 n14 i6=some o:=h
 show Xa0 Try.prog 4 1 (XhR l s18 s19 s20 c42 c43 c44 c45 c46 c47 c48 c49 c50 c51 c52 c53 c54 c55 xj13 n14 i6) (fun v H _=>Res 1 (rx4 res) v H)
 unfold Xbz at h
 refine Xa1 XaJ hS true 3000 ?_
 conv=>whnf
 refine br.h2 h (by rfl) ?_ ?_
 ·clear h;intro hb h;conv=>whnf
  replace h:=XaU.elim h;obtain ⟨hb,h⟩:=h
  try (refine req.intro hb ?_;conv=>whnf)
  replace h:=XaK.elim h;obtain ⟨e27,hy,h⟩:=h
  refine rd.T (j:=0) XaA hy (by first|omega|exact Nat.zero_add _|exact congrArg (·+_) (Nat.zero_add _)) (by decide) rfl ?_
  conv=>whnf
  replace h:=XaK.elim h;obtain ⟨x71,hy,h⟩:=h
  refine Xbn.XaO [] (Xar («as»:=[.pointer (some ⟨0,0,none⟩),.string ⟨⟨e27.Text⟩⟩]) (ws:=[.blk 2 false,.blk 3 false,.blk 4 false,.blk 5 false,.blk 6 false,.blk 7 false,.blk 8 false,.blk 9 false,.blk 10 false,.no]) (n:=0) (m:=0) (t':=11) (Xam (Xa6 rfl rfl (Xai rfl rfl rfl rfl (Xai rfl rfl rfl rfl (Xai rfl rfl (Xat) rfl (Xai rfl rfl (Xat) rfl (Xai rfl rfl (Xat) rfl (Xai rfl rfl (Xat) rfl (Xai rfl rfl (Xat) rfl (Xai rfl rfl (Xat) rfl (Xai rfl rfl (Xat) rfl (Xan XaR)))))))))) rfl) rfl (Xam rfl rfl XaP)) rfl (by rfl) (Xrg hy) rfl rfl rfl rfl (Xab rfl (Xab rfl (Xab rfl (Xab rfl (Xab rfl (Xab rfl (Xab rfl (Xab rfl (Xab rfl (Xab rfl XaN)))))))))) XaM rfl) ?_
  conv=>whnf
  refine br.h h (by rfl) ?_ ?_
  ·clear h;intro hb h;conv=>whnf
   exact W
  clear h;intro hb h;conv=>whnf
  replace h:=XaU.elim h;obtain ⟨hb,h⟩:=h
  try (refine req.intro hb ?_;conv=>whnf)
  refine rd.T (i:=xj13.toNat) (x:=e27) (j:=0) XaA (by assumption) (by first|omega|exact Nat.zero_add _|exact congrArg (·+_) (Nat.zero_add _)) (by decide) rfl ?_
  conv=>whnf
  replace h:=XaK.elim h;obtain ⟨x72,hy,h⟩:=h
  refine Xbn.XaO [] (Xar («as»:=[.pointer (some ⟨0,0,none⟩),.string ⟨⟨e27.Text⟩⟩]) (ws:=[.blk 2 false,.blk 3 false,.blk 4 false,.blk 5 false,.blk 6 false,.blk 7 false,.blk 8 false,.blk 9 false,.blk 10 false,.no]) (n:=0) (m:=0) (t':=11) (Xam (Xa6 rfl rfl (Xai rfl rfl rfl rfl (Xai rfl rfl rfl rfl (Xai rfl rfl (Xat) rfl (Xai rfl rfl (Xat) rfl (Xai rfl rfl (Xat) rfl (Xai rfl rfl (Xat) rfl (Xai rfl rfl (Xat) rfl (Xai rfl rfl (Xat) rfl (Xai rfl rfl (Xat) rfl (Xan XaR)))))))))) rfl) rfl (Xam rfl rfl XaP)) rfl (by rfl) (Xrg hy) rfl rfl rfl rfl (Xab rfl (Xab rfl (Xab rfl (Xab rfl (Xab rfl (Xab rfl (Xab rfl (Xab rfl (Xab rfl (Xab rfl XaN)))))))))) XaM rfl) ?_
  conv=>whnf
  replace h:=XaK.elim h;obtain ⟨x73,hy,h⟩:=h
  refine Xbn.XaO [] (Xar («as»:=[.pointer (some ⟨0,0,none⟩)]) (ws:=[.blk 2 false,.blk 3 false,.blk 4 false,.blk 5 false,.blk 6 false,.blk 7 false,.blk 8 false,.blk 9 false,.blk 10 false,.no]) (n:=0) (m:=0) (t':=11) (Xam (Xa6 rfl rfl (Xai rfl rfl rfl rfl (Xai rfl rfl rfl rfl (Xai rfl rfl (Xat) rfl (Xai rfl rfl (Xat) rfl (Xai rfl rfl (Xat) rfl (Xai rfl rfl (Xat) rfl (Xai rfl rfl (Xat) rfl (Xai rfl rfl (Xat) rfl (Xai rfl rfl (Xat) rfl (Xan XaR)))))))))) rfl) rfl XaP) rfl (by rfl) (Xv0 hy) rfl rfl rfl rfl (Xab rfl (Xab rfl (Xab rfl (Xab rfl (Xab rfl (Xab rfl (Xab rfl (Xab rfl (Xab rfl (Xab rfl XaN)))))))))) XaM rfl) ?_
  conv=>whnf
  refine br.h h (by rfl) ?_ ?_
  ·clear h;intro hb h;conv=>whnf
   exact W
  clear h;intro hb h;conv=>whnf
  cases h;simp only [Sum.elim_inr,Sum.elim_inl,XiP] at hc
  exact Xfj hc [(0,0),(2,2),(3,3),(4,4),(5,5),(6,6),(7,7),(8,8),(9,9),(10,10)] rfl
 clear h;intro hb h;conv=>whnf
 replace h:=XaU.elim h;obtain ⟨hb,h⟩:=h
 try (refine req.intro hb ?_;conv=>whnf)
 replace h:=XaK.elim h;obtain ⟨e25,hy,h⟩:=h
 refine rd.T (j:=0) XaA hy (by first|omega|exact Nat.zero_add _|exact congrArg (·+_) (Nat.zero_add _)) (by decide) rfl ?_
 conv=>whnf
 replace h:=XaU.elim h;obtain ⟨hb,h⟩:=h
 try (refine req.intro hb ?_;conv=>whnf)
 replace h:=XaK.elim h;obtain ⟨e26,hy,h⟩:=h
 refine rd.T (j:=0) XaA hy (by first|omega|exact Nat.zero_add _|exact congrArg (·+_) (Nat.zero_add _)) (by decide) rfl ?_
 conv=>whnf
 refine br.h2 h (by rfl) ?_ ?_
 ·clear h;intro hb h;conv=>whnf
  cases h;simp only [Sum.elim_inl,XhR] at hc
  exact Xfj hc [(0,0),(2,2),(3,3),(4,4),(5,5),(6,6),(7,7),(8,8),(9,9),(10,10)] rfl
 clear h;intro hb h;conv=>whnf
 replace h:=XaU.elim h;obtain ⟨hb,h⟩:=h
 try (refine req.intro hb ?_;conv=>whnf)
 refine rd.T (i:=i6.toNat) (x:=e25) (j:=1) XaA (by assumption) (by first|omega|exact Nat.zero_add _|exact congrArg (·+_) (Nat.zero_add _)) (by decide) rfl ?_
 conv=>whnf
 refine br.h2 h (by rfl) ?_ ?_
 ·clear h;intro hb h;conv=>whnf
  cases h;simp only [Sum.elim_inl,XhR] at hc
  exact Xfj hc [(0,0),(2,2),(3,3),(4,4),(5,5),(6,6),(7,7),(8,8),(9,9),(10,10)] rfl
 clear h;intro hb h;conv=>whnf
 replace h:=XaU.elim h;obtain ⟨hb,h⟩:=h
 try (refine req.intro hb ?_;conv=>whnf)
 refine rd.T (i:=i6.toNat) (x:=e25) (j:=1) XaA (by assumption) (by first|omega|exact Nat.zero_add _|exact congrArg (·+_) (Nat.zero_add _)) (by decide) rfl ?_
 conv=>whnf
 refine br.h2 h (by rfl) ?_ ?_
 ·clear h;intro hb h;conv=>whnf
  cases h;simp only [Sum.elim_inl,XhR] at hc
  exact Xfj hc [(0,0),(2,2),(3,3),(4,4),(5,5),(6,6),(7,7),(8,8),(9,9),(10,10)] rfl
 clear h;intro hb h;conv=>whnf
 replace h:=XaU.elim h;obtain ⟨hb,h⟩:=h
 try (refine req.intro hb ?_;conv=>whnf)
 refine rd.T (i:=i6.toNat) (x:=e25) (j:=1) XaA (by assumption) (by first|omega|exact Nat.zero_add _|exact congrArg (·+_) (Nat.zero_add _)) (by decide) rfl ?_
 conv=>whnf
 cases h;simp only [Sum.elim_inl,XhR] at hc
 exact Xfj hc [(0,0),(2,2),(3,3),(4,4),(5,5),(6,6),(7,7),(8,8),(9,9),(10,10)] rfl
theorem Xxm (Xal:XaQ) (XaS:Xa9) (XaE:Xa2) (Xac:Xap) (Xah:Xau) (Xad:Xao) (hS:XaL Try.prog (XaY (XhA Xal XaS XaE Xac Xah Xad))) (l:List Xaz) (s18:Int) (s19:Int) (s20:Int) (c42:Nat) (c43:Nat) (c44:Nat) (c45:Nat) (c46:Nat) (c47:Nat) (c48:Nat) (c49:List Int) (c50:List Int) (c51:List Int) (c52:List Int) (c53:List Int) (c54:List Int) (c55:List Int) (res:Bool):∀ fuel (st:Int) (o:Bool),iter (fun st=>Xb7 Xal Xac Xad l s18 s19 s20 c42 c43 c44 c45 c46 c47 c48 c49 c50 c51 c52 c53 c54 c55 st) fuel st=some o→(o=res) →
 Xa0 Try.prog 4 1 (XiP l s18 s19 s20 c42 c43 c44 c45 c46 c47 c48 c49 c50 c51 c52 c53 c54 c55 st) (fun v H _=>Res 1 (rx4 res) v H):=by
 intro fuel st o h hc
 refine Xbl (head:=fun st=>XiP l s18 s19 s20 c42 c43 c44 c45 c46 c47 c48 c49 c50 c51 c52 c53 c54 c55 st) (C:=fun o=>(o=res)) ?_ fuel st o h hc
 clear h hc o st fuel
 intro xj13 o h hc
 replace h:Xb7 Xal Xac Xad l s18 s19 s20 c42 c43 c44 c45 c46 c47 c48 c49 c50 c51 c52 c53 c54 c55 xj13=some o:=h
 show Xa0 Try.prog 4 1 (XiP l s18 s19 s20 c42 c43 c44 c45 c46 c47 c48 c49 c50 c51 c52 c53 c54 c55 xj13) (fun v H _=>Res 1 (rx4 res) v H)
 unfold Xb7 at h
 have R1:=@Xoy Xal
 refine Xa1 XaJ hS true 3000 ?_
 conv=>whnf
 refine br.h h (by rfl) ?_ ?_
 ·clear h;intro hb h;conv=>whnf
  have hl:=Xxv Xal XaS XaE Xac Xah Xad hS _ _ _ _ _ _ _ _ _ _ _ _ _ _ _ _ _ _ _ res _ _ _ h hc;simp only [XhR] at hl
  exact Xfj hl [(0,0),(2,2),(3,3),(4,4),(5,5),(6,6),(7,7),(8,8),(9,9),(10,10)] rfl
 clear h;intro hb h;conv=>whnf
 exact W
theorem Xv6 (Xal:XaQ) (XaS:Xa9) (XaE:Xa2) (Xac:Xap) (Xah:Xau) (Xad:Xao) (hS:XaL Try.prog (XaY (XhA Xal XaS XaE Xac Xah Xad))) (l:List Xaz) (res:Bool):∀ fuel (st:Int×Int×Int×Int×Nat×Nat×Nat×Nat×Nat×Nat×Nat×(List Int)×(List Int)×(List Int)×(List Int)×(List Int)×(List Int)×(List Int)) (o:Bool),iter (fun st=>XbG Xal Xac Xah Xad l st.1 st.2.1 st.2.2.1 st.2.2.2.1 st.2.2.2.2.1 st.2.2.2.2.2.1 st.2.2.2.2.2.2.1 st.2.2.2.2.2.2.2.1 st.2.2.2.2.2.2.2.2.1 st.2.2.2.2.2.2.2.2.2.1 st.2.2.2.2.2.2.2.2.2.2.1 st.2.2.2.2.2.2.2.2.2.2.2.1 st.2.2.2.2.2.2.2.2.2.2.2.2.1 st.2.2.2.2.2.2.2.2.2.2.2.2.2.1 st.2.2.2.2.2.2.2.2.2.2.2.2.2.2.1 st.2.2.2.2.2.2.2.2.2.2.2.2.2.2.2.1 st.2.2.2.2.2.2.2.2.2.2.2.2.2.2.2.2.1 st.2.2.2.2.2.2.2.2.2.2.2.2.2.2.2.2.2) fuel st=some o→(o=res) →
 Xa0 Try.prog 4 1 (Xk4 l st.1 st.2.1 st.2.2.1 st.2.2.2.1 st.2.2.2.2.1 st.2.2.2.2.2.1 st.2.2.2.2.2.2.1 st.2.2.2.2.2.2.2.1 st.2.2.2.2.2.2.2.2.1 st.2.2.2.2.2.2.2.2.2.1 st.2.2.2.2.2.2.2.2.2.2.1 st.2.2.2.2.2.2.2.2.2.2.2.1 st.2.2.2.2.2.2.2.2.2.2.2.2.1 st.2.2.2.2.2.2.2.2.2.2.2.2.2.1 st.2.2.2.2.2.2.2.2.2.2.2.2.2.2.1 st.2.2.2.2.2.2.2.2.2.2.2.2.2.2.2.1 st.2.2.2.2.2.2.2.2.2.2.2.2.2.2.2.2.1 st.2.2.2.2.2.2.2.2.2.2.2.2.2.2.2.2.2) (fun v H _=>Res 1 (rx4 res) v H):=by
 intro fuel st o h hc
 refine Xbl (head:=fun st=>Xk4 l st.1 st.2.1 st.2.2.1 st.2.2.2.1 st.2.2.2.2.1 st.2.2.2.2.2.1 st.2.2.2.2.2.2.1 st.2.2.2.2.2.2.2.1 st.2.2.2.2.2.2.2.2.1 st.2.2.2.2.2.2.2.2.2.1 st.2.2.2.2.2.2.2.2.2.2.1 st.2.2.2.2.2.2.2.2.2.2.2.1 st.2.2.2.2.2.2.2.2.2.2.2.2.1 st.2.2.2.2.2.2.2.2.2.2.2.2.2.1 st.2.2.2.2.2.2.2.2.2.2.2.2.2.2.1 st.2.2.2.2.2.2.2.2.2.2.2.2.2.2.2.1 st.2.2.2.2.2.2.2.2.2.2.2.2.2.2.2.2.1 st.2.2.2.2.2.2.2.2.2.2.2.2.2.2.2.2.2) (C:=fun o=>(o=res)) ?_ fuel st o h hc
 clear h hc o st fuel
 intro st o h hc
 obtain ⟨xj12,s18,s19,s20,c42,c43,c44,c45,c46,c47,c48,c49,c50,c51,c52,c53,c54,c55⟩:=st
 replace h:XbG Xal Xac Xah Xad l xj12 s18 s19 s20 c42 c43 c44 c45 c46 c47 c48 c49 c50 c51 c52 c53 c54 c55=some o:=h
 show Xa0 Try.prog 4 1 (Xk4 l xj12 s18 s19 s20 c42 c43 c44 c45 c46 c47 c48 c49 c50 c51 c52 c53 c54 c55) (fun v H _=>Res 1 (rx4 res) v H)
 unfold XbG at h
 refine Xa1 XaJ hS true 3000 ?_
 conv=>whnf
 refine br.h2 h (by rfl) ?_ ?_
 ·clear h;intro hb h;conv=>whnf
  obtain ⟨y,hy,h2⟩:=XaK.elim h;cases h2
  have hl:=Xxm Xal XaS XaE Xac Xah Xad hS _ _ _ _ _ _ _ _ _ _ _ _ _ _ _ _ _ _ res _ _ _ hy hc;simp only [XiP] at hl
  exact Xfj hl [(0,0),(2,2),(3,3),(4,4),(5,5),(6,6),(7,7),(8,8),(9,9),(10,10)] rfl
 clear h;intro hb h;conv=>whnf
 replace h:=XaU.elim h;obtain ⟨hb,h⟩:=h
 try (refine req.intro hb ?_;conv=>whnf)
 replace h:=XaK.elim h;obtain ⟨e24,hy,h⟩:=h
 refine rd.T (j:=0) XaA hy (by first|omega|exact Nat.zero_add _|exact congrArg (·+_) (Nat.zero_add _)) (by decide) rfl ?_
 conv=>whnf
 replace h:=XaU.elim h;obtain ⟨hb,h⟩:=h
 try (refine req.intro hb ?_;conv=>whnf)
 refine rd.T (i:=xj12.toNat) (x:=e24) (j:=1) XaA (by assumption) (by first|omega|exact Nat.zero_add _|exact congrArg (·+_) (Nat.zero_add _)) (by decide) rfl ?_
 conv=>whnf
 replace h:=XaK.elim h;obtain ⟨x7,hy,h⟩:=h
 refine Xbn.XaO [2,3] (Xar («as»:=[.pointer (some ⟨0,0,none⟩),.string ⟨⟨e24.Text⟩⟩,.int .i64 e24.N]) (ws:=[.blk 2 true,.blk 3 true,.blk 4 true,.blk 5 true,.blk 6 true,.blk 7 true,.blk 8 true,.blk 9 true,.blk 10 true,.no]) (n:=7) (m:=0) (t':=29) (Xam (Xa6 rfl rfl (Xai rfl rfl rfl rfl (Xai rfl rfl rfl rfl (Xai rfl rfl (Xat) rfl (Xai rfl rfl (Xat) rfl (Xai rfl rfl (Xat) rfl (Xai rfl rfl (Xat) rfl (Xai rfl rfl (Xat) rfl (Xai rfl rfl (Xat) rfl (Xai rfl rfl (Xat) rfl (Xan XaR)))))))))) rfl) rfl (Xam rfl rfl (Xam rfl rfl XaP))) rfl (by rfl) (Xwn hy) rfl rfl rfl rfl (Xfo rfl rfl rfl rfl (Xfo rfl rfl rfl rfl (XcC (XcC (XcC (XcC (XcC (XcC (XcC (Xab rfl XaN)))))))))) (XbR (Xat) (XbR (Xat) (XbR (Xat) (XbR (Xat) (XbR (Xat) (XbR (Xat) (XbR (Xat) XaM))))))) rfl) ?_
 conv=>whnf
 cases h;simp only [Sum.elim_inl,Xk4] at hc
 exact Xfj hc [(0,0),(2,2),(3,3),(4,22),(5,23),(6,24),(7,25),(8,26),(9,27),(10,28)] rfl
theorem Xx4 (Xal:XaQ) (XaS:Xa9) (XaE:Xa2) (Xac:Xap) (Xah:Xau) (Xad:Xao) (hS:XaL Try.prog (XaY (XhA Xal XaS XaE Xac Xah Xad))) (l:List Xaz) (s21:Int) (s22:Int) (s23:Int) (c56:Nat) (c57:Nat) (c58:Nat) (c59:Nat) (c60:Nat) (c61:Nat) (c62:Nat) (c63:Nat) (c64:List Int) (c65:List Int) (c66:List Int) (c67:List Int) (c68:List Int) (c69:List Int) (c70:List Int) (c71:List Int) (xj15:Int) (res:Bool):∀ fuel (st:Int×Int) (o:Sum Int Bool),iter (fun st=>XbF Xac Xad l s21 s22 s23 c56 c57 c58 c59 c60 c61 c62 c63 c64 c65 c66 c67 c68 c69 c70 c71 xj15 st.1 st.2) fuel st=some o→(Sum.elim (fun s0=>Xa0 Try.prog 4 1 (Xiv l s21 s22 s23 c56 c57 c58 c59 c60 c61 c62 c63 c64 c65 c66 c67 c68 c69 c70 c71 s0) (fun v H _=>Res 1 (rx4 res) v H)) (fun r0=>r0=res) o) →
 Xa0 Try.prog 4 1 (Xh4 l s21 s22 s23 c56 c57 c58 c59 c60 c61 c62 c63 c64 c65 c66 c67 c68 c69 c70 c71 xj15 st.1 st.2) (fun v H _=>Res 1 (rx4 res) v H):=by
 intro fuel st o h hc
 refine Xbl (head:=fun st=>Xh4 l s21 s22 s23 c56 c57 c58 c59 c60 c61 c62 c63 c64 c65 c66 c67 c68 c69 c70 c71 xj15 st.1 st.2) (C:=fun o=>(Sum.elim (fun s0=>Xa0 Try.prog 4 1 (Xiv l s21 s22 s23 c56 c57 c58 c59 c60 c61 c62 c63 c64 c65 c66 c67 c68 c69 c70 c71 s0) (fun v H _=>Res 1 (rx4 res) v H)) (fun r0=>r0=res) o)) ?_ fuel st o h hc
 clear h hc o st fuel
 intro st o h hc
 obtain ⟨n16,i7⟩:=st
 replace h:XbF Xac Xad l s21 s22 s23 c56 c57 c58 c59 c60 c61 c62 c63 c64 c65 c66 c67 c68 c69 c70 c71 xj15 n16 i7=some o:=h
 show Xa0 Try.prog 4 1 (Xh4 l s21 s22 s23 c56 c57 c58 c59 c60 c61 c62 c63 c64 c65 c66 c67 c68 c69 c70 c71 xj15 n16 i7) (fun v H _=>Res 1 (rx4 res) v H)
 unfold XbF at h
 refine Xa1 XaJ hS true 3000 ?_
 conv=>whnf
 refine br.h2 h (by rfl) ?_ ?_
 ·clear h;intro hb h;conv=>whnf
  replace h:=XaU.elim h;obtain ⟨hb,h⟩:=h
  try (refine req.intro hb ?_;conv=>whnf)
  replace h:=XaK.elim h;obtain ⟨e31,hy,h⟩:=h
  refine rd.T (j:=0) XaA hy (by first|omega|exact Nat.zero_add _|exact congrArg (·+_) (Nat.zero_add _)) (by decide) rfl ?_
  conv=>whnf
  replace h:=XaK.elim h;obtain ⟨x81,hy,h⟩:=h
  refine Xbn.XaO [] (Xar («as»:=[.pointer (some ⟨0,0,none⟩),.string ⟨⟨e31.Text⟩⟩]) (ws:=[.blk 2 false,.blk 3 false,.blk 4 false,.blk 5 false,.blk 6 false,.blk 7 false,.blk 8 false,.blk 9 false,.blk 10 false,.blk 11 false]) (n:=0) (m:=0) (t':=12) (Xam (Xa6 rfl rfl (Xai rfl rfl rfl rfl (Xai rfl rfl rfl rfl (Xai rfl rfl (Xat) rfl (Xai rfl rfl (Xat) rfl (Xai rfl rfl (Xat) rfl (Xai rfl rfl (Xat) rfl (Xai rfl rfl (Xat) rfl (Xai rfl rfl (Xat) rfl (Xai rfl rfl (Xat) rfl (Xai rfl rfl (Xat) rfl XaR)))))))))) rfl) rfl (Xam rfl rfl XaP)) rfl (by rfl) (Xq5 hy) rfl rfl rfl rfl (Xab rfl (Xab rfl (Xab rfl (Xab rfl (Xab rfl (Xab rfl (Xab rfl (Xab rfl (Xab rfl (Xab rfl XaN)))))))))) XaM rfl) ?_
  conv=>whnf
  refine br.h h (by rfl) ?_ ?_
  ·clear h;intro hb h;conv=>whnf
   exact W
  clear h;intro hb h;conv=>whnf
  replace h:=XaU.elim h;obtain ⟨hb,h⟩:=h
  try (refine req.intro hb ?_;conv=>whnf)
  refine rd.T (i:=xj15.toNat) (x:=e31) (j:=0) XaA (by assumption) (by first|omega|exact Nat.zero_add _|exact congrArg (·+_) (Nat.zero_add _)) (by decide) rfl ?_
  conv=>whnf
  replace h:=XaK.elim h;obtain ⟨x82,hy,h⟩:=h
  refine Xbn.XaO [] (Xar («as»:=[.pointer (some ⟨0,0,none⟩),.string ⟨⟨e31.Text⟩⟩]) (ws:=[.blk 2 false,.blk 3 false,.blk 4 false,.blk 5 false,.blk 6 false,.blk 7 false,.blk 8 false,.blk 9 false,.blk 10 false,.blk 11 false]) (n:=0) (m:=0) (t':=12) (Xam (Xa6 rfl rfl (Xai rfl rfl rfl rfl (Xai rfl rfl rfl rfl (Xai rfl rfl (Xat) rfl (Xai rfl rfl (Xat) rfl (Xai rfl rfl (Xat) rfl (Xai rfl rfl (Xat) rfl (Xai rfl rfl (Xat) rfl (Xai rfl rfl (Xat) rfl (Xai rfl rfl (Xat) rfl (Xai rfl rfl (Xat) rfl XaR)))))))))) rfl) rfl (Xam rfl rfl XaP)) rfl (by rfl) (Xq5 hy) rfl rfl rfl rfl (Xab rfl (Xab rfl (Xab rfl (Xab rfl (Xab rfl (Xab rfl (Xab rfl (Xab rfl (Xab rfl (Xab rfl XaN)))))))))) XaM rfl) ?_
  conv=>whnf
  replace h:=XaK.elim h;obtain ⟨x83,hy,h⟩:=h
  refine Xbn.XaO [] (Xar («as»:=[.pointer (some ⟨0,0,none⟩)]) (ws:=[.blk 2 false,.blk 3 false,.blk 4 false,.blk 5 false,.blk 6 false,.blk 7 false,.blk 8 false,.blk 9 false,.blk 10 false,.blk 11 false]) (n:=0) (m:=0) (t':=12) (Xam (Xa6 rfl rfl (Xai rfl rfl rfl rfl (Xai rfl rfl rfl rfl (Xai rfl rfl (Xat) rfl (Xai rfl rfl (Xat) rfl (Xai rfl rfl (Xat) rfl (Xai rfl rfl (Xat) rfl (Xai rfl rfl (Xat) rfl (Xai rfl rfl (Xat) rfl (Xai rfl rfl (Xat) rfl (Xai rfl rfl (Xat) rfl XaR)))))))))) rfl) rfl XaP) rfl (by rfl) (XxT hy) rfl rfl rfl rfl (Xab rfl (Xab rfl (Xab rfl (Xab rfl (Xab rfl (Xab rfl (Xab rfl (Xab rfl (Xab rfl (Xab rfl XaN)))))))))) XaM rfl) ?_
  conv=>whnf
  refine br.h h (by rfl) ?_ ?_
  ·clear h;intro hb h;conv=>whnf
   exact W
  clear h;intro hb h;conv=>whnf
  cases h;simp only [Sum.elim_inr,Sum.elim_inl,Xiv] at hc
  exact Xfj hc [(0,0),(2,2),(3,3),(4,4),(5,5),(6,6),(7,7),(8,8),(9,9),(10,10),(11,11)] rfl
 clear h;intro hb h;conv=>whnf
 replace h:=XaU.elim h;obtain ⟨hb,h⟩:=h
 try (refine req.intro hb ?_;conv=>whnf)
 replace h:=XaK.elim h;obtain ⟨e29,hy,h⟩:=h
 refine rd.T (j:=0) XaA hy (by first|omega|exact Nat.zero_add _|exact congrArg (·+_) (Nat.zero_add _)) (by decide) rfl ?_
 conv=>whnf
 replace h:=XaU.elim h;obtain ⟨hb,h⟩:=h
 try (refine req.intro hb ?_;conv=>whnf)
 replace h:=XaK.elim h;obtain ⟨e30,hy,h⟩:=h
 refine rd.T (j:=0) XaA hy (by first|omega|exact Nat.zero_add _|exact congrArg (·+_) (Nat.zero_add _)) (by decide) rfl ?_
 conv=>whnf
 refine br.h2 h (by rfl) ?_ ?_
 ·clear h;intro hb h;conv=>whnf
  cases h;simp only [Sum.elim_inl,Xh4] at hc
  exact Xfj hc [(0,0),(2,2),(3,3),(4,4),(5,5),(6,6),(7,7),(8,8),(9,9),(10,10),(11,11)] rfl
 clear h;intro hb h;conv=>whnf
 replace h:=XaU.elim h;obtain ⟨hb,h⟩:=h
 try (refine req.intro hb ?_;conv=>whnf)
 refine rd.T (i:=i7.toNat) (x:=e29) (j:=1) XaA (by assumption) (by first|omega|exact Nat.zero_add _|exact congrArg (·+_) (Nat.zero_add _)) (by decide) rfl ?_
 conv=>whnf
 refine br.h2 h (by rfl) ?_ ?_
 ·clear h;intro hb h;conv=>whnf
  cases h;simp only [Sum.elim_inl,Xh4] at hc
  exact Xfj hc [(0,0),(2,2),(3,3),(4,4),(5,5),(6,6),(7,7),(8,8),(9,9),(10,10),(11,11)] rfl
 clear h;intro hb h;conv=>whnf
 replace h:=XaU.elim h;obtain ⟨hb,h⟩:=h
 try (refine req.intro hb ?_;conv=>whnf)
 refine rd.T (i:=i7.toNat) (x:=e29) (j:=1) XaA (by assumption) (by first|omega|exact Nat.zero_add _|exact congrArg (·+_) (Nat.zero_add _)) (by decide) rfl ?_
 conv=>whnf
 refine br.h2 h (by rfl) ?_ ?_
 ·clear h;intro hb h;conv=>whnf
  cases h;simp only [Sum.elim_inl,Xh4] at hc
  exact Xfj hc [(0,0),(2,2),(3,3),(4,4),(5,5),(6,6),(7,7),(8,8),(9,9),(10,10),(11,11)] rfl
 clear h;intro hb h;conv=>whnf
 replace h:=XaU.elim h;obtain ⟨hb,h⟩:=h
 try (refine req.intro hb ?_;conv=>whnf)
 refine rd.T (i:=i7.toNat) (x:=e29) (j:=1) XaA (by assumption) (by first|omega|exact Nat.zero_add _|exact congrArg (·+_) (Nat.zero_add _)) (by decide) rfl ?_
 conv=>whnf
 cases h;simp only [Sum.elim_inl,Xh4] at hc
 exact Xfj hc [(0,0),(2,2),(3,3),(4,4),(5,5),(6,6),(7,7),(8,8),(9,9),(10,10),(11,11)] rfl
theorem XwB (Xal:XaQ) (XaS:Xa9) (XaE:Xa2) (Xac:Xap) (Xah:Xau) (Xad:Xao) (hS:XaL Try.prog (XaY (XhA Xal XaS XaE Xac Xah Xad))) (l:List Xaz) (s21:Int) (s22:Int) (s23:Int) (c56:Nat) (c57:Nat) (c58:Nat) (c59:Nat) (c60:Nat) (c61:Nat) (c62:Nat) (c63:Nat) (c64:List Int) (c65:List Int) (c66:List Int) (c67:List Int) (c68:List Int) (c69:List Int) (c70:List Int) (c71:List Int) (res:Bool):∀ fuel (st:Int) (o:Bool),iter (fun st=>Xb8 Xal Xac Xad l s21 s22 s23 c56 c57 c58 c59 c60 c61 c62 c63 c64 c65 c66 c67 c68 c69 c70 c71 st) fuel st=some o→(o=res) →
 Xa0 Try.prog 4 1 (Xiv l s21 s22 s23 c56 c57 c58 c59 c60 c61 c62 c63 c64 c65 c66 c67 c68 c69 c70 c71 st) (fun v H _=>Res 1 (rx4 res) v H):=by
 intro fuel st o h hc
 refine Xbl (head:=fun st=>Xiv l s21 s22 s23 c56 c57 c58 c59 c60 c61 c62 c63 c64 c65 c66 c67 c68 c69 c70 c71 st) (C:=fun o=>(o=res)) ?_ fuel st o h hc
 clear h hc o st fuel
 intro xj15 o h hc
 replace h:Xb8 Xal Xac Xad l s21 s22 s23 c56 c57 c58 c59 c60 c61 c62 c63 c64 c65 c66 c67 c68 c69 c70 c71 xj15=some o:=h
 show Xa0 Try.prog 4 1 (Xiv l s21 s22 s23 c56 c57 c58 c59 c60 c61 c62 c63 c64 c65 c66 c67 c68 c69 c70 c71 xj15) (fun v H _=>Res 1 (rx4 res) v H)
 unfold Xb8 at h
 have R1:=@Xoy Xal
 refine Xa1 XaJ hS true 3000 ?_
 conv=>whnf
 refine br.h h (by rfl) ?_ ?_
 ·clear h;intro hb h;conv=>whnf
  have hl:=Xx4 Xal XaS XaE Xac Xah Xad hS _ _ _ _ _ _ _ _ _ _ _ _ _ _ _ _ _ _ _ _ _ res _ _ _ h hc;simp only [Xh4] at hl
  exact Xfj hl [(0,0),(2,2),(3,3),(4,4),(5,5),(6,6),(7,7),(8,8),(9,9),(10,10),(11,11)] rfl
 clear h;intro hb h;conv=>whnf
 exact W
theorem XxW (Xal:XaQ) (XaS:Xa9) (XaE:Xa2) (Xac:Xap) (Xah:Xau) (Xad:Xao) (hS:XaL Try.prog (XaY (XhA Xal XaS XaE Xac Xah Xad))) (l:List Xaz) (res:Bool):∀ fuel (st:Int×Int×Int×Int×Nat×Nat×Nat×Nat×Nat×Nat×Nat×Nat×(List Int)×(List Int)×(List Int)×(List Int)×(List Int)×(List Int)×(List Int)×(List Int)) (o:Bool),iter (fun st=>XbC Xal Xac Xah Xad l st.1 st.2.1 st.2.2.1 st.2.2.2.1 st.2.2.2.2.1 st.2.2.2.2.2.1 st.2.2.2.2.2.2.1 st.2.2.2.2.2.2.2.1 st.2.2.2.2.2.2.2.2.1 st.2.2.2.2.2.2.2.2.2.1 st.2.2.2.2.2.2.2.2.2.2.1 st.2.2.2.2.2.2.2.2.2.2.2.1 st.2.2.2.2.2.2.2.2.2.2.2.2.1 st.2.2.2.2.2.2.2.2.2.2.2.2.2.1 st.2.2.2.2.2.2.2.2.2.2.2.2.2.2.1 st.2.2.2.2.2.2.2.2.2.2.2.2.2.2.2.1 st.2.2.2.2.2.2.2.2.2.2.2.2.2.2.2.2.1 st.2.2.2.2.2.2.2.2.2.2.2.2.2.2.2.2.2.1 st.2.2.2.2.2.2.2.2.2.2.2.2.2.2.2.2.2.2.1 st.2.2.2.2.2.2.2.2.2.2.2.2.2.2.2.2.2.2.2) fuel st=some o→(o=res) →
 Xa0 Try.prog 4 1 (Xlk l st.1 st.2.1 st.2.2.1 st.2.2.2.1 st.2.2.2.2.1 st.2.2.2.2.2.1 st.2.2.2.2.2.2.1 st.2.2.2.2.2.2.2.1 st.2.2.2.2.2.2.2.2.1 st.2.2.2.2.2.2.2.2.2.1 st.2.2.2.2.2.2.2.2.2.2.1 st.2.2.2.2.2.2.2.2.2.2.2.1 st.2.2.2.2.2.2.2.2.2.2.2.2.1 st.2.2.2.2.2.2.2.2.2.2.2.2.2.1 st.2.2.2.2.2.2.2.2.2.2.2.2.2.2.1 st.2.2.2.2.2.2.2.2.2.2.2.2.2.2.2.1 st.2.2.2.2.2.2.2.2.2.2.2.2.2.2.2.2.1 st.2.2.2.2.2.2.2.2.2.2.2.2.2.2.2.2.2.1 st.2.2.2.2.2.2.2.2.2.2.2.2.2.2.2.2.2.2.1 st.2.2.2.2.2.2.2.2.2.2.2.2.2.2.2.2.2.2.2) (fun v H _=>Res 1 (rx4 res) v H):=by
 intro fuel st o h hc
 refine Xbl (head:=fun st=>Xlk l st.1 st.2.1 st.2.2.1 st.2.2.2.1 st.2.2.2.2.1 st.2.2.2.2.2.1 st.2.2.2.2.2.2.1 st.2.2.2.2.2.2.2.1 st.2.2.2.2.2.2.2.2.1 st.2.2.2.2.2.2.2.2.2.1 st.2.2.2.2.2.2.2.2.2.2.1 st.2.2.2.2.2.2.2.2.2.2.2.1 st.2.2.2.2.2.2.2.2.2.2.2.2.1 st.2.2.2.2.2.2.2.2.2.2.2.2.2.1 st.2.2.2.2.2.2.2.2.2.2.2.2.2.2.1 st.2.2.2.2.2.2.2.2.2.2.2.2.2.2.2.1 st.2.2.2.2.2.2.2.2.2.2.2.2.2.2.2.2.1 st.2.2.2.2.2.2.2.2.2.2.2.2.2.2.2.2.2.1 st.2.2.2.2.2.2.2.2.2.2.2.2.2.2.2.2.2.2.1 st.2.2.2.2.2.2.2.2.2.2.2.2.2.2.2.2.2.2.2) (C:=fun o=>(o=res)) ?_ fuel st o h hc
 clear h hc o st fuel
 intro st o h hc
 obtain ⟨xj14,s21,s22,s23,c56,c57,c58,c59,c60,c61,c62,c63,c64,c65,c66,c67,c68,c69,c70,c71⟩:=st
 replace h:XbC Xal Xac Xah Xad l xj14 s21 s22 s23 c56 c57 c58 c59 c60 c61 c62 c63 c64 c65 c66 c67 c68 c69 c70 c71=some o:=h
 show Xa0 Try.prog 4 1 (Xlk l xj14 s21 s22 s23 c56 c57 c58 c59 c60 c61 c62 c63 c64 c65 c66 c67 c68 c69 c70 c71) (fun v H _=>Res 1 (rx4 res) v H)
 unfold XbC at h
 refine Xa1 XaJ hS true 3000 ?_
 conv=>whnf
 refine br.h2 h (by rfl) ?_ ?_
 ·clear h;intro hb h;conv=>whnf
  obtain ⟨y,hy,h2⟩:=XaK.elim h;cases h2
  have hl:=XwB Xal XaS XaE Xac Xah Xad hS _ _ _ _ _ _ _ _ _ _ _ _ _ _ _ _ _ _ _ _ res _ _ _ hy hc;simp only [Xiv] at hl
  exact Xfj hl [(0,0),(2,2),(3,3),(4,4),(5,5),(6,6),(7,7),(8,8),(9,9),(10,10),(11,11)] rfl
 clear h;intro hb h;conv=>whnf
 replace h:=XaU.elim h;obtain ⟨hb,h⟩:=h
 try (refine req.intro hb ?_;conv=>whnf)
 replace h:=XaK.elim h;obtain ⟨e28,hy,h⟩:=h
 refine rd.T (j:=0) XaA hy (by first|omega|exact Nat.zero_add _|exact congrArg (·+_) (Nat.zero_add _)) (by decide) rfl ?_
 conv=>whnf
 replace h:=XaU.elim h;obtain ⟨hb,h⟩:=h
 try (refine req.intro hb ?_;conv=>whnf)
 refine rd.T (i:=xj14.toNat) (x:=e28) (j:=1) XaA (by assumption) (by first|omega|exact Nat.zero_add _|exact congrArg (·+_) (Nat.zero_add _)) (by decide) rfl ?_
 conv=>whnf
 replace h:=XaK.elim h;obtain ⟨x8,hy,h⟩:=h
 refine Xbn.XaO [2,3] (Xar («as»:=[.pointer (some ⟨0,0,none⟩),.string ⟨⟨e28.Text⟩⟩,.int .i64 e28.N]) (ws:=[.blk 2 true,.blk 3 true,.blk 4 true,.blk 5 true,.blk 6 true,.blk 7 true,.blk 8 true,.blk 9 true,.blk 10 true,.blk 11 true]) (n:=8) (m:=0) (t':=31) (Xam (Xa6 rfl rfl (Xai rfl rfl rfl rfl (Xai rfl rfl rfl rfl (Xai rfl rfl (Xat) rfl (Xai rfl rfl (Xat) rfl (Xai rfl rfl (Xat) rfl (Xai rfl rfl (Xat) rfl (Xai rfl rfl (Xat) rfl (Xai rfl rfl (Xat) rfl (Xai rfl rfl (Xat) rfl (Xai rfl rfl (Xat) rfl XaR)))))))))) rfl) rfl (Xam rfl rfl (Xam rfl rfl XaP))) rfl (by rfl) (Xxz hy) rfl rfl rfl rfl (Xfo rfl rfl rfl rfl (Xfo rfl rfl rfl rfl (XcC (XcC (XcC (XcC (XcC (XcC (XcC (XcC XaN)))))))))) (XbR (Xat) (XbR (Xat) (XbR (Xat) (XbR (Xat) (XbR (Xat) (XbR (Xat) (XbR (Xat) (XbR (Xat) XaM)))))))) rfl) ?_
 conv=>whnf
 cases h;simp only [Sum.elim_inl,Xlk] at hc
 exact Xfj hc [(0,0),(2,2),(3,3),(4,23),(5,24),(6,25),(7,26),(8,27),(9,28),(10,29),(11,30)] rfl
theorem leads4 (Xal:XaQ) (XaS:Xa9) (XaE:Xa2) (Xac:Xap) (Xah:Xau) (Xad:Xao) (hS:XaL Try.prog (XaY (XhA Xal XaS XaE Xac Xah Xad))) (rows:Int) (places:Int) (k:XaD) (l:List Xaz) (res:Bool) (h:Xfi Xal XaS XaE Xac Xah Xad rows places k l=some res) :
 Xa0 Try.prog 4 1 ⟨⟨4,116,[(0,.int .u8 rows),(1,.int .u8 places),(2,.agg ⟨[.int .u64 k.A,.int .u64 k.B]⟩),(3,.slice (some ⟨0,0,none⟩) l.length 2)],[.code XDN],[],false,none⟩,[],[(0,.row false (vT Xbt l))],1⟩ (fun v H _=>Res 1 (rx4 res) v H):=by
 unfold Xfi at h
 have R1:=@Xoy Xal
 refine Xa1 XaJ hS true 3000 ?_
 conv=>whnf
 replace h:=XaK.elim h;obtain ⟨f,hy,h⟩:=h
 refine Xbn.a (r8_eq hy) ?_
 conv=>whnf
 refine br.h h (by rfl) ?_ ?_
 ·clear h;intro hb h;conv=>whnf
  exact W
 clear h;intro hb h;conv=>whnf
 replace h:=XaK.elim h;obtain ⟨n,hy,h⟩:=h
 cases n
 case nil=>
  refine Xbn.a (XiR hy) ?_
  conv=>whnf
  exact W
 case v1 n1=>
  refine Xbn.a (XiR hy) ?_
  conv=>whnf
  have hl:=XB8 Xal XaS XaE Xac Xah Xad hS _ res _ _ _ h rfl;simp only [Xm4] at hl
  exact Xfj hl [(0,0),(2,2),(3,3),(4,4)] rfl
 case v2 n3=>
  refine Xbn.a (XiR hy) ?_
  conv=>whnf
  have hl:=Xze Xal XaS XaE Xac Xah Xad hS _ res _ _ _ h rfl;simp only [XmQ] at hl
  exact Xfj hl [(0,0),(2,2),(3,3),(4,4),(5,5)] rfl
 case v3 n5=>
  refine Xbn.a (XiR hy) ?_
  conv=>whnf
  have hl:=XA8 Xal XaS XaE Xac Xah Xad hS _ res _ _ _ h rfl;simp only [XmP] at hl
  exact Xfj hl [(0,0),(2,2),(3,3),(4,4),(5,5),(6,6)] rfl
 case v4 n7=>
  refine Xbn.a (XiR hy) ?_
  conv=>whnf
  have hl:=XwJ Xal XaS XaE Xac Xah Xad hS _ res _ _ _ h rfl;simp only [Xlm] at hl
  exact Xfj hl [(0,0),(2,2),(3,3),(4,4),(5,5),(6,6),(7,7)] rfl
 case v5 n9=>
  refine Xbn.a (XiR hy) ?_
  conv=>whnf
  have hl:=XxA Xal XaS XaE Xac Xah Xad hS _ res _ _ _ h rfl;simp only [Xlj] at hl
  exact Xfj hl [(0,0),(2,2),(3,3),(4,4),(5,5),(6,6),(7,7),(8,8)] rfl
 case v6 n11=>
  refine Xbn.a (XiR hy) ?_
  conv=>whnf
  have hl:=XwS Xal XaS XaE Xac Xah Xad hS _ res _ _ _ h rfl;simp only [Xld] at hl
  exact Xfj hl [(0,0),(2,2),(3,3),(4,4),(5,5),(6,6),(7,7),(8,8),(9,9)] rfl
 case v7 n13=>
  refine Xbn.a (XiR hy) ?_
  conv=>whnf
  have hl:=Xv6 Xal XaS XaE Xac Xah Xad hS _ res _ _ _ h rfl;simp only [Xk4] at hl
  exact Xfj hl [(0,0),(2,2),(3,3),(4,4),(5,5),(6,6),(7,7),(8,8),(9,9),(10,10)] rfl
 case v8 n15=>
  refine Xbn.a (XiR hy) ?_
  conv=>whnf
  have hl:=XxW Xal XaS XaE Xac Xah Xad hS _ res _ _ _ h rfl;simp only [Xlk] at hl
  exact Xfj hl [(0,0),(2,2),(3,3),(4,4),(5,5),(6,6),(7,7),(8,8),(9,9),(10,10),(11,11)] rfl
def Xh6:Xgq:=Xfi Xal XaS XaE Xac Xah Xad
end Go.Vm.Code
namespace Go.Vm.Code
open Go Go.Vm
set_option maxHeartbeats 4000000
theorem XhS {α:Type} {Q:Prop} [Decidable Q] (hQ:Q) (e:Xaz) (t:List UInt8) {a b:Option α}:(cond (e.Text==t) (XaU (decide Q)<|cond (decide (e.N≥0)) (XaU (decide Q)<|cond (decide (e.N≤1048576)) (XaU (decide Q)<|a) b) b) b)=if (e.Text==t&&XkG e)=true then a else b:=by
 unfold XkG
 cases e.Text==t
 ·rfl
 rw [cond_true,XaX hQ,Bool.true_and]
 by_cases h1:e.N≥0
 ·rw [Xcl h1,XaX hQ]
  by_cases h2:e.N≤1048576
  ·rw [Xcl h2,XaX hQ,decide_eq_true ⟨h1,h2⟩];rfl
  ·rw [Xbd h2,decide_eq_false (fun h=>h2 h.2)];rfl
 ·rw [Xbd h1,decide_eq_false (fun h=>h1 h.1)];rfl
theorem XiW {k:XaD} {p:Nat} (hp:1≤p) {l:List Xaz} (h30:l.length≤30) (t:List UInt8) {n:Nat} (hn:1≤n):eqS t l≤Xmo k p (SK k p l) t n∧Xmo k p (SK k p l) t n≤(SK k p l).tot:=by
 have h:=XiA t l
 have hc:cap (eqS t l)=eqS t l:=by unfold cap;rw [if_pos (by omega)]
 have:=XmO (k:=k) (p:=p) (x:=SK k p l) (t:=t) (m:=eqS t l) (M:=(SK k p l).tot) (by omega) (fun i=>by have:=XuJ hp k l t i;rw [hc] at this;exact this) n
 exact ⟨this.1,this.2 hn⟩
theorem XDh {k:XaD} {p:Nat} (hp:1≤p∧p≤4096) {l:List Xaz} (h30:l.length≤30) (hl:∀ e∈l,e.Text.length≤20) {j:Nat} (hj:j<l.length):iter (fun st=>XbL Xac Xad l k.A k.B (SK k p l).tot p ((SK k p l).R 0) (j:Int) st.1 st.2) FUEL (0,0)=some (.inl ((j+1:Nat):Int)):=by
 refine XcK (fun i=>(eqS (l[j]).Text (l.take i),(i:Int))) _ l.length (fun i hi=>?_) ?_ (by rw [Xc0];omega)
 ·show XbL Xac Xad l k.A k.B (SK k p l).tot p ((SK k p l).R 0) (j:Int) (eqS (l[j]).Text (l.take i)) (i:Int)=_
  unfold XbL
  have hr:=XiA (l[j]).Text (l.take i)
  rw [List.length_take] at hr
  rw [Xcl (by omega),XaX (by omega),Int.toNat_natCast,List.getElem?_eq_getElem hi,Option.bind_some,XaX (by omega),Int.toNat_natCast,List.getElem?_eq_getElem hj,Option.bind_some,XhS (by omega),XhQ _ hi,Xfn (n:=(i:Int)+1) (by omega) (by omega)]
  split
  ·rename_i hm
   have hN:0≤(l[i]).N∧(l[i]).N≤1048576:=of_decide_eq_true (Bool.and_eq_true _ _▸hm).2
   rw [Xfn (by omega) (by omega)];rfl
  ·rfl
 ·show XbL Xac Xad l k.A k.B (SK k p l).tot p ((SK k p l).R 0) (j:Int) (eqS (l[j]).Text (l.take l.length)) (l.length:Int)=_
  unfold XbL
  have hb:=XiW hp.1 h30 (k:=k) (l[j]).Text (n:=1) (by decide)
  have hg:Xac.v1 ⟨⟨k.A,k.B⟩,⟨(SK k p l).R 0,p⟩,(SK k p l).tot⟩ (l[j]).Text=some (Xmo k p (SK k p l) (l[j]).Text 1):=Xvi hp (Xh1.SK k p l) (hl _ (List.getElem_mem hj))
  rw [List.take_length,Xbd (by omega),XaX (by omega),Int.toNat_natCast,List.getElem?_eq_getElem hj,Option.bind_some,hg,Option.bind_some,Xbd (by omega),XaX (by omega),Option.bind_some,show Xad.v1 ⟨⟨k.A,k.B⟩,⟨(SK k p l).R 0,p⟩,(SK k p l).tot⟩=some (SK k p l).tot from rfl,Option.bind_some,Xbd (by omega),Xfn (by omega) (by omega)];rfl
theorem XDl {k:XaD} {p:Nat} (hp:1≤p∧p≤4096) {l:List Xaz} (h30:l.length≤30) (hl:∀ e∈l,e.Text.length≤20):iter (fun st=>Xcj Xal Xac Xad l k.A k.B (SK k p l).tot p ((SK k p l).R 0) st) FUEL 0=some true:=by
 refine XcK (fun j=>(j:Int)) _ l.length (fun j hj=>?_) ?_ (by rw [Xc0];omega)
 ·unfold Xcj
  rw [Xcl (by omega),XDh hp h30 hl hj]
 ·unfold Xcj
  rw [Xbd (by omega),XiC];rfl
theorem lawB1 {k:XaD} {p:Nat} (hp:1≤p∧p≤4096) {l:List Xaz} (h30:l.length≤30) (hl:∀ e∈l,e.Text.length≤20):iter (fun st=>XbO Xal Xac Xah Xad l st.1 st.2.1 st.2.2.1 st.2.2.2.1 st.2.2.2.2.1 st.2.2.2.2.2) FUEL (0,k.A,k.B,(newS p).tot,p,(newS p).R 0)=some true:=by
 refine XcK (fun j=>((j:Int),k.A,k.B,(SK k p (l.take j)).tot,p,(SK k p (l.take j)).R 0)) _ l.length (fun j hj=>?_) ?_ (by rw [Xc0];omega)
 ·show XbO Xal Xac Xah Xad l (j:Int) k.A k.B (SK k p (l.take j)).tot p ((SK k p (l.take j)).R 0)=_
  unfold XbO
  have hp1:Xah.v1 ⟨⟨k.A,k.B⟩,⟨(SK k p (l.take j)).R 0,p⟩,(SK k p (l.take j)).tot⟩ (l[j]).Text (l[j]).N=some (XkG l[j],Xyt k p (stepS k p (SK k p (l.take j)) l[j])):=XAF hp (Xh1.SK k p _) (hl _ (List.getElem_mem hj))
  rw [Xcl (by omega),XaX (by omega),Int.toNat_natCast,List.getElem?_eq_getElem hj,Option.bind_some,XaX (by omega),hp1,Option.bind_some,←Xi4 _ _ hj,Xfn (by omega) (by omega)];rfl
 ·show XbO Xal Xac Xah Xad l (l.length:Int) k.A k.B (SK k p (l.take l.length)).tot p ((SK k p (l.take l.length)).R 0)=_
  unfold XbO
  rw [Xbd (by omega),List.take_length,XDl hp h30 hl];rfl
theorem XEP {k:XaD} {p:Nat} (hp:1≤p∧p≤4096) {l:List Xaz} (h30:l.length≤30) (hl:∀ e∈l,e.Text.length≤20) {j:Nat} (hj:j<l.length):iter (fun st=>XbN Xac Xad l k.A k.B (SK k p l).tot p p ((SK k p l).R 0) ((SK k p l).R 1) (j:Int) st.1 st.2) FUEL (0,0)=some (.inl ((j+1:Nat):Int)):=by
 refine XcK (fun i=>(eqS (l[j]).Text (l.take i),(i:Int))) _ l.length (fun i hi=>?_) ?_ (by rw [Xc0];omega)
 ·show XbN Xac Xad l k.A k.B (SK k p l).tot p p ((SK k p l).R 0) ((SK k p l).R 1) (j:Int) (eqS (l[j]).Text (l.take i)) (i:Int)=_
  unfold XbN
  have hr:=XiA (l[j]).Text (l.take i)
  rw [List.length_take] at hr
  rw [Xcl (by omega),XaX (by omega),Int.toNat_natCast,List.getElem?_eq_getElem hi,Option.bind_some,XaX (by omega),Int.toNat_natCast,List.getElem?_eq_getElem hj,Option.bind_some,XhS (by omega),XhQ _ hi,Xfn (n:=(i:Int)+1) (by omega) (by omega)]
  split
  ·rename_i hm
   have hN:0≤(l[i]).N∧(l[i]).N≤1048576:=of_decide_eq_true (Bool.and_eq_true _ _▸hm).2
   rw [Xfn (by omega) (by omega)];rfl
  ·rfl
 ·show XbN Xac Xad l k.A k.B (SK k p l).tot p p ((SK k p l).R 0) ((SK k p l).R 1) (j:Int) (eqS (l[j]).Text (l.take l.length)) (l.length:Int)=_
  unfold XbN
  have hb:=XiW hp.1 h30 (k:=k) (l[j]).Text (n:=2) (by decide)
  have hg:Xac.v2 ⟨⟨k.A,k.B⟩,⟨(SK k p l).R 0,(SK k p l).R 1,p,p⟩,(SK k p l).tot⟩ (l[j]).Text=some (Xmo k p (SK k p l) (l[j]).Text 2):=Xux hp (Xh1.SK k p l) (hl _ (List.getElem_mem hj))
  rw [List.take_length,Xbd (by omega),XaX (by omega),Int.toNat_natCast,List.getElem?_eq_getElem hj,Option.bind_some,hg,Option.bind_some,Xbd (by omega),XaX (by omega),Option.bind_some,show Xad.v2 ⟨⟨k.A,k.B⟩,⟨(SK k p l).R 0,(SK k p l).R 1,p,p⟩,(SK k p l).tot⟩=some (SK k p l).tot from rfl,Option.bind_some,Xbd (by omega),Xfn (by omega) (by omega)];rfl
theorem XDp {k:XaD} {p:Nat} (hp:1≤p∧p≤4096) {l:List Xaz} (h30:l.length≤30) (hl:∀ e∈l,e.Text.length≤20):iter (fun st=>Xch Xal Xac Xad l k.A k.B (SK k p l).tot p p ((SK k p l).R 0) ((SK k p l).R 1) st) FUEL 0=some true:=by
 refine XcK (fun j=>(j:Int)) _ l.length (fun j hj=>?_) ?_ (by rw [Xc0];omega)
 ·unfold Xch
  rw [Xcl (by omega),XEP hp h30 hl hj]
 ·unfold Xch
  rw [Xbd (by omega),XiC];rfl
theorem lawB2 {k:XaD} {p:Nat} (hp:1≤p∧p≤4096) {l:List Xaz} (h30:l.length≤30) (hl:∀ e∈l,e.Text.length≤20):iter (fun st=>XbP Xal Xac Xah Xad l st.1 st.2.1 st.2.2.1 st.2.2.2.1 st.2.2.2.2.1 st.2.2.2.2.2.1 st.2.2.2.2.2.2.1 st.2.2.2.2.2.2.2) FUEL (0,k.A,k.B,(newS p).tot,p,p,(newS p).R 0,(newS p).R 1)=some true:=by
 refine XcK (fun j=>((j:Int),k.A,k.B,(SK k p (l.take j)).tot,p,p,(SK k p (l.take j)).R 0,(SK k p (l.take j)).R 1)) _ l.length (fun j hj=>?_) ?_ (by rw [Xc0];omega)
 ·show XbP Xal Xac Xah Xad l (j:Int) k.A k.B (SK k p (l.take j)).tot p p ((SK k p (l.take j)).R 0) ((SK k p (l.take j)).R 1)=_
  unfold XbP
  have hp1:Xah.v2 ⟨⟨k.A,k.B⟩,⟨(SK k p (l.take j)).R 0,(SK k p (l.take j)).R 1,p,p⟩,(SK k p (l.take j)).tot⟩ (l[j]).Text (l[j]).N=some (XkG l[j],Xyz k p (stepS k p (SK k p (l.take j)) l[j])):=XAP hp (Xh1.SK k p _) (hl _ (List.getElem_mem hj))
  rw [Xcl (by omega),XaX (by omega),Int.toNat_natCast,List.getElem?_eq_getElem hj,Option.bind_some,XaX (by omega),hp1,Option.bind_some,←Xi4 _ _ hj,Xfn (by omega) (by omega)];rfl
 ·show XbP Xal Xac Xah Xad l (l.length:Int) k.A k.B (SK k p (l.take l.length)).tot p p ((SK k p (l.take l.length)).R 0) ((SK k p (l.take l.length)).R 1)=_
  unfold XbP
  rw [Xbd (by omega),List.take_length,XDp hp h30 hl];rfl
theorem XDJ {k:XaD} {p:Nat} (hp:1≤p∧p≤4096) {l:List Xaz} (h30:l.length≤30) (hl:∀ e∈l,e.Text.length≤20) {j:Nat} (hj:j<l.length):iter (fun st=>XbM Xac Xad l k.A k.B (SK k p l).tot p p p ((SK k p l).R 0) ((SK k p l).R 1) ((SK k p l).R 2) (j:Int) st.1 st.2) FUEL (0,0)=some (.inl ((j+1:Nat):Int)):=by
 refine XcK (fun i=>(eqS (l[j]).Text (l.take i),(i:Int))) _ l.length (fun i hi=>?_) ?_ (by rw [Xc0];omega)
 ·show XbM Xac Xad l k.A k.B (SK k p l).tot p p p ((SK k p l).R 0) ((SK k p l).R 1) ((SK k p l).R 2) (j:Int) (eqS (l[j]).Text (l.take i)) (i:Int)=_
  unfold XbM
  have hr:=XiA (l[j]).Text (l.take i)
  rw [List.length_take] at hr
  rw [Xcl (by omega),XaX (by omega),Int.toNat_natCast,List.getElem?_eq_getElem hi,Option.bind_some,XaX (by omega),Int.toNat_natCast,List.getElem?_eq_getElem hj,Option.bind_some,XhS (by omega),XhQ _ hi,Xfn (n:=(i:Int)+1) (by omega) (by omega)]
  split
  ·rename_i hm
   have hN:0≤(l[i]).N∧(l[i]).N≤1048576:=of_decide_eq_true (Bool.and_eq_true _ _▸hm).2
   rw [Xfn (by omega) (by omega)];rfl
  ·rfl
 ·show XbM Xac Xad l k.A k.B (SK k p l).tot p p p ((SK k p l).R 0) ((SK k p l).R 1) ((SK k p l).R 2) (j:Int) (eqS (l[j]).Text (l.take l.length)) (l.length:Int)=_
  unfold XbM
  have hb:=XiW hp.1 h30 (k:=k) (l[j]).Text (n:=3) (by decide)
  have hg:Xac.v3 ⟨⟨k.A,k.B⟩,⟨(SK k p l).R 0,(SK k p l).R 1,(SK k p l).R 2,p,p,p⟩,(SK k p l).tot⟩ (l[j]).Text=some (Xmo k p (SK k p l) (l[j]).Text 3):=XtO hp (Xh1.SK k p l) (hl _ (List.getElem_mem hj))
  rw [List.take_length,Xbd (by omega),XaX (by omega),Int.toNat_natCast,List.getElem?_eq_getElem hj,Option.bind_some,hg,Option.bind_some,Xbd (by omega),XaX (by omega),Option.bind_some,show Xad.v3 ⟨⟨k.A,k.B⟩,⟨(SK k p l).R 0,(SK k p l).R 1,(SK k p l).R 2,p,p,p⟩,(SK k p l).tot⟩=some (SK k p l).tot from rfl,Option.bind_some,Xbd (by omega),Xfn (by omega) (by omega)];rfl
theorem XDH {k:XaD} {p:Nat} (hp:1≤p∧p≤4096) {l:List Xaz} (h30:l.length≤30) (hl:∀ e∈l,e.Text.length≤20):iter (fun st=>Xcf Xal Xac Xad l k.A k.B (SK k p l).tot p p p ((SK k p l).R 0) ((SK k p l).R 1) ((SK k p l).R 2) st) FUEL 0=some true:=by
 refine XcK (fun j=>(j:Int)) _ l.length (fun j hj=>?_) ?_ (by rw [Xc0];omega)
 ·unfold Xcf
  rw [Xcl (by omega),XDJ hp h30 hl hj]
 ·unfold Xcf
  rw [Xbd (by omega),XiC];rfl
theorem lawB3 {k:XaD} {p:Nat} (hp:1≤p∧p≤4096) {l:List Xaz} (h30:l.length≤30) (hl:∀ e∈l,e.Text.length≤20):iter (fun st=>XbK Xal Xac Xah Xad l st.1 st.2.1 st.2.2.1 st.2.2.2.1 st.2.2.2.2.1 st.2.2.2.2.2.1 st.2.2.2.2.2.2.1 st.2.2.2.2.2.2.2.1 st.2.2.2.2.2.2.2.2.1 st.2.2.2.2.2.2.2.2.2) FUEL (0,k.A,k.B,(newS p).tot,p,p,p,(newS p).R 0,(newS p).R 1,(newS p).R 2)=some true:=by
 refine XcK (fun j=>((j:Int),k.A,k.B,(SK k p (l.take j)).tot,p,p,p,(SK k p (l.take j)).R 0,(SK k p (l.take j)).R 1,(SK k p (l.take j)).R 2)) _ l.length (fun j hj=>?_) ?_ (by rw [Xc0];omega)
 ·show XbK Xal Xac Xah Xad l (j:Int) k.A k.B (SK k p (l.take j)).tot p p p ((SK k p (l.take j)).R 0) ((SK k p (l.take j)).R 1) ((SK k p (l.take j)).R 2)=_
  unfold XbK
  have hp1:Xah.v3 ⟨⟨k.A,k.B⟩,⟨(SK k p (l.take j)).R 0,(SK k p (l.take j)).R 1,(SK k p (l.take j)).R 2,p,p,p⟩,(SK k p (l.take j)).tot⟩ (l[j]).Text (l[j]).N=some (XkG l[j],XyM k p (stepS k p (SK k p (l.take j)) l[j])):=XzN hp (Xh1.SK k p _) (hl _ (List.getElem_mem hj))
  rw [Xcl (by omega),XaX (by omega),Int.toNat_natCast,List.getElem?_eq_getElem hj,Option.bind_some,XaX (by omega),hp1,Option.bind_some,←Xi4 _ _ hj,Xfn (by omega) (by omega)];rfl
 ·show XbK Xal Xac Xah Xad l (l.length:Int) k.A k.B (SK k p (l.take l.length)).tot p p p ((SK k p (l.take l.length)).R 0) ((SK k p (l.take l.length)).R 1) ((SK k p (l.take l.length)).R 2)=_
  unfold XbK
  rw [Xbd (by omega),List.take_length,XDH hp h30 hl];rfl
theorem XDa {k:XaD} {p:Nat} (hp:1≤p∧p≤4096) {l:List Xaz} (h30:l.length≤30) (hl:∀ e∈l,e.Text.length≤20) {j:Nat} (hj:j<l.length):iter (fun st=>XbD Xac Xad l k.A k.B (SK k p l).tot p p p p ((SK k p l).R 0) ((SK k p l).R 1) ((SK k p l).R 2) ((SK k p l).R 3) (j:Int) st.1 st.2) FUEL (0,0)=some (.inl ((j+1:Nat):Int)):=by
 refine XcK (fun i=>(eqS (l[j]).Text (l.take i),(i:Int))) _ l.length (fun i hi=>?_) ?_ (by rw [Xc0];omega)
 ·show XbD Xac Xad l k.A k.B (SK k p l).tot p p p p ((SK k p l).R 0) ((SK k p l).R 1) ((SK k p l).R 2) ((SK k p l).R 3) (j:Int) (eqS (l[j]).Text (l.take i)) (i:Int)=_
  unfold XbD
  have hr:=XiA (l[j]).Text (l.take i)
  rw [List.length_take] at hr
  rw [Xcl (by omega),XaX (by omega),Int.toNat_natCast,List.getElem?_eq_getElem hi,Option.bind_some,XaX (by omega),Int.toNat_natCast,List.getElem?_eq_getElem hj,Option.bind_some,XhS (by omega),XhQ _ hi,Xfn (n:=(i:Int)+1) (by omega) (by omega)]
  split
  ·rename_i hm
   have hN:0≤(l[i]).N∧(l[i]).N≤1048576:=of_decide_eq_true (Bool.and_eq_true _ _▸hm).2
   rw [Xfn (by omega) (by omega)];rfl
  ·rfl
 ·show XbD Xac Xad l k.A k.B (SK k p l).tot p p p p ((SK k p l).R 0) ((SK k p l).R 1) ((SK k p l).R 2) ((SK k p l).R 3) (j:Int) (eqS (l[j]).Text (l.take l.length)) (l.length:Int)=_
  unfold XbD
  have hb:=XiW hp.1 h30 (k:=k) (l[j]).Text (n:=4) (by decide)
  have hg:Xac.v4 ⟨⟨k.A,k.B⟩,⟨(SK k p l).R 0,(SK k p l).R 1,(SK k p l).R 2,(SK k p l).R 3,p,p,p,p⟩,(SK k p l).tot⟩ (l[j]).Text=some (Xmo k p (SK k p l) (l[j]).Text 4):=Xu5 hp (Xh1.SK k p l) (hl _ (List.getElem_mem hj))
  rw [List.take_length,Xbd (by omega),XaX (by omega),Int.toNat_natCast,List.getElem?_eq_getElem hj,Option.bind_some,hg,Option.bind_some,Xbd (by omega),XaX (by omega),Option.bind_some,show Xad.v4 ⟨⟨k.A,k.B⟩,⟨(SK k p l).R 0,(SK k p l).R 1,(SK k p l).R 2,(SK k p l).R 3,p,p,p,p⟩,(SK k p l).tot⟩=some (SK k p l).tot from rfl,Option.bind_some,Xbd (by omega),Xfn (by omega) (by omega)];rfl
theorem XDw {k:XaD} {p:Nat} (hp:1≤p∧p≤4096) {l:List Xaz} (h30:l.length≤30) (hl:∀ e∈l,e.Text.length≤20):iter (fun st=>Xcb Xal Xac Xad l k.A k.B (SK k p l).tot p p p p ((SK k p l).R 0) ((SK k p l).R 1) ((SK k p l).R 2) ((SK k p l).R 3) st) FUEL 0=some true:=by
 refine XcK (fun j=>(j:Int)) _ l.length (fun j hj=>?_) ?_ (by rw [Xc0];omega)
 ·unfold Xcb
  rw [Xcl (by omega),XDa hp h30 hl hj]
 ·unfold Xcb
  rw [Xbd (by omega),XiC];rfl
theorem lawB4 {k:XaD} {p:Nat} (hp:1≤p∧p≤4096) {l:List Xaz} (h30:l.length≤30) (hl:∀ e∈l,e.Text.length≤20):iter (fun st=>XbB Xal Xac Xah Xad l st.1 st.2.1 st.2.2.1 st.2.2.2.1 st.2.2.2.2.1 st.2.2.2.2.2.1 st.2.2.2.2.2.2.1 st.2.2.2.2.2.2.2.1 st.2.2.2.2.2.2.2.2.1 st.2.2.2.2.2.2.2.2.2.1 st.2.2.2.2.2.2.2.2.2.2.1 st.2.2.2.2.2.2.2.2.2.2.2) FUEL (0,k.A,k.B,(newS p).tot,p,p,p,p,(newS p).R 0,(newS p).R 1,(newS p).R 2,(newS p).R 3)=some true:=by
 refine XcK (fun j=>((j:Int),k.A,k.B,(SK k p (l.take j)).tot,p,p,p,p,(SK k p (l.take j)).R 0,(SK k p (l.take j)).R 1,(SK k p (l.take j)).R 2,(SK k p (l.take j)).R 3)) _ l.length (fun j hj=>?_) ?_ (by rw [Xc0];omega)
 ·show XbB Xal Xac Xah Xad l (j:Int) k.A k.B (SK k p (l.take j)).tot p p p p ((SK k p (l.take j)).R 0) ((SK k p (l.take j)).R 1) ((SK k p (l.take j)).R 2) ((SK k p (l.take j)).R 3)=_
  unfold XbB
  have hp1:Xah.v4 ⟨⟨k.A,k.B⟩,⟨(SK k p (l.take j)).R 0,(SK k p (l.take j)).R 1,(SK k p (l.take j)).R 2,(SK k p (l.take j)).R 3,p,p,p,p⟩,(SK k p (l.take j)).tot⟩ (l[j]).Text (l[j]).N=some (XkG l[j],XyH k p (stepS k p (SK k p (l.take j)) l[j])):=XCk hp (Xh1.SK k p _) (hl _ (List.getElem_mem hj))
  rw [Xcl (by omega),XaX (by omega),Int.toNat_natCast,List.getElem?_eq_getElem hj,Option.bind_some,XaX (by omega),hp1,Option.bind_some,←Xi4 _ _ hj,Xfn (by omega) (by omega)];rfl
 ·show XbB Xal Xac Xah Xad l (l.length:Int) k.A k.B (SK k p (l.take l.length)).tot p p p p ((SK k p (l.take l.length)).R 0) ((SK k p (l.take l.length)).R 1) ((SK k p (l.take l.length)).R 2) ((SK k p (l.take l.length)).R 3)=_
  unfold XbB
  rw [Xbd (by omega),List.take_length,XDw hp h30 hl];rfl
theorem XEl {k:XaD} {p:Nat} (hp:1≤p∧p≤4096) {l:List Xaz} (h30:l.length≤30) (hl:∀ e∈l,e.Text.length≤20) {j:Nat} (hj:j<l.length):iter (fun st=>XbE Xac Xad l k.A k.B (SK k p l).tot p p p p p ((SK k p l).R 0) ((SK k p l).R 1) ((SK k p l).R 2) ((SK k p l).R 3) ((SK k p l).R 4) (j:Int) st.1 st.2) FUEL (0,0)=some (.inl ((j+1:Nat):Int)):=by
 refine XcK (fun i=>(eqS (l[j]).Text (l.take i),(i:Int))) _ l.length (fun i hi=>?_) ?_ (by rw [Xc0];omega)
 ·show XbE Xac Xad l k.A k.B (SK k p l).tot p p p p p ((SK k p l).R 0) ((SK k p l).R 1) ((SK k p l).R 2) ((SK k p l).R 3) ((SK k p l).R 4) (j:Int) (eqS (l[j]).Text (l.take i)) (i:Int)=_
  unfold XbE
  have hr:=XiA (l[j]).Text (l.take i)
  rw [List.length_take] at hr
  rw [Xcl (by omega),XaX (by omega),Int.toNat_natCast,List.getElem?_eq_getElem hi,Option.bind_some,XaX (by omega),Int.toNat_natCast,List.getElem?_eq_getElem hj,Option.bind_some,XhS (by omega),XhQ _ hi,Xfn (n:=(i:Int)+1) (by omega) (by omega)]
  split
  ·rename_i hm
   have hN:0≤(l[i]).N∧(l[i]).N≤1048576:=of_decide_eq_true (Bool.and_eq_true _ _▸hm).2
   rw [Xfn (by omega) (by omega)];rfl
  ·rfl
 ·show XbE Xac Xad l k.A k.B (SK k p l).tot p p p p p ((SK k p l).R 0) ((SK k p l).R 1) ((SK k p l).R 2) ((SK k p l).R 3) ((SK k p l).R 4) (j:Int) (eqS (l[j]).Text (l.take l.length)) (l.length:Int)=_
  unfold XbE
  have hb:=XiW hp.1 h30 (k:=k) (l[j]).Text (n:=5) (by decide)
  have hg:Xac.v5 ⟨⟨k.A,k.B⟩,⟨(SK k p l).R 0,(SK k p l).R 1,(SK k p l).R 2,(SK k p l).R 3,(SK k p l).R 4,p,p,p,p,p⟩,(SK k p l).tot⟩ (l[j]).Text=some (Xmo k p (SK k p l) (l[j]).Text 5):=XuE hp (Xh1.SK k p l) (hl _ (List.getElem_mem hj))
  rw [List.take_length,Xbd (by omega),XaX (by omega),Int.toNat_natCast,List.getElem?_eq_getElem hj,Option.bind_some,hg,Option.bind_some,Xbd (by omega),XaX (by omega),Option.bind_some,show Xad.v5 ⟨⟨k.A,k.B⟩,⟨(SK k p l).R 0,(SK k p l).R 1,(SK k p l).R 2,(SK k p l).R 3,(SK k p l).R 4,p,p,p,p,p⟩,(SK k p l).tot⟩=some (SK k p l).tot from rfl,Option.bind_some,Xbd (by omega),Xfn (by omega) (by omega)];rfl
theorem XEJ {k:XaD} {p:Nat} (hp:1≤p∧p≤4096) {l:List Xaz} (h30:l.length≤30) (hl:∀ e∈l,e.Text.length≤20):iter (fun st=>Xb9 Xal Xac Xad l k.A k.B (SK k p l).tot p p p p p ((SK k p l).R 0) ((SK k p l).R 1) ((SK k p l).R 2) ((SK k p l).R 3) ((SK k p l).R 4) st) FUEL 0=some true:=by
 refine XcK (fun j=>(j:Int)) _ l.length (fun j hj=>?_) ?_ (by rw [Xc0];omega)
 ·unfold Xb9
  rw [Xcl (by omega),XEl hp h30 hl hj]
 ·unfold Xb9
  rw [Xbd (by omega),XiC];rfl
theorem lawB5 {k:XaD} {p:Nat} (hp:1≤p∧p≤4096) {l:List Xaz} (h30:l.length≤30) (hl:∀ e∈l,e.Text.length≤20):iter (fun st=>Xby Xal Xac Xah Xad l st.1 st.2.1 st.2.2.1 st.2.2.2.1 st.2.2.2.2.1 st.2.2.2.2.2.1 st.2.2.2.2.2.2.1 st.2.2.2.2.2.2.2.1 st.2.2.2.2.2.2.2.2.1 st.2.2.2.2.2.2.2.2.2.1 st.2.2.2.2.2.2.2.2.2.2.1 st.2.2.2.2.2.2.2.2.2.2.2.1 st.2.2.2.2.2.2.2.2.2.2.2.2.1 st.2.2.2.2.2.2.2.2.2.2.2.2.2) FUEL (0,k.A,k.B,(newS p).tot,p,p,p,p,p,(newS p).R 0,(newS p).R 1,(newS p).R 2,(newS p).R 3,(newS p).R 4)=some true:=by
 refine XcK (fun j=>((j:Int),k.A,k.B,(SK k p (l.take j)).tot,p,p,p,p,p,(SK k p (l.take j)).R 0,(SK k p (l.take j)).R 1,(SK k p (l.take j)).R 2,(SK k p (l.take j)).R 3,(SK k p (l.take j)).R 4)) _ l.length (fun j hj=>?_) ?_ (by rw [Xc0];omega)
 ·show Xby Xal Xac Xah Xad l (j:Int) k.A k.B (SK k p (l.take j)).tot p p p p p ((SK k p (l.take j)).R 0) ((SK k p (l.take j)).R 1) ((SK k p (l.take j)).R 2) ((SK k p (l.take j)).R 3) ((SK k p (l.take j)).R 4)=_
  unfold Xby
  have hp1:Xah.v5 ⟨⟨k.A,k.B⟩,⟨(SK k p (l.take j)).R 0,(SK k p (l.take j)).R 1,(SK k p (l.take j)).R 2,(SK k p (l.take j)).R 3,(SK k p (l.take j)).R 4,p,p,p,p,p⟩,(SK k p (l.take j)).tot⟩ (l[j]).Text (l[j]).N=some (XkG l[j],Xyg k p (stepS k p (SK k p (l.take j)) l[j])):=XAa hp (Xh1.SK k p _) (hl _ (List.getElem_mem hj))
  rw [Xcl (by omega),XaX (by omega),Int.toNat_natCast,List.getElem?_eq_getElem hj,Option.bind_some,XaX (by omega),hp1,Option.bind_some,←Xi4 _ _ hj,Xfn (by omega) (by omega)];rfl
 ·show Xby Xal Xac Xah Xad l (l.length:Int) k.A k.B (SK k p (l.take l.length)).tot p p p p p ((SK k p (l.take l.length)).R 0) ((SK k p (l.take l.length)).R 1) ((SK k p (l.take l.length)).R 2) ((SK k p (l.take l.length)).R 3) ((SK k p (l.take l.length)).R 4)=_
  unfold Xby
  rw [Xbd (by omega),List.take_length,XEJ hp h30 hl];rfl
theorem XDf {k:XaD} {p:Nat} (hp:1≤p∧p≤4096) {l:List Xaz} (h30:l.length≤30) (hl:∀ e∈l,e.Text.length≤20) {j:Nat} (hj:j<l.length):iter (fun st=>XbA Xac Xad l k.A k.B (SK k p l).tot p p p p p p ((SK k p l).R 0) ((SK k p l).R 1) ((SK k p l).R 2) ((SK k p l).R 3) ((SK k p l).R 4) ((SK k p l).R 5) (j:Int) st.1 st.2) FUEL (0,0)=some (.inl ((j+1:Nat):Int)):=by
 refine XcK (fun i=>(eqS (l[j]).Text (l.take i),(i:Int))) _ l.length (fun i hi=>?_) ?_ (by rw [Xc0];omega)
 ·show XbA Xac Xad l k.A k.B (SK k p l).tot p p p p p p ((SK k p l).R 0) ((SK k p l).R 1) ((SK k p l).R 2) ((SK k p l).R 3) ((SK k p l).R 4) ((SK k p l).R 5) (j:Int) (eqS (l[j]).Text (l.take i)) (i:Int)=_
  unfold XbA
  have hr:=XiA (l[j]).Text (l.take i)
  rw [List.length_take] at hr
  rw [Xcl (by omega),XaX (by omega),Int.toNat_natCast,List.getElem?_eq_getElem hi,Option.bind_some,XaX (by omega),Int.toNat_natCast,List.getElem?_eq_getElem hj,Option.bind_some,XhS (by omega),XhQ _ hi,Xfn (n:=(i:Int)+1) (by omega) (by omega)]
  split
  ·rename_i hm
   have hN:0≤(l[i]).N∧(l[i]).N≤1048576:=of_decide_eq_true (Bool.and_eq_true _ _▸hm).2
   rw [Xfn (by omega) (by omega)];rfl
  ·rfl
 ·show XbA Xac Xad l k.A k.B (SK k p l).tot p p p p p p ((SK k p l).R 0) ((SK k p l).R 1) ((SK k p l).R 2) ((SK k p l).R 3) ((SK k p l).R 4) ((SK k p l).R 5) (j:Int) (eqS (l[j]).Text (l.take l.length)) (l.length:Int)=_
  unfold XbA
  have hb:=XiW hp.1 h30 (k:=k) (l[j]).Text (n:=6) (by decide)
  have hg:Xac.v6 ⟨⟨k.A,k.B⟩,⟨(SK k p l).R 0,(SK k p l).R 1,(SK k p l).R 2,(SK k p l).R 3,(SK k p l).R 4,(SK k p l).R 5,p,p,p,p,p,p⟩,(SK k p l).tot⟩ (l[j]).Text=some (Xmo k p (SK k p l) (l[j]).Text 6):=Xvt hp (Xh1.SK k p l) (hl _ (List.getElem_mem hj))
  rw [List.take_length,Xbd (by omega),XaX (by omega),Int.toNat_natCast,List.getElem?_eq_getElem hj,Option.bind_some,hg,Option.bind_some,Xbd (by omega),XaX (by omega),Option.bind_some,show Xad.v6 ⟨⟨k.A,k.B⟩,⟨(SK k p l).R 0,(SK k p l).R 1,(SK k p l).R 2,(SK k p l).R 3,(SK k p l).R 4,(SK k p l).R 5,p,p,p,p,p,p⟩,(SK k p l).tot⟩=some (SK k p l).tot from rfl,Option.bind_some,Xbd (by omega),Xfn (by omega) (by omega)];rfl
theorem XCJ {k:XaD} {p:Nat} (hp:1≤p∧p≤4096) {l:List Xaz} (h30:l.length≤30) (hl:∀ e∈l,e.Text.length≤20):iter (fun st=>Xca Xal Xac Xad l k.A k.B (SK k p l).tot p p p p p p ((SK k p l).R 0) ((SK k p l).R 1) ((SK k p l).R 2) ((SK k p l).R 3) ((SK k p l).R 4) ((SK k p l).R 5) st) FUEL 0=some true:=by
 refine XcK (fun j=>(j:Int)) _ l.length (fun j hj=>?_) ?_ (by rw [Xc0];omega)
 ·unfold Xca
  rw [Xcl (by omega),XDf hp h30 hl hj]
 ·unfold Xca
  rw [Xbd (by omega),XiC];rfl
theorem lawB6 {k:XaD} {p:Nat} (hp:1≤p∧p≤4096) {l:List Xaz} (h30:l.length≤30) (hl:∀ e∈l,e.Text.length≤20):iter (fun st=>XbH Xal Xac Xah Xad l st.1 st.2.1 st.2.2.1 st.2.2.2.1 st.2.2.2.2.1 st.2.2.2.2.2.1 st.2.2.2.2.2.2.1 st.2.2.2.2.2.2.2.1 st.2.2.2.2.2.2.2.2.1 st.2.2.2.2.2.2.2.2.2.1 st.2.2.2.2.2.2.2.2.2.2.1 st.2.2.2.2.2.2.2.2.2.2.2.1 st.2.2.2.2.2.2.2.2.2.2.2.2.1 st.2.2.2.2.2.2.2.2.2.2.2.2.2.1 st.2.2.2.2.2.2.2.2.2.2.2.2.2.2.1 st.2.2.2.2.2.2.2.2.2.2.2.2.2.2.2) FUEL (0,k.A,k.B,(newS p).tot,p,p,p,p,p,p,(newS p).R 0,(newS p).R 1,(newS p).R 2,(newS p).R 3,(newS p).R 4,(newS p).R 5)=some true:=by
 refine XcK (fun j=>((j:Int),k.A,k.B,(SK k p (l.take j)).tot,p,p,p,p,p,p,(SK k p (l.take j)).R 0,(SK k p (l.take j)).R 1,(SK k p (l.take j)).R 2,(SK k p (l.take j)).R 3,(SK k p (l.take j)).R 4,(SK k p (l.take j)).R 5)) _ l.length (fun j hj=>?_) ?_ (by rw [Xc0];omega)
 ·show XbH Xal Xac Xah Xad l (j:Int) k.A k.B (SK k p (l.take j)).tot p p p p p p ((SK k p (l.take j)).R 0) ((SK k p (l.take j)).R 1) ((SK k p (l.take j)).R 2) ((SK k p (l.take j)).R 3) ((SK k p (l.take j)).R 4) ((SK k p (l.take j)).R 5)=_
  unfold XbH
  have hp1:Xah.v6 ⟨⟨k.A,k.B⟩,⟨(SK k p (l.take j)).R 0,(SK k p (l.take j)).R 1,(SK k p (l.take j)).R 2,(SK k p (l.take j)).R 3,(SK k p (l.take j)).R 4,(SK k p (l.take j)).R 5,p,p,p,p,p,p⟩,(SK k p (l.take j)).tot⟩ (l[j]).Text (l[j]).N=some (XkG l[j],XyN k p (stepS k p (SK k p (l.take j)) l[j])):=Xzz hp (Xh1.SK k p _) (hl _ (List.getElem_mem hj))
  rw [Xcl (by omega),XaX (by omega),Int.toNat_natCast,List.getElem?_eq_getElem hj,Option.bind_some,XaX (by omega),hp1,Option.bind_some,←Xi4 _ _ hj,Xfn (by omega) (by omega)];rfl
 ·show XbH Xal Xac Xah Xad l (l.length:Int) k.A k.B (SK k p (l.take l.length)).tot p p p p p p ((SK k p (l.take l.length)).R 0) ((SK k p (l.take l.length)).R 1) ((SK k p (l.take l.length)).R 2) ((SK k p (l.take l.length)).R 3) ((SK k p (l.take l.length)).R 4) ((SK k p (l.take l.length)).R 5)=_
  unfold XbH
  rw [Xbd (by omega),List.take_length,XCJ hp h30 hl];rfl
theorem XC7 {k:XaD} {p:Nat} (hp:1≤p∧p≤4096) {l:List Xaz} (h30:l.length≤30) (hl:∀ e∈l,e.Text.length≤20) {j:Nat} (hj:j<l.length):iter (fun st=>Xbz Xac Xad l k.A k.B (SK k p l).tot p p p p p p p ((SK k p l).R 0) ((SK k p l).R 1) ((SK k p l).R 2) ((SK k p l).R 3) ((SK k p l).R 4) ((SK k p l).R 5) ((SK k p l).R 6) (j:Int) st.1 st.2) FUEL (0,0)=some (.inl ((j+1:Nat):Int)):=by
 refine XcK (fun i=>(eqS (l[j]).Text (l.take i),(i:Int))) _ l.length (fun i hi=>?_) ?_ (by rw [Xc0];omega)
 ·show Xbz Xac Xad l k.A k.B (SK k p l).tot p p p p p p p ((SK k p l).R 0) ((SK k p l).R 1) ((SK k p l).R 2) ((SK k p l).R 3) ((SK k p l).R 4) ((SK k p l).R 5) ((SK k p l).R 6) (j:Int) (eqS (l[j]).Text (l.take i)) (i:Int)=_
  unfold Xbz
  have hr:=XiA (l[j]).Text (l.take i)
  rw [List.length_take] at hr
  rw [Xcl (by omega),XaX (by omega),Int.toNat_natCast,List.getElem?_eq_getElem hi,Option.bind_some,XaX (by omega),Int.toNat_natCast,List.getElem?_eq_getElem hj,Option.bind_some,XhS (by omega),XhQ _ hi,Xfn (n:=(i:Int)+1) (by omega) (by omega)]
  split
  ·rename_i hm
   have hN:0≤(l[i]).N∧(l[i]).N≤1048576:=of_decide_eq_true (Bool.and_eq_true _ _▸hm).2
   rw [Xfn (by omega) (by omega)];rfl
  ·rfl
 ·show Xbz Xac Xad l k.A k.B (SK k p l).tot p p p p p p p ((SK k p l).R 0) ((SK k p l).R 1) ((SK k p l).R 2) ((SK k p l).R 3) ((SK k p l).R 4) ((SK k p l).R 5) ((SK k p l).R 6) (j:Int) (eqS (l[j]).Text (l.take l.length)) (l.length:Int)=_
  unfold Xbz
  have hb:=XiW hp.1 h30 (k:=k) (l[j]).Text (n:=7) (by decide)
  have hg:Xac.v7 ⟨⟨k.A,k.B⟩,⟨(SK k p l).R 0,(SK k p l).R 1,(SK k p l).R 2,(SK k p l).R 3,(SK k p l).R 4,(SK k p l).R 5,(SK k p l).R 6,p,p,p,p,p,p,p⟩,(SK k p l).tot⟩ (l[j]).Text=some (Xmo k p (SK k p l) (l[j]).Text 7):=Xvd hp (Xh1.SK k p l) (hl _ (List.getElem_mem hj))
  rw [List.take_length,Xbd (by omega),XaX (by omega),Int.toNat_natCast,List.getElem?_eq_getElem hj,Option.bind_some,hg,Option.bind_some,Xbd (by omega),XaX (by omega),Option.bind_some,show Xad.v7 ⟨⟨k.A,k.B⟩,⟨(SK k p l).R 0,(SK k p l).R 1,(SK k p l).R 2,(SK k p l).R 3,(SK k p l).R 4,(SK k p l).R 5,(SK k p l).R 6,p,p,p,p,p,p,p⟩,(SK k p l).tot⟩=some (SK k p l).tot from rfl,Option.bind_some,Xbd (by omega),Xfn (by omega) (by omega)];rfl
theorem XDM {k:XaD} {p:Nat} (hp:1≤p∧p≤4096) {l:List Xaz} (h30:l.length≤30) (hl:∀ e∈l,e.Text.length≤20):iter (fun st=>Xb7 Xal Xac Xad l k.A k.B (SK k p l).tot p p p p p p p ((SK k p l).R 0) ((SK k p l).R 1) ((SK k p l).R 2) ((SK k p l).R 3) ((SK k p l).R 4) ((SK k p l).R 5) ((SK k p l).R 6) st) FUEL 0=some true:=by
 refine XcK (fun j=>(j:Int)) _ l.length (fun j hj=>?_) ?_ (by rw [Xc0];omega)
 ·unfold Xb7
  rw [Xcl (by omega),XC7 hp h30 hl hj]
 ·unfold Xb7
  rw [Xbd (by omega),XiC];rfl
theorem lawB7 {k:XaD} {p:Nat} (hp:1≤p∧p≤4096) {l:List Xaz} (h30:l.length≤30) (hl:∀ e∈l,e.Text.length≤20):iter (fun st=>XbG Xal Xac Xah Xad l st.1 st.2.1 st.2.2.1 st.2.2.2.1 st.2.2.2.2.1 st.2.2.2.2.2.1 st.2.2.2.2.2.2.1 st.2.2.2.2.2.2.2.1 st.2.2.2.2.2.2.2.2.1 st.2.2.2.2.2.2.2.2.2.1 st.2.2.2.2.2.2.2.2.2.2.1 st.2.2.2.2.2.2.2.2.2.2.2.1 st.2.2.2.2.2.2.2.2.2.2.2.2.1 st.2.2.2.2.2.2.2.2.2.2.2.2.2.1 st.2.2.2.2.2.2.2.2.2.2.2.2.2.2.1 st.2.2.2.2.2.2.2.2.2.2.2.2.2.2.2.1 st.2.2.2.2.2.2.2.2.2.2.2.2.2.2.2.2.1 st.2.2.2.2.2.2.2.2.2.2.2.2.2.2.2.2.2) FUEL (0,k.A,k.B,(newS p).tot,p,p,p,p,p,p,p,(newS p).R 0,(newS p).R 1,(newS p).R 2,(newS p).R 3,(newS p).R 4,(newS p).R 5,(newS p).R 6)=some true:=by
 refine XcK (fun j=>((j:Int),k.A,k.B,(SK k p (l.take j)).tot,p,p,p,p,p,p,p,(SK k p (l.take j)).R 0,(SK k p (l.take j)).R 1,(SK k p (l.take j)).R 2,(SK k p (l.take j)).R 3,(SK k p (l.take j)).R 4,(SK k p (l.take j)).R 5,(SK k p (l.take j)).R 6)) _ l.length (fun j hj=>?_) ?_ (by rw [Xc0];omega)
 ·show XbG Xal Xac Xah Xad l (j:Int) k.A k.B (SK k p (l.take j)).tot p p p p p p p ((SK k p (l.take j)).R 0) ((SK k p (l.take j)).R 1) ((SK k p (l.take j)).R 2) ((SK k p (l.take j)).R 3) ((SK k p (l.take j)).R 4) ((SK k p (l.take j)).R 5) ((SK k p (l.take j)).R 6)=_
  unfold XbG
  have hp1:Xah.v7 ⟨⟨k.A,k.B⟩,⟨(SK k p (l.take j)).R 0,(SK k p (l.take j)).R 1,(SK k p (l.take j)).R 2,(SK k p (l.take j)).R 3,(SK k p (l.take j)).R 4,(SK k p (l.take j)).R 5,(SK k p (l.take j)).R 6,p,p,p,p,p,p,p⟩,(SK k p (l.take j)).tot⟩ (l[j]).Text (l[j]).N=some (XkG l[j],XyE k p (stepS k p (SK k p (l.take j)) l[j])):=XAi hp (Xh1.SK k p _) (hl _ (List.getElem_mem hj))
  rw [Xcl (by omega),XaX (by omega),Int.toNat_natCast,List.getElem?_eq_getElem hj,Option.bind_some,XaX (by omega),hp1,Option.bind_some,←Xi4 _ _ hj,Xfn (by omega) (by omega)];rfl
 ·show XbG Xal Xac Xah Xad l (l.length:Int) k.A k.B (SK k p (l.take l.length)).tot p p p p p p p ((SK k p (l.take l.length)).R 0) ((SK k p (l.take l.length)).R 1) ((SK k p (l.take l.length)).R 2) ((SK k p (l.take l.length)).R 3) ((SK k p (l.take l.length)).R 4) ((SK k p (l.take l.length)).R 5) ((SK k p (l.take l.length)).R 6)=_
  unfold XbG
  rw [Xbd (by omega),List.take_length,XDM hp h30 hl];rfl
theorem XEc {k:XaD} {p:Nat} (hp:1≤p∧p≤4096) {l:List Xaz} (h30:l.length≤30) (hl:∀ e∈l,e.Text.length≤20) {j:Nat} (hj:j<l.length):iter (fun st=>XbF Xac Xad l k.A k.B (SK k p l).tot p p p p p p p p ((SK k p l).R 0) ((SK k p l).R 1) ((SK k p l).R 2) ((SK k p l).R 3) ((SK k p l).R 4) ((SK k p l).R 5) ((SK k p l).R 6) ((SK k p l).R 7) (j:Int) st.1 st.2) FUEL (0,0)=some (.inl ((j+1:Nat):Int)):=by
 refine XcK (fun i=>(eqS (l[j]).Text (l.take i),(i:Int))) _ l.length (fun i hi=>?_) ?_ (by rw [Xc0];omega)
 ·show XbF Xac Xad l k.A k.B (SK k p l).tot p p p p p p p p ((SK k p l).R 0) ((SK k p l).R 1) ((SK k p l).R 2) ((SK k p l).R 3) ((SK k p l).R 4) ((SK k p l).R 5) ((SK k p l).R 6) ((SK k p l).R 7) (j:Int) (eqS (l[j]).Text (l.take i)) (i:Int)=_
  unfold XbF
  have hr:=XiA (l[j]).Text (l.take i)
  rw [List.length_take] at hr
  rw [Xcl (by omega),XaX (by omega),Int.toNat_natCast,List.getElem?_eq_getElem hi,Option.bind_some,XaX (by omega),Int.toNat_natCast,List.getElem?_eq_getElem hj,Option.bind_some,XhS (by omega),XhQ _ hi,Xfn (n:=(i:Int)+1) (by omega) (by omega)]
  split
  ·rename_i hm
   have hN:0≤(l[i]).N∧(l[i]).N≤1048576:=of_decide_eq_true (Bool.and_eq_true _ _▸hm).2
   rw [Xfn (by omega) (by omega)];rfl
  ·rfl
 ·show XbF Xac Xad l k.A k.B (SK k p l).tot p p p p p p p p ((SK k p l).R 0) ((SK k p l).R 1) ((SK k p l).R 2) ((SK k p l).R 3) ((SK k p l).R 4) ((SK k p l).R 5) ((SK k p l).R 6) ((SK k p l).R 7) (j:Int) (eqS (l[j]).Text (l.take l.length)) (l.length:Int)=_
  unfold XbF
  have hb:=XiW hp.1 h30 (k:=k) (l[j]).Text (n:=8) (by decide)
  have hg:Xac.v8 ⟨⟨k.A,k.B⟩,⟨(SK k p l).R 0,(SK k p l).R 1,(SK k p l).R 2,(SK k p l).R 3,(SK k p l).R 4,(SK k p l).R 5,(SK k p l).R 6,(SK k p l).R 7,p,p,p,p,p,p,p,p⟩,(SK k p l).tot⟩ (l[j]).Text=some (Xmo k p (SK k p l) (l[j]).Text 8):=Xtj hp (Xh1.SK k p l) (hl _ (List.getElem_mem hj))
  rw [List.take_length,Xbd (by omega),XaX (by omega),Int.toNat_natCast,List.getElem?_eq_getElem hj,Option.bind_some,hg,Option.bind_some,Xbd (by omega),XaX (by omega),Option.bind_some,show Xad.v8 ⟨⟨k.A,k.B⟩,⟨(SK k p l).R 0,(SK k p l).R 1,(SK k p l).R 2,(SK k p l).R 3,(SK k p l).R 4,(SK k p l).R 5,(SK k p l).R 6,(SK k p l).R 7,p,p,p,p,p,p,p,p⟩,(SK k p l).tot⟩=some (SK k p l).tot from rfl,Option.bind_some,Xbd (by omega),Xfn (by omega) (by omega)];rfl
theorem XEg {k:XaD} {p:Nat} (hp:1≤p∧p≤4096) {l:List Xaz} (h30:l.length≤30) (hl:∀ e∈l,e.Text.length≤20):iter (fun st=>Xb8 Xal Xac Xad l k.A k.B (SK k p l).tot p p p p p p p p ((SK k p l).R 0) ((SK k p l).R 1) ((SK k p l).R 2) ((SK k p l).R 3) ((SK k p l).R 4) ((SK k p l).R 5) ((SK k p l).R 6) ((SK k p l).R 7) st) FUEL 0=some true:=by
 refine XcK (fun j=>(j:Int)) _ l.length (fun j hj=>?_) ?_ (by rw [Xc0];omega)
 ·unfold Xb8
  rw [Xcl (by omega),XEc hp h30 hl hj]
 ·unfold Xb8
  rw [Xbd (by omega),XiC];rfl
theorem lawB8 {k:XaD} {p:Nat} (hp:1≤p∧p≤4096) {l:List Xaz} (h30:l.length≤30) (hl:∀ e∈l,e.Text.length≤20):iter (fun st=>XbC Xal Xac Xah Xad l st.1 st.2.1 st.2.2.1 st.2.2.2.1 st.2.2.2.2.1 st.2.2.2.2.2.1 st.2.2.2.2.2.2.1 st.2.2.2.2.2.2.2.1 st.2.2.2.2.2.2.2.2.1 st.2.2.2.2.2.2.2.2.2.1 st.2.2.2.2.2.2.2.2.2.2.1 st.2.2.2.2.2.2.2.2.2.2.2.1 st.2.2.2.2.2.2.2.2.2.2.2.2.1 st.2.2.2.2.2.2.2.2.2.2.2.2.2.1 st.2.2.2.2.2.2.2.2.2.2.2.2.2.2.1 st.2.2.2.2.2.2.2.2.2.2.2.2.2.2.2.1 st.2.2.2.2.2.2.2.2.2.2.2.2.2.2.2.2.1 st.2.2.2.2.2.2.2.2.2.2.2.2.2.2.2.2.2.1 st.2.2.2.2.2.2.2.2.2.2.2.2.2.2.2.2.2.2.1 st.2.2.2.2.2.2.2.2.2.2.2.2.2.2.2.2.2.2.2) FUEL (0,k.A,k.B,(newS p).tot,p,p,p,p,p,p,p,p,(newS p).R 0,(newS p).R 1,(newS p).R 2,(newS p).R 3,(newS p).R 4,(newS p).R 5,(newS p).R 6,(newS p).R 7)=some true:=by
 refine XcK (fun j=>((j:Int),k.A,k.B,(SK k p (l.take j)).tot,p,p,p,p,p,p,p,p,(SK k p (l.take j)).R 0,(SK k p (l.take j)).R 1,(SK k p (l.take j)).R 2,(SK k p (l.take j)).R 3,(SK k p (l.take j)).R 4,(SK k p (l.take j)).R 5,(SK k p (l.take j)).R 6,(SK k p (l.take j)).R 7)) _ l.length (fun j hj=>?_) ?_ (by rw [Xc0];omega)
 ·show XbC Xal Xac Xah Xad l (j:Int) k.A k.B (SK k p (l.take j)).tot p p p p p p p p ((SK k p (l.take j)).R 0) ((SK k p (l.take j)).R 1) ((SK k p (l.take j)).R 2) ((SK k p (l.take j)).R 3) ((SK k p (l.take j)).R 4) ((SK k p (l.take j)).R 5) ((SK k p (l.take j)).R 6) ((SK k p (l.take j)).R 7)=_
  unfold XbC
  have hp1:Xah.v8 ⟨⟨k.A,k.B⟩,⟨(SK k p (l.take j)).R 0,(SK k p (l.take j)).R 1,(SK k p (l.take j)).R 2,(SK k p (l.take j)).R 3,(SK k p (l.take j)).R 4,(SK k p (l.take j)).R 5,(SK k p (l.take j)).R 6,(SK k p (l.take j)).R 7,p,p,p,p,p,p,p,p⟩,(SK k p (l.take j)).tot⟩ (l[j]).Text (l[j]).N=some (XkG l[j],Xyo k p (stepS k p (SK k p (l.take j)) l[j])):=Xzi hp (Xh1.SK k p _) (hl _ (List.getElem_mem hj))
  rw [Xcl (by omega),XaX (by omega),Int.toNat_natCast,List.getElem?_eq_getElem hj,Option.bind_some,XaX (by omega),hp1,Option.bind_some,←Xi4 _ _ hj,Xfn (by omega) (by omega)];rfl
 ·show XbC Xal Xac Xah Xad l (l.length:Int) k.A k.B (SK k p (l.take l.length)).tot p p p p p p p p ((SK k p (l.take l.length)).R 0) ((SK k p (l.take l.length)).R 1) ((SK k p (l.take l.length)).R 2) ((SK k p (l.take l.length)).R 3) ((SK k p (l.take l.length)).R 4) ((SK k p (l.take l.length)).R 5) ((SK k p (l.take l.length)).R 6) ((SK k p (l.take l.length)).R 7)=_
  unfold XbC
  rw [Xbd (by omega),List.take_length,XEg hp h30 hl];rfl
theorem sketchBounds (rows places:Int) (k:XaD) (l:List Xaz) (h1:0≤rows∧rows<256) (h2:0≤places∧places<256):Xh6 rows places k l=some true:=by
 unfold Xh6 Xfi
 rw [few50,Option.bind_some]
 cases hf:(decide (l.length≤30)&&(l.take 30).all fun e=>decide (e.Text.length≤20)) with
 | false=>rw [show (!false)=true from rfl,cond_true,XiC];rfl
 | true=>
   obtain ⟨h30,hl⟩:=Xwv hf
   rw [show (!true)=false from rfl,cond_false,Xfn (n:=rows) (by omega) (by omega),Xfn (n:=places) (by omega) (by omega),Int.tmod_eq_emod_of_nonneg h1.1,Int.tmod_eq_emod_of_nonneg h2.1,
    Xfn (n:=1+rows%8) (by omega) (by omega),Xfn (n:=1+places%64) (by omega) (by omega)]
   obtain ⟨p,hp⟩:∃ p:Nat,1+places%64=(p:Int):=⟨(1+places%64).toNat,by omega⟩
   have hp1:1≤p∧p≤4096:=by omega
   obtain ⟨r,hr,hr1,hr2⟩:∃ r:Nat,1+rows%8=(r:Int)∧1≤r∧r≤8:=⟨(1+rows%8).toNat,by omega,by omega,by omega⟩
   rw [hp,hr,XEm (by omega) hp1,Int.toNat_natCast,Option.bind_some]
   obtain rfl|rfl|rfl|rfl|rfl|rfl|rfl|rfl:r=1∨r=2∨r=3∨r=4∨r=5∨r=6∨r=7∨r=8:=by omega
   ·exact lawB1 hp1 h30 hl
   ·exact lawB2 hp1 h30 hl
   ·exact lawB3 hp1 h30 hl
   ·exact lawB4 hp1 h30 hl
   ·exact lawB5 hp1 h30 hl
   ·exact lawB6 hp1 h30 hl
   ·exact lawB7 hp1 h30 hl
   ·exact lawB8 hp1 h30 hl
end Go.Vm.Code
