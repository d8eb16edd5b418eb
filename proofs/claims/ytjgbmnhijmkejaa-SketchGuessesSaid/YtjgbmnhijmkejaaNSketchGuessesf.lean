import Derived.Test.YtjgbmnhijmkejaaNSketchGuessese
namespace Go.Vm.Code
open Go Go.Vm Go.Proofs
set_option maxRecDepth 100000
set_option maxHeartbeats 4000000
set_option linter.unusedVariables false
def XbX (Xat:XaY) (Xas:XaV) (Xaw:XaZ) (Xam:XaS) (Xao:XaT) (Xah:XaG) (Xad:XaC) (Xab:Xaj) (Xaf:XaE) (Xae:XaB) (rows:Int) (places:Int) (k:Xau) (l:List Xay) (m:List Xay) (text:List UInt8) (i:Int) (s:Int) (s1:Int) (s2:Int) (c:Nat) (c1:List Int) (xj1:Int) (t:Int) (t1:Int) (t2:Int) (c2:Nat) (c3:List Int):Option (Sum (Int×Int×Int×Int×Nat×(List Int)) Bool):=
 cond (decide (xj1<(m.length:Int)))
  (
  XaQ (decide ((0:Int)≤xj1∧xj1<(m.length:Int))) <|
  (m[xj1.toNat]?).bind fun (e1:Xay)=>
  XaQ (decide ((0:Int)≤xj1∧xj1<(m.length:Int))) <|
  (Xaf.v1 (XaA.mk (Xau.mk t t1) (Xd4.mk c3 c2) t2) e1.Text e1.N).bind fun x11=>
  some (.inl (wI .i64 (xj1+1),x11.2.key.A,x11.2.key.B,x11.2.total,x11.2.rows.m0,x11.2.rows.e0)))
  (
  (Xao rows places (Xau.mk k.A (wI .u64 (k.B+1)))).bind fun n5=>
  match n5 with
  | .v1 n6=>
    (Xah.v11 (XaA.mk (Xau.mk s s1) (Xd4.mk c1 c) s2) (XaA.mk (Xau.mk t t1) (Xd4.mk c3 c2) t2)).bind fun x12=>
    cond (!x12.1)
     (
     some (.inr (false)))
     (
     (Xah.v11 x12.2 n6).bind fun x13=>
     cond (x13.1)
      (
      some (.inr (false)))
      (
      XaQ (decide (l.length*24≤2^47)) <|
      XaQ (decide ((l.length+m.length)*24≤2^47)) <|
      let row:=l++m
      cond (decide (i≥0))
       (
       cond (decide (i<rows))
        (
        (Xas k i places text).bind fun p=>
        (Xad.v1 x13.2 text).bind fun x14=>
        (Xat k rows places row text).bind fun xg=>
        cond (x14==xg)
         (
         (Xae.v1 x13.2).bind fun x15=>
         (Xaw row).bind fun t3=>
         cond (x15==t3)
          (
          (Xab.v1 x13.2 i text).bind fun x16=>
          cond (x16==p)
           (
           (Xam).bind fun a4=>
           some (.inr (a4)))
           (
           some (.inr (false))))
          (
          some (.inr (false))))
         (
         some (.inr (false))))
        (
        (Xad.v1 x13.2 text).bind fun x17=>
        (Xat k rows places row text).bind fun xg1=>
        cond (x17==xg1)
         (
         (Xae.v1 x13.2).bind fun x18=>
         (Xaw row).bind fun t4=>
         cond (x18==t4)
          (
          (Xab.v1 x13.2 i text).bind fun x19=>
          cond (x19==(-1))
           (
           (Xam).bind fun a5=>
           some (.inr (a5)))
           (
           some (.inr (false))))
          (
          some (.inr (false))))
         (
         some (.inr (false)))))
       (
       (Xad.v1 x13.2 text).bind fun x110=>
       (Xat k rows places row text).bind fun xg2=>
       cond (x110==xg2)
        (
        (Xae.v1 x13.2).bind fun x111=>
        (Xaw row).bind fun t5=>
        cond (x111==t5)
         (
         (Xab.v1 x13.2 i text).bind fun x112=>
         cond (x112==(-1))
          (
          (Xam).bind fun a6=>
          some (.inr (a6)))
          (
          some (.inr (false))))
         (
         some (.inr (false))))
        (
        some (.inr (false))))))
  | _=>none)
def Xb0 (Xat:XaY) (XaI:Xa6) (Xas:XaV) (Xaw:XaZ) (Xam:XaS) (Xao:XaT) (Xah:XaG) (Xad:XaC) (Xab:Xaj) (Xaf:XaE) (Xae:XaB) (rows:Int) (places:Int) (k:Xau) (l:List Xay) (m:List Xay) (text:List UInt8) (i:Int) (n4:XaA) (xj:Int) (s:Int) (s1:Int) (s2:Int) (c:Nat) (c1:List Int):Option (Sum (Int×Int×Int×Int×Nat×(List Int)) Bool):=
 cond (decide (xj<(l.length:Int)))
  (
  XaQ (decide ((0:Int)≤xj∧xj<(l.length:Int))) <|
  (l[xj.toNat]?).bind fun (e:Xay)=>
  XaQ (decide ((0:Int)≤xj∧xj<(l.length:Int))) <|
  (Xaf.v1 (XaA.mk (Xau.mk s s1) (Xd4.mk c1 c) s2) e.Text e.N).bind fun x1=>
  XaQ (decide ((0:Int)≤xj∧xj<(l.length:Int))) <|
  (XaI e).bind fun m1=>
  cond (!(x1.1==m1))
   (
   some (.inr (false)))
   (
   some (.inl (wI .i64 (xj+1),x1.2.key.A,x1.2.key.B,x1.2.total,x1.2.rows.m0,x1.2.rows.e0))))
  (
  (iter (fun st=>XbX Xat Xas Xaw Xam Xao Xah Xad Xab Xaf Xae rows places k l m text i s s1 s2 c c1 st.1 st.2.1 st.2.2.1 st.2.2.2.1 st.2.2.2.2.1 st.2.2.2.2.2) FUEL (0,n4.key.A,n4.key.B,n4.total,n4.rows.m0,n4.rows.e0)).bind fun o=>some (.inr (o)))
def Xb3 (Xat:XaY) (Xas:XaV) (Xaw:XaZ) (Xam:XaS) (Xao:XaT) (Xah:XaG) (Xad:XaC) (Xab:Xaj) (Xaf:XaE) (Xae:XaB) (rows:Int) (places:Int) (k:Xau) (l:List Xay) (m:List Xay) (text:List UInt8) (i:Int) (s3:Int) (s4:Int) (s5:Int) (c4:Nat) (c5:Nat) (c6:List Int) (c7:List Int) (xj3:Int) (t6:Int) (t7:Int) (t8:Int) (c8:Nat) (c9:Nat) (c10:List Int) (c11:List Int):Option (Sum (Int×Int×Int×Int×Nat×Nat×(List Int)×(List Int)) Bool):=
 cond (decide (xj3<(m.length:Int)))
  (
  XaQ (decide ((0:Int)≤xj3∧xj3<(m.length:Int))) <|
  (m[xj3.toNat]?).bind fun (e3:Xay)=>
  XaQ (decide ((0:Int)≤xj3∧xj3<(m.length:Int))) <|
  (Xaf.v2 (Xax.mk (Xau.mk t6 t7) (XdA.mk c10 c11 c8 c9) t8) e3.Text e3.N).bind fun x21=>
  some (.inl (wI .i64 (xj3+1),x21.2.key.A,x21.2.key.B,x21.2.total,x21.2.rows.m0,x21.2.rows.m1,x21.2.rows.e0,x21.2.rows.e1)))
  (
  (Xao rows places (Xau.mk k.A (wI .u64 (k.B+1)))).bind fun n10=>
  match n10 with
  | .v2 n11=>
    (Xah.v22 (Xax.mk (Xau.mk s3 s4) (XdA.mk c6 c7 c4 c5) s5) (Xax.mk (Xau.mk t6 t7) (XdA.mk c10 c11 c8 c9) t8)).bind fun x22=>
    cond (!x22.1)
     (
     some (.inr (false)))
     (
     (Xah.v22 x22.2 n11).bind fun x23=>
     cond (x23.1)
      (
      some (.inr (false)))
      (
      XaQ (decide (l.length*24≤2^47)) <|
      XaQ (decide ((l.length+m.length)*24≤2^47)) <|
      let row1:=l++m
      cond (decide (i≥0))
       (
       cond (decide (i<rows))
        (
        (Xas k i places text).bind fun p1=>
        (Xad.v2 x23.2 text).bind fun x24=>
        (Xat k rows places row1 text).bind fun xg3=>
        cond (x24==xg3)
         (
         (Xae.v2 x23.2).bind fun x25=>
         (Xaw row1).bind fun t9=>
         cond (x25==t9)
          (
          (Xab.v2 x23.2 i text).bind fun x26=>
          cond (x26==p1)
           (
           (Xam).bind fun a7=>
           some (.inr (a7)))
           (
           some (.inr (false))))
          (
          some (.inr (false))))
         (
         some (.inr (false))))
        (
        (Xad.v2 x23.2 text).bind fun x27=>
        (Xat k rows places row1 text).bind fun xg4=>
        cond (x27==xg4)
         (
         (Xae.v2 x23.2).bind fun x28=>
         (Xaw row1).bind fun t10=>
         cond (x28==t10)
          (
          (Xab.v2 x23.2 i text).bind fun x29=>
          cond (x29==(-1))
           (
           (Xam).bind fun a8=>
           some (.inr (a8)))
           (
           some (.inr (false))))
          (
          some (.inr (false))))
         (
         some (.inr (false)))))
       (
       (Xad.v2 x23.2 text).bind fun x210=>
       (Xat k rows places row1 text).bind fun xg5=>
       cond (x210==xg5)
        (
        (Xae.v2 x23.2).bind fun x211=>
        (Xaw row1).bind fun t11=>
        cond (x211==t11)
         (
         (Xab.v2 x23.2 i text).bind fun x212=>
         cond (x212==(-1))
          (
          (Xam).bind fun a9=>
          some (.inr (a9)))
          (
          some (.inr (false))))
         (
         some (.inr (false))))
        (
        some (.inr (false))))))
  | _=>none)
def XbY (Xat:XaY) (XaI:Xa6) (Xas:XaV) (Xaw:XaZ) (Xam:XaS) (Xao:XaT) (Xah:XaG) (Xad:XaC) (Xab:Xaj) (Xaf:XaE) (Xae:XaB) (rows:Int) (places:Int) (k:Xau) (l:List Xay) (m:List Xay) (text:List UInt8) (i:Int) (n9:Xax) (xj2:Int) (s3:Int) (s4:Int) (s5:Int) (c4:Nat) (c5:Nat) (c6:List Int) (c7:List Int):Option (Sum (Int×Int×Int×Int×Nat×Nat×(List Int)×(List Int)) Bool):=
 cond (decide (xj2<(l.length:Int)))
  (
  XaQ (decide ((0:Int)≤xj2∧xj2<(l.length:Int))) <|
  (l[xj2.toNat]?).bind fun (e2:Xay)=>
  XaQ (decide ((0:Int)≤xj2∧xj2<(l.length:Int))) <|
  (Xaf.v2 (Xax.mk (Xau.mk s3 s4) (XdA.mk c6 c7 c4 c5) s5) e2.Text e2.N).bind fun x2=>
  XaQ (decide ((0:Int)≤xj2∧xj2<(l.length:Int))) <|
  (XaI e2).bind fun m2=>
  cond (!(x2.1==m2))
   (
   some (.inr (false)))
   (
   some (.inl (wI .i64 (xj2+1),x2.2.key.A,x2.2.key.B,x2.2.total,x2.2.rows.m0,x2.2.rows.m1,x2.2.rows.e0,x2.2.rows.e1))))
  (
  (iter (fun st=>Xb3 Xat Xas Xaw Xam Xao Xah Xad Xab Xaf Xae rows places k l m text i s3 s4 s5 c4 c5 c6 c7 st.1 st.2.1 st.2.2.1 st.2.2.2.1 st.2.2.2.2.1 st.2.2.2.2.2.1 st.2.2.2.2.2.2.1 st.2.2.2.2.2.2.2) FUEL (0,n9.key.A,n9.key.B,n9.total,n9.rows.m0,n9.rows.m1,n9.rows.e0,n9.rows.e1)).bind fun o=>some (.inr (o)))
def XbW (Xat:XaY) (Xas:XaV) (Xaw:XaZ) (Xam:XaS) (Xao:XaT) (Xah:XaG) (Xad:XaC) (Xab:Xaj) (Xaf:XaE) (Xae:XaB) (rows:Int) (places:Int) (k:Xau) (l:List Xay) (m:List Xay) (text:List UInt8) (i:Int) (s6:Int) (s7:Int) (s8:Int) (c12:Nat) (c13:Nat) (c14:Nat) (c15:List Int) (c16:List Int) (c17:List Int) (xj5:Int) (t12:Int) (t13:Int) (t14:Int) (c18:Nat) (c19:Nat) (c20:Nat) (c21:List Int) (c22:List Int) (c23:List Int):Option (Sum (Int×Int×Int×Int×Nat×Nat×Nat×(List Int)×(List Int)×(List Int)) Bool):=
 cond (decide (xj5<(m.length:Int)))
  (
  XaQ (decide ((0:Int)≤xj5∧xj5<(m.length:Int))) <|
  (m[xj5.toNat]?).bind fun (e5:Xay)=>
  XaQ (decide ((0:Int)≤xj5∧xj5<(m.length:Int))) <|
  (Xaf.v3 (Xav.mk (Xau.mk t12 t13) (Xdr.mk c21 c22 c23 c18 c19 c20) t14) e5.Text e5.N).bind fun x31=>
  some (.inl (wI .i64 (xj5+1),x31.2.key.A,x31.2.key.B,x31.2.total,x31.2.rows.m0,x31.2.rows.m1,x31.2.rows.m2,x31.2.rows.e0,x31.2.rows.e1,x31.2.rows.e2)))
  (
  (Xao rows places (Xau.mk k.A (wI .u64 (k.B+1)))).bind fun n15=>
  match n15 with
  | .v3 n16=>
    (Xah.v33 (Xav.mk (Xau.mk s6 s7) (Xdr.mk c15 c16 c17 c12 c13 c14) s8) (Xav.mk (Xau.mk t12 t13) (Xdr.mk c21 c22 c23 c18 c19 c20) t14)).bind fun x32=>
    cond (!x32.1)
     (
     some (.inr (false)))
     (
     (Xah.v33 x32.2 n16).bind fun x33=>
     cond (x33.1)
      (
      some (.inr (false)))
      (
      XaQ (decide (l.length*24≤2^47)) <|
      XaQ (decide ((l.length+m.length)*24≤2^47)) <|
      let row2:=l++m
      cond (decide (i≥0))
       (
       cond (decide (i<rows))
        (
        (Xas k i places text).bind fun p2=>
        (Xad.v3 x33.2 text).bind fun x34=>
        (Xat k rows places row2 text).bind fun xg6=>
        cond (x34==xg6)
         (
         (Xae.v3 x33.2).bind fun x35=>
         (Xaw row2).bind fun t15=>
         cond (x35==t15)
          (
          (Xab.v3 x33.2 i text).bind fun x36=>
          cond (x36==p2)
           (
           (Xam).bind fun a10=>
           some (.inr (a10)))
           (
           some (.inr (false))))
          (
          some (.inr (false))))
         (
         some (.inr (false))))
        (
        (Xad.v3 x33.2 text).bind fun x37=>
        (Xat k rows places row2 text).bind fun xg7=>
        cond (x37==xg7)
         (
         (Xae.v3 x33.2).bind fun x38=>
         (Xaw row2).bind fun t16=>
         cond (x38==t16)
          (
          (Xab.v3 x33.2 i text).bind fun x39=>
          cond (x39==(-1))
           (
           (Xam).bind fun a11=>
           some (.inr (a11)))
           (
           some (.inr (false))))
          (
          some (.inr (false))))
         (
         some (.inr (false)))))
       (
       (Xad.v3 x33.2 text).bind fun x310=>
       (Xat k rows places row2 text).bind fun xg8=>
       cond (x310==xg8)
        (
        (Xae.v3 x33.2).bind fun x311=>
        (Xaw row2).bind fun t17=>
        cond (x311==t17)
         (
         (Xab.v3 x33.2 i text).bind fun x312=>
         cond (x312==(-1))
          (
          (Xam).bind fun a12=>
          some (.inr (a12)))
          (
          some (.inr (false))))
         (
         some (.inr (false))))
        (
        some (.inr (false))))))
  | _=>none)
def Xb1 (Xat:XaY) (XaI:Xa6) (Xas:XaV) (Xaw:XaZ) (Xam:XaS) (Xao:XaT) (Xah:XaG) (Xad:XaC) (Xab:Xaj) (Xaf:XaE) (Xae:XaB) (rows:Int) (places:Int) (k:Xau) (l:List Xay) (m:List Xay) (text:List UInt8) (i:Int) (n14:Xav) (xj4:Int) (s6:Int) (s7:Int) (s8:Int) (c12:Nat) (c13:Nat) (c14:Nat) (c15:List Int) (c16:List Int) (c17:List Int):Option (Sum (Int×Int×Int×Int×Nat×Nat×Nat×(List Int)×(List Int)×(List Int)) Bool):=
 cond (decide (xj4<(l.length:Int)))
  (
  XaQ (decide ((0:Int)≤xj4∧xj4<(l.length:Int))) <|
  (l[xj4.toNat]?).bind fun (e4:Xay)=>
  XaQ (decide ((0:Int)≤xj4∧xj4<(l.length:Int))) <|
  (Xaf.v3 (Xav.mk (Xau.mk s6 s7) (Xdr.mk c15 c16 c17 c12 c13 c14) s8) e4.Text e4.N).bind fun x3=>
  XaQ (decide ((0:Int)≤xj4∧xj4<(l.length:Int))) <|
  (XaI e4).bind fun m3=>
  cond (!(x3.1==m3))
   (
   some (.inr (false)))
   (
   some (.inl (wI .i64 (xj4+1),x3.2.key.A,x3.2.key.B,x3.2.total,x3.2.rows.m0,x3.2.rows.m1,x3.2.rows.m2,x3.2.rows.e0,x3.2.rows.e1,x3.2.rows.e2))))
  (
  (iter (fun st=>XbW Xat Xas Xaw Xam Xao Xah Xad Xab Xaf Xae rows places k l m text i s6 s7 s8 c12 c13 c14 c15 c16 c17 st.1 st.2.1 st.2.2.1 st.2.2.2.1 st.2.2.2.2.1 st.2.2.2.2.2.1 st.2.2.2.2.2.2.1 st.2.2.2.2.2.2.2.1 st.2.2.2.2.2.2.2.2.1 st.2.2.2.2.2.2.2.2.2) FUEL (0,n14.key.A,n14.key.B,n14.total,n14.rows.m0,n14.rows.m1,n14.rows.m2,n14.rows.e0,n14.rows.e1,n14.rows.e2)).bind fun o=>some (.inr (o)))
def Xb4 (Xat:XaY) (Xas:XaV) (Xaw:XaZ) (Xam:XaS) (Xao:XaT) (Xah:XaG) (Xad:XaC) (Xab:Xaj) (Xaf:XaE) (Xae:XaB) (rows:Int) (places:Int) (k:Xau) (l:List Xay) (m:List Xay) (text:List UInt8) (i:Int) (s9:Int) (s10:Int) (s11:Int) (c24:Nat) (c25:Nat) (c26:Nat) (c27:Nat) (c28:List Int) (c29:List Int) (c30:List Int) (c31:List Int) (xj7:Int) (t18:Int) (t19:Int) (t20:Int) (c32:Nat) (c33:Nat) (c34:Nat) (c35:Nat) (c36:List Int) (c37:List Int) (c38:List Int) (c39:List Int):Option (Sum (Int×Int×Int×Int×Nat×Nat×Nat×Nat×(List Int)×(List Int)×(List Int)×(List Int)) Bool):=
 cond (decide (xj7<(m.length:Int)))
  (
  XaQ (decide ((0:Int)≤xj7∧xj7<(m.length:Int))) <|
  (m[xj7.toNat]?).bind fun (e7:Xay)=>
  XaQ (decide ((0:Int)≤xj7∧xj7<(m.length:Int))) <|
  (Xaf.v4 (Xar.mk (Xau.mk t18 t19) (Xc7.mk c36 c37 c38 c39 c32 c33 c34 c35) t20) e7.Text e7.N).bind fun x41=>
  some (.inl (wI .i64 (xj7+1),x41.2.key.A,x41.2.key.B,x41.2.total,x41.2.rows.m0,x41.2.rows.m1,x41.2.rows.m2,x41.2.rows.m3,x41.2.rows.e0,x41.2.rows.e1,x41.2.rows.e2,x41.2.rows.e3)))
  (
  (Xao rows places (Xau.mk k.A (wI .u64 (k.B+1)))).bind fun n20=>
  match n20 with
  | .v4 n21=>
    (Xah.v44 (Xar.mk (Xau.mk s9 s10) (Xc7.mk c28 c29 c30 c31 c24 c25 c26 c27) s11) (Xar.mk (Xau.mk t18 t19) (Xc7.mk c36 c37 c38 c39 c32 c33 c34 c35) t20)).bind fun x42=>
    cond (!x42.1)
     (
     some (.inr (false)))
     (
     (Xah.v44 x42.2 n21).bind fun x43=>
     cond (x43.1)
      (
      some (.inr (false)))
      (
      XaQ (decide (l.length*24≤2^47)) <|
      XaQ (decide ((l.length+m.length)*24≤2^47)) <|
      let row3:=l++m
      cond (decide (i≥0))
       (
       cond (decide (i<rows))
        (
        (Xas k i places text).bind fun p3=>
        (Xad.v4 x43.2 text).bind fun x44=>
        (Xat k rows places row3 text).bind fun xg9=>
        cond (x44==xg9)
         (
         (Xae.v4 x43.2).bind fun x45=>
         (Xaw row3).bind fun t21=>
         cond (x45==t21)
          (
          (Xab.v4 x43.2 i text).bind fun x46=>
          cond (x46==p3)
           (
           (Xam).bind fun a13=>
           some (.inr (a13)))
           (
           some (.inr (false))))
          (
          some (.inr (false))))
         (
         some (.inr (false))))
        (
        (Xad.v4 x43.2 text).bind fun x47=>
        (Xat k rows places row3 text).bind fun xg10=>
        cond (x47==xg10)
         (
         (Xae.v4 x43.2).bind fun x48=>
         (Xaw row3).bind fun t22=>
         cond (x48==t22)
          (
          (Xab.v4 x43.2 i text).bind fun x49=>
          cond (x49==(-1))
           (
           (Xam).bind fun a14=>
           some (.inr (a14)))
           (
           some (.inr (false))))
          (
          some (.inr (false))))
         (
         some (.inr (false)))))
       (
       (Xad.v4 x43.2 text).bind fun x410=>
       (Xat k rows places row3 text).bind fun xg11=>
       cond (x410==xg11)
        (
        (Xae.v4 x43.2).bind fun x411=>
        (Xaw row3).bind fun t23=>
        cond (x411==t23)
         (
         (Xab.v4 x43.2 i text).bind fun x412=>
         cond (x412==(-1))
          (
          (Xam).bind fun a15=>
          some (.inr (a15)))
          (
          some (.inr (false))))
         (
         some (.inr (false))))
        (
        some (.inr (false))))))
  | _=>none)
def XbZ (Xat:XaY) (XaI:Xa6) (Xas:XaV) (Xaw:XaZ) (Xam:XaS) (Xao:XaT) (Xah:XaG) (Xad:XaC) (Xab:Xaj) (Xaf:XaE) (Xae:XaB) (rows:Int) (places:Int) (k:Xau) (l:List Xay) (m:List Xay) (text:List UInt8) (i:Int) (n19:Xar) (xj6:Int) (s9:Int) (s10:Int) (s11:Int) (c24:Nat) (c25:Nat) (c26:Nat) (c27:Nat) (c28:List Int) (c29:List Int) (c30:List Int) (c31:List Int):Option (Sum (Int×Int×Int×Int×Nat×Nat×Nat×Nat×(List Int)×(List Int)×(List Int)×(List Int)) Bool):=
 cond (decide (xj6<(l.length:Int)))
  (
  XaQ (decide ((0:Int)≤xj6∧xj6<(l.length:Int))) <|
  (l[xj6.toNat]?).bind fun (e6:Xay)=>
  XaQ (decide ((0:Int)≤xj6∧xj6<(l.length:Int))) <|
  (Xaf.v4 (Xar.mk (Xau.mk s9 s10) (Xc7.mk c28 c29 c30 c31 c24 c25 c26 c27) s11) e6.Text e6.N).bind fun x4=>
  XaQ (decide ((0:Int)≤xj6∧xj6<(l.length:Int))) <|
  (XaI e6).bind fun m4=>
  cond (!(x4.1==m4))
   (
   some (.inr (false)))
   (
   some (.inl (wI .i64 (xj6+1),x4.2.key.A,x4.2.key.B,x4.2.total,x4.2.rows.m0,x4.2.rows.m1,x4.2.rows.m2,x4.2.rows.m3,x4.2.rows.e0,x4.2.rows.e1,x4.2.rows.e2,x4.2.rows.e3))))
  (
  (iter (fun st=>Xb4 Xat Xas Xaw Xam Xao Xah Xad Xab Xaf Xae rows places k l m text i s9 s10 s11 c24 c25 c26 c27 c28 c29 c30 c31 st.1 st.2.1 st.2.2.1 st.2.2.2.1 st.2.2.2.2.1 st.2.2.2.2.2.1 st.2.2.2.2.2.2.1 st.2.2.2.2.2.2.2.1 st.2.2.2.2.2.2.2.2.1 st.2.2.2.2.2.2.2.2.2.1 st.2.2.2.2.2.2.2.2.2.2.1 st.2.2.2.2.2.2.2.2.2.2.2) FUEL (0,n19.key.A,n19.key.B,n19.total,n19.rows.m0,n19.rows.m1,n19.rows.m2,n19.rows.m3,n19.rows.e0,n19.rows.e1,n19.rows.e2,n19.rows.e3)).bind fun o=>some (.inr (o)))
def Xb2 (Xat:XaY) (Xas:XaV) (Xaw:XaZ) (Xam:XaS) (Xao:XaT) (Xah:XaG) (Xad:XaC) (Xab:Xaj) (Xaf:XaE) (Xae:XaB) (rows:Int) (places:Int) (k:Xau) (l:List Xay) (m:List Xay) (text:List UInt8) (i:Int) (s12:Int) (s13:Int) (s14:Int) (c40:Nat) (c41:Nat) (c42:Nat) (c43:Nat) (c44:Nat) (c45:List Int) (c46:List Int) (c47:List Int) (c48:List Int) (c49:List Int) (xj9:Int) (t24:Int) (t25:Int) (t26:Int) (c50:Nat) (c51:Nat) (c52:Nat) (c53:Nat) (c54:Nat) (c55:List Int) (c56:List Int) (c57:List Int) (c58:List Int) (c59:List Int):Option (Sum (Int×Int×Int×Int×Nat×Nat×Nat×Nat×Nat×(List Int)×(List Int)×(List Int)×(List Int)×(List Int)) Bool):=
 cond (decide (xj9<(m.length:Int)))
  (
  XaQ (decide ((0:Int)≤xj9∧xj9<(m.length:Int))) <|
  (m[xj9.toNat]?).bind fun (e9:Xay)=>
  XaQ (decide ((0:Int)≤xj9∧xj9<(m.length:Int))) <|
  (Xaf.v5 (Xap.mk (Xau.mk t24 t25) (XcH.mk c55 c56 c57 c58 c59 c50 c51 c52 c53 c54) t26) e9.Text e9.N).bind fun x51=>
  some (.inl (wI .i64 (xj9+1),x51.2.key.A,x51.2.key.B,x51.2.total,x51.2.rows.m0,x51.2.rows.m1,x51.2.rows.m2,x51.2.rows.m3,x51.2.rows.m4,x51.2.rows.e0,x51.2.rows.e1,x51.2.rows.e2,x51.2.rows.e3,x51.2.rows.e4)))
  (
  (Xao rows places (Xau.mk k.A (wI .u64 (k.B+1)))).bind fun n25=>
  match n25 with
  | .v5 n26=>
    (Xah.v55 (Xap.mk (Xau.mk s12 s13) (XcH.mk c45 c46 c47 c48 c49 c40 c41 c42 c43 c44) s14) (Xap.mk (Xau.mk t24 t25) (XcH.mk c55 c56 c57 c58 c59 c50 c51 c52 c53 c54) t26)).bind fun x52=>
    cond (!x52.1)
     (
     some (.inr (false)))
     (
     (Xah.v55 x52.2 n26).bind fun x53=>
     cond (x53.1)
      (
      some (.inr (false)))
      (
      XaQ (decide (l.length*24≤2^47)) <|
      XaQ (decide ((l.length+m.length)*24≤2^47)) <|
      let row4:=l++m
      cond (decide (i≥0))
       (
       cond (decide (i<rows))
        (
        (Xas k i places text).bind fun p4=>
        (Xad.v5 x53.2 text).bind fun x54=>
        (Xat k rows places row4 text).bind fun xg12=>
        cond (x54==xg12)
         (
         (Xae.v5 x53.2).bind fun x55=>
         (Xaw row4).bind fun t27=>
         cond (x55==t27)
          (
          (Xab.v5 x53.2 i text).bind fun x56=>
          cond (x56==p4)
           (
           (Xam).bind fun a16=>
           some (.inr (a16)))
           (
           some (.inr (false))))
          (
          some (.inr (false))))
         (
         some (.inr (false))))
        (
        (Xad.v5 x53.2 text).bind fun x57=>
        (Xat k rows places row4 text).bind fun xg13=>
        cond (x57==xg13)
         (
         (Xae.v5 x53.2).bind fun x58=>
         (Xaw row4).bind fun t28=>
         cond (x58==t28)
          (
          (Xab.v5 x53.2 i text).bind fun x59=>
          cond (x59==(-1))
           (
           (Xam).bind fun a17=>
           some (.inr (a17)))
           (
           some (.inr (false))))
          (
          some (.inr (false))))
         (
         some (.inr (false)))))
       (
       (Xad.v5 x53.2 text).bind fun x510=>
       (Xat k rows places row4 text).bind fun xg14=>
       cond (x510==xg14)
        (
        (Xae.v5 x53.2).bind fun x511=>
        (Xaw row4).bind fun t29=>
        cond (x511==t29)
         (
         (Xab.v5 x53.2 i text).bind fun x512=>
         cond (x512==(-1))
          (
          (Xam).bind fun a18=>
          some (.inr (a18)))
          (
          some (.inr (false))))
         (
         some (.inr (false))))
        (
        some (.inr (false))))))
  | _=>none)
def XbT (Xat:XaY) (XaI:Xa6) (Xas:XaV) (Xaw:XaZ) (Xam:XaS) (Xao:XaT) (Xah:XaG) (Xad:XaC) (Xab:Xaj) (Xaf:XaE) (Xae:XaB) (rows:Int) (places:Int) (k:Xau) (l:List Xay) (m:List Xay) (text:List UInt8) (i:Int) (n24:Xap) (xj8:Int) (s12:Int) (s13:Int) (s14:Int) (c40:Nat) (c41:Nat) (c42:Nat) (c43:Nat) (c44:Nat) (c45:List Int) (c46:List Int) (c47:List Int) (c48:List Int) (c49:List Int):Option (Sum (Int×Int×Int×Int×Nat×Nat×Nat×Nat×Nat×(List Int)×(List Int)×(List Int)×(List Int)×(List Int)) Bool):=
 cond (decide (xj8<(l.length:Int)))
  (
  XaQ (decide ((0:Int)≤xj8∧xj8<(l.length:Int))) <|
  (l[xj8.toNat]?).bind fun (e8:Xay)=>
  XaQ (decide ((0:Int)≤xj8∧xj8<(l.length:Int))) <|
  (Xaf.v5 (Xap.mk (Xau.mk s12 s13) (XcH.mk c45 c46 c47 c48 c49 c40 c41 c42 c43 c44) s14) e8.Text e8.N).bind fun x5=>
  XaQ (decide ((0:Int)≤xj8∧xj8<(l.length:Int))) <|
  (XaI e8).bind fun m5=>
  cond (!(x5.1==m5))
   (
   some (.inr (false)))
   (
   some (.inl (wI .i64 (xj8+1),x5.2.key.A,x5.2.key.B,x5.2.total,x5.2.rows.m0,x5.2.rows.m1,x5.2.rows.m2,x5.2.rows.m3,x5.2.rows.m4,x5.2.rows.e0,x5.2.rows.e1,x5.2.rows.e2,x5.2.rows.e3,x5.2.rows.e4))))
  (
  (iter (fun st=>Xb2 Xat Xas Xaw Xam Xao Xah Xad Xab Xaf Xae rows places k l m text i s12 s13 s14 c40 c41 c42 c43 c44 c45 c46 c47 c48 c49 st.1 st.2.1 st.2.2.1 st.2.2.2.1 st.2.2.2.2.1 st.2.2.2.2.2.1 st.2.2.2.2.2.2.1 st.2.2.2.2.2.2.2.1 st.2.2.2.2.2.2.2.2.1 st.2.2.2.2.2.2.2.2.2.1 st.2.2.2.2.2.2.2.2.2.2.1 st.2.2.2.2.2.2.2.2.2.2.2.1 st.2.2.2.2.2.2.2.2.2.2.2.2.1 st.2.2.2.2.2.2.2.2.2.2.2.2.2) FUEL (0,n24.key.A,n24.key.B,n24.total,n24.rows.m0,n24.rows.m1,n24.rows.m2,n24.rows.m3,n24.rows.m4,n24.rows.e0,n24.rows.e1,n24.rows.e2,n24.rows.e3,n24.rows.e4)).bind fun o=>some (.inr (o)))
def XbS (Xat:XaY) (Xas:XaV) (Xaw:XaZ) (Xam:XaS) (Xao:XaT) (Xah:XaG) (Xad:XaC) (Xab:Xaj) (Xaf:XaE) (Xae:XaB) (rows:Int) (places:Int) (k:Xau) (l:List Xay) (m:List Xay) (text:List UInt8) (i:Int) (s15:Int) (s16:Int) (s17:Int) (c60:Nat) (c61:Nat) (c62:Nat) (c63:Nat) (c64:Nat) (c65:Nat) (c66:List Int) (c67:List Int) (c68:List Int) (c69:List Int) (c70:List Int) (c71:List Int) (xj11:Int) (t30:Int) (t31:Int) (t32:Int) (c72:Nat) (c73:Nat) (c74:Nat) (c75:Nat) (c76:Nat) (c77:Nat) (c78:List Int) (c79:List Int) (c80:List Int) (c81:List Int) (c82:List Int) (c83:List Int):Option (Sum (Int×Int×Int×Int×Nat×Nat×Nat×Nat×Nat×Nat×(List Int)×(List Int)×(List Int)×(List Int)×(List Int)×(List Int)) Bool):=
 cond (decide (xj11<(m.length:Int)))
  (
  XaQ (decide ((0:Int)≤xj11∧xj11<(m.length:Int))) <|
  (m[xj11.toNat]?).bind fun (e11:Xay)=>
  XaQ (decide ((0:Int)≤xj11∧xj11<(m.length:Int))) <|
  (Xaf.v6 (Xan.mk (Xau.mk t30 t31) (Xb8.mk c78 c79 c80 c81 c82 c83 c72 c73 c74 c75 c76 c77) t32) e11.Text e11.N).bind fun x61=>
  some (.inl (wI .i64 (xj11+1),x61.2.key.A,x61.2.key.B,x61.2.total,x61.2.rows.m0,x61.2.rows.m1,x61.2.rows.m2,x61.2.rows.m3,x61.2.rows.m4,x61.2.rows.m5,x61.2.rows.e0,x61.2.rows.e1,x61.2.rows.e2,x61.2.rows.e3,x61.2.rows.e4,x61.2.rows.e5)))
  (
  (Xao rows places (Xau.mk k.A (wI .u64 (k.B+1)))).bind fun n30=>
  match n30 with
  | .v6 n31=>
    (Xah.v66 (Xan.mk (Xau.mk s15 s16) (Xb8.mk c66 c67 c68 c69 c70 c71 c60 c61 c62 c63 c64 c65) s17) (Xan.mk (Xau.mk t30 t31) (Xb8.mk c78 c79 c80 c81 c82 c83 c72 c73 c74 c75 c76 c77) t32)).bind fun x62=>
    cond (!x62.1)
     (
     some (.inr (false)))
     (
     (Xah.v66 x62.2 n31).bind fun x63=>
     cond (x63.1)
      (
      some (.inr (false)))
      (
      XaQ (decide (l.length*24≤2^47)) <|
      XaQ (decide ((l.length+m.length)*24≤2^47)) <|
      let row5:=l++m
      cond (decide (i≥0))
       (
       cond (decide (i<rows))
        (
        (Xas k i places text).bind fun p5=>
        (Xad.v6 x63.2 text).bind fun x64=>
        (Xat k rows places row5 text).bind fun xg15=>
        cond (x64==xg15)
         (
         (Xae.v6 x63.2).bind fun x65=>
         (Xaw row5).bind fun t33=>
         cond (x65==t33)
          (
          (Xab.v6 x63.2 i text).bind fun x66=>
          cond (x66==p5)
           (
           (Xam).bind fun a19=>
           some (.inr (a19)))
           (
           some (.inr (false))))
          (
          some (.inr (false))))
         (
         some (.inr (false))))
        (
        (Xad.v6 x63.2 text).bind fun x67=>
        (Xat k rows places row5 text).bind fun xg16=>
        cond (x67==xg16)
         (
         (Xae.v6 x63.2).bind fun x68=>
         (Xaw row5).bind fun t34=>
         cond (x68==t34)
          (
          (Xab.v6 x63.2 i text).bind fun x69=>
          cond (x69==(-1))
           (
           (Xam).bind fun a20=>
           some (.inr (a20)))
           (
           some (.inr (false))))
          (
          some (.inr (false))))
         (
         some (.inr (false)))))
       (
       (Xad.v6 x63.2 text).bind fun x610=>
       (Xat k rows places row5 text).bind fun xg17=>
       cond (x610==xg17)
        (
        (Xae.v6 x63.2).bind fun x611=>
        (Xaw row5).bind fun t35=>
        cond (x611==t35)
         (
         (Xab.v6 x63.2 i text).bind fun x612=>
         cond (x612==(-1))
          (
          (Xam).bind fun a21=>
          some (.inr (a21)))
          (
          some (.inr (false))))
         (
         some (.inr (false))))
        (
        some (.inr (false))))))
  | _=>none)
def XbQ (Xat:XaY) (XaI:Xa6) (Xas:XaV) (Xaw:XaZ) (Xam:XaS) (Xao:XaT) (Xah:XaG) (Xad:XaC) (Xab:Xaj) (Xaf:XaE) (Xae:XaB) (rows:Int) (places:Int) (k:Xau) (l:List Xay) (m:List Xay) (text:List UInt8) (i:Int) (n29:Xan) (xj10:Int) (s15:Int) (s16:Int) (s17:Int) (c60:Nat) (c61:Nat) (c62:Nat) (c63:Nat) (c64:Nat) (c65:Nat) (c66:List Int) (c67:List Int) (c68:List Int) (c69:List Int) (c70:List Int) (c71:List Int):Option (Sum (Int×Int×Int×Int×Nat×Nat×Nat×Nat×Nat×Nat×(List Int)×(List Int)×(List Int)×(List Int)×(List Int)×(List Int)) Bool):=
 cond (decide (xj10<(l.length:Int)))
  (
  XaQ (decide ((0:Int)≤xj10∧xj10<(l.length:Int))) <|
  (l[xj10.toNat]?).bind fun (e10:Xay)=>
  XaQ (decide ((0:Int)≤xj10∧xj10<(l.length:Int))) <|
  (Xaf.v6 (Xan.mk (Xau.mk s15 s16) (Xb8.mk c66 c67 c68 c69 c70 c71 c60 c61 c62 c63 c64 c65) s17) e10.Text e10.N).bind fun x6=>
  XaQ (decide ((0:Int)≤xj10∧xj10<(l.length:Int))) <|
  (XaI e10).bind fun m6=>
  cond (!(x6.1==m6))
   (
   some (.inr (false)))
   (
   some (.inl (wI .i64 (xj10+1),x6.2.key.A,x6.2.key.B,x6.2.total,x6.2.rows.m0,x6.2.rows.m1,x6.2.rows.m2,x6.2.rows.m3,x6.2.rows.m4,x6.2.rows.m5,x6.2.rows.e0,x6.2.rows.e1,x6.2.rows.e2,x6.2.rows.e3,x6.2.rows.e4,x6.2.rows.e5))))
  (
  (iter (fun st=>XbS Xat Xas Xaw Xam Xao Xah Xad Xab Xaf Xae rows places k l m text i s15 s16 s17 c60 c61 c62 c63 c64 c65 c66 c67 c68 c69 c70 c71 st.1 st.2.1 st.2.2.1 st.2.2.2.1 st.2.2.2.2.1 st.2.2.2.2.2.1 st.2.2.2.2.2.2.1 st.2.2.2.2.2.2.2.1 st.2.2.2.2.2.2.2.2.1 st.2.2.2.2.2.2.2.2.2.1 st.2.2.2.2.2.2.2.2.2.2.1 st.2.2.2.2.2.2.2.2.2.2.2.1 st.2.2.2.2.2.2.2.2.2.2.2.2.1 st.2.2.2.2.2.2.2.2.2.2.2.2.2.1 st.2.2.2.2.2.2.2.2.2.2.2.2.2.2.1 st.2.2.2.2.2.2.2.2.2.2.2.2.2.2.2) FUEL (0,n29.key.A,n29.key.B,n29.total,n29.rows.m0,n29.rows.m1,n29.rows.m2,n29.rows.m3,n29.rows.m4,n29.rows.m5,n29.rows.e0,n29.rows.e1,n29.rows.e2,n29.rows.e3,n29.rows.e4,n29.rows.e5)).bind fun o=>some (.inr (o)))
def XbN (Xat:XaY) (Xas:XaV) (Xaw:XaZ) (Xam:XaS) (Xao:XaT) (Xah:XaG) (Xad:XaC) (Xab:Xaj) (Xaf:XaE) (Xae:XaB) (rows:Int) (places:Int) (k:Xau) (l:List Xay) (m:List Xay) (text:List UInt8) (i:Int) (s18:Int) (s19:Int) (s20:Int) (c84:Nat) (c85:Nat) (c86:Nat) (c87:Nat) (c88:Nat) (c89:Nat) (c90:Nat) (c91:List Int) (c92:List Int) (c93:List Int) (c94:List Int) (c95:List Int) (c96:List Int) (c97:List Int) (xj13:Int) (t36:Int) (t37:Int) (t38:Int) (c98:Nat) (c99:Nat) (c100:Nat) (c101:Nat) (c102:Nat) (c103:Nat) (c104:Nat) (c105:List Int) (c106:List Int) (c107:List Int) (c108:List Int) (c109:List Int) (c110:List Int) (c111:List Int):Option (Sum (Int×Int×Int×Int×Nat×Nat×Nat×Nat×Nat×Nat×Nat×(List Int)×(List Int)×(List Int)×(List Int)×(List Int)×(List Int)×(List Int)) Bool):=
 cond (decide (xj13<(m.length:Int)))
  (
  XaQ (decide ((0:Int)≤xj13∧xj13<(m.length:Int))) <|
  (m[xj13.toNat]?).bind fun (e13:Xay)=>
  XaQ (decide ((0:Int)≤xj13∧xj13<(m.length:Int))) <|
  (Xaf.v7 (Xal.mk (Xau.mk t36 t37) (XbV.mk c105 c106 c107 c108 c109 c110 c111 c98 c99 c100 c101 c102 c103 c104) t38) e13.Text e13.N).bind fun x71=>
  some (.inl (wI .i64 (xj13+1),x71.2.key.A,x71.2.key.B,x71.2.total,x71.2.rows.m0,x71.2.rows.m1,x71.2.rows.m2,x71.2.rows.m3,x71.2.rows.m4,x71.2.rows.m5,x71.2.rows.m6,x71.2.rows.e0,x71.2.rows.e1,x71.2.rows.e2,x71.2.rows.e3,x71.2.rows.e4,x71.2.rows.e5,x71.2.rows.e6)))
  (
  (Xao rows places (Xau.mk k.A (wI .u64 (k.B+1)))).bind fun n35=>
  match n35 with
  | .v7 n36=>
    (Xah.v77 (Xal.mk (Xau.mk s18 s19) (XbV.mk c91 c92 c93 c94 c95 c96 c97 c84 c85 c86 c87 c88 c89 c90) s20) (Xal.mk (Xau.mk t36 t37) (XbV.mk c105 c106 c107 c108 c109 c110 c111 c98 c99 c100 c101 c102 c103 c104) t38)).bind fun x72=>
    cond (!x72.1)
     (
     some (.inr (false)))
     (
     (Xah.v77 x72.2 n36).bind fun x73=>
     cond (x73.1)
      (
      some (.inr (false)))
      (
      XaQ (decide (l.length*24≤2^47)) <|
      XaQ (decide ((l.length+m.length)*24≤2^47)) <|
      let row6:=l++m
      cond (decide (i≥0))
       (
       cond (decide (i<rows))
        (
        (Xas k i places text).bind fun p6=>
        (Xad.v7 x73.2 text).bind fun x74=>
        (Xat k rows places row6 text).bind fun xg18=>
        cond (x74==xg18)
         (
         (Xae.v7 x73.2).bind fun x75=>
         (Xaw row6).bind fun t39=>
         cond (x75==t39)
          (
          (Xab.v7 x73.2 i text).bind fun x76=>
          cond (x76==p6)
           (
           (Xam).bind fun a22=>
           some (.inr (a22)))
           (
           some (.inr (false))))
          (
          some (.inr (false))))
         (
         some (.inr (false))))
        (
        (Xad.v7 x73.2 text).bind fun x77=>
        (Xat k rows places row6 text).bind fun xg19=>
        cond (x77==xg19)
         (
         (Xae.v7 x73.2).bind fun x78=>
         (Xaw row6).bind fun t40=>
         cond (x78==t40)
          (
          (Xab.v7 x73.2 i text).bind fun x79=>
          cond (x79==(-1))
           (
           (Xam).bind fun a23=>
           some (.inr (a23)))
           (
           some (.inr (false))))
          (
          some (.inr (false))))
         (
         some (.inr (false)))))
       (
       (Xad.v7 x73.2 text).bind fun x710=>
       (Xat k rows places row6 text).bind fun xg20=>
       cond (x710==xg20)
        (
        (Xae.v7 x73.2).bind fun x711=>
        (Xaw row6).bind fun t41=>
        cond (x711==t41)
         (
         (Xab.v7 x73.2 i text).bind fun x712=>
         cond (x712==(-1))
          (
          (Xam).bind fun a24=>
          some (.inr (a24)))
          (
          some (.inr (false))))
         (
         some (.inr (false))))
        (
        some (.inr (false))))))
  | _=>none)
def XbU (Xat:XaY) (XaI:Xa6) (Xas:XaV) (Xaw:XaZ) (Xam:XaS) (Xao:XaT) (Xah:XaG) (Xad:XaC) (Xab:Xaj) (Xaf:XaE) (Xae:XaB) (rows:Int) (places:Int) (k:Xau) (l:List Xay) (m:List Xay) (text:List UInt8) (i:Int) (n34:Xal) (xj12:Int) (s18:Int) (s19:Int) (s20:Int) (c84:Nat) (c85:Nat) (c86:Nat) (c87:Nat) (c88:Nat) (c89:Nat) (c90:Nat) (c91:List Int) (c92:List Int) (c93:List Int) (c94:List Int) (c95:List Int) (c96:List Int) (c97:List Int):Option (Sum (Int×Int×Int×Int×Nat×Nat×Nat×Nat×Nat×Nat×Nat×(List Int)×(List Int)×(List Int)×(List Int)×(List Int)×(List Int)×(List Int)) Bool):=
 cond (decide (xj12<(l.length:Int)))
  (
  XaQ (decide ((0:Int)≤xj12∧xj12<(l.length:Int))) <|
  (l[xj12.toNat]?).bind fun (e12:Xay)=>
  XaQ (decide ((0:Int)≤xj12∧xj12<(l.length:Int))) <|
  (Xaf.v7 (Xal.mk (Xau.mk s18 s19) (XbV.mk c91 c92 c93 c94 c95 c96 c97 c84 c85 c86 c87 c88 c89 c90) s20) e12.Text e12.N).bind fun x7=>
  XaQ (decide ((0:Int)≤xj12∧xj12<(l.length:Int))) <|
  (XaI e12).bind fun m7=>
  cond (!(x7.1==m7))
   (
   some (.inr (false)))
   (
   some (.inl (wI .i64 (xj12+1),x7.2.key.A,x7.2.key.B,x7.2.total,x7.2.rows.m0,x7.2.rows.m1,x7.2.rows.m2,x7.2.rows.m3,x7.2.rows.m4,x7.2.rows.m5,x7.2.rows.m6,x7.2.rows.e0,x7.2.rows.e1,x7.2.rows.e2,x7.2.rows.e3,x7.2.rows.e4,x7.2.rows.e5,x7.2.rows.e6))))
  (
  (iter (fun st=>XbN Xat Xas Xaw Xam Xao Xah Xad Xab Xaf Xae rows places k l m text i s18 s19 s20 c84 c85 c86 c87 c88 c89 c90 c91 c92 c93 c94 c95 c96 c97 st.1 st.2.1 st.2.2.1 st.2.2.2.1 st.2.2.2.2.1 st.2.2.2.2.2.1 st.2.2.2.2.2.2.1 st.2.2.2.2.2.2.2.1 st.2.2.2.2.2.2.2.2.1 st.2.2.2.2.2.2.2.2.2.1 st.2.2.2.2.2.2.2.2.2.2.1 st.2.2.2.2.2.2.2.2.2.2.2.1 st.2.2.2.2.2.2.2.2.2.2.2.2.1 st.2.2.2.2.2.2.2.2.2.2.2.2.2.1 st.2.2.2.2.2.2.2.2.2.2.2.2.2.2.1 st.2.2.2.2.2.2.2.2.2.2.2.2.2.2.2.1 st.2.2.2.2.2.2.2.2.2.2.2.2.2.2.2.2.1 st.2.2.2.2.2.2.2.2.2.2.2.2.2.2.2.2.2) FUEL (0,n34.key.A,n34.key.B,n34.total,n34.rows.m0,n34.rows.m1,n34.rows.m2,n34.rows.m3,n34.rows.m4,n34.rows.m5,n34.rows.m6,n34.rows.e0,n34.rows.e1,n34.rows.e2,n34.rows.e3,n34.rows.e4,n34.rows.e5,n34.rows.e6)).bind fun o=>some (.inr (o)))
def XbO (Xat:XaY) (Xas:XaV) (Xaw:XaZ) (Xam:XaS) (Xao:XaT) (Xah:XaG) (Xad:XaC) (Xab:Xaj) (Xaf:XaE) (Xae:XaB) (rows:Int) (places:Int) (k:Xau) (l:List Xay) (m:List Xay) (text:List UInt8) (i:Int) (s21:Int) (s22:Int) (s23:Int) (c112:Nat) (c113:Nat) (c114:Nat) (c115:Nat) (c116:Nat) (c117:Nat) (c118:Nat) (c119:Nat) (c120:List Int) (c121:List Int) (c122:List Int) (c123:List Int) (c124:List Int) (c125:List Int) (c126:List Int) (c127:List Int) (xj15:Int) (t42:Int) (t43:Int) (t44:Int) (c128:Nat) (c129:Nat) (c130:Nat) (c131:Nat) (c132:Nat) (c133:Nat) (c134:Nat) (c135:Nat) (c136:List Int) (c137:List Int) (c138:List Int) (c139:List Int) (c140:List Int) (c141:List Int) (c142:List Int) (c143:List Int):Option (Sum (Int×Int×Int×Int×Nat×Nat×Nat×Nat×Nat×Nat×Nat×Nat×(List Int)×(List Int)×(List Int)×(List Int)×(List Int)×(List Int)×(List Int)×(List Int)) Bool):=
 cond (decide (xj15<(m.length:Int)))
  (
  XaQ (decide ((0:Int)≤xj15∧xj15<(m.length:Int))) <|
  (m[xj15.toNat]?).bind fun (e15:Xay)=>
  XaQ (decide ((0:Int)≤xj15∧xj15<(m.length:Int))) <|
  (Xaf.v8 (Xak.mk (Xau.mk t42 t43) (XbC.mk c136 c137 c138 c139 c140 c141 c142 c143 c128 c129 c130 c131 c132 c133 c134 c135) t44) e15.Text e15.N).bind fun x81=>
  some (.inl (wI .i64 (xj15+1),x81.2.key.A,x81.2.key.B,x81.2.total,x81.2.rows.m0,x81.2.rows.m1,x81.2.rows.m2,x81.2.rows.m3,x81.2.rows.m4,x81.2.rows.m5,x81.2.rows.m6,x81.2.rows.m7,x81.2.rows.e0,x81.2.rows.e1,x81.2.rows.e2,x81.2.rows.e3,x81.2.rows.e4,x81.2.rows.e5,x81.2.rows.e6,x81.2.rows.e7)))
  (
  (Xao rows places (Xau.mk k.A (wI .u64 (k.B+1)))).bind fun n40=>
  match n40 with
  | .v8 n41=>
    (Xah.v88 (Xak.mk (Xau.mk s21 s22) (XbC.mk c120 c121 c122 c123 c124 c125 c126 c127 c112 c113 c114 c115 c116 c117 c118 c119) s23) (Xak.mk (Xau.mk t42 t43) (XbC.mk c136 c137 c138 c139 c140 c141 c142 c143 c128 c129 c130 c131 c132 c133 c134 c135) t44)).bind fun x82=>
    cond (!x82.1)
     (
     some (.inr (false)))
     (
     (Xah.v88 x82.2 n41).bind fun x83=>
     cond (x83.1)
      (
      some (.inr (false)))
      (
      XaQ (decide (l.length*24≤2^47)) <|
      XaQ (decide ((l.length+m.length)*24≤2^47)) <|
      let row7:=l++m
      cond (decide (i≥0))
       (
       cond (decide (i<rows))
        (
        (Xas k i places text).bind fun p7=>
        (Xad.v8 x83.2 text).bind fun x84=>
        (Xat k rows places row7 text).bind fun xg21=>
        cond (x84==xg21)
         (
         (Xae.v8 x83.2).bind fun x85=>
         (Xaw row7).bind fun t45=>
         cond (x85==t45)
          (
          (Xab.v8 x83.2 i text).bind fun x86=>
          cond (x86==p7)
           (
           (Xam).bind fun a25=>
           some (.inr (a25)))
           (
           some (.inr (false))))
          (
          some (.inr (false))))
         (
         some (.inr (false))))
        (
        (Xad.v8 x83.2 text).bind fun x87=>
        (Xat k rows places row7 text).bind fun xg22=>
        cond (x87==xg22)
         (
         (Xae.v8 x83.2).bind fun x88=>
         (Xaw row7).bind fun t46=>
         cond (x88==t46)
          (
          (Xab.v8 x83.2 i text).bind fun x89=>
          cond (x89==(-1))
           (
           (Xam).bind fun a26=>
           some (.inr (a26)))
           (
           some (.inr (false))))
          (
          some (.inr (false))))
         (
         some (.inr (false)))))
       (
       (Xad.v8 x83.2 text).bind fun x810=>
       (Xat k rows places row7 text).bind fun xg23=>
       cond (x810==xg23)
        (
        (Xae.v8 x83.2).bind fun x811=>
        (Xaw row7).bind fun t47=>
        cond (x811==t47)
         (
         (Xab.v8 x83.2 i text).bind fun x812=>
         cond (x812==(-1))
          (
          (Xam).bind fun a27=>
          some (.inr (a27)))
          (
          some (.inr (false))))
         (
         some (.inr (false))))
        (
        some (.inr (false))))))
  | _=>none)
def XbR (Xat:XaY) (XaI:Xa6) (Xas:XaV) (Xaw:XaZ) (Xam:XaS) (Xao:XaT) (Xah:XaG) (Xad:XaC) (Xab:Xaj) (Xaf:XaE) (Xae:XaB) (rows:Int) (places:Int) (k:Xau) (l:List Xay) (m:List Xay) (text:List UInt8) (i:Int) (n39:Xak) (xj14:Int) (s21:Int) (s22:Int) (s23:Int) (c112:Nat) (c113:Nat) (c114:Nat) (c115:Nat) (c116:Nat) (c117:Nat) (c118:Nat) (c119:Nat) (c120:List Int) (c121:List Int) (c122:List Int) (c123:List Int) (c124:List Int) (c125:List Int) (c126:List Int) (c127:List Int):Option (Sum (Int×Int×Int×Int×Nat×Nat×Nat×Nat×Nat×Nat×Nat×Nat×(List Int)×(List Int)×(List Int)×(List Int)×(List Int)×(List Int)×(List Int)×(List Int)) Bool):=
 cond (decide (xj14<(l.length:Int)))
  (
  XaQ (decide ((0:Int)≤xj14∧xj14<(l.length:Int))) <|
  (l[xj14.toNat]?).bind fun (e14:Xay)=>
  XaQ (decide ((0:Int)≤xj14∧xj14<(l.length:Int))) <|
  (Xaf.v8 (Xak.mk (Xau.mk s21 s22) (XbC.mk c120 c121 c122 c123 c124 c125 c126 c127 c112 c113 c114 c115 c116 c117 c118 c119) s23) e14.Text e14.N).bind fun x8=>
  XaQ (decide ((0:Int)≤xj14∧xj14<(l.length:Int))) <|
  (XaI e14).bind fun m8=>
  cond (!(x8.1==m8))
   (
   some (.inr (false)))
   (
   some (.inl (wI .i64 (xj14+1),x8.2.key.A,x8.2.key.B,x8.2.total,x8.2.rows.m0,x8.2.rows.m1,x8.2.rows.m2,x8.2.rows.m3,x8.2.rows.m4,x8.2.rows.m5,x8.2.rows.m6,x8.2.rows.m7,x8.2.rows.e0,x8.2.rows.e1,x8.2.rows.e2,x8.2.rows.e3,x8.2.rows.e4,x8.2.rows.e5,x8.2.rows.e6,x8.2.rows.e7))))
  (
  (iter (fun st=>XbO Xat Xas Xaw Xam Xao Xah Xad Xab Xaf Xae rows places k l m text i s21 s22 s23 c112 c113 c114 c115 c116 c117 c118 c119 c120 c121 c122 c123 c124 c125 c126 c127 st.1 st.2.1 st.2.2.1 st.2.2.2.1 st.2.2.2.2.1 st.2.2.2.2.2.1 st.2.2.2.2.2.2.1 st.2.2.2.2.2.2.2.1 st.2.2.2.2.2.2.2.2.1 st.2.2.2.2.2.2.2.2.2.1 st.2.2.2.2.2.2.2.2.2.2.1 st.2.2.2.2.2.2.2.2.2.2.2.1 st.2.2.2.2.2.2.2.2.2.2.2.2.1 st.2.2.2.2.2.2.2.2.2.2.2.2.2.1 st.2.2.2.2.2.2.2.2.2.2.2.2.2.2.1 st.2.2.2.2.2.2.2.2.2.2.2.2.2.2.2.1 st.2.2.2.2.2.2.2.2.2.2.2.2.2.2.2.2.1 st.2.2.2.2.2.2.2.2.2.2.2.2.2.2.2.2.2.1 st.2.2.2.2.2.2.2.2.2.2.2.2.2.2.2.2.2.2.1 st.2.2.2.2.2.2.2.2.2.2.2.2.2.2.2.2.2.2.2) FUEL (0,n39.key.A,n39.key.B,n39.total,n39.rows.m0,n39.rows.m1,n39.rows.m2,n39.rows.m3,n39.rows.m4,n39.rows.m5,n39.rows.m6,n39.rows.m7,n39.rows.e0,n39.rows.e1,n39.rows.e2,n39.rows.e3,n39.rows.e4,n39.rows.e5,n39.rows.e6,n39.rows.e7)).bind fun o=>some (.inr (o)))
def Xfp (Xat:XaY) (XaI:Xa6) (Xas:XaV) (XaX:Xbo) (Xaw:XaZ) (Xam:XaS) (Xa0:Xbp) (Xao:XaT) (Xah:XaG) (Xad:XaC) (Xab:Xaj) (Xaf:XaE) (Xae:XaB) (rows:Int) (places:Int) (k:Xau) (l:List Xay) (m:List Xay) (text:List UInt8) (i:Int):Option Bool:=
 (Xa0 l).bind fun f=>
 cond (!f)
  (
  (Xam).bind fun a=>
  some (a))
  (
  (Xa0 m).bind fun f1=>
  cond (!f1)
   (
   (Xam).bind fun a1=>
   some (a1))
   (
   cond (decide ((text.length:Int)>20))
    (
    (Xam).bind fun a2=>
    some (a2))
    (
    (Xao rows places k).bind fun n=>
    match n with
    | .nil=>
      (Xao rows places k).bind fun n1=>
      match n1 with
      | .nil=>
        (XaX rows places).bind fun xr=>
        cond (true==xr)
         (
         some (false))
         (
         (Xam).bind fun a3=>
         some (a3))
      | _=>none
    | .v1 n2=>
      (Xao rows places k).bind fun n3=>
      match n3 with
      | .v1 n4=>
        (XaX rows places).bind fun xr1=>
        cond (false==xr1)
         (
         some (false))
         (
         iter (fun st=>Xb0 Xat XaI Xas Xaw Xam Xao Xah Xad Xab Xaf Xae rows places k l m text i n4 st.1 st.2.1 st.2.2.1 st.2.2.2.1 st.2.2.2.2.1 st.2.2.2.2.2) FUEL (0,n2.key.A,n2.key.B,n2.total,n2.rows.m0,n2.rows.e0))
      | _=>none
    | .v2 n7=>
      (Xao rows places k).bind fun n8=>
      match n8 with
      | .v2 n9=>
        (XaX rows places).bind fun xr2=>
        cond (false==xr2)
         (
         some (false))
         (
         iter (fun st=>XbY Xat XaI Xas Xaw Xam Xao Xah Xad Xab Xaf Xae rows places k l m text i n9 st.1 st.2.1 st.2.2.1 st.2.2.2.1 st.2.2.2.2.1 st.2.2.2.2.2.1 st.2.2.2.2.2.2.1 st.2.2.2.2.2.2.2) FUEL (0,n7.key.A,n7.key.B,n7.total,n7.rows.m0,n7.rows.m1,n7.rows.e0,n7.rows.e1))
      | _=>none
    | .v3 n12=>
      (Xao rows places k).bind fun n13=>
      match n13 with
      | .v3 n14=>
        (XaX rows places).bind fun xr3=>
        cond (false==xr3)
         (
         some (false))
         (
         iter (fun st=>Xb1 Xat XaI Xas Xaw Xam Xao Xah Xad Xab Xaf Xae rows places k l m text i n14 st.1 st.2.1 st.2.2.1 st.2.2.2.1 st.2.2.2.2.1 st.2.2.2.2.2.1 st.2.2.2.2.2.2.1 st.2.2.2.2.2.2.2.1 st.2.2.2.2.2.2.2.2.1 st.2.2.2.2.2.2.2.2.2) FUEL (0,n12.key.A,n12.key.B,n12.total,n12.rows.m0,n12.rows.m1,n12.rows.m2,n12.rows.e0,n12.rows.e1,n12.rows.e2))
      | _=>none
    | .v4 n17=>
      (Xao rows places k).bind fun n18=>
      match n18 with
      | .v4 n19=>
        (XaX rows places).bind fun xr4=>
        cond (false==xr4)
         (
         some (false))
         (
         iter (fun st=>XbZ Xat XaI Xas Xaw Xam Xao Xah Xad Xab Xaf Xae rows places k l m text i n19 st.1 st.2.1 st.2.2.1 st.2.2.2.1 st.2.2.2.2.1 st.2.2.2.2.2.1 st.2.2.2.2.2.2.1 st.2.2.2.2.2.2.2.1 st.2.2.2.2.2.2.2.2.1 st.2.2.2.2.2.2.2.2.2.1 st.2.2.2.2.2.2.2.2.2.2.1 st.2.2.2.2.2.2.2.2.2.2.2) FUEL (0,n17.key.A,n17.key.B,n17.total,n17.rows.m0,n17.rows.m1,n17.rows.m2,n17.rows.m3,n17.rows.e0,n17.rows.e1,n17.rows.e2,n17.rows.e3))
      | _=>none
    | .v5 n22=>
      (Xao rows places k).bind fun n23=>
      match n23 with
      | .v5 n24=>
        (XaX rows places).bind fun xr5=>
        cond (false==xr5)
         (
         some (false))
         (
         iter (fun st=>XbT Xat XaI Xas Xaw Xam Xao Xah Xad Xab Xaf Xae rows places k l m text i n24 st.1 st.2.1 st.2.2.1 st.2.2.2.1 st.2.2.2.2.1 st.2.2.2.2.2.1 st.2.2.2.2.2.2.1 st.2.2.2.2.2.2.2.1 st.2.2.2.2.2.2.2.2.1 st.2.2.2.2.2.2.2.2.2.1 st.2.2.2.2.2.2.2.2.2.2.1 st.2.2.2.2.2.2.2.2.2.2.2.1 st.2.2.2.2.2.2.2.2.2.2.2.2.1 st.2.2.2.2.2.2.2.2.2.2.2.2.2) FUEL (0,n22.key.A,n22.key.B,n22.total,n22.rows.m0,n22.rows.m1,n22.rows.m2,n22.rows.m3,n22.rows.m4,n22.rows.e0,n22.rows.e1,n22.rows.e2,n22.rows.e3,n22.rows.e4))
      | _=>none
    | .v6 n27=>
      (Xao rows places k).bind fun n28=>
      match n28 with
      | .v6 n29=>
        (XaX rows places).bind fun xr6=>
        cond (false==xr6)
         (
         some (false))
         (
         iter (fun st=>XbQ Xat XaI Xas Xaw Xam Xao Xah Xad Xab Xaf Xae rows places k l m text i n29 st.1 st.2.1 st.2.2.1 st.2.2.2.1 st.2.2.2.2.1 st.2.2.2.2.2.1 st.2.2.2.2.2.2.1 st.2.2.2.2.2.2.2.1 st.2.2.2.2.2.2.2.2.1 st.2.2.2.2.2.2.2.2.2.1 st.2.2.2.2.2.2.2.2.2.2.1 st.2.2.2.2.2.2.2.2.2.2.2.1 st.2.2.2.2.2.2.2.2.2.2.2.2.1 st.2.2.2.2.2.2.2.2.2.2.2.2.2.1 st.2.2.2.2.2.2.2.2.2.2.2.2.2.2.1 st.2.2.2.2.2.2.2.2.2.2.2.2.2.2.2) FUEL (0,n27.key.A,n27.key.B,n27.total,n27.rows.m0,n27.rows.m1,n27.rows.m2,n27.rows.m3,n27.rows.m4,n27.rows.m5,n27.rows.e0,n27.rows.e1,n27.rows.e2,n27.rows.e3,n27.rows.e4,n27.rows.e5))
      | _=>none
    | .v7 n32=>
      (Xao rows places k).bind fun n33=>
      match n33 with
      | .v7 n34=>
        (XaX rows places).bind fun xr7=>
        cond (false==xr7)
         (
         some (false))
         (
         iter (fun st=>XbU Xat XaI Xas Xaw Xam Xao Xah Xad Xab Xaf Xae rows places k l m text i n34 st.1 st.2.1 st.2.2.1 st.2.2.2.1 st.2.2.2.2.1 st.2.2.2.2.2.1 st.2.2.2.2.2.2.1 st.2.2.2.2.2.2.2.1 st.2.2.2.2.2.2.2.2.1 st.2.2.2.2.2.2.2.2.2.1 st.2.2.2.2.2.2.2.2.2.2.1 st.2.2.2.2.2.2.2.2.2.2.2.1 st.2.2.2.2.2.2.2.2.2.2.2.2.1 st.2.2.2.2.2.2.2.2.2.2.2.2.2.1 st.2.2.2.2.2.2.2.2.2.2.2.2.2.2.1 st.2.2.2.2.2.2.2.2.2.2.2.2.2.2.2.1 st.2.2.2.2.2.2.2.2.2.2.2.2.2.2.2.2.1 st.2.2.2.2.2.2.2.2.2.2.2.2.2.2.2.2.2) FUEL (0,n32.key.A,n32.key.B,n32.total,n32.rows.m0,n32.rows.m1,n32.rows.m2,n32.rows.m3,n32.rows.m4,n32.rows.m5,n32.rows.m6,n32.rows.e0,n32.rows.e1,n32.rows.e2,n32.rows.e3,n32.rows.e4,n32.rows.e5,n32.rows.e6))
      | _=>none
    | .v8 n37=>
      (Xao rows places k).bind fun n38=>
      match n38 with
      | .v8 n39=>
        (XaX rows places).bind fun xr8=>
        cond (false==xr8)
         (
         some (false))
         (
         iter (fun st=>XbR Xat XaI Xas Xaw Xam Xao Xah Xad Xab Xaf Xae rows places k l m text i n39 st.1 st.2.1 st.2.2.1 st.2.2.2.1 st.2.2.2.2.1 st.2.2.2.2.2.1 st.2.2.2.2.2.2.1 st.2.2.2.2.2.2.2.1 st.2.2.2.2.2.2.2.2.1 st.2.2.2.2.2.2.2.2.2.1 st.2.2.2.2.2.2.2.2.2.2.1 st.2.2.2.2.2.2.2.2.2.2.2.1 st.2.2.2.2.2.2.2.2.2.2.2.2.1 st.2.2.2.2.2.2.2.2.2.2.2.2.2.1 st.2.2.2.2.2.2.2.2.2.2.2.2.2.2.1 st.2.2.2.2.2.2.2.2.2.2.2.2.2.2.2.1 st.2.2.2.2.2.2.2.2.2.2.2.2.2.2.2.2.1 st.2.2.2.2.2.2.2.2.2.2.2.2.2.2.2.2.2.1 st.2.2.2.2.2.2.2.2.2.2.2.2.2.2.2.2.2.2.1 st.2.2.2.2.2.2.2.2.2.2.2.2.2.2.2.2.2.2.2) FUEL (0,n37.key.A,n37.key.B,n37.total,n37.rows.m0,n37.rows.m1,n37.rows.m2,n37.rows.m3,n37.rows.m4,n37.rows.m5,n37.rows.m6,n37.rows.m7,n37.rows.e0,n37.rows.e1,n37.rows.e2,n37.rows.e3,n37.rows.e4,n37.rows.e5,n37.rows.e6,n37.rows.e7))
      | _=>none)))
def rx3 (x:Bool):Xdu:=⟨.bool x,[],[none,none]⟩
abbrev Xg5:=Int→Int→Xau→(List Xay)→(List Xay)→(List UInt8)→Int→Option Bool
def r3 (g:Xg5):Dec:=dV (asI .i64) fun (y0:Int)=>dV (asI .i64) fun (y1:Int)=>dV XhK fun (y2:Xau)=>dSl 0 2 (unR 2 Xig) fun (y3:List Xay)=>dSl 1 2 (unR 2 Xig) fun (y4:List Xay)=>dV asS fun (y5:List UInt8)=>dV (asI .i64) fun (y6:Int)=>XeC (ofG (g y0 y1 y2 y3 y4 y5 y6) rx3)
def s3 (g:Xg5):XcS:=⟨[.v,.v,.v,.sl 2,.sl 2,.v,.v],r3 g⟩
abbrev XkE (Xat:XaY) (XaI:Xa6) (Xas:XaV) (XaX:Xbo) (Xaw:XaZ) (Xam:XaS) (Xa0:Xbp) (Xao:XaT) (Xah:XaG) (Xad:XaC) (Xab:Xaj) (Xaf:XaE) (Xae:XaB):List (Nat×XcS):=[(17,s17 Xat),(13,s13 XaI),(15,s15 Xas),(11,s11 XaX),(19,s19 Xaw),(9,s9 Xam),(8,s8 Xa0),(10,s10 Xao),(14,s14 Xah),(16,s16 Xad),(20,s20 Xab),(12,s12 Xaf),(18,s18 Xae)]
def XGm (rows:Int) (places:Int) (k:Xau) (l:List Xay) (m:List Xay) (text:List UInt8) (i:Int) (s:Int) (s1:Int) (s2:Int) (c:Nat) (c1:List Int) (xj1:Int) (t:Int) (t1:Int) (t2:Int) (c2:Nat) (c3:List Int):VM:=
 ⟨⟨3,159,[(0,.int .i64 rows),(1,.int .i64 places),(3,.slice (some ⟨0,0,none⟩) l.length 2),(4,.slice (some ⟨1,0,none⟩) m.length 2),(5,.string ⟨⟨text⟩⟩),(6,.int .i64 i),(9,.pointer (some ⟨2,0,none⟩)),(15,.pointer (some ⟨6,0,none⟩)),(16,.pointer (some ⟨13,0,none⟩)),(18,.int .i64 xj1)],[.code XkU,.inLoop XkU,.inBlock 2,.code XpJ],[],false,none⟩,[],[(0,.row false (vT Xa5 l)),(1,.row false (vT Xa5 m)),(2,.cells [.int .u64 k.A,.int .u64 k.B]),(6,.row true [.int .u64 s,.int .u64 s1,.slice (some ⟨7,0,none⟩) 1 1,.int .i64 s2]),(7,.row true [.slice (some ⟨8,0,none⟩) c 1]),(8,.row true (vI .i64 c1)),(13,.row true [.int .u64 t,.int .u64 t1,.slice (some ⟨14,0,none⟩) 1 1,.int .i64 t2]),(14,.row true [.slice (some ⟨15,0,none⟩) c2 1]),(15,.row true (vI .i64 c3))],16⟩
def XyW (rows:Int) (places:Int) (k:Xau) (l:List Xay) (m:List Xay) (text:List UInt8) (i:Int) (n4:XaA) (xj:Int) (s:Int) (s1:Int) (s2:Int) (c:Nat) (c1:List Int):VM:=
 ⟨⟨3,159,[(0,.int .i64 rows),(1,.int .i64 places),(3,.slice (some ⟨0,0,none⟩) l.length 2),(4,.slice (some ⟨1,0,none⟩) m.length 2),(5,.string ⟨⟨text⟩⟩),(6,.int .i64 i),(9,.pointer (some ⟨2,0,none⟩)),(15,.pointer (some ⟨6,0,none⟩)),(16,.pointer (some ⟨13,0,none⟩)),(17,.int .i64 xj)],[.code Xke,.inLoop Xke,.inBlock 0,.code XpL],[],false,none⟩,[],[(0,.row false (vT Xa5 l)),(1,.row false (vT Xa5 m)),(2,.cells [.int .u64 k.A,.int .u64 k.B]),(6,.row true [.int .u64 s,.int .u64 s1,.slice (some ⟨7,0,none⟩) 1 1,.int .i64 s2]),(7,.row true [.slice (some ⟨8,0,none⟩) c 1]),(8,.row true (vI .i64 c1)),(13,.row true [.int .u64 n4.key.A,.int .u64 n4.key.B,.slice (some ⟨14,0,none⟩) 1 1,.int .i64 n4.total]),(14,.row true [.slice (some ⟨15,0,none⟩) n4.rows.m0 1]),(15,.row true (vI .i64 n4.rows.e0))],16⟩
def XFI (rows:Int) (places:Int) (k:Xau) (l:List Xay) (m:List Xay) (text:List UInt8) (i:Int) (s3:Int) (s4:Int) (s5:Int) (c4:Nat) (c5:Nat) (c6:List Int) (c7:List Int) (xj3:Int) (t6:Int) (t7:Int) (t8:Int) (c8:Nat) (c9:Nat) (c10:List Int) (c11:List Int):VM:=
 ⟨⟨3,159,[(0,.int .i64 rows),(1,.int .i64 places),(3,.slice (some ⟨0,0,none⟩) l.length 2),(4,.slice (some ⟨1,0,none⟩) m.length 2),(5,.string ⟨⟨text⟩⟩),(6,.int .i64 i),(9,.pointer (some ⟨2,0,none⟩)),(15,.pointer (some ⟨6,0,none⟩)),(16,.pointer (some ⟨14,0,none⟩)),(18,.int .i64 xj3)],[.code XkU,.inLoop XkU,.inBlock 2,.code XpJ],[],false,none⟩,[],[(0,.row false (vT Xa5 l)),(1,.row false (vT Xa5 m)),(2,.cells [.int .u64 k.A,.int .u64 k.B]),(6,.row true [.int .u64 s3,.int .u64 s4,.slice (some ⟨7,0,none⟩) 2 1,.int .i64 s5]),(7,.row true [.slice (some ⟨8,0,none⟩) c4 1,.slice (some ⟨9,0,none⟩) c5 1]),(8,.row true (vI .i64 c6)),(9,.row true (vI .i64 c7)),(14,.row true [.int .u64 t6,.int .u64 t7,.slice (some ⟨15,0,none⟩) 2 1,.int .i64 t8]),(15,.row true [.slice (some ⟨16,0,none⟩) c8 1,.slice (some ⟨17,0,none⟩) c9 1]),(16,.row true (vI .i64 c10)),(17,.row true (vI .i64 c11))],18⟩
def XyL (rows:Int) (places:Int) (k:Xau) (l:List Xay) (m:List Xay) (text:List UInt8) (i:Int) (n9:Xax) (xj2:Int) (s3:Int) (s4:Int) (s5:Int) (c4:Nat) (c5:Nat) (c6:List Int) (c7:List Int):VM:=
 ⟨⟨3,159,[(0,.int .i64 rows),(1,.int .i64 places),(3,.slice (some ⟨0,0,none⟩) l.length 2),(4,.slice (some ⟨1,0,none⟩) m.length 2),(5,.string ⟨⟨text⟩⟩),(6,.int .i64 i),(9,.pointer (some ⟨2,0,none⟩)),(15,.pointer (some ⟨6,0,none⟩)),(16,.pointer (some ⟨14,0,none⟩)),(17,.int .i64 xj2)],[.code Xke,.inLoop Xke,.inBlock 0,.code XpL],[],false,none⟩,[],[(0,.row false (vT Xa5 l)),(1,.row false (vT Xa5 m)),(2,.cells [.int .u64 k.A,.int .u64 k.B]),(6,.row true [.int .u64 s3,.int .u64 s4,.slice (some ⟨7,0,none⟩) 2 1,.int .i64 s5]),(7,.row true [.slice (some ⟨8,0,none⟩) c4 1,.slice (some ⟨9,0,none⟩) c5 1]),(8,.row true (vI .i64 c6)),(9,.row true (vI .i64 c7)),(14,.row true [.int .u64 n9.key.A,.int .u64 n9.key.B,.slice (some ⟨15,0,none⟩) 2 1,.int .i64 n9.total]),(15,.row true [.slice (some ⟨16,0,none⟩) n9.rows.m0 1,.slice (some ⟨17,0,none⟩) n9.rows.m1 1]),(16,.row true (vI .i64 n9.rows.e0)),(17,.row true (vI .i64 n9.rows.e1))],18⟩
def XEH (rows:Int) (places:Int) (k:Xau) (l:List Xay) (m:List Xay) (text:List UInt8) (i:Int) (s6:Int) (s7:Int) (s8:Int) (c12:Nat) (c13:Nat) (c14:Nat) (c15:List Int) (c16:List Int) (c17:List Int) (xj5:Int) (t12:Int) (t13:Int) (t14:Int) (c18:Nat) (c19:Nat) (c20:Nat) (c21:List Int) (c22:List Int) (c23:List Int):VM:=
 ⟨⟨3,159,[(0,.int .i64 rows),(1,.int .i64 places),(3,.slice (some ⟨0,0,none⟩) l.length 2),(4,.slice (some ⟨1,0,none⟩) m.length 2),(5,.string ⟨⟨text⟩⟩),(6,.int .i64 i),(9,.pointer (some ⟨2,0,none⟩)),(15,.pointer (some ⟨6,0,none⟩)),(16,.pointer (some ⟨15,0,none⟩)),(18,.int .i64 xj5)],[.code XkU,.inLoop XkU,.inBlock 2,.code XpJ],[],false,none⟩,[],[(0,.row false (vT Xa5 l)),(1,.row false (vT Xa5 m)),(2,.cells [.int .u64 k.A,.int .u64 k.B]),(6,.row true [.int .u64 s6,.int .u64 s7,.slice (some ⟨7,0,none⟩) 3 1,.int .i64 s8]),(7,.row true [.slice (some ⟨8,0,none⟩) c12 1,.slice (some ⟨9,0,none⟩) c13 1,.slice (some ⟨10,0,none⟩) c14 1]),(8,.row true (vI .i64 c15)),(9,.row true (vI .i64 c16)),(10,.row true (vI .i64 c17)),(15,.row true [.int .u64 t12,.int .u64 t13,.slice (some ⟨16,0,none⟩) 3 1,.int .i64 t14]),(16,.row true [.slice (some ⟨17,0,none⟩) c18 1,.slice (some ⟨18,0,none⟩) c19 1,.slice (some ⟨19,0,none⟩) c20 1]),(17,.row true (vI .i64 c21)),(18,.row true (vI .i64 c22)),(19,.row true (vI .i64 c23))],20⟩
def Xw9 (rows:Int) (places:Int) (k:Xau) (l:List Xay) (m:List Xay) (text:List UInt8) (i:Int) (n14:Xav) (xj4:Int) (s6:Int) (s7:Int) (s8:Int) (c12:Nat) (c13:Nat) (c14:Nat) (c15:List Int) (c16:List Int) (c17:List Int):VM:=
 ⟨⟨3,159,[(0,.int .i64 rows),(1,.int .i64 places),(3,.slice (some ⟨0,0,none⟩) l.length 2),(4,.slice (some ⟨1,0,none⟩) m.length 2),(5,.string ⟨⟨text⟩⟩),(6,.int .i64 i),(9,.pointer (some ⟨2,0,none⟩)),(15,.pointer (some ⟨6,0,none⟩)),(16,.pointer (some ⟨15,0,none⟩)),(17,.int .i64 xj4)],[.code Xke,.inLoop Xke,.inBlock 0,.code XpL],[],false,none⟩,[],[(0,.row false (vT Xa5 l)),(1,.row false (vT Xa5 m)),(2,.cells [.int .u64 k.A,.int .u64 k.B]),(6,.row true [.int .u64 s6,.int .u64 s7,.slice (some ⟨7,0,none⟩) 3 1,.int .i64 s8]),(7,.row true [.slice (some ⟨8,0,none⟩) c12 1,.slice (some ⟨9,0,none⟩) c13 1,.slice (some ⟨10,0,none⟩) c14 1]),(8,.row true (vI .i64 c15)),(9,.row true (vI .i64 c16)),(10,.row true (vI .i64 c17)),(15,.row true [.int .u64 n14.key.A,.int .u64 n14.key.B,.slice (some ⟨16,0,none⟩) 3 1,.int .i64 n14.total]),(16,.row true [.slice (some ⟨17,0,none⟩) n14.rows.m0 1,.slice (some ⟨18,0,none⟩) n14.rows.m1 1,.slice (some ⟨19,0,none⟩) n14.rows.m2 1]),(17,.row true (vI .i64 n14.rows.e0)),(18,.row true (vI .i64 n14.rows.e1)),(19,.row true (vI .i64 n14.rows.e2))],20⟩
def XGe (rows:Int) (places:Int) (k:Xau) (l:List Xay) (m:List Xay) (text:List UInt8) (i:Int) (s9:Int) (s10:Int) (s11:Int) (c24:Nat) (c25:Nat) (c26:Nat) (c27:Nat) (c28:List Int) (c29:List Int) (c30:List Int) (c31:List Int) (xj7:Int) (t18:Int) (t19:Int) (t20:Int) (c32:Nat) (c33:Nat) (c34:Nat) (c35:Nat) (c36:List Int) (c37:List Int) (c38:List Int) (c39:List Int):VM:=
 ⟨⟨3,159,[(0,.int .i64 rows),(1,.int .i64 places),(3,.slice (some ⟨0,0,none⟩) l.length 2),(4,.slice (some ⟨1,0,none⟩) m.length 2),(5,.string ⟨⟨text⟩⟩),(6,.int .i64 i),(9,.pointer (some ⟨2,0,none⟩)),(15,.pointer (some ⟨6,0,none⟩)),(16,.pointer (some ⟨16,0,none⟩)),(18,.int .i64 xj7)],[.code XkU,.inLoop XkU,.inBlock 2,.code XpJ],[],false,none⟩,[],[(0,.row false (vT Xa5 l)),(1,.row false (vT Xa5 m)),(2,.cells [.int .u64 k.A,.int .u64 k.B]),(6,.row true [.int .u64 s9,.int .u64 s10,.slice (some ⟨7,0,none⟩) 4 1,.int .i64 s11]),(7,.row true [.slice (some ⟨8,0,none⟩) c24 1,.slice (some ⟨9,0,none⟩) c25 1,.slice (some ⟨10,0,none⟩) c26 1,.slice (some ⟨11,0,none⟩) c27 1]),(8,.row true (vI .i64 c28)),(9,.row true (vI .i64 c29)),(10,.row true (vI .i64 c30)),(11,.row true (vI .i64 c31)),(16,.row true [.int .u64 t18,.int .u64 t19,.slice (some ⟨17,0,none⟩) 4 1,.int .i64 t20]),(17,.row true [.slice (some ⟨18,0,none⟩) c32 1,.slice (some ⟨19,0,none⟩) c33 1,.slice (some ⟨20,0,none⟩) c34 1,.slice (some ⟨21,0,none⟩) c35 1]),(18,.row true (vI .i64 c36)),(19,.row true (vI .i64 c37)),(20,.row true (vI .i64 c38)),(21,.row true (vI .i64 c39))],22⟩
def XyS (rows:Int) (places:Int) (k:Xau) (l:List Xay) (m:List Xay) (text:List UInt8) (i:Int) (n19:Xar) (xj6:Int) (s9:Int) (s10:Int) (s11:Int) (c24:Nat) (c25:Nat) (c26:Nat) (c27:Nat) (c28:List Int) (c29:List Int) (c30:List Int) (c31:List Int):VM:=
 ⟨⟨3,159,[(0,.int .i64 rows),(1,.int .i64 places),(3,.slice (some ⟨0,0,none⟩) l.length 2),(4,.slice (some ⟨1,0,none⟩) m.length 2),(5,.string ⟨⟨text⟩⟩),(6,.int .i64 i),(9,.pointer (some ⟨2,0,none⟩)),(15,.pointer (some ⟨6,0,none⟩)),(16,.pointer (some ⟨16,0,none⟩)),(17,.int .i64 xj6)],[.code Xke,.inLoop Xke,.inBlock 0,.code XpL],[],false,none⟩,[],[(0,.row false (vT Xa5 l)),(1,.row false (vT Xa5 m)),(2,.cells [.int .u64 k.A,.int .u64 k.B]),(6,.row true [.int .u64 s9,.int .u64 s10,.slice (some ⟨7,0,none⟩) 4 1,.int .i64 s11]),(7,.row true [.slice (some ⟨8,0,none⟩) c24 1,.slice (some ⟨9,0,none⟩) c25 1,.slice (some ⟨10,0,none⟩) c26 1,.slice (some ⟨11,0,none⟩) c27 1]),(8,.row true (vI .i64 c28)),(9,.row true (vI .i64 c29)),(10,.row true (vI .i64 c30)),(11,.row true (vI .i64 c31)),(16,.row true [.int .u64 n19.key.A,.int .u64 n19.key.B,.slice (some ⟨17,0,none⟩) 4 1,.int .i64 n19.total]),(17,.row true [.slice (some ⟨18,0,none⟩) n19.rows.m0 1,.slice (some ⟨19,0,none⟩) n19.rows.m1 1,.slice (some ⟨20,0,none⟩) n19.rows.m2 1,.slice (some ⟨21,0,none⟩) n19.rows.m3 1]),(18,.row true (vI .i64 n19.rows.e0)),(19,.row true (vI .i64 n19.rows.e1)),(20,.row true (vI .i64 n19.rows.e2)),(21,.row true (vI .i64 n19.rows.e3))],22⟩
def XE4 (rows:Int) (places:Int) (k:Xau) (l:List Xay) (m:List Xay) (text:List UInt8) (i:Int) (s12:Int) (s13:Int) (s14:Int) (c40:Nat) (c41:Nat) (c42:Nat) (c43:Nat) (c44:Nat) (c45:List Int) (c46:List Int) (c47:List Int) (c48:List Int) (c49:List Int) (xj9:Int) (t24:Int) (t25:Int) (t26:Int) (c50:Nat) (c51:Nat) (c52:Nat) (c53:Nat) (c54:Nat) (c55:List Int) (c56:List Int) (c57:List Int) (c58:List Int) (c59:List Int):VM:=
 ⟨⟨3,159,[(0,.int .i64 rows),(1,.int .i64 places),(3,.slice (some ⟨0,0,none⟩) l.length 2),(4,.slice (some ⟨1,0,none⟩) m.length 2),(5,.string ⟨⟨text⟩⟩),(6,.int .i64 i),(9,.pointer (some ⟨2,0,none⟩)),(15,.pointer (some ⟨6,0,none⟩)),(16,.pointer (some ⟨17,0,none⟩)),(18,.int .i64 xj9)],[.code XkU,.inLoop XkU,.inBlock 2,.code XpJ],[],false,none⟩,[],[(0,.row false (vT Xa5 l)),(1,.row false (vT Xa5 m)),(2,.cells [.int .u64 k.A,.int .u64 k.B]),(6,.row true [.int .u64 s12,.int .u64 s13,.slice (some ⟨7,0,none⟩) 5 1,.int .i64 s14]),(7,.row true [.slice (some ⟨8,0,none⟩) c40 1,.slice (some ⟨9,0,none⟩) c41 1,.slice (some ⟨10,0,none⟩) c42 1,.slice (some ⟨11,0,none⟩) c43 1,.slice (some ⟨12,0,none⟩) c44 1]),(8,.row true (vI .i64 c45)),(9,.row true (vI .i64 c46)),(10,.row true (vI .i64 c47)),(11,.row true (vI .i64 c48)),(12,.row true (vI .i64 c49)),(17,.row true [.int .u64 t24,.int .u64 t25,.slice (some ⟨18,0,none⟩) 5 1,.int .i64 t26]),(18,.row true [.slice (some ⟨19,0,none⟩) c50 1,.slice (some ⟨20,0,none⟩) c51 1,.slice (some ⟨21,0,none⟩) c52 1,.slice (some ⟨22,0,none⟩) c53 1,.slice (some ⟨23,0,none⟩) c54 1]),(19,.row true (vI .i64 c55)),(20,.row true (vI .i64 c56)),(21,.row true (vI .i64 c57)),(22,.row true (vI .i64 c58)),(23,.row true (vI .i64 c59))],24⟩
def XuP (rows:Int) (places:Int) (k:Xau) (l:List Xay) (m:List Xay) (text:List UInt8) (i:Int) (n24:Xap) (xj8:Int) (s12:Int) (s13:Int) (s14:Int) (c40:Nat) (c41:Nat) (c42:Nat) (c43:Nat) (c44:Nat) (c45:List Int) (c46:List Int) (c47:List Int) (c48:List Int) (c49:List Int):VM:=
 ⟨⟨3,159,[(0,.int .i64 rows),(1,.int .i64 places),(3,.slice (some ⟨0,0,none⟩) l.length 2),(4,.slice (some ⟨1,0,none⟩) m.length 2),(5,.string ⟨⟨text⟩⟩),(6,.int .i64 i),(9,.pointer (some ⟨2,0,none⟩)),(15,.pointer (some ⟨6,0,none⟩)),(16,.pointer (some ⟨17,0,none⟩)),(17,.int .i64 xj8)],[.code Xke,.inLoop Xke,.inBlock 0,.code XpL],[],false,none⟩,[],[(0,.row false (vT Xa5 l)),(1,.row false (vT Xa5 m)),(2,.cells [.int .u64 k.A,.int .u64 k.B]),(6,.row true [.int .u64 s12,.int .u64 s13,.slice (some ⟨7,0,none⟩) 5 1,.int .i64 s14]),(7,.row true [.slice (some ⟨8,0,none⟩) c40 1,.slice (some ⟨9,0,none⟩) c41 1,.slice (some ⟨10,0,none⟩) c42 1,.slice (some ⟨11,0,none⟩) c43 1,.slice (some ⟨12,0,none⟩) c44 1]),(8,.row true (vI .i64 c45)),(9,.row true (vI .i64 c46)),(10,.row true (vI .i64 c47)),(11,.row true (vI .i64 c48)),(12,.row true (vI .i64 c49)),(17,.row true [.int .u64 n24.key.A,.int .u64 n24.key.B,.slice (some ⟨18,0,none⟩) 5 1,.int .i64 n24.total]),(18,.row true [.slice (some ⟨19,0,none⟩) n24.rows.m0 1,.slice (some ⟨20,0,none⟩) n24.rows.m1 1,.slice (some ⟨21,0,none⟩) n24.rows.m2 1,.slice (some ⟨22,0,none⟩) n24.rows.m3 1,.slice (some ⟨23,0,none⟩) n24.rows.m4 1]),(19,.row true (vI .i64 n24.rows.e0)),(20,.row true (vI .i64 n24.rows.e1)),(21,.row true (vI .i64 n24.rows.e2)),(22,.row true (vI .i64 n24.rows.e3)),(23,.row true (vI .i64 n24.rows.e4))],24⟩
def XBa (rows:Int) (places:Int) (k:Xau) (l:List Xay) (m:List Xay) (text:List UInt8) (i:Int) (s15:Int) (s16:Int) (s17:Int) (c60:Nat) (c61:Nat) (c62:Nat) (c63:Nat) (c64:Nat) (c65:Nat) (c66:List Int) (c67:List Int) (c68:List Int) (c69:List Int) (c70:List Int) (c71:List Int) (xj11:Int) (t30:Int) (t31:Int) (t32:Int) (c72:Nat) (c73:Nat) (c74:Nat) (c75:Nat) (c76:Nat) (c77:Nat) (c78:List Int) (c79:List Int) (c80:List Int) (c81:List Int) (c82:List Int) (c83:List Int):VM:=
 ⟨⟨3,159,[(0,.int .i64 rows),(1,.int .i64 places),(3,.slice (some ⟨0,0,none⟩) l.length 2),(4,.slice (some ⟨1,0,none⟩) m.length 2),(5,.string ⟨⟨text⟩⟩),(6,.int .i64 i),(9,.pointer (some ⟨2,0,none⟩)),(15,.pointer (some ⟨6,0,none⟩)),(16,.pointer (some ⟨18,0,none⟩)),(18,.int .i64 xj11)],[.code XkU,.inLoop XkU,.inBlock 2,.code XpJ],[],false,none⟩,[],[(0,.row false (vT Xa5 l)),(1,.row false (vT Xa5 m)),(2,.cells [.int .u64 k.A,.int .u64 k.B]),(6,.row true [.int .u64 s15,.int .u64 s16,.slice (some ⟨7,0,none⟩) 6 1,.int .i64 s17]),(7,.row true [.slice (some ⟨8,0,none⟩) c60 1,.slice (some ⟨9,0,none⟩) c61 1,.slice (some ⟨10,0,none⟩) c62 1,.slice (some ⟨11,0,none⟩) c63 1,.slice (some ⟨12,0,none⟩) c64 1,.slice (some ⟨13,0,none⟩) c65 1]),(8,.row true (vI .i64 c66)),(9,.row true (vI .i64 c67)),(10,.row true (vI .i64 c68)),(11,.row true (vI .i64 c69)),(12,.row true (vI .i64 c70)),(13,.row true (vI .i64 c71)),(18,.row true [.int .u64 t30,.int .u64 t31,.slice (some ⟨19,0,none⟩) 6 1,.int .i64 t32]),(19,.row true [.slice (some ⟨20,0,none⟩) c72 1,.slice (some ⟨21,0,none⟩) c73 1,.slice (some ⟨22,0,none⟩) c74 1,.slice (some ⟨23,0,none⟩) c75 1,.slice (some ⟨24,0,none⟩) c76 1,.slice (some ⟨25,0,none⟩) c77 1]),(20,.row true (vI .i64 c78)),(21,.row true (vI .i64 c79)),(22,.row true (vI .i64 c80)),(23,.row true (vI .i64 c81)),(24,.row true (vI .i64 c82)),(25,.row true (vI .i64 c83))],26⟩
def Xue (rows:Int) (places:Int) (k:Xau) (l:List Xay) (m:List Xay) (text:List UInt8) (i:Int) (n29:Xan) (xj10:Int) (s15:Int) (s16:Int) (s17:Int) (c60:Nat) (c61:Nat) (c62:Nat) (c63:Nat) (c64:Nat) (c65:Nat) (c66:List Int) (c67:List Int) (c68:List Int) (c69:List Int) (c70:List Int) (c71:List Int):VM:=
 ⟨⟨3,159,[(0,.int .i64 rows),(1,.int .i64 places),(3,.slice (some ⟨0,0,none⟩) l.length 2),(4,.slice (some ⟨1,0,none⟩) m.length 2),(5,.string ⟨⟨text⟩⟩),(6,.int .i64 i),(9,.pointer (some ⟨2,0,none⟩)),(15,.pointer (some ⟨6,0,none⟩)),(16,.pointer (some ⟨18,0,none⟩)),(17,.int .i64 xj10)],[.code Xke,.inLoop Xke,.inBlock 0,.code XpL],[],false,none⟩,[],[(0,.row false (vT Xa5 l)),(1,.row false (vT Xa5 m)),(2,.cells [.int .u64 k.A,.int .u64 k.B]),(6,.row true [.int .u64 s15,.int .u64 s16,.slice (some ⟨7,0,none⟩) 6 1,.int .i64 s17]),(7,.row true [.slice (some ⟨8,0,none⟩) c60 1,.slice (some ⟨9,0,none⟩) c61 1,.slice (some ⟨10,0,none⟩) c62 1,.slice (some ⟨11,0,none⟩) c63 1,.slice (some ⟨12,0,none⟩) c64 1,.slice (some ⟨13,0,none⟩) c65 1]),(8,.row true (vI .i64 c66)),(9,.row true (vI .i64 c67)),(10,.row true (vI .i64 c68)),(11,.row true (vI .i64 c69)),(12,.row true (vI .i64 c70)),(13,.row true (vI .i64 c71)),(18,.row true [.int .u64 n29.key.A,.int .u64 n29.key.B,.slice (some ⟨19,0,none⟩) 6 1,.int .i64 n29.total]),(19,.row true [.slice (some ⟨20,0,none⟩) n29.rows.m0 1,.slice (some ⟨21,0,none⟩) n29.rows.m1 1,.slice (some ⟨22,0,none⟩) n29.rows.m2 1,.slice (some ⟨23,0,none⟩) n29.rows.m3 1,.slice (some ⟨24,0,none⟩) n29.rows.m4 1,.slice (some ⟨25,0,none⟩) n29.rows.m5 1]),(20,.row true (vI .i64 n29.rows.e0)),(21,.row true (vI .i64 n29.rows.e1)),(22,.row true (vI .i64 n29.rows.e2)),(23,.row true (vI .i64 n29.rows.e3)),(24,.row true (vI .i64 n29.rows.e4)),(25,.row true (vI .i64 n29.rows.e5))],26⟩
def XB7 (rows:Int) (places:Int) (k:Xau) (l:List Xay) (m:List Xay) (text:List UInt8) (i:Int) (s18:Int) (s19:Int) (s20:Int) (c84:Nat) (c85:Nat) (c86:Nat) (c87:Nat) (c88:Nat) (c89:Nat) (c90:Nat) (c91:List Int) (c92:List Int) (c93:List Int) (c94:List Int) (c95:List Int) (c96:List Int) (c97:List Int) (xj13:Int) (t36:Int) (t37:Int) (t38:Int) (c98:Nat) (c99:Nat) (c100:Nat) (c101:Nat) (c102:Nat) (c103:Nat) (c104:Nat) (c105:List Int) (c106:List Int) (c107:List Int) (c108:List Int) (c109:List Int) (c110:List Int) (c111:List Int):VM:=
 ⟨⟨3,159,[(0,.int .i64 rows),(1,.int .i64 places),(3,.slice (some ⟨0,0,none⟩) l.length 2),(4,.slice (some ⟨1,0,none⟩) m.length 2),(5,.string ⟨⟨text⟩⟩),(6,.int .i64 i),(9,.pointer (some ⟨2,0,none⟩)),(15,.pointer (some ⟨6,0,none⟩)),(16,.pointer (some ⟨19,0,none⟩)),(18,.int .i64 xj13)],[.code XkU,.inLoop XkU,.inBlock 2,.code XpJ],[],false,none⟩,[],[(0,.row false (vT Xa5 l)),(1,.row false (vT Xa5 m)),(2,.cells [.int .u64 k.A,.int .u64 k.B]),(6,.row true [.int .u64 s18,.int .u64 s19,.slice (some ⟨7,0,none⟩) 7 1,.int .i64 s20]),(7,.row true [.slice (some ⟨8,0,none⟩) c84 1,.slice (some ⟨9,0,none⟩) c85 1,.slice (some ⟨10,0,none⟩) c86 1,.slice (some ⟨11,0,none⟩) c87 1,.slice (some ⟨12,0,none⟩) c88 1,.slice (some ⟨13,0,none⟩) c89 1,.slice (some ⟨14,0,none⟩) c90 1]),(8,.row true (vI .i64 c91)),(9,.row true (vI .i64 c92)),(10,.row true (vI .i64 c93)),(11,.row true (vI .i64 c94)),(12,.row true (vI .i64 c95)),(13,.row true (vI .i64 c96)),(14,.row true (vI .i64 c97)),(19,.row true [.int .u64 t36,.int .u64 t37,.slice (some ⟨20,0,none⟩) 7 1,.int .i64 t38]),(20,.row true [.slice (some ⟨21,0,none⟩) c98 1,.slice (some ⟨22,0,none⟩) c99 1,.slice (some ⟨23,0,none⟩) c100 1,.slice (some ⟨24,0,none⟩) c101 1,.slice (some ⟨25,0,none⟩) c102 1,.slice (some ⟨26,0,none⟩) c103 1,.slice (some ⟨27,0,none⟩) c104 1]),(21,.row true (vI .i64 c105)),(22,.row true (vI .i64 c106)),(23,.row true (vI .i64 c107)),(24,.row true (vI .i64 c108)),(25,.row true (vI .i64 c109)),(26,.row true (vI .i64 c110)),(27,.row true (vI .i64 c111))],28⟩
def Xt0 (rows:Int) (places:Int) (k:Xau) (l:List Xay) (m:List Xay) (text:List UInt8) (i:Int) (n34:Xal) (xj12:Int) (s18:Int) (s19:Int) (s20:Int) (c84:Nat) (c85:Nat) (c86:Nat) (c87:Nat) (c88:Nat) (c89:Nat) (c90:Nat) (c91:List Int) (c92:List Int) (c93:List Int) (c94:List Int) (c95:List Int) (c96:List Int) (c97:List Int):VM:=
 ⟨⟨3,159,[(0,.int .i64 rows),(1,.int .i64 places),(3,.slice (some ⟨0,0,none⟩) l.length 2),(4,.slice (some ⟨1,0,none⟩) m.length 2),(5,.string ⟨⟨text⟩⟩),(6,.int .i64 i),(9,.pointer (some ⟨2,0,none⟩)),(15,.pointer (some ⟨6,0,none⟩)),(16,.pointer (some ⟨19,0,none⟩)),(17,.int .i64 xj12)],[.code Xke,.inLoop Xke,.inBlock 0,.code XpL],[],false,none⟩,[],[(0,.row false (vT Xa5 l)),(1,.row false (vT Xa5 m)),(2,.cells [.int .u64 k.A,.int .u64 k.B]),(6,.row true [.int .u64 s18,.int .u64 s19,.slice (some ⟨7,0,none⟩) 7 1,.int .i64 s20]),(7,.row true [.slice (some ⟨8,0,none⟩) c84 1,.slice (some ⟨9,0,none⟩) c85 1,.slice (some ⟨10,0,none⟩) c86 1,.slice (some ⟨11,0,none⟩) c87 1,.slice (some ⟨12,0,none⟩) c88 1,.slice (some ⟨13,0,none⟩) c89 1,.slice (some ⟨14,0,none⟩) c90 1]),(8,.row true (vI .i64 c91)),(9,.row true (vI .i64 c92)),(10,.row true (vI .i64 c93)),(11,.row true (vI .i64 c94)),(12,.row true (vI .i64 c95)),(13,.row true (vI .i64 c96)),(14,.row true (vI .i64 c97)),(19,.row true [.int .u64 n34.key.A,.int .u64 n34.key.B,.slice (some ⟨20,0,none⟩) 7 1,.int .i64 n34.total]),(20,.row true [.slice (some ⟨21,0,none⟩) n34.rows.m0 1,.slice (some ⟨22,0,none⟩) n34.rows.m1 1,.slice (some ⟨23,0,none⟩) n34.rows.m2 1,.slice (some ⟨24,0,none⟩) n34.rows.m3 1,.slice (some ⟨25,0,none⟩) n34.rows.m4 1,.slice (some ⟨26,0,none⟩) n34.rows.m5 1,.slice (some ⟨27,0,none⟩) n34.rows.m6 1]),(21,.row true (vI .i64 n34.rows.e0)),(22,.row true (vI .i64 n34.rows.e1)),(23,.row true (vI .i64 n34.rows.e2)),(24,.row true (vI .i64 n34.rows.e3)),(25,.row true (vI .i64 n34.rows.e4)),(26,.row true (vI .i64 n34.rows.e5)),(27,.row true (vI .i64 n34.rows.e6))],28⟩
def XCD (rows:Int) (places:Int) (k:Xau) (l:List Xay) (m:List Xay) (text:List UInt8) (i:Int) (s21:Int) (s22:Int) (s23:Int) (c112:Nat) (c113:Nat) (c114:Nat) (c115:Nat) (c116:Nat) (c117:Nat) (c118:Nat) (c119:Nat) (c120:List Int) (c121:List Int) (c122:List Int) (c123:List Int) (c124:List Int) (c125:List Int) (c126:List Int) (c127:List Int) (xj15:Int) (t42:Int) (t43:Int) (t44:Int) (c128:Nat) (c129:Nat) (c130:Nat) (c131:Nat) (c132:Nat) (c133:Nat) (c134:Nat) (c135:Nat) (c136:List Int) (c137:List Int) (c138:List Int) (c139:List Int) (c140:List Int) (c141:List Int) (c142:List Int) (c143:List Int):VM:=
 ⟨⟨3,159,[(0,.int .i64 rows),(1,.int .i64 places),(3,.slice (some ⟨0,0,none⟩) l.length 2),(4,.slice (some ⟨1,0,none⟩) m.length 2),(5,.string ⟨⟨text⟩⟩),(6,.int .i64 i),(9,.pointer (some ⟨2,0,none⟩)),(15,.pointer (some ⟨6,0,none⟩)),(16,.pointer (some ⟨20,0,none⟩)),(18,.int .i64 xj15)],[.code XkU,.inLoop XkU,.inBlock 2,.code XpJ],[],false,none⟩,[],[(0,.row false (vT Xa5 l)),(1,.row false (vT Xa5 m)),(2,.cells [.int .u64 k.A,.int .u64 k.B]),(6,.row true [.int .u64 s21,.int .u64 s22,.slice (some ⟨7,0,none⟩) 8 1,.int .i64 s23]),(7,.row true [.slice (some ⟨8,0,none⟩) c112 1,.slice (some ⟨9,0,none⟩) c113 1,.slice (some ⟨10,0,none⟩) c114 1,.slice (some ⟨11,0,none⟩) c115 1,.slice (some ⟨12,0,none⟩) c116 1,.slice (some ⟨13,0,none⟩) c117 1,.slice (some ⟨14,0,none⟩) c118 1,.slice (some ⟨15,0,none⟩) c119 1]),(8,.row true (vI .i64 c120)),(9,.row true (vI .i64 c121)),(10,.row true (vI .i64 c122)),(11,.row true (vI .i64 c123)),(12,.row true (vI .i64 c124)),(13,.row true (vI .i64 c125)),(14,.row true (vI .i64 c126)),(15,.row true (vI .i64 c127)),(20,.row true [.int .u64 t42,.int .u64 t43,.slice (some ⟨21,0,none⟩) 8 1,.int .i64 t44]),(21,.row true [.slice (some ⟨22,0,none⟩) c128 1,.slice (some ⟨23,0,none⟩) c129 1,.slice (some ⟨24,0,none⟩) c130 1,.slice (some ⟨25,0,none⟩) c131 1,.slice (some ⟨26,0,none⟩) c132 1,.slice (some ⟨27,0,none⟩) c133 1,.slice (some ⟨28,0,none⟩) c134 1,.slice (some ⟨29,0,none⟩) c135 1]),(22,.row true (vI .i64 c136)),(23,.row true (vI .i64 c137)),(24,.row true (vI .i64 c138)),(25,.row true (vI .i64 c139)),(26,.row true (vI .i64 c140)),(27,.row true (vI .i64 c141)),(28,.row true (vI .i64 c142)),(29,.row true (vI .i64 c143))],30⟩
def XtF (rows:Int) (places:Int) (k:Xau) (l:List Xay) (m:List Xay) (text:List UInt8) (i:Int) (n39:Xak) (xj14:Int) (s21:Int) (s22:Int) (s23:Int) (c112:Nat) (c113:Nat) (c114:Nat) (c115:Nat) (c116:Nat) (c117:Nat) (c118:Nat) (c119:Nat) (c120:List Int) (c121:List Int) (c122:List Int) (c123:List Int) (c124:List Int) (c125:List Int) (c126:List Int) (c127:List Int):VM:=
 ⟨⟨3,159,[(0,.int .i64 rows),(1,.int .i64 places),(3,.slice (some ⟨0,0,none⟩) l.length 2),(4,.slice (some ⟨1,0,none⟩) m.length 2),(5,.string ⟨⟨text⟩⟩),(6,.int .i64 i),(9,.pointer (some ⟨2,0,none⟩)),(15,.pointer (some ⟨6,0,none⟩)),(16,.pointer (some ⟨20,0,none⟩)),(17,.int .i64 xj14)],[.code Xke,.inLoop Xke,.inBlock 0,.code XpL],[],false,none⟩,[],[(0,.row false (vT Xa5 l)),(1,.row false (vT Xa5 m)),(2,.cells [.int .u64 k.A,.int .u64 k.B]),(6,.row true [.int .u64 s21,.int .u64 s22,.slice (some ⟨7,0,none⟩) 8 1,.int .i64 s23]),(7,.row true [.slice (some ⟨8,0,none⟩) c112 1,.slice (some ⟨9,0,none⟩) c113 1,.slice (some ⟨10,0,none⟩) c114 1,.slice (some ⟨11,0,none⟩) c115 1,.slice (some ⟨12,0,none⟩) c116 1,.slice (some ⟨13,0,none⟩) c117 1,.slice (some ⟨14,0,none⟩) c118 1,.slice (some ⟨15,0,none⟩) c119 1]),(8,.row true (vI .i64 c120)),(9,.row true (vI .i64 c121)),(10,.row true (vI .i64 c122)),(11,.row true (vI .i64 c123)),(12,.row true (vI .i64 c124)),(13,.row true (vI .i64 c125)),(14,.row true (vI .i64 c126)),(15,.row true (vI .i64 c127)),(20,.row true [.int .u64 n39.key.A,.int .u64 n39.key.B,.slice (some ⟨21,0,none⟩) 8 1,.int .i64 n39.total]),(21,.row true [.slice (some ⟨22,0,none⟩) n39.rows.m0 1,.slice (some ⟨23,0,none⟩) n39.rows.m1 1,.slice (some ⟨24,0,none⟩) n39.rows.m2 1,.slice (some ⟨25,0,none⟩) n39.rows.m3 1,.slice (some ⟨26,0,none⟩) n39.rows.m4 1,.slice (some ⟨27,0,none⟩) n39.rows.m5 1,.slice (some ⟨28,0,none⟩) n39.rows.m6 1,.slice (some ⟨29,0,none⟩) n39.rows.m7 1]),(22,.row true (vI .i64 n39.rows.e0)),(23,.row true (vI .i64 n39.rows.e1)),(24,.row true (vI .i64 n39.rows.e2)),(25,.row true (vI .i64 n39.rows.e3)),(26,.row true (vI .i64 n39.rows.e4)),(27,.row true (vI .i64 n39.rows.e5)),(28,.row true (vI .i64 n39.rows.e6)),(29,.row true (vI .i64 n39.rows.e7))],30⟩
theorem XFH (Xat:XaY) (XaI:Xa6) (Xas:XaV) (XaX:Xbo) (Xaw:XaZ) (Xam:XaS) (Xa0:Xbp) (Xao:XaT) (Xah:XaG) (Xad:XaC) (Xab:Xaj) (Xaf:XaE) (Xae:XaB) (hS:XaF Try.prog (XaP (XkE Xat XaI Xas XaX Xaw Xam Xa0 Xao Xah Xad Xab Xaf Xae))) {rows:Int} {places:Int} {k:Xau} {l:List Xay} {m:List Xay} {text:List UInt8} {i:Int} {s:Int} {s1:Int} {s2:Int} {c:Nat} {c1:List Int} {res:Bool}:∀ {fuel} {st:Int×Int×Int×Int×Nat×(List Int)} {o:Bool},iter (fun st=>XbX Xat Xas Xaw Xam Xao Xah Xad Xab Xaf Xae rows places k l m text i s s1 s2 c c1 st.1 st.2.1 st.2.2.1 st.2.2.2.1 st.2.2.2.2.1 st.2.2.2.2.2) fuel st=some o→(o=res) →
 XaU Try.prog 3 2 (XGm rows places k l m text i s s1 s2 c c1 st.1 st.2.1 st.2.2.1 st.2.2.2.1 st.2.2.2.2.1 st.2.2.2.2.2) (fun v H _=>Res 2 (rx3 res) v H):=by
 apply XaO
 intro st o h hc
 obtain ⟨xj1,t,t1,t2,c2,c3⟩:=st
 try dsimp -zeta only at h ⊢
 unfold XbX at h
 have R1:=@XuF Xaf
 have R2:=@Xlz Xas
 have R3:=@XA6 Xad
 have R4:=@Xm5 Xat
 have R5:=@XCH Xae
 have R6:=@Xm9 Xaw
 have R7:=@XpW Xab
 have R8:=@Xpk Xam
 have LM:=lm [(0,0),(1,1),(2,2),(6,6),(7,7),(8,8),(13,13),(14,14),(15,27)]
 refine Xa4 XaM hS true 3000 ?_
 conv=>whnf
 refine br.h h (by rfl) ?_ ?_
 ·clear h;intro hb h;conv=>whnf
  replace h:=XaQ.elim h;obtain ⟨hb,h⟩:=h
  try (refine req.intro hb ?_;conv=>whnf)
  replace h:=Xbu.elim h;obtain ⟨e1,hy,h⟩:=h
  refine rd.T (j:=0) XaK hy (by first|omega|exact Nat.zero_add _|exact congrArg (·+_) (Nat.zero_add _)) (by decide) rfl ?_
  conv=>whnf
  replace h:=XaQ.elim h;obtain ⟨hb,h⟩:=h
  try (refine req.intro hb ?_;conv=>whnf)
  refine rd.T (i:=xj1.toNat) (x:=e1) (j:=1) XaK (by assumption) (by first|omega|exact Nat.zero_add _|exact congrArg (·+_) (Nat.zero_add _)) (by decide) rfl ?_
  conv=>whnf
  exact W
 clear h;intro hb h;conv=>whnf
 replace h:=Xbu.elim h;obtain ⟨n5,hy,h⟩:=h
 cases n5
 case v1 n6=>
  refine XdI.a (Xe9 hy) ?_
  conv=>whnf
  replace h:=Xbu.elim h;obtain ⟨x12,hy,h⟩:=h
  refine XdI.a (Xre hy) ?_
  conv=>whnf
  refine br.h h (by rfl) ?_ ?_
  ·clear h;intro hb h;conv=>whnf
   exact W
  clear h;intro hb h;conv=>whnf
  replace h:=Xbu.elim h;obtain ⟨x13,hy,h⟩:=h
  refine XdI.a (Xre hy) ?_
  conv=>whnf
  refine br.h h (by rfl) ?_ ?_
  ·clear h;intro hb h;conv=>whnf
   exact W
  clear h;intro hb h;conv=>whnf
  refine req.intro (by first|rfl|omega|(simp;done)|(simp;omega)|(simp at *;omega)) ?_;conv=>whnf
  conv=>whnf
  replace h:=XaQ.elim h;obtain ⟨hb,h⟩:=h
  refine req.intro (Xkc (of_decide_eq_true hb) (by first|rfl|omega|(simp;done)|(simp;omega)|(simp at *;omega))) ?_
  conv=>whnf
  refine Xk4 (f:=Xa5) (ys:=l) (by first|rfl|(simp;done)|(simp [vI,vB,vS,List.map_drop,List.map_take];done)) (by first|rfl|omega|(simp;done)|(simp;omega)|(simp at *;omega)) ?_
  conv=>whnf
  refine req.intro (by first|rfl|omega|(simp;done)|(simp;omega)|(simp at *;omega)) ?_;conv=>whnf
  conv=>whnf
  replace h:=XaQ.elim h;obtain ⟨hb,h⟩:=h
  refine req.intro (Xnh (of_decide_eq_true hb) (by first|rfl|omega|(simp;done)|(simp;omega)|(simp at *;omega)) rfl (by first|rfl|omega|(simp;done)|(simp;omega)|(simp at *;omega)) (by first|rfl|exact Xgz _ _|exact XiM _|exact XiI _|exact XiU (by first|exact XcJ|exact XcI|exact Xb5|exact Xbw|exact Xb6) _|(rw [XhA];exact Xgz _ _)|(simp [Xgz,XiM,XiI,XjJ,XjZ,XjX,XjO];done)|(simp;exact List.all_eq_true.1 (XiU (by first|exact XcJ|exact XcI|exact Xb5|exact Xbw|exact Xb6) _))) rfl) ?_
  conv=>whnf
  let row:List Xay:=l++m
  first|have hlen_row:row.length=_:=List.length_append ..|skip
  refine Xnd XaK (xs:=l) (ys:=m) (by first|rfl|(simp;done)|(simp [vI,vB,vS,List.map_drop,List.map_take];done)) (by first|rfl|omega) (by first|rfl|omega|(simp;done)|(simp;omega)|(simp at *;omega)) (by first|rfl|omega|(simp;done)|(simp;omega)|(simp at *;omega)) ?_
  conv=>whnf
  exact W
 all_goals cases h
theorem XE2 (Xat:XaY) (XaI:Xa6) (Xas:XaV) (XaX:Xbo) (Xaw:XaZ) (Xam:XaS) (Xa0:Xbp) (Xao:XaT) (Xah:XaG) (Xad:XaC) (Xab:Xaj) (Xaf:XaE) (Xae:XaB) (hS:XaF Try.prog (XaP (XkE Xat XaI Xas XaX Xaw Xam Xa0 Xao Xah Xad Xab Xaf Xae))) {rows:Int} {places:Int} {k:Xau} {l:List Xay} {m:List Xay} {text:List UInt8} {i:Int} {n4:XaA} {res:Bool}:∀ {fuel} {st:Int×Int×Int×Int×Nat×(List Int)} {o:Bool},iter (fun st=>Xb0 Xat XaI Xas Xaw Xam Xao Xah Xad Xab Xaf Xae rows places k l m text i n4 st.1 st.2.1 st.2.2.1 st.2.2.2.1 st.2.2.2.2.1 st.2.2.2.2.2) fuel st=some o→(o=res) →
 XaU Try.prog 3 2 (XyW rows places k l m text i n4 st.1 st.2.1 st.2.2.1 st.2.2.2.1 st.2.2.2.2.1 st.2.2.2.2.2) (fun v H _=>Res 2 (rx3 res) v H):=by
 apply XaO
 intro st o h hc
 obtain ⟨xj,s,s1,s2,c,c1⟩:=st
 try dsimp -zeta only at h ⊢
 unfold Xb0 at h
 have R1:=@Xlt XaI
 have LM:=lm [(0,0),(1,1),(2,2),(6,6),(7,7),(8,27),(13,13),(14,14),(15,15)]
 have LP:=@XFH Xat XaI Xas XaX Xaw Xam Xa0 Xao Xah Xad Xab Xaf Xae hS;have LQ:=lm [(0,0),(1,1),(2,2),(6,6),(7,7),(8,8),(13,13),(14,14),(15,15)]
 refine Xa4 XaM hS true 3000 ?_
 conv=>whnf
 refine br.h2 h (by rfl) ?_ ?_
 ·clear h;intro hb h;conv=>whnf
  exact W
 clear h;intro hb h;conv=>whnf
 replace h:=XaQ.elim h;obtain ⟨hb,h⟩:=h
 try (refine req.intro hb ?_;conv=>whnf)
 replace h:=Xbu.elim h;obtain ⟨e,hy,h⟩:=h
 refine rd.T (j:=0) XaK hy (by first|omega|exact Nat.zero_add _|exact congrArg (·+_) (Nat.zero_add _)) (by decide) rfl ?_
 conv=>whnf
 replace h:=XaQ.elim h;obtain ⟨hb,h⟩:=h
 try (refine req.intro hb ?_;conv=>whnf)
 refine rd.T (i:=xj.toNat) (x:=e) (j:=1) XaK (by assumption) (by first|omega|exact Nat.zero_add _|exact congrArg (·+_) (Nat.zero_add _)) (by decide) rfl ?_
 conv=>whnf
 replace h:=Xbu.elim h;obtain ⟨x1,hy,h⟩:=h
 refine XdI.a (XuF hy) ?_
 conv=>whnf
 replace h:=XaQ.elim h;obtain ⟨hb,h⟩:=h
 try (refine req.intro hb ?_;conv=>whnf)
 refine XAi (i:=xj.toNat) (x:=e) XaK (by assumption) (by first|omega|exact Nat.zero_add _|exact congrArg (·+_) (Nat.zero_add _)) rfl ?_
 conv=>whnf
 exact W
theorem XGh (Xat:XaY) (XaI:Xa6) (Xas:XaV) (XaX:Xbo) (Xaw:XaZ) (Xam:XaS) (Xa0:Xbp) (Xao:XaT) (Xah:XaG) (Xad:XaC) (Xab:Xaj) (Xaf:XaE) (Xae:XaB) (hS:XaF Try.prog (XaP (XkE Xat XaI Xas XaX Xaw Xam Xa0 Xao Xah Xad Xab Xaf Xae))) {rows:Int} {places:Int} {k:Xau} {l:List Xay} {m:List Xay} {text:List UInt8} {i:Int} {s3:Int} {s4:Int} {s5:Int} {c4:Nat} {c5:Nat} {c6:List Int} {c7:List Int} {res:Bool}:∀ {fuel} {st:Int×Int×Int×Int×Nat×Nat×(List Int)×(List Int)} {o:Bool},iter (fun st=>Xb3 Xat Xas Xaw Xam Xao Xah Xad Xab Xaf Xae rows places k l m text i s3 s4 s5 c4 c5 c6 c7 st.1 st.2.1 st.2.2.1 st.2.2.2.1 st.2.2.2.2.1 st.2.2.2.2.2.1 st.2.2.2.2.2.2.1 st.2.2.2.2.2.2.2) fuel st=some o→(o=res) →
 XaU Try.prog 3 2 (XFI rows places k l m text i s3 s4 s5 c4 c5 c6 c7 st.1 st.2.1 st.2.2.1 st.2.2.2.1 st.2.2.2.2.1 st.2.2.2.2.2.1 st.2.2.2.2.2.2.1 st.2.2.2.2.2.2.2) (fun v H _=>Res 2 (rx3 res) v H):=by
 apply XaO
 intro st o h hc
 obtain ⟨xj3,t6,t7,t8,c8,c9,c10,c11⟩:=st
 try dsimp -zeta only at h ⊢
 unfold Xb3 at h
 have R1:=@Xmv Xaf
 have R2:=@Xlz Xas
 have R3:=@XpA Xad
 have R4:=@Xm5 Xat
 have R5:=@Xqa Xae
 have R6:=@Xm9 Xaw
 have R7:=@Xp0 Xab
 have R8:=@Xpk Xam
 have LM:=lm [(0,0),(1,1),(2,2),(6,6),(7,7),(8,8),(9,9),(14,14),(15,15),(16,29),(17,30)]
 refine Xa4 XaM hS true 3000 ?_
 conv=>whnf
 refine br.h h (by rfl) ?_ ?_
 ·clear h;intro hb h;conv=>whnf
  replace h:=XaQ.elim h;obtain ⟨hb,h⟩:=h
  try (refine req.intro hb ?_;conv=>whnf)
  replace h:=Xbu.elim h;obtain ⟨e3,hy,h⟩:=h
  refine rd.T (j:=0) XaK hy (by first|omega|exact Nat.zero_add _|exact congrArg (·+_) (Nat.zero_add _)) (by decide) rfl ?_
  conv=>whnf
  replace h:=XaQ.elim h;obtain ⟨hb,h⟩:=h
  try (refine req.intro hb ?_;conv=>whnf)
  refine rd.T (i:=xj3.toNat) (x:=e3) (j:=1) XaK (by assumption) (by first|omega|exact Nat.zero_add _|exact congrArg (·+_) (Nat.zero_add _)) (by decide) rfl ?_
  conv=>whnf
  exact W
 clear h;intro hb h;conv=>whnf
 replace h:=Xbu.elim h;obtain ⟨n10,hy,h⟩:=h
 cases n10
 case v2 n11=>
  refine XdI.a (Xe9 hy) ?_
  conv=>whnf
  replace h:=Xbu.elim h;obtain ⟨x22,hy,h⟩:=h
  refine XdI.a (Xrj hy) ?_
  conv=>whnf
  refine br.h h (by rfl) ?_ ?_
  ·clear h;intro hb h;conv=>whnf
   exact W
  clear h;intro hb h;conv=>whnf
  replace h:=Xbu.elim h;obtain ⟨x23,hy,h⟩:=h
  refine XdI.a (Xrj hy) ?_
  conv=>whnf
  refine br.h h (by rfl) ?_ ?_
  ·clear h;intro hb h;conv=>whnf
   exact W
  clear h;intro hb h;conv=>whnf
  refine req.intro (by first|rfl|omega|(simp;done)|(simp;omega)|(simp at *;omega)) ?_;conv=>whnf
  conv=>whnf
  replace h:=XaQ.elim h;obtain ⟨hb,h⟩:=h
  refine req.intro (Xkc (of_decide_eq_true hb) (by first|rfl|omega|(simp;done)|(simp;omega)|(simp at *;omega))) ?_
  conv=>whnf
  refine Xk4 (f:=Xa5) (ys:=l) (by first|rfl|(simp;done)|(simp [vI,vB,vS,List.map_drop,List.map_take];done)) (by first|rfl|omega|(simp;done)|(simp;omega)|(simp at *;omega)) ?_
  conv=>whnf
  refine req.intro (by first|rfl|omega|(simp;done)|(simp;omega)|(simp at *;omega)) ?_;conv=>whnf
  conv=>whnf
  replace h:=XaQ.elim h;obtain ⟨hb,h⟩:=h
  refine req.intro (Xnh (of_decide_eq_true hb) (by first|rfl|omega|(simp;done)|(simp;omega)|(simp at *;omega)) rfl (by first|rfl|omega|(simp;done)|(simp;omega)|(simp at *;omega)) (by first|rfl|exact Xgz _ _|exact XiM _|exact XiI _|exact XiU (by first|exact XcJ|exact XcI|exact Xb5|exact Xbw|exact Xb6) _|(rw [XhA];exact Xgz _ _)|(simp [Xgz,XiM,XiI,XjJ,XjZ,XjX,XjO];done)|(simp;exact List.all_eq_true.1 (XiU (by first|exact XcJ|exact XcI|exact Xb5|exact Xbw|exact Xb6) _))) rfl) ?_
  conv=>whnf
  let row1:List Xay:=l++m
  first|have hlen_row1:row1.length=_:=List.length_append ..|skip
  refine Xnd XaK (xs:=l) (ys:=m) (by first|rfl|(simp;done)|(simp [vI,vB,vS,List.map_drop,List.map_take];done)) (by first|rfl|omega) (by first|rfl|omega|(simp;done)|(simp;omega)|(simp at *;omega)) (by first|rfl|omega|(simp;done)|(simp;omega)|(simp at *;omega)) ?_
  conv=>whnf
  exact W
 all_goals cases h
theorem XGg (Xat:XaY) (XaI:Xa6) (Xas:XaV) (XaX:Xbo) (Xaw:XaZ) (Xam:XaS) (Xa0:Xbp) (Xao:XaT) (Xah:XaG) (Xad:XaC) (Xab:Xaj) (Xaf:XaE) (Xae:XaB) (hS:XaF Try.prog (XaP (XkE Xat XaI Xas XaX Xaw Xam Xa0 Xao Xah Xad Xab Xaf Xae))) {rows:Int} {places:Int} {k:Xau} {l:List Xay} {m:List Xay} {text:List UInt8} {i:Int} {n9:Xax} {res:Bool}:∀ {fuel} {st:Int×Int×Int×Int×Nat×Nat×(List Int)×(List Int)} {o:Bool},iter (fun st=>XbY Xat XaI Xas Xaw Xam Xao Xah Xad Xab Xaf Xae rows places k l m text i n9 st.1 st.2.1 st.2.2.1 st.2.2.2.1 st.2.2.2.2.1 st.2.2.2.2.2.1 st.2.2.2.2.2.2.1 st.2.2.2.2.2.2.2) fuel st=some o→(o=res) →
 XaU Try.prog 3 2 (XyL rows places k l m text i n9 st.1 st.2.1 st.2.2.1 st.2.2.2.1 st.2.2.2.2.1 st.2.2.2.2.2.1 st.2.2.2.2.2.2.1 st.2.2.2.2.2.2.2) (fun v H _=>Res 2 (rx3 res) v H):=by
 apply XaO
 intro st o h hc
 obtain ⟨xj2,s3,s4,s5,c4,c5,c6,c7⟩:=st
 try dsimp -zeta only at h ⊢
 unfold XbY at h
 have R1:=@Xlt XaI
 have LM:=lm [(0,0),(1,1),(2,2),(6,6),(7,7),(8,29),(9,30),(14,14),(15,15),(16,16),(17,17)]
 have LP:=@XGh Xat XaI Xas XaX Xaw Xam Xa0 Xao Xah Xad Xab Xaf Xae hS;have LQ:=lm [(0,0),(1,1),(2,2),(6,6),(7,7),(8,8),(9,9),(14,14),(15,15),(16,16),(17,17)]
 refine Xa4 XaM hS true 3000 ?_
 conv=>whnf
 refine br.h2 h (by rfl) ?_ ?_
 ·clear h;intro hb h;conv=>whnf
  exact W
 clear h;intro hb h;conv=>whnf
 replace h:=XaQ.elim h;obtain ⟨hb,h⟩:=h
 try (refine req.intro hb ?_;conv=>whnf)
 replace h:=Xbu.elim h;obtain ⟨e2,hy,h⟩:=h
 refine rd.T (j:=0) XaK hy (by first|omega|exact Nat.zero_add _|exact congrArg (·+_) (Nat.zero_add _)) (by decide) rfl ?_
 conv=>whnf
 replace h:=XaQ.elim h;obtain ⟨hb,h⟩:=h
 try (refine req.intro hb ?_;conv=>whnf)
 refine rd.T (i:=xj2.toNat) (x:=e2) (j:=1) XaK (by assumption) (by first|omega|exact Nat.zero_add _|exact congrArg (·+_) (Nat.zero_add _)) (by decide) rfl ?_
 conv=>whnf
 replace h:=Xbu.elim h;obtain ⟨x2,hy,h⟩:=h
 refine XdI.a (Xmv hy) ?_
 conv=>whnf
 replace h:=XaQ.elim h;obtain ⟨hb,h⟩:=h
 try (refine req.intro hb ?_;conv=>whnf)
 refine XAi (i:=xj2.toNat) (x:=e2) XaK (by assumption) (by first|omega|exact Nat.zero_add _|exact congrArg (·+_) (Nat.zero_add _)) rfl ?_
 conv=>whnf
 exact W
theorem XGJ (Xat:XaY) (XaI:Xa6) (Xas:XaV) (XaX:Xbo) (Xaw:XaZ) (Xam:XaS) (Xa0:Xbp) (Xao:XaT) (Xah:XaG) (Xad:XaC) (Xab:Xaj) (Xaf:XaE) (Xae:XaB) (hS:XaF Try.prog (XaP (XkE Xat XaI Xas XaX Xaw Xam Xa0 Xao Xah Xad Xab Xaf Xae))) {rows:Int} {places:Int} {k:Xau} {l:List Xay} {m:List Xay} {text:List UInt8} {i:Int} {s6:Int} {s7:Int} {s8:Int} {c12:Nat} {c13:Nat} {c14:Nat} {c15:List Int} {c16:List Int} {c17:List Int} {res:Bool}:∀ {fuel} {st:Int×Int×Int×Int×Nat×Nat×Nat×(List Int)×(List Int)×(List Int)} {o:Bool},iter (fun st=>XbW Xat Xas Xaw Xam Xao Xah Xad Xab Xaf Xae rows places k l m text i s6 s7 s8 c12 c13 c14 c15 c16 c17 st.1 st.2.1 st.2.2.1 st.2.2.2.1 st.2.2.2.2.1 st.2.2.2.2.2.1 st.2.2.2.2.2.2.1 st.2.2.2.2.2.2.2.1 st.2.2.2.2.2.2.2.2.1 st.2.2.2.2.2.2.2.2.2) fuel st=some o→(o=res) →
 XaU Try.prog 3 2 (XEH rows places k l m text i s6 s7 s8 c12 c13 c14 c15 c16 c17 st.1 st.2.1 st.2.2.1 st.2.2.2.1 st.2.2.2.2.1 st.2.2.2.2.2.1 st.2.2.2.2.2.2.1 st.2.2.2.2.2.2.2.1 st.2.2.2.2.2.2.2.2.1 st.2.2.2.2.2.2.2.2.2) (fun v H _=>Res 2 (rx3 res) v H):=by
 apply XaO
 intro st o h hc
 obtain ⟨xj5,t12,t13,t14,c18,c19,c20,c21,c22,c23⟩:=st
 try dsimp -zeta only at h ⊢
 unfold XbW at h
 have R1:=@XtL Xaf
 have R2:=@Xlz Xas
 have R3:=@XBq Xad
 have R4:=@Xm5 Xat
 have R5:=@XA8 Xae
 have R6:=@Xm9 Xaw
 have R7:=@XpC Xab
 have R8:=@Xpk Xam
 have LM:=lm [(0,0),(1,1),(2,2),(6,6),(7,7),(8,8),(9,9),(10,10),(15,15),(16,16),(17,31),(18,32),(19,33)]
 refine Xa4 XaM hS true 3000 ?_
 conv=>whnf
 refine br.h h (by rfl) ?_ ?_
 ·clear h;intro hb h;conv=>whnf
  replace h:=XaQ.elim h;obtain ⟨hb,h⟩:=h
  try (refine req.intro hb ?_;conv=>whnf)
  replace h:=Xbu.elim h;obtain ⟨e5,hy,h⟩:=h
  refine rd.T (j:=0) XaK hy (by first|omega|exact Nat.zero_add _|exact congrArg (·+_) (Nat.zero_add _)) (by decide) rfl ?_
  conv=>whnf
  replace h:=XaQ.elim h;obtain ⟨hb,h⟩:=h
  try (refine req.intro hb ?_;conv=>whnf)
  refine rd.T (i:=xj5.toNat) (x:=e5) (j:=1) XaK (by assumption) (by first|omega|exact Nat.zero_add _|exact congrArg (·+_) (Nat.zero_add _)) (by decide) rfl ?_
  conv=>whnf
  exact W
 clear h;intro hb h;conv=>whnf
 replace h:=Xbu.elim h;obtain ⟨n15,hy,h⟩:=h
 cases n15
 case v3 n16=>
  refine XdI.a (Xe9 hy) ?_
  conv=>whnf
  replace h:=Xbu.elim h;obtain ⟨x32,hy,h⟩:=h
  refine XdI.a (Xqu hy) ?_
  conv=>whnf
  refine br.h h (by rfl) ?_ ?_
  ·clear h;intro hb h;conv=>whnf
   exact W
  clear h;intro hb h;conv=>whnf
  replace h:=Xbu.elim h;obtain ⟨x33,hy,h⟩:=h
  refine XdI.a (Xqu hy) ?_
  conv=>whnf
  refine br.h h (by rfl) ?_ ?_
  ·clear h;intro hb h;conv=>whnf
   exact W
  clear h;intro hb h;conv=>whnf
  refine req.intro (by first|rfl|omega|(simp;done)|(simp;omega)|(simp at *;omega)) ?_;conv=>whnf
  conv=>whnf
  replace h:=XaQ.elim h;obtain ⟨hb,h⟩:=h
  refine req.intro (Xkc (of_decide_eq_true hb) (by first|rfl|omega|(simp;done)|(simp;omega)|(simp at *;omega))) ?_
  conv=>whnf
  refine Xk4 (f:=Xa5) (ys:=l) (by first|rfl|(simp;done)|(simp [vI,vB,vS,List.map_drop,List.map_take];done)) (by first|rfl|omega|(simp;done)|(simp;omega)|(simp at *;omega)) ?_
  conv=>whnf
  refine req.intro (by first|rfl|omega|(simp;done)|(simp;omega)|(simp at *;omega)) ?_;conv=>whnf
  conv=>whnf
  replace h:=XaQ.elim h;obtain ⟨hb,h⟩:=h
  refine req.intro (Xnh (of_decide_eq_true hb) (by first|rfl|omega|(simp;done)|(simp;omega)|(simp at *;omega)) rfl (by first|rfl|omega|(simp;done)|(simp;omega)|(simp at *;omega)) (by first|rfl|exact Xgz _ _|exact XiM _|exact XiI _|exact XiU (by first|exact XcJ|exact XcI|exact Xb5|exact Xbw|exact Xb6) _|(rw [XhA];exact Xgz _ _)|(simp [Xgz,XiM,XiI,XjJ,XjZ,XjX,XjO];done)|(simp;exact List.all_eq_true.1 (XiU (by first|exact XcJ|exact XcI|exact Xb5|exact Xbw|exact Xb6) _))) rfl) ?_
  conv=>whnf
  let row2:List Xay:=l++m
  first|have hlen_row2:row2.length=_:=List.length_append ..|skip
  refine Xnd XaK (xs:=l) (ys:=m) (by first|rfl|(simp;done)|(simp [vI,vB,vS,List.map_drop,List.map_take];done)) (by first|rfl|omega) (by first|rfl|omega|(simp;done)|(simp;omega)|(simp at *;omega)) (by first|rfl|omega|(simp;done)|(simp;omega)|(simp at *;omega)) ?_
  conv=>whnf
  exact W
 all_goals cases h
theorem XGp (Xat:XaY) (XaI:Xa6) (Xas:XaV) (XaX:Xbo) (Xaw:XaZ) (Xam:XaS) (Xa0:Xbp) (Xao:XaT) (Xah:XaG) (Xad:XaC) (Xab:Xaj) (Xaf:XaE) (Xae:XaB) (hS:XaF Try.prog (XaP (XkE Xat XaI Xas XaX Xaw Xam Xa0 Xao Xah Xad Xab Xaf Xae))) {rows:Int} {places:Int} {k:Xau} {l:List Xay} {m:List Xay} {text:List UInt8} {i:Int} {n14:Xav} {res:Bool}:∀ {fuel} {st:Int×Int×Int×Int×Nat×Nat×Nat×(List Int)×(List Int)×(List Int)} {o:Bool},iter (fun st=>Xb1 Xat XaI Xas Xaw Xam Xao Xah Xad Xab Xaf Xae rows places k l m text i n14 st.1 st.2.1 st.2.2.1 st.2.2.2.1 st.2.2.2.2.1 st.2.2.2.2.2.1 st.2.2.2.2.2.2.1 st.2.2.2.2.2.2.2.1 st.2.2.2.2.2.2.2.2.1 st.2.2.2.2.2.2.2.2.2) fuel st=some o→(o=res) →
 XaU Try.prog 3 2 (Xw9 rows places k l m text i n14 st.1 st.2.1 st.2.2.1 st.2.2.2.1 st.2.2.2.2.1 st.2.2.2.2.2.1 st.2.2.2.2.2.2.1 st.2.2.2.2.2.2.2.1 st.2.2.2.2.2.2.2.2.1 st.2.2.2.2.2.2.2.2.2) (fun v H _=>Res 2 (rx3 res) v H):=by
 apply XaO
 intro st o h hc
 obtain ⟨xj4,s6,s7,s8,c12,c13,c14,c15,c16,c17⟩:=st
 try dsimp -zeta only at h ⊢
 unfold Xb1 at h
 have R1:=@Xlt XaI
 have LM:=lm [(0,0),(1,1),(2,2),(6,6),(7,7),(8,31),(9,32),(10,33),(15,15),(16,16),(17,17),(18,18),(19,19)]
 have LP:=@XGJ Xat XaI Xas XaX Xaw Xam Xa0 Xao Xah Xad Xab Xaf Xae hS;have LQ:=lm [(0,0),(1,1),(2,2),(6,6),(7,7),(8,8),(9,9),(10,10),(15,15),(16,16),(17,17),(18,18),(19,19)]
 refine Xa4 XaM hS true 3000 ?_
 conv=>whnf
 refine br.h2 h (by rfl) ?_ ?_
 ·clear h;intro hb h;conv=>whnf
  exact W
 clear h;intro hb h;conv=>whnf
 replace h:=XaQ.elim h;obtain ⟨hb,h⟩:=h
 try (refine req.intro hb ?_;conv=>whnf)
 replace h:=Xbu.elim h;obtain ⟨e4,hy,h⟩:=h
 refine rd.T (j:=0) XaK hy (by first|omega|exact Nat.zero_add _|exact congrArg (·+_) (Nat.zero_add _)) (by decide) rfl ?_
 conv=>whnf
 replace h:=XaQ.elim h;obtain ⟨hb,h⟩:=h
 try (refine req.intro hb ?_;conv=>whnf)
 refine rd.T (i:=xj4.toNat) (x:=e4) (j:=1) XaK (by assumption) (by first|omega|exact Nat.zero_add _|exact congrArg (·+_) (Nat.zero_add _)) (by decide) rfl ?_
 conv=>whnf
 replace h:=Xbu.elim h;obtain ⟨x3,hy,h⟩:=h
 refine XdI.a (XtL hy) ?_
 conv=>whnf
 replace h:=XaQ.elim h;obtain ⟨hb,h⟩:=h
 try (refine req.intro hb ?_;conv=>whnf)
 refine XAi (i:=xj4.toNat) (x:=e4) XaK (by assumption) (by first|omega|exact Nat.zero_add _|exact congrArg (·+_) (Nat.zero_add _)) rfl ?_
 conv=>whnf
 exact W
theorem XGi (Xat:XaY) (XaI:Xa6) (Xas:XaV) (XaX:Xbo) (Xaw:XaZ) (Xam:XaS) (Xa0:Xbp) (Xao:XaT) (Xah:XaG) (Xad:XaC) (Xab:Xaj) (Xaf:XaE) (Xae:XaB) (hS:XaF Try.prog (XaP (XkE Xat XaI Xas XaX Xaw Xam Xa0 Xao Xah Xad Xab Xaf Xae))) {rows:Int} {places:Int} {k:Xau} {l:List Xay} {m:List Xay} {text:List UInt8} {i:Int} {s9:Int} {s10:Int} {s11:Int} {c24:Nat} {c25:Nat} {c26:Nat} {c27:Nat} {c28:List Int} {c29:List Int} {c30:List Int} {c31:List Int} {res:Bool}:∀ {fuel} {st:Int×Int×Int×Int×Nat×Nat×Nat×Nat×(List Int)×(List Int)×(List Int)×(List Int)} {o:Bool},iter (fun st=>Xb4 Xat Xas Xaw Xam Xao Xah Xad Xab Xaf Xae rows places k l m text i s9 s10 s11 c24 c25 c26 c27 c28 c29 c30 c31 st.1 st.2.1 st.2.2.1 st.2.2.2.1 st.2.2.2.2.1 st.2.2.2.2.2.1 st.2.2.2.2.2.2.1 st.2.2.2.2.2.2.2.1 st.2.2.2.2.2.2.2.2.1 st.2.2.2.2.2.2.2.2.2.1 st.2.2.2.2.2.2.2.2.2.2.1 st.2.2.2.2.2.2.2.2.2.2.2) fuel st=some o→(o=res) →
 XaU Try.prog 3 2 (XGe rows places k l m text i s9 s10 s11 c24 c25 c26 c27 c28 c29 c30 c31 st.1 st.2.1 st.2.2.1 st.2.2.2.1 st.2.2.2.2.1 st.2.2.2.2.2.1 st.2.2.2.2.2.2.1 st.2.2.2.2.2.2.2.1 st.2.2.2.2.2.2.2.2.1 st.2.2.2.2.2.2.2.2.2.1 st.2.2.2.2.2.2.2.2.2.2.1 st.2.2.2.2.2.2.2.2.2.2.2) (fun v H _=>Res 2 (rx3 res) v H):=by
 apply XaO
 intro st o h hc
 obtain ⟨xj7,t18,t19,t20,c32,c33,c34,c35,c36,c37,c38,c39⟩:=st
 try dsimp -zeta only at h ⊢
 unfold Xb4 at h
 have R1:=@XtK Xaf
 have R2:=@Xlz Xas
 have R3:=@XAL Xad
 have R4:=@Xm5 Xat
 have R5:=@XBp Xae
 have R6:=@Xm9 Xaw
 have R7:=@XpD Xab
 have R8:=@Xpk Xam
 have LM:=lm [(0,0),(1,1),(2,2),(6,6),(7,7),(8,8),(9,9),(10,10),(11,11),(16,16),(17,17),(18,33),(19,34),(20,35),(21,36)]
 refine Xa4 XaM hS true 3000 ?_
 conv=>whnf
 refine br.h h (by rfl) ?_ ?_
 ·clear h;intro hb h;conv=>whnf
  replace h:=XaQ.elim h;obtain ⟨hb,h⟩:=h
  try (refine req.intro hb ?_;conv=>whnf)
  replace h:=Xbu.elim h;obtain ⟨e7,hy,h⟩:=h
  refine rd.T (j:=0) XaK hy (by first|omega|exact Nat.zero_add _|exact congrArg (·+_) (Nat.zero_add _)) (by decide) rfl ?_
  conv=>whnf
  replace h:=XaQ.elim h;obtain ⟨hb,h⟩:=h
  try (refine req.intro hb ?_;conv=>whnf)
  refine rd.T (i:=xj7.toNat) (x:=e7) (j:=1) XaK (by assumption) (by first|omega|exact Nat.zero_add _|exact congrArg (·+_) (Nat.zero_add _)) (by decide) rfl ?_
  conv=>whnf
  exact W
 clear h;intro hb h;conv=>whnf
 replace h:=Xbu.elim h;obtain ⟨n20,hy,h⟩:=h
 cases n20
 case v4 n21=>
  refine XdI.a (Xe9 hy) ?_
  conv=>whnf
  replace h:=Xbu.elim h;obtain ⟨x42,hy,h⟩:=h
  refine XdI.a (Xqt hy) ?_
  conv=>whnf
  refine br.h h (by rfl) ?_ ?_
  ·clear h;intro hb h;conv=>whnf
   exact W
  clear h;intro hb h;conv=>whnf
  replace h:=Xbu.elim h;obtain ⟨x43,hy,h⟩:=h
  refine XdI.a (Xqt hy) ?_
  conv=>whnf
  refine br.h h (by rfl) ?_ ?_
  ·clear h;intro hb h;conv=>whnf
   exact W
  clear h;intro hb h;conv=>whnf
  refine req.intro (by first|rfl|omega|(simp;done)|(simp;omega)|(simp at *;omega)) ?_;conv=>whnf
  conv=>whnf
  replace h:=XaQ.elim h;obtain ⟨hb,h⟩:=h
  refine req.intro (Xkc (of_decide_eq_true hb) (by first|rfl|omega|(simp;done)|(simp;omega)|(simp at *;omega))) ?_
  conv=>whnf
  refine Xk4 (f:=Xa5) (ys:=l) (by first|rfl|(simp;done)|(simp [vI,vB,vS,List.map_drop,List.map_take];done)) (by first|rfl|omega|(simp;done)|(simp;omega)|(simp at *;omega)) ?_
  conv=>whnf
  refine req.intro (by first|rfl|omega|(simp;done)|(simp;omega)|(simp at *;omega)) ?_;conv=>whnf
  conv=>whnf
  replace h:=XaQ.elim h;obtain ⟨hb,h⟩:=h
  refine req.intro (Xnh (of_decide_eq_true hb) (by first|rfl|omega|(simp;done)|(simp;omega)|(simp at *;omega)) rfl (by first|rfl|omega|(simp;done)|(simp;omega)|(simp at *;omega)) (by first|rfl|exact Xgz _ _|exact XiM _|exact XiI _|exact XiU (by first|exact XcJ|exact XcI|exact Xb5|exact Xbw|exact Xb6) _|(rw [XhA];exact Xgz _ _)|(simp [Xgz,XiM,XiI,XjJ,XjZ,XjX,XjO];done)|(simp;exact List.all_eq_true.1 (XiU (by first|exact XcJ|exact XcI|exact Xb5|exact Xbw|exact Xb6) _))) rfl) ?_
  conv=>whnf
  let row3:List Xay:=l++m
  first|have hlen_row3:row3.length=_:=List.length_append ..|skip
  refine Xnd XaK (xs:=l) (ys:=m) (by first|rfl|(simp;done)|(simp [vI,vB,vS,List.map_drop,List.map_take];done)) (by first|rfl|omega) (by first|rfl|omega|(simp;done)|(simp;omega)|(simp at *;omega)) (by first|rfl|omega|(simp;done)|(simp;omega)|(simp at *;omega)) ?_
  conv=>whnf
  exact W
 all_goals cases h
theorem XEu (Xat:XaY) (XaI:Xa6) (Xas:XaV) (XaX:Xbo) (Xaw:XaZ) (Xam:XaS) (Xa0:Xbp) (Xao:XaT) (Xah:XaG) (Xad:XaC) (Xab:Xaj) (Xaf:XaE) (Xae:XaB) (hS:XaF Try.prog (XaP (XkE Xat XaI Xas XaX Xaw Xam Xa0 Xao Xah Xad Xab Xaf Xae))) {rows:Int} {places:Int} {k:Xau} {l:List Xay} {m:List Xay} {text:List UInt8} {i:Int} {n19:Xar} {res:Bool}:∀ {fuel} {st:Int×Int×Int×Int×Nat×Nat×Nat×Nat×(List Int)×(List Int)×(List Int)×(List Int)} {o:Bool},iter (fun st=>XbZ Xat XaI Xas Xaw Xam Xao Xah Xad Xab Xaf Xae rows places k l m text i n19 st.1 st.2.1 st.2.2.1 st.2.2.2.1 st.2.2.2.2.1 st.2.2.2.2.2.1 st.2.2.2.2.2.2.1 st.2.2.2.2.2.2.2.1 st.2.2.2.2.2.2.2.2.1 st.2.2.2.2.2.2.2.2.2.1 st.2.2.2.2.2.2.2.2.2.2.1 st.2.2.2.2.2.2.2.2.2.2.2) fuel st=some o→(o=res) →
 XaU Try.prog 3 2 (XyS rows places k l m text i n19 st.1 st.2.1 st.2.2.1 st.2.2.2.1 st.2.2.2.2.1 st.2.2.2.2.2.1 st.2.2.2.2.2.2.1 st.2.2.2.2.2.2.2.1 st.2.2.2.2.2.2.2.2.1 st.2.2.2.2.2.2.2.2.2.1 st.2.2.2.2.2.2.2.2.2.2.1 st.2.2.2.2.2.2.2.2.2.2.2) (fun v H _=>Res 2 (rx3 res) v H):=by
 apply XaO
 intro st o h hc
 obtain ⟨xj6,s9,s10,s11,c24,c25,c26,c27,c28,c29,c30,c31⟩:=st
 try dsimp -zeta only at h ⊢
 unfold XbZ at h
 have R1:=@Xlt XaI
 have LM:=lm [(0,0),(1,1),(2,2),(6,6),(7,7),(8,33),(9,34),(10,35),(11,36),(16,16),(17,17),(18,18),(19,19),(20,20),(21,21)]
 have LP:=@XGi Xat XaI Xas XaX Xaw Xam Xa0 Xao Xah Xad Xab Xaf Xae hS;have LQ:=lm [(0,0),(1,1),(2,2),(6,6),(7,7),(8,8),(9,9),(10,10),(11,11),(16,16),(17,17),(18,18),(19,19),(20,20),(21,21)]
 refine Xa4 XaM hS true 3000 ?_
 conv=>whnf
 refine br.h2 h (by rfl) ?_ ?_
 ·clear h;intro hb h;conv=>whnf
  exact W
 clear h;intro hb h;conv=>whnf
 replace h:=XaQ.elim h;obtain ⟨hb,h⟩:=h
 try (refine req.intro hb ?_;conv=>whnf)
 replace h:=Xbu.elim h;obtain ⟨e6,hy,h⟩:=h
 refine rd.T (j:=0) XaK hy (by first|omega|exact Nat.zero_add _|exact congrArg (·+_) (Nat.zero_add _)) (by decide) rfl ?_
 conv=>whnf
 replace h:=XaQ.elim h;obtain ⟨hb,h⟩:=h
 try (refine req.intro hb ?_;conv=>whnf)
 refine rd.T (i:=xj6.toNat) (x:=e6) (j:=1) XaK (by assumption) (by first|omega|exact Nat.zero_add _|exact congrArg (·+_) (Nat.zero_add _)) (by decide) rfl ?_
 conv=>whnf
 replace h:=Xbu.elim h;obtain ⟨x4,hy,h⟩:=h
 refine XdI.a (XtK hy) ?_
 conv=>whnf
 replace h:=XaQ.elim h;obtain ⟨hb,h⟩:=h
 try (refine req.intro hb ?_;conv=>whnf)
 refine XAi (i:=xj6.toNat) (x:=e6) XaK (by assumption) (by first|omega|exact Nat.zero_add _|exact congrArg (·+_) (Nat.zero_add _)) rfl ?_
 conv=>whnf
 exact W
theorem XFJ (Xat:XaY) (XaI:Xa6) (Xas:XaV) (XaX:Xbo) (Xaw:XaZ) (Xam:XaS) (Xa0:Xbp) (Xao:XaT) (Xah:XaG) (Xad:XaC) (Xab:Xaj) (Xaf:XaE) (Xae:XaB) (hS:XaF Try.prog (XaP (XkE Xat XaI Xas XaX Xaw Xam Xa0 Xao Xah Xad Xab Xaf Xae))) {rows:Int} {places:Int} {k:Xau} {l:List Xay} {m:List Xay} {text:List UInt8} {i:Int} {s12:Int} {s13:Int} {s14:Int} {c40:Nat} {c41:Nat} {c42:Nat} {c43:Nat} {c44:Nat} {c45:List Int} {c46:List Int} {c47:List Int} {c48:List Int} {c49:List Int} {res:Bool}:∀ {fuel} {st:Int×Int×Int×Int×Nat×Nat×Nat×Nat×Nat×(List Int)×(List Int)×(List Int)×(List Int)×(List Int)} {o:Bool},iter (fun st=>Xb2 Xat Xas Xaw Xam Xao Xah Xad Xab Xaf Xae rows places k l m text i s12 s13 s14 c40 c41 c42 c43 c44 c45 c46 c47 c48 c49 st.1 st.2.1 st.2.2.1 st.2.2.2.1 st.2.2.2.2.1 st.2.2.2.2.2.1 st.2.2.2.2.2.2.1 st.2.2.2.2.2.2.2.1 st.2.2.2.2.2.2.2.2.1 st.2.2.2.2.2.2.2.2.2.1 st.2.2.2.2.2.2.2.2.2.2.1 st.2.2.2.2.2.2.2.2.2.2.2.1 st.2.2.2.2.2.2.2.2.2.2.2.2.1 st.2.2.2.2.2.2.2.2.2.2.2.2.2) fuel st=some o→(o=res) →
 XaU Try.prog 3 2 (XE4 rows places k l m text i s12 s13 s14 c40 c41 c42 c43 c44 c45 c46 c47 c48 c49 st.1 st.2.1 st.2.2.1 st.2.2.2.1 st.2.2.2.2.1 st.2.2.2.2.2.1 st.2.2.2.2.2.2.1 st.2.2.2.2.2.2.2.1 st.2.2.2.2.2.2.2.2.1 st.2.2.2.2.2.2.2.2.2.1 st.2.2.2.2.2.2.2.2.2.2.1 st.2.2.2.2.2.2.2.2.2.2.2.1 st.2.2.2.2.2.2.2.2.2.2.2.2.1 st.2.2.2.2.2.2.2.2.2.2.2.2.2) (fun v H _=>Res 2 (rx3 res) v H):=by
 apply XaO
 intro st o h hc
 obtain ⟨xj9,t24,t25,t26,c50,c51,c52,c53,c54,c55,c56,c57,c58,c59⟩:=st
 try dsimp -zeta only at h ⊢
 unfold Xb2 at h
 have R1:=@XuW Xaf
 have R2:=@Xlz Xas
 have R3:=@XCd Xad
 have R4:=@Xm5 Xat
 have R5:=@XAY Xae
 have R6:=@Xm9 Xaw
 have R7:=@Xpv Xab
 have R8:=@Xpk Xam
 have LM:=lm [(0,0),(1,1),(2,2),(6,6),(7,7),(8,8),(9,9),(10,10),(11,11),(12,12),(17,17),(18,18),(19,35),(20,36),(21,37),(22,38),(23,39)]
 refine Xa4 XaM hS true 3000 ?_
 conv=>whnf
 refine br.h h (by rfl) ?_ ?_
 ·clear h;intro hb h;conv=>whnf
  replace h:=XaQ.elim h;obtain ⟨hb,h⟩:=h
  try (refine req.intro hb ?_;conv=>whnf)
  replace h:=Xbu.elim h;obtain ⟨e9,hy,h⟩:=h
  refine rd.T (j:=0) XaK hy (by first|omega|exact Nat.zero_add _|exact congrArg (·+_) (Nat.zero_add _)) (by decide) rfl ?_
  conv=>whnf
  replace h:=XaQ.elim h;obtain ⟨hb,h⟩:=h
  try (refine req.intro hb ?_;conv=>whnf)
  refine rd.T (i:=xj9.toNat) (x:=e9) (j:=1) XaK (by assumption) (by first|omega|exact Nat.zero_add _|exact congrArg (·+_) (Nat.zero_add _)) (by decide) rfl ?_
  conv=>whnf
  exact W
 clear h;intro hb h;conv=>whnf
 replace h:=Xbu.elim h;obtain ⟨n25,hy,h⟩:=h
 cases n25
 case v5 n26=>
  refine XdI.a (Xe9 hy) ?_
  conv=>whnf
  replace h:=Xbu.elim h;obtain ⟨x52,hy,h⟩:=h
  refine XdI.a (Xqx hy) ?_
  conv=>whnf
  refine br.h h (by rfl) ?_ ?_
  ·clear h;intro hb h;conv=>whnf
   exact W
  clear h;intro hb h;conv=>whnf
  replace h:=Xbu.elim h;obtain ⟨x53,hy,h⟩:=h
  refine XdI.a (Xqx hy) ?_
  conv=>whnf
  refine br.h h (by rfl) ?_ ?_
  ·clear h;intro hb h;conv=>whnf
   exact W
  clear h;intro hb h;conv=>whnf
  refine req.intro (by first|rfl|omega|(simp;done)|(simp;omega)|(simp at *;omega)) ?_;conv=>whnf
  conv=>whnf
  replace h:=XaQ.elim h;obtain ⟨hb,h⟩:=h
  refine req.intro (Xkc (of_decide_eq_true hb) (by first|rfl|omega|(simp;done)|(simp;omega)|(simp at *;omega))) ?_
  conv=>whnf
  refine Xk4 (f:=Xa5) (ys:=l) (by first|rfl|(simp;done)|(simp [vI,vB,vS,List.map_drop,List.map_take];done)) (by first|rfl|omega|(simp;done)|(simp;omega)|(simp at *;omega)) ?_
  conv=>whnf
  refine req.intro (by first|rfl|omega|(simp;done)|(simp;omega)|(simp at *;omega)) ?_;conv=>whnf
  conv=>whnf
  replace h:=XaQ.elim h;obtain ⟨hb,h⟩:=h
  refine req.intro (Xnh (of_decide_eq_true hb) (by first|rfl|omega|(simp;done)|(simp;omega)|(simp at *;omega)) rfl (by first|rfl|omega|(simp;done)|(simp;omega)|(simp at *;omega)) (by first|rfl|exact Xgz _ _|exact XiM _|exact XiI _|exact XiU (by first|exact XcJ|exact XcI|exact Xb5|exact Xbw|exact Xb6) _|(rw [XhA];exact Xgz _ _)|(simp [Xgz,XiM,XiI,XjJ,XjZ,XjX,XjO];done)|(simp;exact List.all_eq_true.1 (XiU (by first|exact XcJ|exact XcI|exact Xb5|exact Xbw|exact Xb6) _))) rfl) ?_
  conv=>whnf
  let row4:List Xay:=l++m
  first|have hlen_row4:row4.length=_:=List.length_append ..|skip
  refine Xnd XaK (xs:=l) (ys:=m) (by first|rfl|(simp;done)|(simp [vI,vB,vS,List.map_drop,List.map_take];done)) (by first|rfl|omega) (by first|rfl|omega|(simp;done)|(simp;omega)|(simp at *;omega)) (by first|rfl|omega|(simp;done)|(simp;omega)|(simp at *;omega)) ?_
  conv=>whnf
  exact W
 all_goals cases h
theorem XBx (Xat:XaY) (XaI:Xa6) (Xas:XaV) (XaX:Xbo) (Xaw:XaZ) (Xam:XaS) (Xa0:Xbp) (Xao:XaT) (Xah:XaG) (Xad:XaC) (Xab:Xaj) (Xaf:XaE) (Xae:XaB) (hS:XaF Try.prog (XaP (XkE Xat XaI Xas XaX Xaw Xam Xa0 Xao Xah Xad Xab Xaf Xae))) {rows:Int} {places:Int} {k:Xau} {l:List Xay} {m:List Xay} {text:List UInt8} {i:Int} {n24:Xap} {res:Bool}:∀ {fuel} {st:Int×Int×Int×Int×Nat×Nat×Nat×Nat×Nat×(List Int)×(List Int)×(List Int)×(List Int)×(List Int)} {o:Bool},iter (fun st=>XbT Xat XaI Xas Xaw Xam Xao Xah Xad Xab Xaf Xae rows places k l m text i n24 st.1 st.2.1 st.2.2.1 st.2.2.2.1 st.2.2.2.2.1 st.2.2.2.2.2.1 st.2.2.2.2.2.2.1 st.2.2.2.2.2.2.2.1 st.2.2.2.2.2.2.2.2.1 st.2.2.2.2.2.2.2.2.2.1 st.2.2.2.2.2.2.2.2.2.2.1 st.2.2.2.2.2.2.2.2.2.2.2.1 st.2.2.2.2.2.2.2.2.2.2.2.2.1 st.2.2.2.2.2.2.2.2.2.2.2.2.2) fuel st=some o→(o=res) →
 XaU Try.prog 3 2 (XuP rows places k l m text i n24 st.1 st.2.1 st.2.2.1 st.2.2.2.1 st.2.2.2.2.1 st.2.2.2.2.2.1 st.2.2.2.2.2.2.1 st.2.2.2.2.2.2.2.1 st.2.2.2.2.2.2.2.2.1 st.2.2.2.2.2.2.2.2.2.1 st.2.2.2.2.2.2.2.2.2.2.1 st.2.2.2.2.2.2.2.2.2.2.2.1 st.2.2.2.2.2.2.2.2.2.2.2.2.1 st.2.2.2.2.2.2.2.2.2.2.2.2.2) (fun v H _=>Res 2 (rx3 res) v H):=by
 apply XaO
 intro st o h hc
 obtain ⟨xj8,s12,s13,s14,c40,c41,c42,c43,c44,c45,c46,c47,c48,c49⟩:=st
 try dsimp -zeta only at h ⊢
 unfold XbT at h
 have R1:=@Xlt XaI
 have LM:=lm [(0,0),(1,1),(2,2),(6,6),(7,7),(8,35),(9,36),(10,37),(11,38),(12,39),(17,17),(18,18),(19,19),(20,20),(21,21),(22,22),(23,23)]
 have LP:=@XFJ Xat XaI Xas XaX Xaw Xam Xa0 Xao Xah Xad Xab Xaf Xae hS;have LQ:=lm [(0,0),(1,1),(2,2),(6,6),(7,7),(8,8),(9,9),(10,10),(11,11),(12,12),(17,17),(18,18),(19,19),(20,20),(21,21),(22,22),(23,23)]
 refine Xa4 XaM hS true 3000 ?_
 conv=>whnf
 refine br.h2 h (by rfl) ?_ ?_
 ·clear h;intro hb h;conv=>whnf
  exact W
 clear h;intro hb h;conv=>whnf
 replace h:=XaQ.elim h;obtain ⟨hb,h⟩:=h
 try (refine req.intro hb ?_;conv=>whnf)
 replace h:=Xbu.elim h;obtain ⟨e8,hy,h⟩:=h
 refine rd.T (j:=0) XaK hy (by first|omega|exact Nat.zero_add _|exact congrArg (·+_) (Nat.zero_add _)) (by decide) rfl ?_
 conv=>whnf
 replace h:=XaQ.elim h;obtain ⟨hb,h⟩:=h
 try (refine req.intro hb ?_;conv=>whnf)
 refine rd.T (i:=xj8.toNat) (x:=e8) (j:=1) XaK (by assumption) (by first|omega|exact Nat.zero_add _|exact congrArg (·+_) (Nat.zero_add _)) (by decide) rfl ?_
 conv=>whnf
 replace h:=Xbu.elim h;obtain ⟨x5,hy,h⟩:=h
 refine XdI.a (XuW hy) ?_
 conv=>whnf
 replace h:=XaQ.elim h;obtain ⟨hb,h⟩:=h
 try (refine req.intro hb ?_;conv=>whnf)
 refine XAi (i:=xj8.toNat) (x:=e8) XaK (by assumption) (by first|omega|exact Nat.zero_add _|exact congrArg (·+_) (Nat.zero_add _)) rfl ?_
 conv=>whnf
 exact W
theorem XCA (Xat:XaY) (XaI:Xa6) (Xas:XaV) (XaX:Xbo) (Xaw:XaZ) (Xam:XaS) (Xa0:Xbp) (Xao:XaT) (Xah:XaG) (Xad:XaC) (Xab:Xaj) (Xaf:XaE) (Xae:XaB) (hS:XaF Try.prog (XaP (XkE Xat XaI Xas XaX Xaw Xam Xa0 Xao Xah Xad Xab Xaf Xae))) {rows:Int} {places:Int} {k:Xau} {l:List Xay} {m:List Xay} {text:List UInt8} {i:Int} {s15:Int} {s16:Int} {s17:Int} {c60:Nat} {c61:Nat} {c62:Nat} {c63:Nat} {c64:Nat} {c65:Nat} {c66:List Int} {c67:List Int} {c68:List Int} {c69:List Int} {c70:List Int} {c71:List Int} {res:Bool}:∀ {fuel} {st:Int×Int×Int×Int×Nat×Nat×Nat×Nat×Nat×Nat×(List Int)×(List Int)×(List Int)×(List Int)×(List Int)×(List Int)} {o:Bool},iter (fun st=>XbS Xat Xas Xaw Xam Xao Xah Xad Xab Xaf Xae rows places k l m text i s15 s16 s17 c60 c61 c62 c63 c64 c65 c66 c67 c68 c69 c70 c71 st.1 st.2.1 st.2.2.1 st.2.2.2.1 st.2.2.2.2.1 st.2.2.2.2.2.1 st.2.2.2.2.2.2.1 st.2.2.2.2.2.2.2.1 st.2.2.2.2.2.2.2.2.1 st.2.2.2.2.2.2.2.2.2.1 st.2.2.2.2.2.2.2.2.2.2.1 st.2.2.2.2.2.2.2.2.2.2.2.1 st.2.2.2.2.2.2.2.2.2.2.2.2.1 st.2.2.2.2.2.2.2.2.2.2.2.2.2.1 st.2.2.2.2.2.2.2.2.2.2.2.2.2.2.1 st.2.2.2.2.2.2.2.2.2.2.2.2.2.2.2) fuel st=some o→(o=res) →
 XaU Try.prog 3 2 (XBa rows places k l m text i s15 s16 s17 c60 c61 c62 c63 c64 c65 c66 c67 c68 c69 c70 c71 st.1 st.2.1 st.2.2.1 st.2.2.2.1 st.2.2.2.2.1 st.2.2.2.2.2.1 st.2.2.2.2.2.2.1 st.2.2.2.2.2.2.2.1 st.2.2.2.2.2.2.2.2.1 st.2.2.2.2.2.2.2.2.2.1 st.2.2.2.2.2.2.2.2.2.2.1 st.2.2.2.2.2.2.2.2.2.2.2.1 st.2.2.2.2.2.2.2.2.2.2.2.2.1 st.2.2.2.2.2.2.2.2.2.2.2.2.2.1 st.2.2.2.2.2.2.2.2.2.2.2.2.2.2.1 st.2.2.2.2.2.2.2.2.2.2.2.2.2.2.2) (fun v H _=>Res 2 (rx3 res) v H):=by
 apply XaO
 intro st o h hc
 obtain ⟨xj11,t30,t31,t32,c72,c73,c74,c75,c76,c77,c78,c79,c80,c81,c82,c83⟩:=st
 try dsimp -zeta only at h ⊢
 unfold XbS at h
 have R1:=@XtH Xaf
 have R2:=@Xlz Xas
 have R3:=@XBw Xad
 have R4:=@Xm5 Xat
 have R5:=@XBc Xae
 have R6:=@Xm9 Xaw
 have R7:=@XpX Xab
 have R8:=@Xpk Xam
 have LM:=lm [(0,0),(1,1),(2,2),(6,6),(7,7),(8,8),(9,9),(10,10),(11,11),(12,12),(13,13),(18,18),(19,19),(20,37),(21,38),(22,39),(23,40),(24,41),(25,42)]
 refine Xa4 XaM hS true 3000 ?_
 conv=>whnf
 refine br.h h (by rfl) ?_ ?_
 ·clear h;intro hb h;conv=>whnf
  replace h:=XaQ.elim h;obtain ⟨hb,h⟩:=h
  try (refine req.intro hb ?_;conv=>whnf)
  replace h:=Xbu.elim h;obtain ⟨e11,hy,h⟩:=h
  refine rd.T (j:=0) XaK hy (by first|omega|exact Nat.zero_add _|exact congrArg (·+_) (Nat.zero_add _)) (by decide) rfl ?_
  conv=>whnf
  replace h:=XaQ.elim h;obtain ⟨hb,h⟩:=h
  try (refine req.intro hb ?_;conv=>whnf)
  refine rd.T (i:=xj11.toNat) (x:=e11) (j:=1) XaK (by assumption) (by first|omega|exact Nat.zero_add _|exact congrArg (·+_) (Nat.zero_add _)) (by decide) rfl ?_
  conv=>whnf
  exact W
 clear h;intro hb h;conv=>whnf
 replace h:=Xbu.elim h;obtain ⟨n30,hy,h⟩:=h
 cases n30
 case v6 n31=>
  refine XdI.a (Xe9 hy) ?_
  conv=>whnf
  replace h:=Xbu.elim h;obtain ⟨x62,hy,h⟩:=h
  refine XdI.a (Xqo hy) ?_
  conv=>whnf
  refine br.h h (by rfl) ?_ ?_
  ·clear h;intro hb h;conv=>whnf
   exact W
  clear h;intro hb h;conv=>whnf
  replace h:=Xbu.elim h;obtain ⟨x63,hy,h⟩:=h
  refine XdI.a (Xqo hy) ?_
  conv=>whnf
  refine br.h h (by rfl) ?_ ?_
  ·clear h;intro hb h;conv=>whnf
   exact W
  clear h;intro hb h;conv=>whnf
  refine req.intro (by first|rfl|omega|(simp;done)|(simp;omega)|(simp at *;omega)) ?_;conv=>whnf
  conv=>whnf
  replace h:=XaQ.elim h;obtain ⟨hb,h⟩:=h
  refine req.intro (Xkc (of_decide_eq_true hb) (by first|rfl|omega|(simp;done)|(simp;omega)|(simp at *;omega))) ?_
  conv=>whnf
  refine Xk4 (f:=Xa5) (ys:=l) (by first|rfl|(simp;done)|(simp [vI,vB,vS,List.map_drop,List.map_take];done)) (by first|rfl|omega|(simp;done)|(simp;omega)|(simp at *;omega)) ?_
  conv=>whnf
  refine req.intro (by first|rfl|omega|(simp;done)|(simp;omega)|(simp at *;omega)) ?_;conv=>whnf
  conv=>whnf
  replace h:=XaQ.elim h;obtain ⟨hb,h⟩:=h
  refine req.intro (Xnh (of_decide_eq_true hb) (by first|rfl|omega|(simp;done)|(simp;omega)|(simp at *;omega)) rfl (by first|rfl|omega|(simp;done)|(simp;omega)|(simp at *;omega)) (by first|rfl|exact Xgz _ _|exact XiM _|exact XiI _|exact XiU (by first|exact XcJ|exact XcI|exact Xb5|exact Xbw|exact Xb6) _|(rw [XhA];exact Xgz _ _)|(simp [Xgz,XiM,XiI,XjJ,XjZ,XjX,XjO];done)|(simp;exact List.all_eq_true.1 (XiU (by first|exact XcJ|exact XcI|exact Xb5|exact Xbw|exact Xb6) _))) rfl) ?_
  conv=>whnf
  let row5:List Xay:=l++m
  first|have hlen_row5:row5.length=_:=List.length_append ..|skip
  refine Xnd XaK (xs:=l) (ys:=m) (by first|rfl|(simp;done)|(simp [vI,vB,vS,List.map_drop,List.map_take];done)) (by first|rfl|omega) (by first|rfl|omega|(simp;done)|(simp;omega)|(simp at *;omega)) (by first|rfl|omega|(simp;done)|(simp;omega)|(simp at *;omega)) ?_
  conv=>whnf
  exact W
 all_goals cases h
theorem XCI (Xat:XaY) (XaI:Xa6) (Xas:XaV) (XaX:Xbo) (Xaw:XaZ) (Xam:XaS) (Xa0:Xbp) (Xao:XaT) (Xah:XaG) (Xad:XaC) (Xab:Xaj) (Xaf:XaE) (Xae:XaB) (hS:XaF Try.prog (XaP (XkE Xat XaI Xas XaX Xaw Xam Xa0 Xao Xah Xad Xab Xaf Xae))) {rows:Int} {places:Int} {k:Xau} {l:List Xay} {m:List Xay} {text:List UInt8} {i:Int} {n29:Xan} {res:Bool}:∀ {fuel} {st:Int×Int×Int×Int×Nat×Nat×Nat×Nat×Nat×Nat×(List Int)×(List Int)×(List Int)×(List Int)×(List Int)×(List Int)} {o:Bool},iter (fun st=>XbQ Xat XaI Xas Xaw Xam Xao Xah Xad Xab Xaf Xae rows places k l m text i n29 st.1 st.2.1 st.2.2.1 st.2.2.2.1 st.2.2.2.2.1 st.2.2.2.2.2.1 st.2.2.2.2.2.2.1 st.2.2.2.2.2.2.2.1 st.2.2.2.2.2.2.2.2.1 st.2.2.2.2.2.2.2.2.2.1 st.2.2.2.2.2.2.2.2.2.2.1 st.2.2.2.2.2.2.2.2.2.2.2.1 st.2.2.2.2.2.2.2.2.2.2.2.2.1 st.2.2.2.2.2.2.2.2.2.2.2.2.2.1 st.2.2.2.2.2.2.2.2.2.2.2.2.2.2.1 st.2.2.2.2.2.2.2.2.2.2.2.2.2.2.2) fuel st=some o→(o=res) →
 XaU Try.prog 3 2 (Xue rows places k l m text i n29 st.1 st.2.1 st.2.2.1 st.2.2.2.1 st.2.2.2.2.1 st.2.2.2.2.2.1 st.2.2.2.2.2.2.1 st.2.2.2.2.2.2.2.1 st.2.2.2.2.2.2.2.2.1 st.2.2.2.2.2.2.2.2.2.1 st.2.2.2.2.2.2.2.2.2.2.1 st.2.2.2.2.2.2.2.2.2.2.2.1 st.2.2.2.2.2.2.2.2.2.2.2.2.1 st.2.2.2.2.2.2.2.2.2.2.2.2.2.1 st.2.2.2.2.2.2.2.2.2.2.2.2.2.2.1 st.2.2.2.2.2.2.2.2.2.2.2.2.2.2.2) (fun v H _=>Res 2 (rx3 res) v H):=by
 apply XaO
 intro st o h hc
 obtain ⟨xj10,s15,s16,s17,c60,c61,c62,c63,c64,c65,c66,c67,c68,c69,c70,c71⟩:=st
 try dsimp -zeta only at h ⊢
 unfold XbQ at h
 have R1:=@Xlt XaI
 have LM:=lm [(0,0),(1,1),(2,2),(6,6),(7,7),(8,37),(9,38),(10,39),(11,40),(12,41),(13,42),(18,18),(19,19),(20,20),(21,21),(22,22),(23,23),(24,24),(25,25)]
 have LP:=@XCA Xat XaI Xas XaX Xaw Xam Xa0 Xao Xah Xad Xab Xaf Xae hS;have LQ:=lm [(0,0),(1,1),(2,2),(6,6),(7,7),(8,8),(9,9),(10,10),(11,11),(12,12),(13,13),(18,18),(19,19),(20,20),(21,21),(22,22),(23,23),(24,24),(25,25)]
 refine Xa4 XaM hS true 3000 ?_
 conv=>whnf
 refine br.h2 h (by rfl) ?_ ?_
 ·clear h;intro hb h;conv=>whnf
  exact W
 clear h;intro hb h;conv=>whnf
 replace h:=XaQ.elim h;obtain ⟨hb,h⟩:=h
 try (refine req.intro hb ?_;conv=>whnf)
 replace h:=Xbu.elim h;obtain ⟨e10,hy,h⟩:=h
 refine rd.T (j:=0) XaK hy (by first|omega|exact Nat.zero_add _|exact congrArg (·+_) (Nat.zero_add _)) (by decide) rfl ?_
 conv=>whnf
 replace h:=XaQ.elim h;obtain ⟨hb,h⟩:=h
 try (refine req.intro hb ?_;conv=>whnf)
 refine rd.T (i:=xj10.toNat) (x:=e10) (j:=1) XaK (by assumption) (by first|omega|exact Nat.zero_add _|exact congrArg (·+_) (Nat.zero_add _)) (by decide) rfl ?_
 conv=>whnf
 replace h:=Xbu.elim h;obtain ⟨x6,hy,h⟩:=h
 refine XdI.a (XtH hy) ?_
 conv=>whnf
 replace h:=XaQ.elim h;obtain ⟨hb,h⟩:=h
 try (refine req.intro hb ?_;conv=>whnf)
 refine XAi (i:=xj10.toNat) (x:=e10) XaK (by assumption) (by first|omega|exact Nat.zero_add _|exact congrArg (·+_) (Nat.zero_add _)) rfl ?_
 conv=>whnf
 exact W
theorem XBe (Xat:XaY) (XaI:Xa6) (Xas:XaV) (XaX:Xbo) (Xaw:XaZ) (Xam:XaS) (Xa0:Xbp) (Xao:XaT) (Xah:XaG) (Xad:XaC) (Xab:Xaj) (Xaf:XaE) (Xae:XaB) (hS:XaF Try.prog (XaP (XkE Xat XaI Xas XaX Xaw Xam Xa0 Xao Xah Xad Xab Xaf Xae))) {rows:Int} {places:Int} {k:Xau} {l:List Xay} {m:List Xay} {text:List UInt8} {i:Int} {s18:Int} {s19:Int} {s20:Int} {c84:Nat} {c85:Nat} {c86:Nat} {c87:Nat} {c88:Nat} {c89:Nat} {c90:Nat} {c91:List Int} {c92:List Int} {c93:List Int} {c94:List Int} {c95:List Int} {c96:List Int} {c97:List Int} {res:Bool}:∀ {fuel} {st:Int×Int×Int×Int×Nat×Nat×Nat×Nat×Nat×Nat×Nat×(List Int)×(List Int)×(List Int)×(List Int)×(List Int)×(List Int)×(List Int)} {o:Bool},iter (fun st=>XbN Xat Xas Xaw Xam Xao Xah Xad Xab Xaf Xae rows places k l m text i s18 s19 s20 c84 c85 c86 c87 c88 c89 c90 c91 c92 c93 c94 c95 c96 c97 st.1 st.2.1 st.2.2.1 st.2.2.2.1 st.2.2.2.2.1 st.2.2.2.2.2.1 st.2.2.2.2.2.2.1 st.2.2.2.2.2.2.2.1 st.2.2.2.2.2.2.2.2.1 st.2.2.2.2.2.2.2.2.2.1 st.2.2.2.2.2.2.2.2.2.2.1 st.2.2.2.2.2.2.2.2.2.2.2.1 st.2.2.2.2.2.2.2.2.2.2.2.2.1 st.2.2.2.2.2.2.2.2.2.2.2.2.2.1 st.2.2.2.2.2.2.2.2.2.2.2.2.2.2.1 st.2.2.2.2.2.2.2.2.2.2.2.2.2.2.2.1 st.2.2.2.2.2.2.2.2.2.2.2.2.2.2.2.2.1 st.2.2.2.2.2.2.2.2.2.2.2.2.2.2.2.2.2) fuel st=some o→(o=res) →
 XaU Try.prog 3 2 (XB7 rows places k l m text i s18 s19 s20 c84 c85 c86 c87 c88 c89 c90 c91 c92 c93 c94 c95 c96 c97 st.1 st.2.1 st.2.2.1 st.2.2.2.1 st.2.2.2.2.1 st.2.2.2.2.2.1 st.2.2.2.2.2.2.1 st.2.2.2.2.2.2.2.1 st.2.2.2.2.2.2.2.2.1 st.2.2.2.2.2.2.2.2.2.1 st.2.2.2.2.2.2.2.2.2.2.1 st.2.2.2.2.2.2.2.2.2.2.2.1 st.2.2.2.2.2.2.2.2.2.2.2.2.1 st.2.2.2.2.2.2.2.2.2.2.2.2.2.1 st.2.2.2.2.2.2.2.2.2.2.2.2.2.2.1 st.2.2.2.2.2.2.2.2.2.2.2.2.2.2.2.1 st.2.2.2.2.2.2.2.2.2.2.2.2.2.2.2.2.1 st.2.2.2.2.2.2.2.2.2.2.2.2.2.2.2.2.2) (fun v H _=>Res 2 (rx3 res) v H):=by
 apply XaO
 intro st o h hc
 obtain ⟨xj13,t36,t37,t38,c98,c99,c100,c101,c102,c103,c104,c105,c106,c107,c108,c109,c110,c111⟩:=st
 try dsimp -zeta only at h ⊢
 unfold XbN at h
 have R1:=@XuQ Xaf
 have R2:=@Xlz Xas
 have R3:=@XCE Xad
 have R4:=@Xm5 Xat
 have R5:=@XAn Xae
 have R6:=@Xm9 Xaw
 have R7:=@Xpm Xab
 have R8:=@Xpk Xam
 have LM:=lm [(0,0),(1,1),(2,2),(6,6),(7,7),(8,8),(9,9),(10,10),(11,11),(12,12),(13,13),(14,14),(19,19),(20,20),(21,39),(22,40),(23,41),(24,42),(25,43),(26,44),(27,45)]
 refine Xa4 XaM hS true 3000 ?_
 conv=>whnf
 refine br.h h (by rfl) ?_ ?_
 ·clear h;intro hb h;conv=>whnf
  replace h:=XaQ.elim h;obtain ⟨hb,h⟩:=h
  try (refine req.intro hb ?_;conv=>whnf)
  replace h:=Xbu.elim h;obtain ⟨e13,hy,h⟩:=h
  refine rd.T (j:=0) XaK hy (by first|omega|exact Nat.zero_add _|exact congrArg (·+_) (Nat.zero_add _)) (by decide) rfl ?_
  conv=>whnf
  replace h:=XaQ.elim h;obtain ⟨hb,h⟩:=h
  try (refine req.intro hb ?_;conv=>whnf)
  refine rd.T (i:=xj13.toNat) (x:=e13) (j:=1) XaK (by assumption) (by first|omega|exact Nat.zero_add _|exact congrArg (·+_) (Nat.zero_add _)) (by decide) rfl ?_
  conv=>whnf
  exact W
 clear h;intro hb h;conv=>whnf
 replace h:=Xbu.elim h;obtain ⟨n35,hy,h⟩:=h
 cases n35
 case v7 n36=>
  refine XdI.a (Xe9 hy) ?_
  conv=>whnf
  replace h:=Xbu.elim h;obtain ⟨x72,hy,h⟩:=h
  refine XdI.a (Xrc hy) ?_
  conv=>whnf
  refine br.h h (by rfl) ?_ ?_
  ·clear h;intro hb h;conv=>whnf
   exact W
  clear h;intro hb h;conv=>whnf
  replace h:=Xbu.elim h;obtain ⟨x73,hy,h⟩:=h
  refine XdI.a (Xrc hy) ?_
  conv=>whnf
  refine br.h h (by rfl) ?_ ?_
  ·clear h;intro hb h;conv=>whnf
   exact W
  clear h;intro hb h;conv=>whnf
  refine req.intro (by first|rfl|omega|(simp;done)|(simp;omega)|(simp at *;omega)) ?_;conv=>whnf
  conv=>whnf
  replace h:=XaQ.elim h;obtain ⟨hb,h⟩:=h
  refine req.intro (Xkc (of_decide_eq_true hb) (by first|rfl|omega|(simp;done)|(simp;omega)|(simp at *;omega))) ?_
  conv=>whnf
  refine Xk4 (f:=Xa5) (ys:=l) (by first|rfl|(simp;done)|(simp [vI,vB,vS,List.map_drop,List.map_take];done)) (by first|rfl|omega|(simp;done)|(simp;omega)|(simp at *;omega)) ?_
  conv=>whnf
  refine req.intro (by first|rfl|omega|(simp;done)|(simp;omega)|(simp at *;omega)) ?_;conv=>whnf
  conv=>whnf
  replace h:=XaQ.elim h;obtain ⟨hb,h⟩:=h
  refine req.intro (Xnh (of_decide_eq_true hb) (by first|rfl|omega|(simp;done)|(simp;omega)|(simp at *;omega)) rfl (by first|rfl|omega|(simp;done)|(simp;omega)|(simp at *;omega)) (by first|rfl|exact Xgz _ _|exact XiM _|exact XiI _|exact XiU (by first|exact XcJ|exact XcI|exact Xb5|exact Xbw|exact Xb6) _|(rw [XhA];exact Xgz _ _)|(simp [Xgz,XiM,XiI,XjJ,XjZ,XjX,XjO];done)|(simp;exact List.all_eq_true.1 (XiU (by first|exact XcJ|exact XcI|exact Xb5|exact Xbw|exact Xb6) _))) rfl) ?_
  conv=>whnf
  let row6:List Xay:=l++m
  first|have hlen_row6:row6.length=_:=List.length_append ..|skip
  refine Xnd XaK (xs:=l) (ys:=m) (by first|rfl|(simp;done)|(simp [vI,vB,vS,List.map_drop,List.map_take];done)) (by first|rfl|omega) (by first|rfl|omega|(simp;done)|(simp;omega)|(simp at *;omega)) (by first|rfl|omega|(simp;done)|(simp;omega)|(simp at *;omega)) ?_
  conv=>whnf
  exact W
 all_goals cases h
theorem XCe (Xat:XaY) (XaI:Xa6) (Xas:XaV) (XaX:Xbo) (Xaw:XaZ) (Xam:XaS) (Xa0:Xbp) (Xao:XaT) (Xah:XaG) (Xad:XaC) (Xab:Xaj) (Xaf:XaE) (Xae:XaB) (hS:XaF Try.prog (XaP (XkE Xat XaI Xas XaX Xaw Xam Xa0 Xao Xah Xad Xab Xaf Xae))) {rows:Int} {places:Int} {k:Xau} {l:List Xay} {m:List Xay} {text:List UInt8} {i:Int} {n34:Xal} {res:Bool}:∀ {fuel} {st:Int×Int×Int×Int×Nat×Nat×Nat×Nat×Nat×Nat×Nat×(List Int)×(List Int)×(List Int)×(List Int)×(List Int)×(List Int)×(List Int)} {o:Bool},iter (fun st=>XbU Xat XaI Xas Xaw Xam Xao Xah Xad Xab Xaf Xae rows places k l m text i n34 st.1 st.2.1 st.2.2.1 st.2.2.2.1 st.2.2.2.2.1 st.2.2.2.2.2.1 st.2.2.2.2.2.2.1 st.2.2.2.2.2.2.2.1 st.2.2.2.2.2.2.2.2.1 st.2.2.2.2.2.2.2.2.2.1 st.2.2.2.2.2.2.2.2.2.2.1 st.2.2.2.2.2.2.2.2.2.2.2.1 st.2.2.2.2.2.2.2.2.2.2.2.2.1 st.2.2.2.2.2.2.2.2.2.2.2.2.2.1 st.2.2.2.2.2.2.2.2.2.2.2.2.2.2.1 st.2.2.2.2.2.2.2.2.2.2.2.2.2.2.2.1 st.2.2.2.2.2.2.2.2.2.2.2.2.2.2.2.2.1 st.2.2.2.2.2.2.2.2.2.2.2.2.2.2.2.2.2) fuel st=some o→(o=res) →
 XaU Try.prog 3 2 (Xt0 rows places k l m text i n34 st.1 st.2.1 st.2.2.1 st.2.2.2.1 st.2.2.2.2.1 st.2.2.2.2.2.1 st.2.2.2.2.2.2.1 st.2.2.2.2.2.2.2.1 st.2.2.2.2.2.2.2.2.1 st.2.2.2.2.2.2.2.2.2.1 st.2.2.2.2.2.2.2.2.2.2.1 st.2.2.2.2.2.2.2.2.2.2.2.1 st.2.2.2.2.2.2.2.2.2.2.2.2.1 st.2.2.2.2.2.2.2.2.2.2.2.2.2.1 st.2.2.2.2.2.2.2.2.2.2.2.2.2.2.1 st.2.2.2.2.2.2.2.2.2.2.2.2.2.2.2.1 st.2.2.2.2.2.2.2.2.2.2.2.2.2.2.2.2.1 st.2.2.2.2.2.2.2.2.2.2.2.2.2.2.2.2.2) (fun v H _=>Res 2 (rx3 res) v H):=by
 apply XaO
 intro st o h hc
 obtain ⟨xj12,s18,s19,s20,c84,c85,c86,c87,c88,c89,c90,c91,c92,c93,c94,c95,c96,c97⟩:=st
 try dsimp -zeta only at h ⊢
 unfold XbU at h
 have R1:=@Xlt XaI
 have LM:=lm [(0,0),(1,1),(2,2),(6,6),(7,7),(8,39),(9,40),(10,41),(11,42),(12,43),(13,44),(14,45),(19,19),(20,20),(21,21),(22,22),(23,23),(24,24),(25,25),(26,26),(27,27)]
 have LP:=@XBe Xat XaI Xas XaX Xaw Xam Xa0 Xao Xah Xad Xab Xaf Xae hS;have LQ:=lm [(0,0),(1,1),(2,2),(6,6),(7,7),(8,8),(9,9),(10,10),(11,11),(12,12),(13,13),(14,14),(19,19),(20,20),(21,21),(22,22),(23,23),(24,24),(25,25),(26,26),(27,27)]
 refine Xa4 XaM hS true 3000 ?_
 conv=>whnf
 refine br.h2 h (by rfl) ?_ ?_
 ·clear h;intro hb h;conv=>whnf
  exact W
 clear h;intro hb h;conv=>whnf
 replace h:=XaQ.elim h;obtain ⟨hb,h⟩:=h
 try (refine req.intro hb ?_;conv=>whnf)
 replace h:=Xbu.elim h;obtain ⟨e12,hy,h⟩:=h
 refine rd.T (j:=0) XaK hy (by first|omega|exact Nat.zero_add _|exact congrArg (·+_) (Nat.zero_add _)) (by decide) rfl ?_
 conv=>whnf
 replace h:=XaQ.elim h;obtain ⟨hb,h⟩:=h
 try (refine req.intro hb ?_;conv=>whnf)
 refine rd.T (i:=xj12.toNat) (x:=e12) (j:=1) XaK (by assumption) (by first|omega|exact Nat.zero_add _|exact congrArg (·+_) (Nat.zero_add _)) (by decide) rfl ?_
 conv=>whnf
 replace h:=Xbu.elim h;obtain ⟨x7,hy,h⟩:=h
 refine XdI.a (XuQ hy) ?_
 conv=>whnf
 replace h:=XaQ.elim h;obtain ⟨hb,h⟩:=h
 try (refine req.intro hb ?_;conv=>whnf)
 refine XAi (i:=xj12.toNat) (x:=e12) XaK (by assumption) (by first|omega|exact Nat.zero_add _|exact congrArg (·+_) (Nat.zero_add _)) rfl ?_
 conv=>whnf
 exact W
theorem XCb (Xat:XaY) (XaI:Xa6) (Xas:XaV) (XaX:Xbo) (Xaw:XaZ) (Xam:XaS) (Xa0:Xbp) (Xao:XaT) (Xah:XaG) (Xad:XaC) (Xab:Xaj) (Xaf:XaE) (Xae:XaB) (hS:XaF Try.prog (XaP (XkE Xat XaI Xas XaX Xaw Xam Xa0 Xao Xah Xad Xab Xaf Xae))) {rows:Int} {places:Int} {k:Xau} {l:List Xay} {m:List Xay} {text:List UInt8} {i:Int} {s21:Int} {s22:Int} {s23:Int} {c112:Nat} {c113:Nat} {c114:Nat} {c115:Nat} {c116:Nat} {c117:Nat} {c118:Nat} {c119:Nat} {c120:List Int} {c121:List Int} {c122:List Int} {c123:List Int} {c124:List Int} {c125:List Int} {c126:List Int} {c127:List Int} {res:Bool}:∀ {fuel} {st:Int×Int×Int×Int×Nat×Nat×Nat×Nat×Nat×Nat×Nat×Nat×(List Int)×(List Int)×(List Int)×(List Int)×(List Int)×(List Int)×(List Int)×(List Int)} {o:Bool},iter (fun st=>XbO Xat Xas Xaw Xam Xao Xah Xad Xab Xaf Xae rows places k l m text i s21 s22 s23 c112 c113 c114 c115 c116 c117 c118 c119 c120 c121 c122 c123 c124 c125 c126 c127 st.1 st.2.1 st.2.2.1 st.2.2.2.1 st.2.2.2.2.1 st.2.2.2.2.2.1 st.2.2.2.2.2.2.1 st.2.2.2.2.2.2.2.1 st.2.2.2.2.2.2.2.2.1 st.2.2.2.2.2.2.2.2.2.1 st.2.2.2.2.2.2.2.2.2.2.1 st.2.2.2.2.2.2.2.2.2.2.2.1 st.2.2.2.2.2.2.2.2.2.2.2.2.1 st.2.2.2.2.2.2.2.2.2.2.2.2.2.1 st.2.2.2.2.2.2.2.2.2.2.2.2.2.2.1 st.2.2.2.2.2.2.2.2.2.2.2.2.2.2.2.1 st.2.2.2.2.2.2.2.2.2.2.2.2.2.2.2.2.1 st.2.2.2.2.2.2.2.2.2.2.2.2.2.2.2.2.2.1 st.2.2.2.2.2.2.2.2.2.2.2.2.2.2.2.2.2.2.1 st.2.2.2.2.2.2.2.2.2.2.2.2.2.2.2.2.2.2.2) fuel st=some o→(o=res) →
 XaU Try.prog 3 2 (XCD rows places k l m text i s21 s22 s23 c112 c113 c114 c115 c116 c117 c118 c119 c120 c121 c122 c123 c124 c125 c126 c127 st.1 st.2.1 st.2.2.1 st.2.2.2.1 st.2.2.2.2.1 st.2.2.2.2.2.1 st.2.2.2.2.2.2.1 st.2.2.2.2.2.2.2.1 st.2.2.2.2.2.2.2.2.1 st.2.2.2.2.2.2.2.2.2.1 st.2.2.2.2.2.2.2.2.2.2.1 st.2.2.2.2.2.2.2.2.2.2.2.1 st.2.2.2.2.2.2.2.2.2.2.2.2.1 st.2.2.2.2.2.2.2.2.2.2.2.2.2.1 st.2.2.2.2.2.2.2.2.2.2.2.2.2.2.1 st.2.2.2.2.2.2.2.2.2.2.2.2.2.2.2.1 st.2.2.2.2.2.2.2.2.2.2.2.2.2.2.2.2.1 st.2.2.2.2.2.2.2.2.2.2.2.2.2.2.2.2.2.1 st.2.2.2.2.2.2.2.2.2.2.2.2.2.2.2.2.2.2.1 st.2.2.2.2.2.2.2.2.2.2.2.2.2.2.2.2.2.2.2) (fun v H _=>Res 2 (rx3 res) v H):=by
 apply XaO
 intro st o h hc
 obtain ⟨xj15,t42,t43,t44,c128,c129,c130,c131,c132,c133,c134,c135,c136,c137,c138,c139,c140,c141,c142,c143⟩:=st
 try dsimp -zeta only at h ⊢
 unfold XbO at h
 have R1:=@XuD Xaf
 have R2:=@Xlz Xas
 have R3:=@XAv Xad
 have R4:=@Xm5 Xat
 have R5:=@XAx Xae
 have R6:=@Xm9 Xaw
 have R7:=@XpH Xab
 have R8:=@Xpk Xam
 have LM:=lm [(0,0),(1,1),(2,2),(6,6),(7,7),(8,8),(9,9),(10,10),(11,11),(12,12),(13,13),(14,14),(15,15),(20,20),(21,21),(22,41),(23,42),(24,43),(25,44),(26,45),(27,46),(28,47),(29,48)]
 refine Xa4 XaM hS true 3000 ?_
 conv=>whnf
 refine br.h h (by rfl) ?_ ?_
 ·clear h;intro hb h;conv=>whnf
  replace h:=XaQ.elim h;obtain ⟨hb,h⟩:=h
  try (refine req.intro hb ?_;conv=>whnf)
  replace h:=Xbu.elim h;obtain ⟨e15,hy,h⟩:=h
  refine rd.T (j:=0) XaK hy (by first|omega|exact Nat.zero_add _|exact congrArg (·+_) (Nat.zero_add _)) (by decide) rfl ?_
  conv=>whnf
  replace h:=XaQ.elim h;obtain ⟨hb,h⟩:=h
  try (refine req.intro hb ?_;conv=>whnf)
  refine rd.T (i:=xj15.toNat) (x:=e15) (j:=1) XaK (by assumption) (by first|omega|exact Nat.zero_add _|exact congrArg (·+_) (Nat.zero_add _)) (by decide) rfl ?_
  conv=>whnf
  exact W
 clear h;intro hb h;conv=>whnf
 replace h:=Xbu.elim h;obtain ⟨n40,hy,h⟩:=h
 cases n40
 case v8 n41=>
  refine XdI.a (Xe9 hy) ?_
  conv=>whnf
  replace h:=Xbu.elim h;obtain ⟨x82,hy,h⟩:=h
  refine XdI.a (Xql hy) ?_
  conv=>whnf
  refine br.h h (by rfl) ?_ ?_
  ·clear h;intro hb h;conv=>whnf
   exact W
  clear h;intro hb h;conv=>whnf
  replace h:=Xbu.elim h;obtain ⟨x83,hy,h⟩:=h
  refine XdI.a (Xql hy) ?_
  conv=>whnf
  refine br.h h (by rfl) ?_ ?_
  ·clear h;intro hb h;conv=>whnf
   exact W
  clear h;intro hb h;conv=>whnf
  refine req.intro (by first|rfl|omega|(simp;done)|(simp;omega)|(simp at *;omega)) ?_;conv=>whnf
  conv=>whnf
  replace h:=XaQ.elim h;obtain ⟨hb,h⟩:=h
  refine req.intro (Xkc (of_decide_eq_true hb) (by first|rfl|omega|(simp;done)|(simp;omega)|(simp at *;omega))) ?_
  conv=>whnf
  refine Xk4 (f:=Xa5) (ys:=l) (by first|rfl|(simp;done)|(simp [vI,vB,vS,List.map_drop,List.map_take];done)) (by first|rfl|omega|(simp;done)|(simp;omega)|(simp at *;omega)) ?_
  conv=>whnf
  refine req.intro (by first|rfl|omega|(simp;done)|(simp;omega)|(simp at *;omega)) ?_;conv=>whnf
  conv=>whnf
  replace h:=XaQ.elim h;obtain ⟨hb,h⟩:=h
  refine req.intro (Xnh (of_decide_eq_true hb) (by first|rfl|omega|(simp;done)|(simp;omega)|(simp at *;omega)) rfl (by first|rfl|omega|(simp;done)|(simp;omega)|(simp at *;omega)) (by first|rfl|exact Xgz _ _|exact XiM _|exact XiI _|exact XiU (by first|exact XcJ|exact XcI|exact Xb5|exact Xbw|exact Xb6) _|(rw [XhA];exact Xgz _ _)|(simp [Xgz,XiM,XiI,XjJ,XjZ,XjX,XjO];done)|(simp;exact List.all_eq_true.1 (XiU (by first|exact XcJ|exact XcI|exact Xb5|exact Xbw|exact Xb6) _))) rfl) ?_
  conv=>whnf
  let row7:List Xay:=l++m
  first|have hlen_row7:row7.length=_:=List.length_append ..|skip
  refine Xnd XaK (xs:=l) (ys:=m) (by first|rfl|(simp;done)|(simp [vI,vB,vS,List.map_drop,List.map_take];done)) (by first|rfl|omega) (by first|rfl|omega|(simp;done)|(simp;omega)|(simp at *;omega)) (by first|rfl|omega|(simp;done)|(simp;omega)|(simp at *;omega)) ?_
  conv=>whnf
  exact W
 all_goals cases h
theorem XAQ (Xat:XaY) (XaI:Xa6) (Xas:XaV) (XaX:Xbo) (Xaw:XaZ) (Xam:XaS) (Xa0:Xbp) (Xao:XaT) (Xah:XaG) (Xad:XaC) (Xab:Xaj) (Xaf:XaE) (Xae:XaB) (hS:XaF Try.prog (XaP (XkE Xat XaI Xas XaX Xaw Xam Xa0 Xao Xah Xad Xab Xaf Xae))) {rows:Int} {places:Int} {k:Xau} {l:List Xay} {m:List Xay} {text:List UInt8} {i:Int} {n39:Xak} {res:Bool}:∀ {fuel} {st:Int×Int×Int×Int×Nat×Nat×Nat×Nat×Nat×Nat×Nat×Nat×(List Int)×(List Int)×(List Int)×(List Int)×(List Int)×(List Int)×(List Int)×(List Int)} {o:Bool},iter (fun st=>XbR Xat XaI Xas Xaw Xam Xao Xah Xad Xab Xaf Xae rows places k l m text i n39 st.1 st.2.1 st.2.2.1 st.2.2.2.1 st.2.2.2.2.1 st.2.2.2.2.2.1 st.2.2.2.2.2.2.1 st.2.2.2.2.2.2.2.1 st.2.2.2.2.2.2.2.2.1 st.2.2.2.2.2.2.2.2.2.1 st.2.2.2.2.2.2.2.2.2.2.1 st.2.2.2.2.2.2.2.2.2.2.2.1 st.2.2.2.2.2.2.2.2.2.2.2.2.1 st.2.2.2.2.2.2.2.2.2.2.2.2.2.1 st.2.2.2.2.2.2.2.2.2.2.2.2.2.2.1 st.2.2.2.2.2.2.2.2.2.2.2.2.2.2.2.1 st.2.2.2.2.2.2.2.2.2.2.2.2.2.2.2.2.1 st.2.2.2.2.2.2.2.2.2.2.2.2.2.2.2.2.2.1 st.2.2.2.2.2.2.2.2.2.2.2.2.2.2.2.2.2.2.1 st.2.2.2.2.2.2.2.2.2.2.2.2.2.2.2.2.2.2.2) fuel st=some o→(o=res) →
 XaU Try.prog 3 2 (XtF rows places k l m text i n39 st.1 st.2.1 st.2.2.1 st.2.2.2.1 st.2.2.2.2.1 st.2.2.2.2.2.1 st.2.2.2.2.2.2.1 st.2.2.2.2.2.2.2.1 st.2.2.2.2.2.2.2.2.1 st.2.2.2.2.2.2.2.2.2.1 st.2.2.2.2.2.2.2.2.2.2.1 st.2.2.2.2.2.2.2.2.2.2.2.1 st.2.2.2.2.2.2.2.2.2.2.2.2.1 st.2.2.2.2.2.2.2.2.2.2.2.2.2.1 st.2.2.2.2.2.2.2.2.2.2.2.2.2.2.1 st.2.2.2.2.2.2.2.2.2.2.2.2.2.2.2.1 st.2.2.2.2.2.2.2.2.2.2.2.2.2.2.2.2.1 st.2.2.2.2.2.2.2.2.2.2.2.2.2.2.2.2.2.1 st.2.2.2.2.2.2.2.2.2.2.2.2.2.2.2.2.2.2.1 st.2.2.2.2.2.2.2.2.2.2.2.2.2.2.2.2.2.2.2) (fun v H _=>Res 2 (rx3 res) v H):=by
 apply XaO
 intro st o h hc
 obtain ⟨xj14,s21,s22,s23,c112,c113,c114,c115,c116,c117,c118,c119,c120,c121,c122,c123,c124,c125,c126,c127⟩:=st
 try dsimp -zeta only at h ⊢
 unfold XbR at h
 have R1:=@Xlt XaI
 have LM:=lm [(0,0),(1,1),(2,2),(6,6),(7,7),(8,41),(9,42),(10,43),(11,44),(12,45),(13,46),(14,47),(15,48),(20,20),(21,21),(22,22),(23,23),(24,24),(25,25),(26,26),(27,27),(28,28),(29,29)]
 have LP:=@XCb Xat XaI Xas XaX Xaw Xam Xa0 Xao Xah Xad Xab Xaf Xae hS;have LQ:=lm [(0,0),(1,1),(2,2),(6,6),(7,7),(8,8),(9,9),(10,10),(11,11),(12,12),(13,13),(14,14),(15,15),(20,20),(21,21),(22,22),(23,23),(24,24),(25,25),(26,26),(27,27),(28,28),(29,29)]
 refine Xa4 XaM hS true 3000 ?_
 conv=>whnf
 refine br.h2 h (by rfl) ?_ ?_
 ·clear h;intro hb h;conv=>whnf
  exact W
 clear h;intro hb h;conv=>whnf
 replace h:=XaQ.elim h;obtain ⟨hb,h⟩:=h
 try (refine req.intro hb ?_;conv=>whnf)
 replace h:=Xbu.elim h;obtain ⟨e14,hy,h⟩:=h
 refine rd.T (j:=0) XaK hy (by first|omega|exact Nat.zero_add _|exact congrArg (·+_) (Nat.zero_add _)) (by decide) rfl ?_
 conv=>whnf
 replace h:=XaQ.elim h;obtain ⟨hb,h⟩:=h
 try (refine req.intro hb ?_;conv=>whnf)
 refine rd.T (i:=xj14.toNat) (x:=e14) (j:=1) XaK (by assumption) (by first|omega|exact Nat.zero_add _|exact congrArg (·+_) (Nat.zero_add _)) (by decide) rfl ?_
 conv=>whnf
 replace h:=Xbu.elim h;obtain ⟨x8,hy,h⟩:=h
 refine XdI.a (XuD hy) ?_
 conv=>whnf
 replace h:=XaQ.elim h;obtain ⟨hb,h⟩:=h
 try (refine req.intro hb ?_;conv=>whnf)
 refine XAi (i:=xj14.toNat) (x:=e14) XaK (by assumption) (by first|omega|exact Nat.zero_add _|exact congrArg (·+_) (Nat.zero_add _)) rfl ?_
 conv=>whnf
 exact W
theorem leads3 (Xat:XaY) (XaI:Xa6) (Xas:XaV) (XaX:Xbo) (Xaw:XaZ) (Xam:XaS) (Xa0:Xbp) (Xao:XaT) (Xah:XaG) (Xad:XaC) (Xab:Xaj) (Xaf:XaE) (Xae:XaB) (hS:XaF Try.prog (XaP (XkE Xat XaI Xas XaX Xaw Xam Xa0 Xao Xah Xad Xab Xaf Xae))) (rows:Int) (places:Int) (k:Xau) (l:List Xay) (m:List Xay) (text:List UInt8) (i:Int) (res:Bool) (h:Xfp Xat XaI Xas XaX Xaw Xam Xa0 Xao Xah Xad Xab Xaf Xae rows places k l m text i=some res) :
 XaU Try.prog 3 2 ⟨⟨3,159,[(0,.int .i64 rows),(1,.int .i64 places),(2,.agg ⟨[.int .u64 k.A,.int .u64 k.B]⟩),(3,.slice (some ⟨0,0,none⟩) l.length 2),(4,.slice (some ⟨1,0,none⟩) m.length 2),(5,.string ⟨⟨text⟩⟩),(6,.int .i64 i)],[.code XH6],[],false,none⟩,[],[(0,.row false (vT Xa5 l)),(1,.row false (vT Xa5 m))],2⟩ (fun v H _=>Res 2 (rx3 res) v H):=by
 unfold Xfp at h
 have R1:=@Xpk Xam
 have R2:=@Xmi XaX
 refine Xa4 XaM hS true 3000 ?_
 conv=>whnf
 replace h:=Xbu.elim h;obtain ⟨f,hy,h⟩:=h
 refine XdI.a (XHC hy) ?_
 conv=>whnf
 refine br.h h (by rfl) ?_ ?_
 ·clear h;intro hb h;conv=>whnf
  exact W
 clear h;intro hb h;conv=>whnf
 replace h:=Xbu.elim h;obtain ⟨f1,hy,h⟩:=h
 refine XdI.a (XHC hy) ?_
 conv=>whnf
 refine br.h h (by rfl) ?_ ?_
 ·clear h;intro hb h;conv=>whnf
  exact W
 clear h;intro hb h;conv=>whnf
 refine br.h h (by rfl) ?_ ?_
 ·clear h;intro hb h;conv=>whnf
  exact W
 clear h;intro hb h;conv=>whnf
 replace h:=Xbu.elim h;obtain ⟨n,hy,h⟩:=h
 cases n
 case nil=>
  refine XdI.a (Xe9 hy) ?_
  conv=>whnf
  replace h:=Xbu.elim h;obtain ⟨n1,hy,h⟩:=h
  cases n1
  case nil=>
   refine XdI.a (Xe9 hy) ?_
   conv=>whnf
   exact W
  all_goals cases h
 case v1 n2=>
  refine XdI.a (Xe9 hy) ?_
  conv=>whnf
  replace h:=Xbu.elim h;obtain ⟨n3,hy,h⟩:=h
  cases n3
  case v1 n4=>
   refine XdI.a (Xe9 hy) ?_
   conv=>whnf
   replace h:=Xbu.elim h;obtain ⟨xr1,hy,h⟩:=h
   refine XdI.a (Xmi hy) ?_
   conv=>whnf
   refine br.h h (by rfl) ?_ ?_
   ·clear h;intro hb h;conv=>whnf
    exact W
   clear h;intro hb h;conv=>whnf
   have hl:=XE2 Xat XaI Xas XaX Xaw Xam Xa0 Xao Xah Xad Xab Xaf Xae hS h rfl;simp only [XyW] at hl
   exact Xw4 hl [(0,0),(1,1),(2,2),(6,6),(7,7),(8,8),(13,13),(14,14),(15,15)] rfl
  all_goals cases h
 case v2 n7=>
  refine XdI.a (Xe9 hy) ?_
  conv=>whnf
  replace h:=Xbu.elim h;obtain ⟨n8,hy,h⟩:=h
  cases n8
  case v2 n9=>
   refine XdI.a (Xe9 hy) ?_
   conv=>whnf
   replace h:=Xbu.elim h;obtain ⟨xr2,hy,h⟩:=h
   refine XdI.a (Xmi hy) ?_
   conv=>whnf
   refine br.h h (by rfl) ?_ ?_
   ·clear h;intro hb h;conv=>whnf
    exact W
   clear h;intro hb h;conv=>whnf
   have hl:=XGg Xat XaI Xas XaX Xaw Xam Xa0 Xao Xah Xad Xab Xaf Xae hS h rfl;simp only [XyL] at hl
   exact Xw4 hl [(0,0),(1,1),(2,2),(6,6),(7,7),(8,8),(9,9),(14,14),(15,15),(16,16),(17,17)] rfl
  all_goals cases h
 case v3 n12=>
  refine XdI.a (Xe9 hy) ?_
  conv=>whnf
  replace h:=Xbu.elim h;obtain ⟨n13,hy,h⟩:=h
  cases n13
  case v3 n14=>
   refine XdI.a (Xe9 hy) ?_
   conv=>whnf
   replace h:=Xbu.elim h;obtain ⟨xr3,hy,h⟩:=h
   refine XdI.a (Xmi hy) ?_
   conv=>whnf
   refine br.h h (by rfl) ?_ ?_
   ·clear h;intro hb h;conv=>whnf
    exact W
   clear h;intro hb h;conv=>whnf
   have hl:=XGp Xat XaI Xas XaX Xaw Xam Xa0 Xao Xah Xad Xab Xaf Xae hS h rfl;simp only [Xw9] at hl
   exact Xw4 hl [(0,0),(1,1),(2,2),(6,6),(7,7),(8,8),(9,9),(10,10),(15,15),(16,16),(17,17),(18,18),(19,19)] rfl
  all_goals cases h
 case v4 n17=>
  refine XdI.a (Xe9 hy) ?_
  conv=>whnf
  replace h:=Xbu.elim h;obtain ⟨n18,hy,h⟩:=h
  cases n18
  case v4 n19=>
   refine XdI.a (Xe9 hy) ?_
   conv=>whnf
   replace h:=Xbu.elim h;obtain ⟨xr4,hy,h⟩:=h
   refine XdI.a (Xmi hy) ?_
   conv=>whnf
   refine br.h h (by rfl) ?_ ?_
   ·clear h;intro hb h;conv=>whnf
    exact W
   clear h;intro hb h;conv=>whnf
   have hl:=XEu Xat XaI Xas XaX Xaw Xam Xa0 Xao Xah Xad Xab Xaf Xae hS h rfl;simp only [XyS] at hl
   exact Xw4 hl [(0,0),(1,1),(2,2),(6,6),(7,7),(8,8),(9,9),(10,10),(11,11),(16,16),(17,17),(18,18),(19,19),(20,20),(21,21)] rfl
  all_goals cases h
 case v5 n22=>
  refine XdI.a (Xe9 hy) ?_
  conv=>whnf
  replace h:=Xbu.elim h;obtain ⟨n23,hy,h⟩:=h
  cases n23
  case v5 n24=>
   refine XdI.a (Xe9 hy) ?_
   conv=>whnf
   replace h:=Xbu.elim h;obtain ⟨xr5,hy,h⟩:=h
   refine XdI.a (Xmi hy) ?_
   conv=>whnf
   refine br.h h (by rfl) ?_ ?_
   ·clear h;intro hb h;conv=>whnf
    exact W
   clear h;intro hb h;conv=>whnf
   have hl:=XBx Xat XaI Xas XaX Xaw Xam Xa0 Xao Xah Xad Xab Xaf Xae hS h rfl;simp only [XuP] at hl
   exact Xw4 hl [(0,0),(1,1),(2,2),(6,6),(7,7),(8,8),(9,9),(10,10),(11,11),(12,12),(17,17),(18,18),(19,19),(20,20),(21,21),(22,22),(23,23)] rfl
  all_goals cases h
 case v6 n27=>
  refine XdI.a (Xe9 hy) ?_
  conv=>whnf
  replace h:=Xbu.elim h;obtain ⟨n28,hy,h⟩:=h
  cases n28
  case v6 n29=>
   refine XdI.a (Xe9 hy) ?_
   conv=>whnf
   replace h:=Xbu.elim h;obtain ⟨xr6,hy,h⟩:=h
   refine XdI.a (Xmi hy) ?_
   conv=>whnf
   refine br.h h (by rfl) ?_ ?_
   ·clear h;intro hb h;conv=>whnf
    exact W
   clear h;intro hb h;conv=>whnf
   have hl:=XCI Xat XaI Xas XaX Xaw Xam Xa0 Xao Xah Xad Xab Xaf Xae hS h rfl;simp only [Xue] at hl
   exact Xw4 hl [(0,0),(1,1),(2,2),(6,6),(7,7),(8,8),(9,9),(10,10),(11,11),(12,12),(13,13),(18,18),(19,19),(20,20),(21,21),(22,22),(23,23),(24,24),(25,25)] rfl
  all_goals cases h
 case v7 n32=>
  refine XdI.a (Xe9 hy) ?_
  conv=>whnf
  replace h:=Xbu.elim h;obtain ⟨n33,hy,h⟩:=h
  cases n33
  case v7 n34=>
   refine XdI.a (Xe9 hy) ?_
   conv=>whnf
   replace h:=Xbu.elim h;obtain ⟨xr7,hy,h⟩:=h
   refine XdI.a (Xmi hy) ?_
   conv=>whnf
   refine br.h h (by rfl) ?_ ?_
   ·clear h;intro hb h;conv=>whnf
    exact W
   clear h;intro hb h;conv=>whnf
   have hl:=XCe Xat XaI Xas XaX Xaw Xam Xa0 Xao Xah Xad Xab Xaf Xae hS h rfl;simp only [Xt0] at hl
   exact Xw4 hl [(0,0),(1,1),(2,2),(6,6),(7,7),(8,8),(9,9),(10,10),(11,11),(12,12),(13,13),(14,14),(19,19),(20,20),(21,21),(22,22),(23,23),(24,24),(25,25),(26,26),(27,27)] rfl
  all_goals cases h
 case v8 n37=>
  refine XdI.a (Xe9 hy) ?_
  conv=>whnf
  replace h:=Xbu.elim h;obtain ⟨n38,hy,h⟩:=h
  cases n38
  case v8 n39=>
   refine XdI.a (Xe9 hy) ?_
   conv=>whnf
   replace h:=Xbu.elim h;obtain ⟨xr8,hy,h⟩:=h
   refine XdI.a (Xmi hy) ?_
   conv=>whnf
   refine br.h h (by rfl) ?_ ?_
   ·clear h;intro hb h;conv=>whnf
    exact W
   clear h;intro hb h;conv=>whnf
   have hl:=XAQ Xat XaI Xas XaX Xaw Xam Xa0 Xao Xah Xad Xab Xaf Xae hS h rfl;simp only [XtF] at hl
   exact Xw4 hl [(0,0),(1,1),(2,2),(6,6),(7,7),(8,8),(9,9),(10,10),(11,11),(12,12),(13,13),(14,14),(15,15),(20,20),(21,21),(22,22),(23,23),(24,24),(25,25),(26,26),(27,27),(28,28),(29,29)] rfl
  all_goals cases h
def Xjc:Xg5:=Xfp Xat XaI Xas XaX Xaw Xam Xa0 Xao Xah Xad Xab Xaf Xae
end Go.Vm.Code
namespace Go.Vm.Code
open Go Go.Vm
set_option maxHeartbeats 4000000
def key1 (k:Xau):Xau:=⟨k.A,wI .u64 (k.B+1)⟩
theorem XkN {k:Xau} (hk:0≤k.B∧k.B<2^64):Xdp k (key1 k)=false:=by
 have:¬ k.B=wI .u64 (k.B+1):=by rw [XqL];omega
 unfold Xdp key1
 simp only [beq_eq_false_iff_ne.2 this,Bool.false_and,Bool.and_false]
theorem Xvc (s:XaA) {i:Int} (hi:i<0∨1≤i) (t:List UInt8):Xeh s i t=some (-1):=by
 unfold Xeh XdP
 rw [show Xaa.v1 s=some true from rfl,Option.bind_some,show (!true)=false from rfl,cond_false]
 by_cases h:i<0
 ·rw [Xbd h]
 ·rw [Xa7 h,Xbd (by omega)]
theorem XI5 {k:Xau} {p:Nat} (hp:1≤p∧p≤4096) (hk:0≤k.B∧k.B<2^64) {l m:List Xay} (h30:l.length≤30) (hl:∀ e∈l,e.Text.length≤20) (h31:m.length≤30) (hm:∀ e∈m,e.Text.length≤20) {text:List UInt8} (h20:text.length≤20) (i:Int) :
 iter (fun st=>XbX Xat Xas Xaw Xam Xao Xah Xad Xab Xaf Xae 1 (p:Int) k l m text i k.A k.B (SK k p l).tot p ((SK k p l).R 0) st.1 st.2.1 st.2.2.1 st.2.2.2.1 st.2.2.2.2.1 st.2.2.2.2.2) FUEL (0,k.A,k.B,(newS p).tot,p,(newS p).R 0)=some true:=by
 refine Xd3 (fun j:Nat=>((j:Int),k.A,k.B,(SK k p (m.take j)).tot,p,(SK k p (m.take j)).R 0)) _ m.length (fun j hj=>?_) ?_ (by rw [Xd0];omega)
 ·show XbX Xat Xas Xaw Xam Xao Xah Xad Xab Xaf Xae 1 (p:Int) k l m text i k.A k.B (SK k p l).tot p ((SK k p l).R 0) (j:Int) k.A k.B (SK k p (m.take j)).tot p ((SK k p (m.take j)).R 0)=_
  unfold XbX
  have hp1:Xaf.v1 ⟨⟨k.A,k.B⟩,⟨(SK k p (m.take j)).R 0,p⟩,(SK k p (m.take j)).tot⟩ (m[j]).Text (m[j]).N=some (Xj8 m[j],Xjk k p (stepS k p (SK k p (m.take j)) m[j])):=XyU hp (Xdl.SK k p _) (hm _ (List.getElem_mem hj))
  rw [Xbd (by omega),XaH (by omega),Int.toNat_natCast,List.getElem?_eq_getElem hj,Option.bind_some,XaH (by omega),hp1,Option.bind_some,←XhH _ _ hj,Xf1 (by omega) (by omega)];rfl
 ·show XbX Xat Xas Xaw Xam Xao Xah Xad Xab Xaf Xae 1 (p:Int) k l m text i k.A k.B (SK k p l).tot p ((SK k p l).R 0) (m.length:Int) k.A k.B (SK k p (m.take m.length)).tot p ((SK k p (m.take m.length)).R 0)=_
  unfold XbX
  have ht:∀ e∈l++m,e.Text.length≤20:=fun e he=>(List.mem_append.1 he).elim (hl e) (hm e)
  have hz:=(Xdl.SK k p l).add (Xdl.SK k p m)
  have hnew:Xao 1 (p:Int) ⟨k.A,wI .u64 (k.B+1)⟩=some (.v1 (Xjk (key1 k) p (newS p))):=Xmd (by omega) hp (key1 k)
  have ha1:Xah.v11 ⟨⟨k.A,k.B⟩,⟨(SK k p l).R 0,p⟩,(SK k p l).tot⟩ ⟨⟨k.A,k.B⟩,⟨(SK k p m).R 0,p⟩,(SK k p m).tot⟩=some (true,Xjk k p (Xdk (SK k p l) (SK k p m))):=XEi hp.2 (Xdl.SK k p l) (Xdl.SK k p m)
  have ha2:Xah.v11 (Xjk k p (Xdk (SK k p l) (SK k p m))) (Xjk (key1 k) p (newS p))=some (false,Xjk k p (Xdk (SK k p l) (SK k p m))):=XD0 (k:=k) (k':=key1 k) (p:=p) hz (Xdl.new p) (XkN hk)
  have hg:Xad.v1 (Xjk k p (Xdk (SK k p l) (SK k p m))) text=some (Xly k p (Xdk (SK k p l) (SK k p m)) text 1):=Xwq hp hz h20 (k:=k)
  have htt:Xae.v1 (Xjk k p (Xdk (SK k p l) (SK k p m)))=some (Xdk (SK k p l) (SK k p m)).tot:=Xw1
  have hpo:i<0∨1≤i→Xab.v1 (Xjk k p (Xdk (SK k p l) (SK k p m))) i text=some (-1):=fun h=>Xvc _ h _
  have hpl:∀ q:Nat,q<1→Xab.v1 (Xjk k p (Xdk (SK k p l) (SK k p m))) (q:Int) text=some (plN k p q text:Int):=fun q h=>Xox hp (Xjk k p (Xdk (SK k p l) (SK k p m))) rfl rfl h20 q h
  have hg2:Xat k 1 (p:Int) (l++m) text=some (Xly k p (Xdk (SK k p l) (SK k p m)) text 1):=XkQ (n:=1) hp (by decide) (l:=l++m) (by rw [List.length_append];omega) ht h20 (Xji hp.1 k l m text)
  have ht2:=Xkb (l:=l++m) (by rw [List.length_append];omega)
  rw [List.take_length,Xa7 (by omega),hnew,Option.bind_some]
  dsimp only
  rw [ha1,Option.bind_some]
  dsimp only
  rw [show (!true)=false from rfl,cond_false,ha2,Option.bind_some]
  dsimp only
  rw [cond_false,XaH (by omega),XaH (by omega)]
  by_cases c1:i≥0
  ·rw [Xbd c1]
   by_cases c2:i<1
   ·obtain ⟨q,rfl⟩:=Int.eq_ofNat_of_zero_le c1
    rw [Xbd c2,Xjy hp q h20,Option.bind_some,hg,Option.bind_some,hg2,Option.bind_some,beq_self_eq_true,cond_true,htt,Option.bind_some,ht2,Option.bind_some,Xez,beq_self_eq_true,cond_true,
     hpl q (by omega),Option.bind_some,beq_self_eq_true,cond_true,XdN];rfl
   ·rw [Xa7 c2,hg,Option.bind_some,hg2,Option.bind_some,beq_self_eq_true,cond_true,htt,Option.bind_some,ht2,Option.bind_some,Xez,beq_self_eq_true,cond_true,
     hpo (.inr (by omega)),Option.bind_some,beq_self_eq_true,cond_true,XdN];rfl
  ·rw [Xa7 c1,hg,Option.bind_some,hg2,Option.bind_some,beq_self_eq_true,cond_true,htt,Option.bind_some,ht2,Option.bind_some,Xez,beq_self_eq_true,cond_true,
    hpo (.inl (by omega)),Option.bind_some,beq_self_eq_true,cond_true,XdN];rfl
theorem lawG1 {k:Xau} {p:Nat} (hp:1≤p∧p≤4096) (hk:0≤k.B∧k.B<2^64) {l m:List Xay} (h30:l.length≤30) (hl:∀ e∈l,e.Text.length≤20) (h31:m.length≤30) (hm:∀ e∈m,e.Text.length≤20) {text:List UInt8} (h20:text.length≤20) (i:Int) :
 iter (fun st=>Xb0 Xat XaI Xas Xaw Xam Xao Xah Xad Xab Xaf Xae 1 (p:Int) k l m text i (Xjk k p (newS p)) st.1 st.2.1 st.2.2.1 st.2.2.2.1 st.2.2.2.2.1 st.2.2.2.2.2) FUEL (0,k.A,k.B,(newS p).tot,p,(newS p).R 0)=some true:=by
 refine Xd3 (fun j:Nat=>((j:Int),k.A,k.B,(SK k p (l.take j)).tot,p,(SK k p (l.take j)).R 0)) _ l.length (fun j hj=>?_) ?_ (by rw [Xd0];omega)
 ·show Xb0 Xat XaI Xas Xaw Xam Xao Xah Xad Xab Xaf Xae 1 (p:Int) k l m text i (Xjk k p (newS p)) (j:Int) k.A k.B (SK k p (l.take j)).tot p ((SK k p (l.take j)).R 0)=_
  unfold Xb0
  have hp1:Xaf.v1 ⟨⟨k.A,k.B⟩,⟨(SK k p (l.take j)).R 0,p⟩,(SK k p (l.take j)).tot⟩ (l[j]).Text (l[j]).N=some (Xj8 l[j],Xjk k p (stepS k p (SK k p (l.take j)) l[j])):=XyU hp (Xdl.SK k p _) (hl _ (List.getElem_mem hj))
  rw [Xbd (by omega),XaH (by omega),Int.toNat_natCast,List.getElem?_eq_getElem hj,Option.bind_some,XaH (by omega),hp1,Option.bind_some,XaH (by omega),XoE,Option.bind_some,←XhH _ _ hj,Xf1 (by omega) (by omega)]
  dsimp only
  rw [beq_self_eq_true];rfl
 ·show Xb0 Xat XaI Xas Xaw Xam Xao Xah Xad Xab Xaf Xae 1 (p:Int) k l m text i (Xjk k p (newS p)) (l.length:Int) k.A k.B (SK k p (l.take l.length)).tot p ((SK k p (l.take l.length)).R 0)=_
  unfold Xb0
  rw [Xa7 (by omega),List.take_length]
  exact (congrArg (fun z=>Option.bind z _) (XI5 hp hk h30 hl h31 hm h20 i)).trans rfl
theorem Xv2 (s:Xax) {i:Int} (hi:i<0∨2≤i) (t:List UInt8):Xec s i t=some (-1):=by
 unfold Xec XdW
 rw [show Xaa.v2 s=some true from rfl,Option.bind_some,show (!true)=false from rfl,cond_false]
 by_cases h:i<0
 ·rw [Xbd h]
 ·rw [Xa7 h,Xbd (by omega)]
theorem XH5 {k:Xau} {p:Nat} (hp:1≤p∧p≤4096) (hk:0≤k.B∧k.B<2^64) {l m:List Xay} (h30:l.length≤30) (hl:∀ e∈l,e.Text.length≤20) (h31:m.length≤30) (hm:∀ e∈m,e.Text.length≤20) {text:List UInt8} (h20:text.length≤20) (i:Int) :
 iter (fun st=>Xb3 Xat Xas Xaw Xam Xao Xah Xad Xab Xaf Xae 2 (p:Int) k l m text i k.A k.B (SK k p l).tot p p ((SK k p l).R 0) ((SK k p l).R 1) st.1 st.2.1 st.2.2.1 st.2.2.2.1 st.2.2.2.2.1 st.2.2.2.2.2.1 st.2.2.2.2.2.2.1 st.2.2.2.2.2.2.2) FUEL (0,k.A,k.B,(newS p).tot,p,p,(newS p).R 0,(newS p).R 1)=some true:=by
 refine Xd3 (fun j:Nat=>((j:Int),k.A,k.B,(SK k p (m.take j)).tot,p,p,(SK k p (m.take j)).R 0,(SK k p (m.take j)).R 1)) _ m.length (fun j hj=>?_) ?_ (by rw [Xd0];omega)
 ·show Xb3 Xat Xas Xaw Xam Xao Xah Xad Xab Xaf Xae 2 (p:Int) k l m text i k.A k.B (SK k p l).tot p p ((SK k p l).R 0) ((SK k p l).R 1) (j:Int) k.A k.B (SK k p (m.take j)).tot p p ((SK k p (m.take j)).R 0) ((SK k p (m.take j)).R 1)=_
  unfold Xb3
  have hp1:Xaf.v2 ⟨⟨k.A,k.B⟩,⟨(SK k p (m.take j)).R 0,(SK k p (m.take j)).R 1,p,p⟩,(SK k p (m.take j)).tot⟩ (m[j]).Text (m[j]).N=some (Xj8 m[j],XiQ k p (stepS k p (SK k p (m.take j)) m[j])):=XwR hp (Xdl.SK k p _) (hm _ (List.getElem_mem hj))
  rw [Xbd (by omega),XaH (by omega),Int.toNat_natCast,List.getElem?_eq_getElem hj,Option.bind_some,XaH (by omega),hp1,Option.bind_some,←XhH _ _ hj,Xf1 (by omega) (by omega)];rfl
 ·show Xb3 Xat Xas Xaw Xam Xao Xah Xad Xab Xaf Xae 2 (p:Int) k l m text i k.A k.B (SK k p l).tot p p ((SK k p l).R 0) ((SK k p l).R 1) (m.length:Int) k.A k.B (SK k p (m.take m.length)).tot p p ((SK k p (m.take m.length)).R 0) ((SK k p (m.take m.length)).R 1)=_
  unfold Xb3
  have ht:∀ e∈l++m,e.Text.length≤20:=fun e he=>(List.mem_append.1 he).elim (hl e) (hm e)
  have hz:=(Xdl.SK k p l).add (Xdl.SK k p m)
  have hnew:Xao 2 (p:Int) ⟨k.A,wI .u64 (k.B+1)⟩=some (.v2 (XiQ (key1 k) p (newS p))):=Xmd (by omega) hp (key1 k)
  have ha1:Xah.v22 ⟨⟨k.A,k.B⟩,⟨(SK k p l).R 0,(SK k p l).R 1,p,p⟩,(SK k p l).tot⟩ ⟨⟨k.A,k.B⟩,⟨(SK k p m).R 0,(SK k p m).R 1,p,p⟩,(SK k p m).tot⟩=some (true,XiQ k p (Xdk (SK k p l) (SK k p m))):=XEr hp.2 (Xdl.SK k p l) (Xdl.SK k p m)
  have ha2:Xah.v22 (XiQ k p (Xdk (SK k p l) (SK k p m))) (XiQ (key1 k) p (newS p))=some (false,XiQ k p (Xdk (SK k p l) (SK k p m))):=XEh (k:=k) (k':=key1 k) (p:=p) hz (Xdl.new p) (XkN hk)
  have hg:Xad.v2 (XiQ k p (Xdk (SK k p l) (SK k p m))) text=some (Xly k p (Xdk (SK k p l) (SK k p m)) text 2):=Xxh hp hz h20 (k:=k)
  have htt:Xae.v2 (XiQ k p (Xdk (SK k p l) (SK k p m)))=some (Xdk (SK k p l) (SK k p m)).tot:=XwX
  have hpo:i<0∨2≤i→Xab.v2 (XiQ k p (Xdk (SK k p l) (SK k p m))) i text=some (-1):=fun h=>Xv2 _ h _
  have hpl:∀ q:Nat,q<2→Xab.v2 (XiQ k p (Xdk (SK k p l) (SK k p m))) (q:Int) text=some (plN k p q text:Int):=fun q h=>Xka hp (XiQ k p (Xdk (SK k p l) (SK k p m))) rfl ⟨rfl,rfl⟩ h20 q h
  have hg2:Xat k 2 (p:Int) (l++m) text=some (Xly k p (Xdk (SK k p l) (SK k p m)) text 2):=XkQ (n:=2) hp (by decide) (l:=l++m) (by rw [List.length_append];omega) ht h20 (Xji hp.1 k l m text)
  have ht2:=Xkb (l:=l++m) (by rw [List.length_append];omega)
  rw [List.take_length,Xa7 (by omega),hnew,Option.bind_some]
  dsimp only
  rw [ha1,Option.bind_some]
  dsimp only
  rw [show (!true)=false from rfl,cond_false,ha2,Option.bind_some]
  dsimp only
  rw [cond_false,XaH (by omega),XaH (by omega)]
  by_cases c1:i≥0
  ·rw [Xbd c1]
   by_cases c2:i<2
   ·obtain ⟨q,rfl⟩:=Int.eq_ofNat_of_zero_le c1
    rw [Xbd c2,Xjy hp q h20,Option.bind_some,hg,Option.bind_some,hg2,Option.bind_some,beq_self_eq_true,cond_true,htt,Option.bind_some,ht2,Option.bind_some,Xez,beq_self_eq_true,cond_true,
     hpl q (by omega),Option.bind_some,beq_self_eq_true,cond_true,XdN];rfl
   ·rw [Xa7 c2,hg,Option.bind_some,hg2,Option.bind_some,beq_self_eq_true,cond_true,htt,Option.bind_some,ht2,Option.bind_some,Xez,beq_self_eq_true,cond_true,
     hpo (.inr (by omega)),Option.bind_some,beq_self_eq_true,cond_true,XdN];rfl
  ·rw [Xa7 c1,hg,Option.bind_some,hg2,Option.bind_some,beq_self_eq_true,cond_true,htt,Option.bind_some,ht2,Option.bind_some,Xez,beq_self_eq_true,cond_true,
    hpo (.inl (by omega)),Option.bind_some,beq_self_eq_true,cond_true,XdN];rfl
theorem lawG2 {k:Xau} {p:Nat} (hp:1≤p∧p≤4096) (hk:0≤k.B∧k.B<2^64) {l m:List Xay} (h30:l.length≤30) (hl:∀ e∈l,e.Text.length≤20) (h31:m.length≤30) (hm:∀ e∈m,e.Text.length≤20) {text:List UInt8} (h20:text.length≤20) (i:Int) :
 iter (fun st=>XbY Xat XaI Xas Xaw Xam Xao Xah Xad Xab Xaf Xae 2 (p:Int) k l m text i (XiQ k p (newS p)) st.1 st.2.1 st.2.2.1 st.2.2.2.1 st.2.2.2.2.1 st.2.2.2.2.2.1 st.2.2.2.2.2.2.1 st.2.2.2.2.2.2.2) FUEL (0,k.A,k.B,(newS p).tot,p,p,(newS p).R 0,(newS p).R 1)=some true:=by
 refine Xd3 (fun j:Nat=>((j:Int),k.A,k.B,(SK k p (l.take j)).tot,p,p,(SK k p (l.take j)).R 0,(SK k p (l.take j)).R 1)) _ l.length (fun j hj=>?_) ?_ (by rw [Xd0];omega)
 ·show XbY Xat XaI Xas Xaw Xam Xao Xah Xad Xab Xaf Xae 2 (p:Int) k l m text i (XiQ k p (newS p)) (j:Int) k.A k.B (SK k p (l.take j)).tot p p ((SK k p (l.take j)).R 0) ((SK k p (l.take j)).R 1)=_
  unfold XbY
  have hp1:Xaf.v2 ⟨⟨k.A,k.B⟩,⟨(SK k p (l.take j)).R 0,(SK k p (l.take j)).R 1,p,p⟩,(SK k p (l.take j)).tot⟩ (l[j]).Text (l[j]).N=some (Xj8 l[j],XiQ k p (stepS k p (SK k p (l.take j)) l[j])):=XwR hp (Xdl.SK k p _) (hl _ (List.getElem_mem hj))
  rw [Xbd (by omega),XaH (by omega),Int.toNat_natCast,List.getElem?_eq_getElem hj,Option.bind_some,XaH (by omega),hp1,Option.bind_some,XaH (by omega),XoE,Option.bind_some,←XhH _ _ hj,Xf1 (by omega) (by omega)]
  dsimp only
  rw [beq_self_eq_true];rfl
 ·show XbY Xat XaI Xas Xaw Xam Xao Xah Xad Xab Xaf Xae 2 (p:Int) k l m text i (XiQ k p (newS p)) (l.length:Int) k.A k.B (SK k p (l.take l.length)).tot p p ((SK k p (l.take l.length)).R 0) ((SK k p (l.take l.length)).R 1)=_
  unfold XbY
  rw [Xa7 (by omega),List.take_length]
  exact (congrArg (fun z=>Option.bind z _) (XH5 hp hk h30 hl h31 hm h20 i)).trans rfl
theorem XvT (s:Xav) {i:Int} (hi:i<0∨3≤i) (t:List UInt8):Xd8 s i t=some (-1):=by
 unfold Xd8 XdR
 rw [show Xaa.v3 s=some true from rfl,Option.bind_some,show (!true)=false from rfl,cond_false]
 by_cases h:i<0
 ·rw [Xbd h]
 ·rw [Xa7 h,Xbd (by omega)]
theorem XHL {k:Xau} {p:Nat} (hp:1≤p∧p≤4096) (hk:0≤k.B∧k.B<2^64) {l m:List Xay} (h30:l.length≤30) (hl:∀ e∈l,e.Text.length≤20) (h31:m.length≤30) (hm:∀ e∈m,e.Text.length≤20) {text:List UInt8} (h20:text.length≤20) (i:Int) :
 iter (fun st=>XbW Xat Xas Xaw Xam Xao Xah Xad Xab Xaf Xae 3 (p:Int) k l m text i k.A k.B (SK k p l).tot p p p ((SK k p l).R 0) ((SK k p l).R 1) ((SK k p l).R 2) st.1 st.2.1 st.2.2.1 st.2.2.2.1 st.2.2.2.2.1 st.2.2.2.2.2.1 st.2.2.2.2.2.2.1 st.2.2.2.2.2.2.2.1 st.2.2.2.2.2.2.2.2.1 st.2.2.2.2.2.2.2.2.2) FUEL (0,k.A,k.B,(newS p).tot,p,p,p,(newS p).R 0,(newS p).R 1,(newS p).R 2)=some true:=by
 refine Xd3 (fun j:Nat=>((j:Int),k.A,k.B,(SK k p (m.take j)).tot,p,p,p,(SK k p (m.take j)).R 0,(SK k p (m.take j)).R 1,(SK k p (m.take j)).R 2)) _ m.length (fun j hj=>?_) ?_ (by rw [Xd0];omega)
 ·show XbW Xat Xas Xaw Xam Xao Xah Xad Xab Xaf Xae 3 (p:Int) k l m text i k.A k.B (SK k p l).tot p p p ((SK k p l).R 0) ((SK k p l).R 1) ((SK k p l).R 2) (j:Int) k.A k.B (SK k p (m.take j)).tot p p p ((SK k p (m.take j)).R 0) ((SK k p (m.take j)).R 1) ((SK k p (m.take j)).R 2)=_
  unfold XbW
  have hp1:Xaf.v3 ⟨⟨k.A,k.B⟩,⟨(SK k p (m.take j)).R 0,(SK k p (m.take j)).R 1,(SK k p (m.take j)).R 2,p,p,p⟩,(SK k p (m.take j)).tot⟩ (m[j]).Text (m[j]).N=some (Xj8 m[j],Xh8 k p (stepS k p (SK k p (m.take j)) m[j])):=Xyz hp (Xdl.SK k p _) (hm _ (List.getElem_mem hj))
  rw [Xbd (by omega),XaH (by omega),Int.toNat_natCast,List.getElem?_eq_getElem hj,Option.bind_some,XaH (by omega),hp1,Option.bind_some,←XhH _ _ hj,Xf1 (by omega) (by omega)];rfl
 ·show XbW Xat Xas Xaw Xam Xao Xah Xad Xab Xaf Xae 3 (p:Int) k l m text i k.A k.B (SK k p l).tot p p p ((SK k p l).R 0) ((SK k p l).R 1) ((SK k p l).R 2) (m.length:Int) k.A k.B (SK k p (m.take m.length)).tot p p p ((SK k p (m.take m.length)).R 0) ((SK k p (m.take m.length)).R 1) ((SK k p (m.take m.length)).R 2)=_
  unfold XbW
  have ht:∀ e∈l++m,e.Text.length≤20:=fun e he=>(List.mem_append.1 he).elim (hl e) (hm e)
  have hz:=(Xdl.SK k p l).add (Xdl.SK k p m)
  have hnew:Xao 3 (p:Int) ⟨k.A,wI .u64 (k.B+1)⟩=some (.v3 (Xh8 (key1 k) p (newS p))):=Xmd (by omega) hp (key1 k)
  have ha1:Xah.v33 ⟨⟨k.A,k.B⟩,⟨(SK k p l).R 0,(SK k p l).R 1,(SK k p l).R 2,p,p,p⟩,(SK k p l).tot⟩ ⟨⟨k.A,k.B⟩,⟨(SK k p m).R 0,(SK k p m).R 1,(SK k p m).R 2,p,p,p⟩,(SK k p m).tot⟩=some (true,Xh8 k p (Xdk (SK k p l) (SK k p m))):=XEl hp.2 (Xdl.SK k p l) (Xdl.SK k p m)
  have ha2:Xah.v33 (Xh8 k p (Xdk (SK k p l) (SK k p m))) (Xh8 (key1 k) p (newS p))=some (false,Xh8 k p (Xdk (SK k p l) (SK k p m))):=XD8 (k:=k) (k':=key1 k) (p:=p) hz (Xdl.new p) (XkN hk)
  have hg:Xad.v3 (Xh8 k p (Xdk (SK k p l) (SK k p m))) text=some (Xly k p (Xdk (SK k p l) (SK k p m)) text 3):=XxC hp hz h20 (k:=k)
  have htt:Xae.v3 (Xh8 k p (Xdk (SK k p l) (SK k p m)))=some (Xdk (SK k p l) (SK k p m)).tot:=Xyh
  have hpo:i<0∨3≤i→Xab.v3 (Xh8 k p (Xdk (SK k p l) (SK k p m))) i text=some (-1):=fun h=>XvT _ h _
  have hpl:∀ q:Nat,q<3→Xab.v3 (Xh8 k p (Xdk (SK k p l) (SK k p m))) (q:Int) text=some (plN k p q text:Int):=fun q h=>Xi5 hp (Xh8 k p (Xdk (SK k p l) (SK k p m))) rfl ⟨rfl,rfl,rfl⟩ h20 q h
  have hg2:Xat k 3 (p:Int) (l++m) text=some (Xly k p (Xdk (SK k p l) (SK k p m)) text 3):=XkQ (n:=3) hp (by decide) (l:=l++m) (by rw [List.length_append];omega) ht h20 (Xji hp.1 k l m text)
  have ht2:=Xkb (l:=l++m) (by rw [List.length_append];omega)
  rw [List.take_length,Xa7 (by omega),hnew,Option.bind_some]
  dsimp only
  rw [ha1,Option.bind_some]
  dsimp only
  rw [show (!true)=false from rfl,cond_false,ha2,Option.bind_some]
  dsimp only
  rw [cond_false,XaH (by omega),XaH (by omega)]
  by_cases c1:i≥0
  ·rw [Xbd c1]
   by_cases c2:i<3
   ·obtain ⟨q,rfl⟩:=Int.eq_ofNat_of_zero_le c1
    rw [Xbd c2,Xjy hp q h20,Option.bind_some,hg,Option.bind_some,hg2,Option.bind_some,beq_self_eq_true,cond_true,htt,Option.bind_some,ht2,Option.bind_some,Xez,beq_self_eq_true,cond_true,
     hpl q (by omega),Option.bind_some,beq_self_eq_true,cond_true,XdN];rfl
   ·rw [Xa7 c2,hg,Option.bind_some,hg2,Option.bind_some,beq_self_eq_true,cond_true,htt,Option.bind_some,ht2,Option.bind_some,Xez,beq_self_eq_true,cond_true,
     hpo (.inr (by omega)),Option.bind_some,beq_self_eq_true,cond_true,XdN];rfl
  ·rw [Xa7 c1,hg,Option.bind_some,hg2,Option.bind_some,beq_self_eq_true,cond_true,htt,Option.bind_some,ht2,Option.bind_some,Xez,beq_self_eq_true,cond_true,
    hpo (.inl (by omega)),Option.bind_some,beq_self_eq_true,cond_true,XdN];rfl
theorem lawG3 {k:Xau} {p:Nat} (hp:1≤p∧p≤4096) (hk:0≤k.B∧k.B<2^64) {l m:List Xay} (h30:l.length≤30) (hl:∀ e∈l,e.Text.length≤20) (h31:m.length≤30) (hm:∀ e∈m,e.Text.length≤20) {text:List UInt8} (h20:text.length≤20) (i:Int) :
 iter (fun st=>Xb1 Xat XaI Xas Xaw Xam Xao Xah Xad Xab Xaf Xae 3 (p:Int) k l m text i (Xh8 k p (newS p)) st.1 st.2.1 st.2.2.1 st.2.2.2.1 st.2.2.2.2.1 st.2.2.2.2.2.1 st.2.2.2.2.2.2.1 st.2.2.2.2.2.2.2.1 st.2.2.2.2.2.2.2.2.1 st.2.2.2.2.2.2.2.2.2) FUEL (0,k.A,k.B,(newS p).tot,p,p,p,(newS p).R 0,(newS p).R 1,(newS p).R 2)=some true:=by
 refine Xd3 (fun j:Nat=>((j:Int),k.A,k.B,(SK k p (l.take j)).tot,p,p,p,(SK k p (l.take j)).R 0,(SK k p (l.take j)).R 1,(SK k p (l.take j)).R 2)) _ l.length (fun j hj=>?_) ?_ (by rw [Xd0];omega)
 ·show Xb1 Xat XaI Xas Xaw Xam Xao Xah Xad Xab Xaf Xae 3 (p:Int) k l m text i (Xh8 k p (newS p)) (j:Int) k.A k.B (SK k p (l.take j)).tot p p p ((SK k p (l.take j)).R 0) ((SK k p (l.take j)).R 1) ((SK k p (l.take j)).R 2)=_
  unfold Xb1
  have hp1:Xaf.v3 ⟨⟨k.A,k.B⟩,⟨(SK k p (l.take j)).R 0,(SK k p (l.take j)).R 1,(SK k p (l.take j)).R 2,p,p,p⟩,(SK k p (l.take j)).tot⟩ (l[j]).Text (l[j]).N=some (Xj8 l[j],Xh8 k p (stepS k p (SK k p (l.take j)) l[j])):=Xyz hp (Xdl.SK k p _) (hl _ (List.getElem_mem hj))
  rw [Xbd (by omega),XaH (by omega),Int.toNat_natCast,List.getElem?_eq_getElem hj,Option.bind_some,XaH (by omega),hp1,Option.bind_some,XaH (by omega),XoE,Option.bind_some,←XhH _ _ hj,Xf1 (by omega) (by omega)]
  dsimp only
  rw [beq_self_eq_true];rfl
 ·show Xb1 Xat XaI Xas Xaw Xam Xao Xah Xad Xab Xaf Xae 3 (p:Int) k l m text i (Xh8 k p (newS p)) (l.length:Int) k.A k.B (SK k p (l.take l.length)).tot p p p ((SK k p (l.take l.length)).R 0) ((SK k p (l.take l.length)).R 1) ((SK k p (l.take l.length)).R 2)=_
  unfold Xb1
  rw [Xa7 (by omega),List.take_length]
  exact (congrArg (fun z=>Option.bind z _) (XHL hp hk h30 hl h31 hm h20 i)).trans rfl
theorem Xv0 (s:Xar) {i:Int} (hi:i<0∨4≤i) (t:List UInt8):Xel s i t=some (-1):=by
 unfold Xel XdT
 rw [show Xaa.v4 s=some true from rfl,Option.bind_some,show (!true)=false from rfl,cond_false]
 by_cases h:i<0
 ·rw [Xbd h]
 ·rw [Xa7 h,Xbd (by omega)]
theorem XHV {k:Xau} {p:Nat} (hp:1≤p∧p≤4096) (hk:0≤k.B∧k.B<2^64) {l m:List Xay} (h30:l.length≤30) (hl:∀ e∈l,e.Text.length≤20) (h31:m.length≤30) (hm:∀ e∈m,e.Text.length≤20) {text:List UInt8} (h20:text.length≤20) (i:Int) :
 iter (fun st=>Xb4 Xat Xas Xaw Xam Xao Xah Xad Xab Xaf Xae 4 (p:Int) k l m text i k.A k.B (SK k p l).tot p p p p ((SK k p l).R 0) ((SK k p l).R 1) ((SK k p l).R 2) ((SK k p l).R 3) st.1 st.2.1 st.2.2.1 st.2.2.2.1 st.2.2.2.2.1 st.2.2.2.2.2.1 st.2.2.2.2.2.2.1 st.2.2.2.2.2.2.2.1 st.2.2.2.2.2.2.2.2.1 st.2.2.2.2.2.2.2.2.2.1 st.2.2.2.2.2.2.2.2.2.2.1 st.2.2.2.2.2.2.2.2.2.2.2) FUEL (0,k.A,k.B,(newS p).tot,p,p,p,p,(newS p).R 0,(newS p).R 1,(newS p).R 2,(newS p).R 3)=some true:=by
 refine Xd3 (fun j:Nat=>((j:Int),k.A,k.B,(SK k p (m.take j)).tot,p,p,p,p,(SK k p (m.take j)).R 0,(SK k p (m.take j)).R 1,(SK k p (m.take j)).R 2,(SK k p (m.take j)).R 3)) _ m.length (fun j hj=>?_) ?_ (by rw [Xd0];omega)
 ·show Xb4 Xat Xas Xaw Xam Xao Xah Xad Xab Xaf Xae 4 (p:Int) k l m text i k.A k.B (SK k p l).tot p p p p ((SK k p l).R 0) ((SK k p l).R 1) ((SK k p l).R 2) ((SK k p l).R 3) (j:Int) k.A k.B (SK k p (m.take j)).tot p p p p ((SK k p (m.take j)).R 0) ((SK k p (m.take j)).R 1) ((SK k p (m.take j)).R 2) ((SK k p (m.take j)).R 3)=_
  unfold Xb4
  have hp1:Xaf.v4 ⟨⟨k.A,k.B⟩,⟨(SK k p (m.take j)).R 0,(SK k p (m.take j)).R 1,(SK k p (m.take j)).R 2,(SK k p (m.take j)).R 3,p,p,p,p⟩,(SK k p (m.take j)).tot⟩ (m[j]).Text (m[j]).N=some (Xj8 m[j],XhE k p (stepS k p (SK k p (m.take j)) m[j])):=XyB hp (Xdl.SK k p _) (hm _ (List.getElem_mem hj))
  rw [Xbd (by omega),XaH (by omega),Int.toNat_natCast,List.getElem?_eq_getElem hj,Option.bind_some,XaH (by omega),hp1,Option.bind_some,←XhH _ _ hj,Xf1 (by omega) (by omega)];rfl
 ·show Xb4 Xat Xas Xaw Xam Xao Xah Xad Xab Xaf Xae 4 (p:Int) k l m text i k.A k.B (SK k p l).tot p p p p ((SK k p l).R 0) ((SK k p l).R 1) ((SK k p l).R 2) ((SK k p l).R 3) (m.length:Int) k.A k.B (SK k p (m.take m.length)).tot p p p p ((SK k p (m.take m.length)).R 0) ((SK k p (m.take m.length)).R 1) ((SK k p (m.take m.length)).R 2) ((SK k p (m.take m.length)).R 3)=_
  unfold Xb4
  have ht:∀ e∈l++m,e.Text.length≤20:=fun e he=>(List.mem_append.1 he).elim (hl e) (hm e)
  have hz:=(Xdl.SK k p l).add (Xdl.SK k p m)
  have hnew:Xao 4 (p:Int) ⟨k.A,wI .u64 (k.B+1)⟩=some (.v4 (XhE (key1 k) p (newS p))):=Xmd (by omega) hp (key1 k)
  have ha1:Xah.v44 ⟨⟨k.A,k.B⟩,⟨(SK k p l).R 0,(SK k p l).R 1,(SK k p l).R 2,(SK k p l).R 3,p,p,p,p⟩,(SK k p l).tot⟩ ⟨⟨k.A,k.B⟩,⟨(SK k p m).R 0,(SK k p m).R 1,(SK k p m).R 2,(SK k p m).R 3,p,p,p,p⟩,(SK k p m).tot⟩=some (true,XhE k p (Xdk (SK k p l) (SK k p m))):=XFC hp.2 (Xdl.SK k p l) (Xdl.SK k p m)
  have ha2:Xah.v44 (XhE k p (Xdk (SK k p l) (SK k p m))) (XhE (key1 k) p (newS p))=some (false,XhE k p (Xdk (SK k p l) (SK k p m))):=XEz (k:=k) (k':=key1 k) (p:=p) hz (Xdl.new p) (XkN hk)
  have hg:Xad.v4 (XhE k p (Xdk (SK k p l) (SK k p m))) text=some (Xly k p (Xdk (SK k p l) (SK k p m)) text 4):=XzR hp hz h20 (k:=k)
  have htt:Xae.v4 (XhE k p (Xdk (SK k p l) (SK k p m)))=some (Xdk (SK k p l) (SK k p m)).tot:=Xxc
  have hpo:i<0∨4≤i→Xab.v4 (XhE k p (Xdk (SK k p l) (SK k p m))) i text=some (-1):=fun h=>Xv0 _ h _
  have hpl:∀ q:Nat,q<4→Xab.v4 (XhE k p (Xdk (SK k p l) (SK k p m))) (q:Int) text=some (plN k p q text:Int):=fun q h=>Xib hp (XhE k p (Xdk (SK k p l) (SK k p m))) rfl ⟨rfl,rfl,rfl,rfl⟩ h20 q h
  have hg2:Xat k 4 (p:Int) (l++m) text=some (Xly k p (Xdk (SK k p l) (SK k p m)) text 4):=XkQ (n:=4) hp (by decide) (l:=l++m) (by rw [List.length_append];omega) ht h20 (Xji hp.1 k l m text)
  have ht2:=Xkb (l:=l++m) (by rw [List.length_append];omega)
  rw [List.take_length,Xa7 (by omega),hnew,Option.bind_some]
  dsimp only
  rw [ha1,Option.bind_some]
  dsimp only
  rw [show (!true)=false from rfl,cond_false,ha2,Option.bind_some]
  dsimp only
  rw [cond_false,XaH (by omega),XaH (by omega)]
  by_cases c1:i≥0
  ·rw [Xbd c1]
   by_cases c2:i<4
   ·obtain ⟨q,rfl⟩:=Int.eq_ofNat_of_zero_le c1
    rw [Xbd c2,Xjy hp q h20,Option.bind_some,hg,Option.bind_some,hg2,Option.bind_some,beq_self_eq_true,cond_true,htt,Option.bind_some,ht2,Option.bind_some,Xez,beq_self_eq_true,cond_true,
     hpl q (by omega),Option.bind_some,beq_self_eq_true,cond_true,XdN];rfl
   ·rw [Xa7 c2,hg,Option.bind_some,hg2,Option.bind_some,beq_self_eq_true,cond_true,htt,Option.bind_some,ht2,Option.bind_some,Xez,beq_self_eq_true,cond_true,
     hpo (.inr (by omega)),Option.bind_some,beq_self_eq_true,cond_true,XdN];rfl
  ·rw [Xa7 c1,hg,Option.bind_some,hg2,Option.bind_some,beq_self_eq_true,cond_true,htt,Option.bind_some,ht2,Option.bind_some,Xez,beq_self_eq_true,cond_true,
    hpo (.inl (by omega)),Option.bind_some,beq_self_eq_true,cond_true,XdN];rfl
theorem lawG4 {k:Xau} {p:Nat} (hp:1≤p∧p≤4096) (hk:0≤k.B∧k.B<2^64) {l m:List Xay} (h30:l.length≤30) (hl:∀ e∈l,e.Text.length≤20) (h31:m.length≤30) (hm:∀ e∈m,e.Text.length≤20) {text:List UInt8} (h20:text.length≤20) (i:Int) :
 iter (fun st=>XbZ Xat XaI Xas Xaw Xam Xao Xah Xad Xab Xaf Xae 4 (p:Int) k l m text i (XhE k p (newS p)) st.1 st.2.1 st.2.2.1 st.2.2.2.1 st.2.2.2.2.1 st.2.2.2.2.2.1 st.2.2.2.2.2.2.1 st.2.2.2.2.2.2.2.1 st.2.2.2.2.2.2.2.2.1 st.2.2.2.2.2.2.2.2.2.1 st.2.2.2.2.2.2.2.2.2.2.1 st.2.2.2.2.2.2.2.2.2.2.2) FUEL (0,k.A,k.B,(newS p).tot,p,p,p,p,(newS p).R 0,(newS p).R 1,(newS p).R 2,(newS p).R 3)=some true:=by
 refine Xd3 (fun j:Nat=>((j:Int),k.A,k.B,(SK k p (l.take j)).tot,p,p,p,p,(SK k p (l.take j)).R 0,(SK k p (l.take j)).R 1,(SK k p (l.take j)).R 2,(SK k p (l.take j)).R 3)) _ l.length (fun j hj=>?_) ?_ (by rw [Xd0];omega)
 ·show XbZ Xat XaI Xas Xaw Xam Xao Xah Xad Xab Xaf Xae 4 (p:Int) k l m text i (XhE k p (newS p)) (j:Int) k.A k.B (SK k p (l.take j)).tot p p p p ((SK k p (l.take j)).R 0) ((SK k p (l.take j)).R 1) ((SK k p (l.take j)).R 2) ((SK k p (l.take j)).R 3)=_
  unfold XbZ
  have hp1:Xaf.v4 ⟨⟨k.A,k.B⟩,⟨(SK k p (l.take j)).R 0,(SK k p (l.take j)).R 1,(SK k p (l.take j)).R 2,(SK k p (l.take j)).R 3,p,p,p,p⟩,(SK k p (l.take j)).tot⟩ (l[j]).Text (l[j]).N=some (Xj8 l[j],XhE k p (stepS k p (SK k p (l.take j)) l[j])):=XyB hp (Xdl.SK k p _) (hl _ (List.getElem_mem hj))
  rw [Xbd (by omega),XaH (by omega),Int.toNat_natCast,List.getElem?_eq_getElem hj,Option.bind_some,XaH (by omega),hp1,Option.bind_some,XaH (by omega),XoE,Option.bind_some,←XhH _ _ hj,Xf1 (by omega) (by omega)]
  dsimp only
  rw [beq_self_eq_true];rfl
 ·show XbZ Xat XaI Xas Xaw Xam Xao Xah Xad Xab Xaf Xae 4 (p:Int) k l m text i (XhE k p (newS p)) (l.length:Int) k.A k.B (SK k p (l.take l.length)).tot p p p p ((SK k p (l.take l.length)).R 0) ((SK k p (l.take l.length)).R 1) ((SK k p (l.take l.length)).R 2) ((SK k p (l.take l.length)).R 3)=_
  unfold XbZ
  rw [Xa7 (by omega),List.take_length]
  exact (congrArg (fun z=>Option.bind z _) (XHV hp hk h30 hl h31 hm h20 i)).trans rfl
theorem Xvs (s:Xap) {i:Int} (hi:i<0∨5≤i) (t:List UInt8):Xee s i t=some (-1):=by
 unfold Xee XdV
 rw [show Xaa.v5 s=some true from rfl,Option.bind_some,show (!true)=false from rfl,cond_false]
 by_cases h:i<0
 ·rw [Xbd h]
 ·rw [Xa7 h,Xbd (by omega)]
theorem XIW {k:Xau} {p:Nat} (hp:1≤p∧p≤4096) (hk:0≤k.B∧k.B<2^64) {l m:List Xay} (h30:l.length≤30) (hl:∀ e∈l,e.Text.length≤20) (h31:m.length≤30) (hm:∀ e∈m,e.Text.length≤20) {text:List UInt8} (h20:text.length≤20) (i:Int) :
 iter (fun st=>Xb2 Xat Xas Xaw Xam Xao Xah Xad Xab Xaf Xae 5 (p:Int) k l m text i k.A k.B (SK k p l).tot p p p p p ((SK k p l).R 0) ((SK k p l).R 1) ((SK k p l).R 2) ((SK k p l).R 3) ((SK k p l).R 4) st.1 st.2.1 st.2.2.1 st.2.2.2.1 st.2.2.2.2.1 st.2.2.2.2.2.1 st.2.2.2.2.2.2.1 st.2.2.2.2.2.2.2.1 st.2.2.2.2.2.2.2.2.1 st.2.2.2.2.2.2.2.2.2.1 st.2.2.2.2.2.2.2.2.2.2.1 st.2.2.2.2.2.2.2.2.2.2.2.1 st.2.2.2.2.2.2.2.2.2.2.2.2.1 st.2.2.2.2.2.2.2.2.2.2.2.2.2) FUEL (0,k.A,k.B,(newS p).tot,p,p,p,p,p,(newS p).R 0,(newS p).R 1,(newS p).R 2,(newS p).R 3,(newS p).R 4)=some true:=by
 refine Xd3 (fun j:Nat=>((j:Int),k.A,k.B,(SK k p (m.take j)).tot,p,p,p,p,p,(SK k p (m.take j)).R 0,(SK k p (m.take j)).R 1,(SK k p (m.take j)).R 2,(SK k p (m.take j)).R 3,(SK k p (m.take j)).R 4)) _ m.length (fun j hj=>?_) ?_ (by rw [Xd0];omega)
 ·show Xb2 Xat Xas Xaw Xam Xao Xah Xad Xab Xaf Xae 5 (p:Int) k l m text i k.A k.B (SK k p l).tot p p p p p ((SK k p l).R 0) ((SK k p l).R 1) ((SK k p l).R 2) ((SK k p l).R 3) ((SK k p l).R 4) (j:Int) k.A k.B (SK k p (m.take j)).tot p p p p p ((SK k p (m.take j)).R 0) ((SK k p (m.take j)).R 1) ((SK k p (m.take j)).R 2) ((SK k p (m.take j)).R 3) ((SK k p (m.take j)).R 4)=_
  unfold Xb2
  have hp1:Xaf.v5 ⟨⟨k.A,k.B⟩,⟨(SK k p (m.take j)).R 0,(SK k p (m.take j)).R 1,(SK k p (m.take j)).R 2,(SK k p (m.take j)).R 3,(SK k p (m.take j)).R 4,p,p,p,p,p⟩,(SK k p (m.take j)).tot⟩ (m[j]).Text (m[j]).N=some (Xj8 m[j],XgC k p (stepS k p (SK k p (m.take j)) m[j])):=Xxr hp (Xdl.SK k p _) (hm _ (List.getElem_mem hj))
  rw [Xbd (by omega),XaH (by omega),Int.toNat_natCast,List.getElem?_eq_getElem hj,Option.bind_some,XaH (by omega),hp1,Option.bind_some,←XhH _ _ hj,Xf1 (by omega) (by omega)];rfl
 ·show Xb2 Xat Xas Xaw Xam Xao Xah Xad Xab Xaf Xae 5 (p:Int) k l m text i k.A k.B (SK k p l).tot p p p p p ((SK k p l).R 0) ((SK k p l).R 1) ((SK k p l).R 2) ((SK k p l).R 3) ((SK k p l).R 4) (m.length:Int) k.A k.B (SK k p (m.take m.length)).tot p p p p p ((SK k p (m.take m.length)).R 0) ((SK k p (m.take m.length)).R 1) ((SK k p (m.take m.length)).R 2) ((SK k p (m.take m.length)).R 3) ((SK k p (m.take m.length)).R 4)=_
  unfold Xb2
  have ht:∀ e∈l++m,e.Text.length≤20:=fun e he=>(List.mem_append.1 he).elim (hl e) (hm e)
  have hz:=(Xdl.SK k p l).add (Xdl.SK k p m)
  have hnew:Xao 5 (p:Int) ⟨k.A,wI .u64 (k.B+1)⟩=some (.v5 (XgC (key1 k) p (newS p))):=Xmd (by omega) hp (key1 k)
  have ha1:Xah.v55 ⟨⟨k.A,k.B⟩,⟨(SK k p l).R 0,(SK k p l).R 1,(SK k p l).R 2,(SK k p l).R 3,(SK k p l).R 4,p,p,p,p,p⟩,(SK k p l).tot⟩ ⟨⟨k.A,k.B⟩,⟨(SK k p m).R 0,(SK k p m).R 1,(SK k p m).R 2,(SK k p m).R 3,(SK k p m).R 4,p,p,p,p,p⟩,(SK k p m).tot⟩=some (true,XgC k p (Xdk (SK k p l) (SK k p m))):=XGo hp.2 (Xdl.SK k p l) (Xdl.SK k p m)
  have ha2:Xah.v55 (XgC k p (Xdk (SK k p l) (SK k p m))) (XgC (key1 k) p (newS p))=some (false,XgC k p (Xdk (SK k p l) (SK k p m))):=XEp (k:=k) (k':=key1 k) (p:=p) hz (Xdl.new p) (XkN hk)
  have hg:Xad.v5 (XgC k p (Xdk (SK k p l) (SK k p m))) text=some (Xly k p (Xdk (SK k p l) (SK k p m)) text 5):=Xzh hp hz h20 (k:=k)
  have htt:Xae.v5 (XgC k p (Xdk (SK k p l) (SK k p m)))=some (Xdk (SK k p l) (SK k p m)).tot:=Xza
  have hpo:i<0∨5≤i→Xab.v5 (XgC k p (Xdk (SK k p l) (SK k p m))) i text=some (-1):=fun h=>Xvs _ h _
  have hpl:∀ q:Nat,q<5→Xab.v5 (XgC k p (Xdk (SK k p l) (SK k p m))) (q:Int) text=some (plN k p q text:Int):=fun q h=>Xhn hp (XgC k p (Xdk (SK k p l) (SK k p m))) rfl ⟨rfl,rfl,rfl,rfl,rfl⟩ h20 q h
  have hg2:Xat k 5 (p:Int) (l++m) text=some (Xly k p (Xdk (SK k p l) (SK k p m)) text 5):=XkQ (n:=5) hp (by decide) (l:=l++m) (by rw [List.length_append];omega) ht h20 (Xji hp.1 k l m text)
  have ht2:=Xkb (l:=l++m) (by rw [List.length_append];omega)
  rw [List.take_length,Xa7 (by omega),hnew,Option.bind_some]
  dsimp only
  rw [ha1,Option.bind_some]
  dsimp only
  rw [show (!true)=false from rfl,cond_false,ha2,Option.bind_some]
  dsimp only
  rw [cond_false,XaH (by omega),XaH (by omega)]
  by_cases c1:i≥0
  ·rw [Xbd c1]
   by_cases c2:i<5
   ·obtain ⟨q,rfl⟩:=Int.eq_ofNat_of_zero_le c1
    rw [Xbd c2,Xjy hp q h20,Option.bind_some,hg,Option.bind_some,hg2,Option.bind_some,beq_self_eq_true,cond_true,htt,Option.bind_some,ht2,Option.bind_some,Xez,beq_self_eq_true,cond_true,
     hpl q (by omega),Option.bind_some,beq_self_eq_true,cond_true,XdN];rfl
   ·rw [Xa7 c2,hg,Option.bind_some,hg2,Option.bind_some,beq_self_eq_true,cond_true,htt,Option.bind_some,ht2,Option.bind_some,Xez,beq_self_eq_true,cond_true,
     hpo (.inr (by omega)),Option.bind_some,beq_self_eq_true,cond_true,XdN];rfl
  ·rw [Xa7 c1,hg,Option.bind_some,hg2,Option.bind_some,beq_self_eq_true,cond_true,htt,Option.bind_some,ht2,Option.bind_some,Xez,beq_self_eq_true,cond_true,
    hpo (.inl (by omega)),Option.bind_some,beq_self_eq_true,cond_true,XdN];rfl
theorem lawG5 {k:Xau} {p:Nat} (hp:1≤p∧p≤4096) (hk:0≤k.B∧k.B<2^64) {l m:List Xay} (h30:l.length≤30) (hl:∀ e∈l,e.Text.length≤20) (h31:m.length≤30) (hm:∀ e∈m,e.Text.length≤20) {text:List UInt8} (h20:text.length≤20) (i:Int) :
 iter (fun st=>XbT Xat XaI Xas Xaw Xam Xao Xah Xad Xab Xaf Xae 5 (p:Int) k l m text i (XgC k p (newS p)) st.1 st.2.1 st.2.2.1 st.2.2.2.1 st.2.2.2.2.1 st.2.2.2.2.2.1 st.2.2.2.2.2.2.1 st.2.2.2.2.2.2.2.1 st.2.2.2.2.2.2.2.2.1 st.2.2.2.2.2.2.2.2.2.1 st.2.2.2.2.2.2.2.2.2.2.1 st.2.2.2.2.2.2.2.2.2.2.2.1 st.2.2.2.2.2.2.2.2.2.2.2.2.1 st.2.2.2.2.2.2.2.2.2.2.2.2.2) FUEL (0,k.A,k.B,(newS p).tot,p,p,p,p,p,(newS p).R 0,(newS p).R 1,(newS p).R 2,(newS p).R 3,(newS p).R 4)=some true:=by
 refine Xd3 (fun j:Nat=>((j:Int),k.A,k.B,(SK k p (l.take j)).tot,p,p,p,p,p,(SK k p (l.take j)).R 0,(SK k p (l.take j)).R 1,(SK k p (l.take j)).R 2,(SK k p (l.take j)).R 3,(SK k p (l.take j)).R 4)) _ l.length (fun j hj=>?_) ?_ (by rw [Xd0];omega)
 ·show XbT Xat XaI Xas Xaw Xam Xao Xah Xad Xab Xaf Xae 5 (p:Int) k l m text i (XgC k p (newS p)) (j:Int) k.A k.B (SK k p (l.take j)).tot p p p p p ((SK k p (l.take j)).R 0) ((SK k p (l.take j)).R 1) ((SK k p (l.take j)).R 2) ((SK k p (l.take j)).R 3) ((SK k p (l.take j)).R 4)=_
  unfold XbT
  have hp1:Xaf.v5 ⟨⟨k.A,k.B⟩,⟨(SK k p (l.take j)).R 0,(SK k p (l.take j)).R 1,(SK k p (l.take j)).R 2,(SK k p (l.take j)).R 3,(SK k p (l.take j)).R 4,p,p,p,p,p⟩,(SK k p (l.take j)).tot⟩ (l[j]).Text (l[j]).N=some (Xj8 l[j],XgC k p (stepS k p (SK k p (l.take j)) l[j])):=Xxr hp (Xdl.SK k p _) (hl _ (List.getElem_mem hj))
  rw [Xbd (by omega),XaH (by omega),Int.toNat_natCast,List.getElem?_eq_getElem hj,Option.bind_some,XaH (by omega),hp1,Option.bind_some,XaH (by omega),XoE,Option.bind_some,←XhH _ _ hj,Xf1 (by omega) (by omega)]
  dsimp only
  rw [beq_self_eq_true];rfl
 ·show XbT Xat XaI Xas Xaw Xam Xao Xah Xad Xab Xaf Xae 5 (p:Int) k l m text i (XgC k p (newS p)) (l.length:Int) k.A k.B (SK k p (l.take l.length)).tot p p p p p ((SK k p (l.take l.length)).R 0) ((SK k p (l.take l.length)).R 1) ((SK k p (l.take l.length)).R 2) ((SK k p (l.take l.length)).R 3) ((SK k p (l.take l.length)).R 4)=_
  unfold XbT
  rw [Xa7 (by omega),List.take_length]
  exact (congrArg (fun z=>Option.bind z _) (XIW hp hk h30 hl h31 hm h20 i)).trans rfl
theorem Xvb (s:Xan) {i:Int} (hi:i<0∨6≤i) (t:List UInt8):Xeg s i t=some (-1):=by
 unfold Xeg XdS
 rw [show Xaa.v6 s=some true from rfl,Option.bind_some,show (!true)=false from rfl,cond_false]
 by_cases h:i<0
 ·rw [Xbd h]
 ·rw [Xa7 h,Xbd (by omega)]
theorem XI0 {k:Xau} {p:Nat} (hp:1≤p∧p≤4096) (hk:0≤k.B∧k.B<2^64) {l m:List Xay} (h30:l.length≤30) (hl:∀ e∈l,e.Text.length≤20) (h31:m.length≤30) (hm:∀ e∈m,e.Text.length≤20) {text:List UInt8} (h20:text.length≤20) (i:Int) :
 iter (fun st=>XbS Xat Xas Xaw Xam Xao Xah Xad Xab Xaf Xae 6 (p:Int) k l m text i k.A k.B (SK k p l).tot p p p p p p ((SK k p l).R 0) ((SK k p l).R 1) ((SK k p l).R 2) ((SK k p l).R 3) ((SK k p l).R 4) ((SK k p l).R 5) st.1 st.2.1 st.2.2.1 st.2.2.2.1 st.2.2.2.2.1 st.2.2.2.2.2.1 st.2.2.2.2.2.2.1 st.2.2.2.2.2.2.2.1 st.2.2.2.2.2.2.2.2.1 st.2.2.2.2.2.2.2.2.2.1 st.2.2.2.2.2.2.2.2.2.2.1 st.2.2.2.2.2.2.2.2.2.2.2.1 st.2.2.2.2.2.2.2.2.2.2.2.2.1 st.2.2.2.2.2.2.2.2.2.2.2.2.2.1 st.2.2.2.2.2.2.2.2.2.2.2.2.2.2.1 st.2.2.2.2.2.2.2.2.2.2.2.2.2.2.2) FUEL (0,k.A,k.B,(newS p).tot,p,p,p,p,p,p,(newS p).R 0,(newS p).R 1,(newS p).R 2,(newS p).R 3,(newS p).R 4,(newS p).R 5)=some true:=by
 refine Xd3 (fun j:Nat=>((j:Int),k.A,k.B,(SK k p (m.take j)).tot,p,p,p,p,p,p,(SK k p (m.take j)).R 0,(SK k p (m.take j)).R 1,(SK k p (m.take j)).R 2,(SK k p (m.take j)).R 3,(SK k p (m.take j)).R 4,(SK k p (m.take j)).R 5)) _ m.length (fun j hj=>?_) ?_ (by rw [Xd0];omega)
 ·show XbS Xat Xas Xaw Xam Xao Xah Xad Xab Xaf Xae 6 (p:Int) k l m text i k.A k.B (SK k p l).tot p p p p p p ((SK k p l).R 0) ((SK k p l).R 1) ((SK k p l).R 2) ((SK k p l).R 3) ((SK k p l).R 4) ((SK k p l).R 5) (j:Int) k.A k.B (SK k p (m.take j)).tot p p p p p p ((SK k p (m.take j)).R 0) ((SK k p (m.take j)).R 1) ((SK k p (m.take j)).R 2) ((SK k p (m.take j)).R 3) ((SK k p (m.take j)).R 4) ((SK k p (m.take j)).R 5)=_
  unfold XbS
  have hp1:Xaf.v6 ⟨⟨k.A,k.B⟩,⟨(SK k p (m.take j)).R 0,(SK k p (m.take j)).R 1,(SK k p (m.take j)).R 2,(SK k p (m.take j)).R 3,(SK k p (m.take j)).R 4,(SK k p (m.take j)).R 5,p,p,p,p,p,p⟩,(SK k p (m.take j)).tot⟩ (m[j]).Text (m[j]).N=some (Xj8 m[j],Xfk k p (stepS k p (SK k p (m.take j)) m[j])):=Xxw hp (Xdl.SK k p _) (hm _ (List.getElem_mem hj))
  rw [Xbd (by omega),XaH (by omega),Int.toNat_natCast,List.getElem?_eq_getElem hj,Option.bind_some,XaH (by omega),hp1,Option.bind_some,←XhH _ _ hj,Xf1 (by omega) (by omega)];rfl
 ·show XbS Xat Xas Xaw Xam Xao Xah Xad Xab Xaf Xae 6 (p:Int) k l m text i k.A k.B (SK k p l).tot p p p p p p ((SK k p l).R 0) ((SK k p l).R 1) ((SK k p l).R 2) ((SK k p l).R 3) ((SK k p l).R 4) ((SK k p l).R 5) (m.length:Int) k.A k.B (SK k p (m.take m.length)).tot p p p p p p ((SK k p (m.take m.length)).R 0) ((SK k p (m.take m.length)).R 1) ((SK k p (m.take m.length)).R 2) ((SK k p (m.take m.length)).R 3) ((SK k p (m.take m.length)).R 4) ((SK k p (m.take m.length)).R 5)=_
  unfold XbS
  have ht:∀ e∈l++m,e.Text.length≤20:=fun e he=>(List.mem_append.1 he).elim (hl e) (hm e)
  have hz:=(Xdl.SK k p l).add (Xdl.SK k p m)
  have hnew:Xao 6 (p:Int) ⟨k.A,wI .u64 (k.B+1)⟩=some (.v6 (Xfk (key1 k) p (newS p))):=Xmd (by omega) hp (key1 k)
  have ha1:Xah.v66 ⟨⟨k.A,k.B⟩,⟨(SK k p l).R 0,(SK k p l).R 1,(SK k p l).R 2,(SK k p l).R 3,(SK k p l).R 4,(SK k p l).R 5,p,p,p,p,p,p⟩,(SK k p l).tot⟩ ⟨⟨k.A,k.B⟩,⟨(SK k p m).R 0,(SK k p m).R 1,(SK k p m).R 2,(SK k p m).R 3,(SK k p m).R 4,(SK k p m).R 5,p,p,p,p,p,p⟩,(SK k p m).tot⟩=some (true,Xfk k p (Xdk (SK k p l) (SK k p m))):=XFP hp.2 (Xdl.SK k p l) (Xdl.SK k p m)
  have ha2:Xah.v66 (Xfk k p (Xdk (SK k p l) (SK k p m))) (Xfk (key1 k) p (newS p))=some (false,Xfk k p (Xdk (SK k p l) (SK k p m))):=XEA (k:=k) (k':=key1 k) (p:=p) hz (Xdl.new p) (XkN hk)
  have hg:Xad.v6 (Xfk k p (Xdk (SK k p l) (SK k p m))) text=some (Xly k p (Xdk (SK k p l) (SK k p m)) text 6):=Xys hp hz h20 (k:=k)
  have htt:Xae.v6 (Xfk k p (Xdk (SK k p l) (SK k p m)))=some (Xdk (SK k p l) (SK k p m)).tot:=XwB
  have hpo:i<0∨6≤i→Xab.v6 (Xfk k p (Xdk (SK k p l) (SK k p m))) i text=some (-1):=fun h=>Xvb _ h _
  have hpl:∀ q:Nat,q<6→Xab.v6 (Xfk k p (Xdk (SK k p l) (SK k p m))) (q:Int) text=some (plN k p q text:Int):=fun q h=>XfS hp (Xfk k p (Xdk (SK k p l) (SK k p m))) rfl ⟨rfl,rfl,rfl,rfl,rfl,rfl⟩ h20 q h
  have hg2:Xat k 6 (p:Int) (l++m) text=some (Xly k p (Xdk (SK k p l) (SK k p m)) text 6):=XkQ (n:=6) hp (by decide) (l:=l++m) (by rw [List.length_append];omega) ht h20 (Xji hp.1 k l m text)
  have ht2:=Xkb (l:=l++m) (by rw [List.length_append];omega)
  rw [List.take_length,Xa7 (by omega),hnew,Option.bind_some]
  dsimp only
  rw [ha1,Option.bind_some]
  dsimp only
  rw [show (!true)=false from rfl,cond_false,ha2,Option.bind_some]
  dsimp only
  rw [cond_false,XaH (by omega),XaH (by omega)]
  by_cases c1:i≥0
  ·rw [Xbd c1]
   by_cases c2:i<6
   ·obtain ⟨q,rfl⟩:=Int.eq_ofNat_of_zero_le c1
    rw [Xbd c2,Xjy hp q h20,Option.bind_some,hg,Option.bind_some,hg2,Option.bind_some,beq_self_eq_true,cond_true,htt,Option.bind_some,ht2,Option.bind_some,Xez,beq_self_eq_true,cond_true,
     hpl q (by omega),Option.bind_some,beq_self_eq_true,cond_true,XdN];rfl
   ·rw [Xa7 c2,hg,Option.bind_some,hg2,Option.bind_some,beq_self_eq_true,cond_true,htt,Option.bind_some,ht2,Option.bind_some,Xez,beq_self_eq_true,cond_true,
     hpo (.inr (by omega)),Option.bind_some,beq_self_eq_true,cond_true,XdN];rfl
  ·rw [Xa7 c1,hg,Option.bind_some,hg2,Option.bind_some,beq_self_eq_true,cond_true,htt,Option.bind_some,ht2,Option.bind_some,Xez,beq_self_eq_true,cond_true,
    hpo (.inl (by omega)),Option.bind_some,beq_self_eq_true,cond_true,XdN];rfl
theorem lawG6 {k:Xau} {p:Nat} (hp:1≤p∧p≤4096) (hk:0≤k.B∧k.B<2^64) {l m:List Xay} (h30:l.length≤30) (hl:∀ e∈l,e.Text.length≤20) (h31:m.length≤30) (hm:∀ e∈m,e.Text.length≤20) {text:List UInt8} (h20:text.length≤20) (i:Int) :
 iter (fun st=>XbQ Xat XaI Xas Xaw Xam Xao Xah Xad Xab Xaf Xae 6 (p:Int) k l m text i (Xfk k p (newS p)) st.1 st.2.1 st.2.2.1 st.2.2.2.1 st.2.2.2.2.1 st.2.2.2.2.2.1 st.2.2.2.2.2.2.1 st.2.2.2.2.2.2.2.1 st.2.2.2.2.2.2.2.2.1 st.2.2.2.2.2.2.2.2.2.1 st.2.2.2.2.2.2.2.2.2.2.1 st.2.2.2.2.2.2.2.2.2.2.2.1 st.2.2.2.2.2.2.2.2.2.2.2.2.1 st.2.2.2.2.2.2.2.2.2.2.2.2.2.1 st.2.2.2.2.2.2.2.2.2.2.2.2.2.2.1 st.2.2.2.2.2.2.2.2.2.2.2.2.2.2.2) FUEL (0,k.A,k.B,(newS p).tot,p,p,p,p,p,p,(newS p).R 0,(newS p).R 1,(newS p).R 2,(newS p).R 3,(newS p).R 4,(newS p).R 5)=some true:=by
 refine Xd3 (fun j:Nat=>((j:Int),k.A,k.B,(SK k p (l.take j)).tot,p,p,p,p,p,p,(SK k p (l.take j)).R 0,(SK k p (l.take j)).R 1,(SK k p (l.take j)).R 2,(SK k p (l.take j)).R 3,(SK k p (l.take j)).R 4,(SK k p (l.take j)).R 5)) _ l.length (fun j hj=>?_) ?_ (by rw [Xd0];omega)
 ·show XbQ Xat XaI Xas Xaw Xam Xao Xah Xad Xab Xaf Xae 6 (p:Int) k l m text i (Xfk k p (newS p)) (j:Int) k.A k.B (SK k p (l.take j)).tot p p p p p p ((SK k p (l.take j)).R 0) ((SK k p (l.take j)).R 1) ((SK k p (l.take j)).R 2) ((SK k p (l.take j)).R 3) ((SK k p (l.take j)).R 4) ((SK k p (l.take j)).R 5)=_
  unfold XbQ
  have hp1:Xaf.v6 ⟨⟨k.A,k.B⟩,⟨(SK k p (l.take j)).R 0,(SK k p (l.take j)).R 1,(SK k p (l.take j)).R 2,(SK k p (l.take j)).R 3,(SK k p (l.take j)).R 4,(SK k p (l.take j)).R 5,p,p,p,p,p,p⟩,(SK k p (l.take j)).tot⟩ (l[j]).Text (l[j]).N=some (Xj8 l[j],Xfk k p (stepS k p (SK k p (l.take j)) l[j])):=Xxw hp (Xdl.SK k p _) (hl _ (List.getElem_mem hj))
  rw [Xbd (by omega),XaH (by omega),Int.toNat_natCast,List.getElem?_eq_getElem hj,Option.bind_some,XaH (by omega),hp1,Option.bind_some,XaH (by omega),XoE,Option.bind_some,←XhH _ _ hj,Xf1 (by omega) (by omega)]
  dsimp only
  rw [beq_self_eq_true];rfl
 ·show XbQ Xat XaI Xas Xaw Xam Xao Xah Xad Xab Xaf Xae 6 (p:Int) k l m text i (Xfk k p (newS p)) (l.length:Int) k.A k.B (SK k p (l.take l.length)).tot p p p p p p ((SK k p (l.take l.length)).R 0) ((SK k p (l.take l.length)).R 1) ((SK k p (l.take l.length)).R 2) ((SK k p (l.take l.length)).R 3) ((SK k p (l.take l.length)).R 4) ((SK k p (l.take l.length)).R 5)=_
  unfold XbQ
  rw [Xa7 (by omega),List.take_length]
  exact (congrArg (fun z=>Option.bind z _) (XI0 hp hk h30 hl h31 hm h20 i)).trans rfl
theorem XvW (s:Xal) {i:Int} (hi:i<0∨7≤i) (t:List UInt8):Xej s i t=some (-1):=by
 unfold Xej XdO
 rw [show Xaa.v7 s=some true from rfl,Option.bind_some,show (!true)=false from rfl,cond_false]
 by_cases h:i<0
 ·rw [Xbd h]
 ·rw [Xa7 h,Xbd (by omega)]
theorem XI4 {k:Xau} {p:Nat} (hp:1≤p∧p≤4096) (hk:0≤k.B∧k.B<2^64) {l m:List Xay} (h30:l.length≤30) (hl:∀ e∈l,e.Text.length≤20) (h31:m.length≤30) (hm:∀ e∈m,e.Text.length≤20) {text:List UInt8} (h20:text.length≤20) (i:Int) :
 iter (fun st=>XbN Xat Xas Xaw Xam Xao Xah Xad Xab Xaf Xae 7 (p:Int) k l m text i k.A k.B (SK k p l).tot p p p p p p p ((SK k p l).R 0) ((SK k p l).R 1) ((SK k p l).R 2) ((SK k p l).R 3) ((SK k p l).R 4) ((SK k p l).R 5) ((SK k p l).R 6) st.1 st.2.1 st.2.2.1 st.2.2.2.1 st.2.2.2.2.1 st.2.2.2.2.2.1 st.2.2.2.2.2.2.1 st.2.2.2.2.2.2.2.1 st.2.2.2.2.2.2.2.2.1 st.2.2.2.2.2.2.2.2.2.1 st.2.2.2.2.2.2.2.2.2.2.1 st.2.2.2.2.2.2.2.2.2.2.2.1 st.2.2.2.2.2.2.2.2.2.2.2.2.1 st.2.2.2.2.2.2.2.2.2.2.2.2.2.1 st.2.2.2.2.2.2.2.2.2.2.2.2.2.2.1 st.2.2.2.2.2.2.2.2.2.2.2.2.2.2.2.1 st.2.2.2.2.2.2.2.2.2.2.2.2.2.2.2.2.1 st.2.2.2.2.2.2.2.2.2.2.2.2.2.2.2.2.2) FUEL (0,k.A,k.B,(newS p).tot,p,p,p,p,p,p,p,(newS p).R 0,(newS p).R 1,(newS p).R 2,(newS p).R 3,(newS p).R 4,(newS p).R 5,(newS p).R 6)=some true:=by
 refine Xd3 (fun j:Nat=>((j:Int),k.A,k.B,(SK k p (m.take j)).tot,p,p,p,p,p,p,p,(SK k p (m.take j)).R 0,(SK k p (m.take j)).R 1,(SK k p (m.take j)).R 2,(SK k p (m.take j)).R 3,(SK k p (m.take j)).R 4,(SK k p (m.take j)).R 5,(SK k p (m.take j)).R 6)) _ m.length (fun j hj=>?_) ?_ (by rw [Xd0];omega)
 ·show XbN Xat Xas Xaw Xam Xao Xah Xad Xab Xaf Xae 7 (p:Int) k l m text i k.A k.B (SK k p l).tot p p p p p p p ((SK k p l).R 0) ((SK k p l).R 1) ((SK k p l).R 2) ((SK k p l).R 3) ((SK k p l).R 4) ((SK k p l).R 5) ((SK k p l).R 6) (j:Int) k.A k.B (SK k p (m.take j)).tot p p p p p p p ((SK k p (m.take j)).R 0) ((SK k p (m.take j)).R 1) ((SK k p (m.take j)).R 2) ((SK k p (m.take j)).R 3) ((SK k p (m.take j)).R 4) ((SK k p (m.take j)).R 5) ((SK k p (m.take j)).R 6)=_
  unfold XbN
  have hp1:Xaf.v7 ⟨⟨k.A,k.B⟩,⟨(SK k p (m.take j)).R 0,(SK k p (m.take j)).R 1,(SK k p (m.take j)).R 2,(SK k p (m.take j)).R 3,(SK k p (m.take j)).R 4,(SK k p (m.take j)).R 5,(SK k p (m.take j)).R 6,p,p,p,p,p,p,p⟩,(SK k p (m.take j)).tot⟩ (m[j]).Text (m[j]).N=some (Xj8 m[j],Xe4 k p (stepS k p (SK k p (m.take j)) m[j])):=Xy8 hp (Xdl.SK k p _) (hm _ (List.getElem_mem hj))
  rw [Xbd (by omega),XaH (by omega),Int.toNat_natCast,List.getElem?_eq_getElem hj,Option.bind_some,XaH (by omega),hp1,Option.bind_some,←XhH _ _ hj,Xf1 (by omega) (by omega)];rfl
 ·show XbN Xat Xas Xaw Xam Xao Xah Xad Xab Xaf Xae 7 (p:Int) k l m text i k.A k.B (SK k p l).tot p p p p p p p ((SK k p l).R 0) ((SK k p l).R 1) ((SK k p l).R 2) ((SK k p l).R 3) ((SK k p l).R 4) ((SK k p l).R 5) ((SK k p l).R 6) (m.length:Int) k.A k.B (SK k p (m.take m.length)).tot p p p p p p p ((SK k p (m.take m.length)).R 0) ((SK k p (m.take m.length)).R 1) ((SK k p (m.take m.length)).R 2) ((SK k p (m.take m.length)).R 3) ((SK k p (m.take m.length)).R 4) ((SK k p (m.take m.length)).R 5) ((SK k p (m.take m.length)).R 6)=_
  unfold XbN
  have ht:∀ e∈l++m,e.Text.length≤20:=fun e he=>(List.mem_append.1 he).elim (hl e) (hm e)
  have hz:=(Xdl.SK k p l).add (Xdl.SK k p m)
  have hnew:Xao 7 (p:Int) ⟨k.A,wI .u64 (k.B+1)⟩=some (.v7 (Xe4 (key1 k) p (newS p))):=Xmd (by omega) hp (key1 k)
  have ha1:Xah.v77 ⟨⟨k.A,k.B⟩,⟨(SK k p l).R 0,(SK k p l).R 1,(SK k p l).R 2,(SK k p l).R 3,(SK k p l).R 4,(SK k p l).R 5,(SK k p l).R 6,p,p,p,p,p,p,p⟩,(SK k p l).tot⟩ ⟨⟨k.A,k.B⟩,⟨(SK k p m).R 0,(SK k p m).R 1,(SK k p m).R 2,(SK k p m).R 3,(SK k p m).R 4,(SK k p m).R 5,(SK k p m).R 6,p,p,p,p,p,p,p⟩,(SK k p m).tot⟩=some (true,Xe4 k p (Xdk (SK k p l) (SK k p m))):=XEZ hp.2 (Xdl.SK k p l) (Xdl.SK k p m)
  have ha2:Xah.v77 (Xe4 k p (Xdk (SK k p l) (SK k p m))) (Xe4 (key1 k) p (newS p))=some (false,Xe4 k p (Xdk (SK k p l) (SK k p m))):=XET (k:=k) (k':=key1 k) (p:=p) hz (Xdl.new p) (XkN hk)
  have hg:Xad.v7 (Xe4 k p (Xdk (SK k p l) (SK k p m))) text=some (Xly k p (Xdk (SK k p l) (SK k p m)) text 7):=XzO hp hz h20 (k:=k)
  have htt:Xae.v7 (Xe4 k p (Xdk (SK k p l) (SK k p m)))=some (Xdk (SK k p l) (SK k p m)).tot:=XyO
  have hpo:i<0∨7≤i→Xab.v7 (Xe4 k p (Xdk (SK k p l) (SK k p m))) i text=some (-1):=fun h=>XvW _ h _
  have hpl:∀ q:Nat,q<7→Xab.v7 (Xe4 k p (Xdk (SK k p l) (SK k p m))) (q:Int) text=some (plN k p q text:Int):=fun q h=>XeL hp (Xe4 k p (Xdk (SK k p l) (SK k p m))) rfl ⟨rfl,rfl,rfl,rfl,rfl,rfl,rfl⟩ h20 q h
  have hg2:Xat k 7 (p:Int) (l++m) text=some (Xly k p (Xdk (SK k p l) (SK k p m)) text 7):=XkQ (n:=7) hp (by decide) (l:=l++m) (by rw [List.length_append];omega) ht h20 (Xji hp.1 k l m text)
  have ht2:=Xkb (l:=l++m) (by rw [List.length_append];omega)
  rw [List.take_length,Xa7 (by omega),hnew,Option.bind_some]
  dsimp only
  rw [ha1,Option.bind_some]
  dsimp only
  rw [show (!true)=false from rfl,cond_false,ha2,Option.bind_some]
  dsimp only
  rw [cond_false,XaH (by omega),XaH (by omega)]
  by_cases c1:i≥0
  ·rw [Xbd c1]
   by_cases c2:i<7
   ·obtain ⟨q,rfl⟩:=Int.eq_ofNat_of_zero_le c1
    rw [Xbd c2,Xjy hp q h20,Option.bind_some,hg,Option.bind_some,hg2,Option.bind_some,beq_self_eq_true,cond_true,htt,Option.bind_some,ht2,Option.bind_some,Xez,beq_self_eq_true,cond_true,
     hpl q (by omega),Option.bind_some,beq_self_eq_true,cond_true,XdN];rfl
   ·rw [Xa7 c2,hg,Option.bind_some,hg2,Option.bind_some,beq_self_eq_true,cond_true,htt,Option.bind_some,ht2,Option.bind_some,Xez,beq_self_eq_true,cond_true,
     hpo (.inr (by omega)),Option.bind_some,beq_self_eq_true,cond_true,XdN];rfl
  ·rw [Xa7 c1,hg,Option.bind_some,hg2,Option.bind_some,beq_self_eq_true,cond_true,htt,Option.bind_some,ht2,Option.bind_some,Xez,beq_self_eq_true,cond_true,
    hpo (.inl (by omega)),Option.bind_some,beq_self_eq_true,cond_true,XdN];rfl
theorem lawG7 {k:Xau} {p:Nat} (hp:1≤p∧p≤4096) (hk:0≤k.B∧k.B<2^64) {l m:List Xay} (h30:l.length≤30) (hl:∀ e∈l,e.Text.length≤20) (h31:m.length≤30) (hm:∀ e∈m,e.Text.length≤20) {text:List UInt8} (h20:text.length≤20) (i:Int) :
 iter (fun st=>XbU Xat XaI Xas Xaw Xam Xao Xah Xad Xab Xaf Xae 7 (p:Int) k l m text i (Xe4 k p (newS p)) st.1 st.2.1 st.2.2.1 st.2.2.2.1 st.2.2.2.2.1 st.2.2.2.2.2.1 st.2.2.2.2.2.2.1 st.2.2.2.2.2.2.2.1 st.2.2.2.2.2.2.2.2.1 st.2.2.2.2.2.2.2.2.2.1 st.2.2.2.2.2.2.2.2.2.2.1 st.2.2.2.2.2.2.2.2.2.2.2.1 st.2.2.2.2.2.2.2.2.2.2.2.2.1 st.2.2.2.2.2.2.2.2.2.2.2.2.2.1 st.2.2.2.2.2.2.2.2.2.2.2.2.2.2.1 st.2.2.2.2.2.2.2.2.2.2.2.2.2.2.2.1 st.2.2.2.2.2.2.2.2.2.2.2.2.2.2.2.2.1 st.2.2.2.2.2.2.2.2.2.2.2.2.2.2.2.2.2) FUEL (0,k.A,k.B,(newS p).tot,p,p,p,p,p,p,p,(newS p).R 0,(newS p).R 1,(newS p).R 2,(newS p).R 3,(newS p).R 4,(newS p).R 5,(newS p).R 6)=some true:=by
 refine Xd3 (fun j:Nat=>((j:Int),k.A,k.B,(SK k p (l.take j)).tot,p,p,p,p,p,p,p,(SK k p (l.take j)).R 0,(SK k p (l.take j)).R 1,(SK k p (l.take j)).R 2,(SK k p (l.take j)).R 3,(SK k p (l.take j)).R 4,(SK k p (l.take j)).R 5,(SK k p (l.take j)).R 6)) _ l.length (fun j hj=>?_) ?_ (by rw [Xd0];omega)
 ·show XbU Xat XaI Xas Xaw Xam Xao Xah Xad Xab Xaf Xae 7 (p:Int) k l m text i (Xe4 k p (newS p)) (j:Int) k.A k.B (SK k p (l.take j)).tot p p p p p p p ((SK k p (l.take j)).R 0) ((SK k p (l.take j)).R 1) ((SK k p (l.take j)).R 2) ((SK k p (l.take j)).R 3) ((SK k p (l.take j)).R 4) ((SK k p (l.take j)).R 5) ((SK k p (l.take j)).R 6)=_
  unfold XbU
  have hp1:Xaf.v7 ⟨⟨k.A,k.B⟩,⟨(SK k p (l.take j)).R 0,(SK k p (l.take j)).R 1,(SK k p (l.take j)).R 2,(SK k p (l.take j)).R 3,(SK k p (l.take j)).R 4,(SK k p (l.take j)).R 5,(SK k p (l.take j)).R 6,p,p,p,p,p,p,p⟩,(SK k p (l.take j)).tot⟩ (l[j]).Text (l[j]).N=some (Xj8 l[j],Xe4 k p (stepS k p (SK k p (l.take j)) l[j])):=Xy8 hp (Xdl.SK k p _) (hl _ (List.getElem_mem hj))
  rw [Xbd (by omega),XaH (by omega),Int.toNat_natCast,List.getElem?_eq_getElem hj,Option.bind_some,XaH (by omega),hp1,Option.bind_some,XaH (by omega),XoE,Option.bind_some,←XhH _ _ hj,Xf1 (by omega) (by omega)]
  dsimp only
  rw [beq_self_eq_true];rfl
 ·show XbU Xat XaI Xas Xaw Xam Xao Xah Xad Xab Xaf Xae 7 (p:Int) k l m text i (Xe4 k p (newS p)) (l.length:Int) k.A k.B (SK k p (l.take l.length)).tot p p p p p p p ((SK k p (l.take l.length)).R 0) ((SK k p (l.take l.length)).R 1) ((SK k p (l.take l.length)).R 2) ((SK k p (l.take l.length)).R 3) ((SK k p (l.take l.length)).R 4) ((SK k p (l.take l.length)).R 5) ((SK k p (l.take l.length)).R 6)=_
  unfold XbU
  rw [Xa7 (by omega),List.take_length]
  exact (congrArg (fun z=>Option.bind z _) (XI4 hp hk h30 hl h31 hm h20 i)).trans rfl
theorem XvC (s:Xak) {i:Int} (hi:i<0∨8≤i) (t:List UInt8):Xd6 s i t=some (-1):=by
 unfold Xd6 XdQ
 rw [show Xaa.v8 s=some true from rfl,Option.bind_some,show (!true)=false from rfl,cond_false]
 by_cases h:i<0
 ·rw [Xbd h]
 ·rw [Xa7 h,Xbd (by omega)]
theorem XHe {k:Xau} {p:Nat} (hp:1≤p∧p≤4096) (hk:0≤k.B∧k.B<2^64) {l m:List Xay} (h30:l.length≤30) (hl:∀ e∈l,e.Text.length≤20) (h31:m.length≤30) (hm:∀ e∈m,e.Text.length≤20) {text:List UInt8} (h20:text.length≤20) (i:Int) :
 iter (fun st=>XbO Xat Xas Xaw Xam Xao Xah Xad Xab Xaf Xae 8 (p:Int) k l m text i k.A k.B (SK k p l).tot p p p p p p p p ((SK k p l).R 0) ((SK k p l).R 1) ((SK k p l).R 2) ((SK k p l).R 3) ((SK k p l).R 4) ((SK k p l).R 5) ((SK k p l).R 6) ((SK k p l).R 7) st.1 st.2.1 st.2.2.1 st.2.2.2.1 st.2.2.2.2.1 st.2.2.2.2.2.1 st.2.2.2.2.2.2.1 st.2.2.2.2.2.2.2.1 st.2.2.2.2.2.2.2.2.1 st.2.2.2.2.2.2.2.2.2.1 st.2.2.2.2.2.2.2.2.2.2.1 st.2.2.2.2.2.2.2.2.2.2.2.1 st.2.2.2.2.2.2.2.2.2.2.2.2.1 st.2.2.2.2.2.2.2.2.2.2.2.2.2.1 st.2.2.2.2.2.2.2.2.2.2.2.2.2.2.1 st.2.2.2.2.2.2.2.2.2.2.2.2.2.2.2.1 st.2.2.2.2.2.2.2.2.2.2.2.2.2.2.2.2.1 st.2.2.2.2.2.2.2.2.2.2.2.2.2.2.2.2.2.1 st.2.2.2.2.2.2.2.2.2.2.2.2.2.2.2.2.2.2.1 st.2.2.2.2.2.2.2.2.2.2.2.2.2.2.2.2.2.2.2) FUEL (0,k.A,k.B,(newS p).tot,p,p,p,p,p,p,p,p,(newS p).R 0,(newS p).R 1,(newS p).R 2,(newS p).R 3,(newS p).R 4,(newS p).R 5,(newS p).R 6,(newS p).R 7)=some true:=by
 refine Xd3 (fun j:Nat=>((j:Int),k.A,k.B,(SK k p (m.take j)).tot,p,p,p,p,p,p,p,p,(SK k p (m.take j)).R 0,(SK k p (m.take j)).R 1,(SK k p (m.take j)).R 2,(SK k p (m.take j)).R 3,(SK k p (m.take j)).R 4,(SK k p (m.take j)).R 5,(SK k p (m.take j)).R 6,(SK k p (m.take j)).R 7)) _ m.length (fun j hj=>?_) ?_ (by rw [Xd0];omega)
 ·show XbO Xat Xas Xaw Xam Xao Xah Xad Xab Xaf Xae 8 (p:Int) k l m text i k.A k.B (SK k p l).tot p p p p p p p p ((SK k p l).R 0) ((SK k p l).R 1) ((SK k p l).R 2) ((SK k p l).R 3) ((SK k p l).R 4) ((SK k p l).R 5) ((SK k p l).R 6) ((SK k p l).R 7) (j:Int) k.A k.B (SK k p (m.take j)).tot p p p p p p p p ((SK k p (m.take j)).R 0) ((SK k p (m.take j)).R 1) ((SK k p (m.take j)).R 2) ((SK k p (m.take j)).R 3) ((SK k p (m.take j)).R 4) ((SK k p (m.take j)).R 5) ((SK k p (m.take j)).R 6) ((SK k p (m.take j)).R 7)=_
  unfold XbO
  have hp1:Xaf.v8 ⟨⟨k.A,k.B⟩,⟨(SK k p (m.take j)).R 0,(SK k p (m.take j)).R 1,(SK k p (m.take j)).R 2,(SK k p (m.take j)).R 3,(SK k p (m.take j)).R 4,(SK k p (m.take j)).R 5,(SK k p (m.take j)).R 6,(SK k p (m.take j)).R 7,p,p,p,p,p,p,p,p⟩,(SK k p (m.take j)).tot⟩ (m[j]).Text (m[j]).N=some (Xj8 m[j],Xey k p (stepS k p (SK k p (m.take j)) m[j])):=Xxg hp (Xdl.SK k p _) (hm _ (List.getElem_mem hj))
  rw [Xbd (by omega),XaH (by omega),Int.toNat_natCast,List.getElem?_eq_getElem hj,Option.bind_some,XaH (by omega),hp1,Option.bind_some,←XhH _ _ hj,Xf1 (by omega) (by omega)];rfl
 ·show XbO Xat Xas Xaw Xam Xao Xah Xad Xab Xaf Xae 8 (p:Int) k l m text i k.A k.B (SK k p l).tot p p p p p p p p ((SK k p l).R 0) ((SK k p l).R 1) ((SK k p l).R 2) ((SK k p l).R 3) ((SK k p l).R 4) ((SK k p l).R 5) ((SK k p l).R 6) ((SK k p l).R 7) (m.length:Int) k.A k.B (SK k p (m.take m.length)).tot p p p p p p p p ((SK k p (m.take m.length)).R 0) ((SK k p (m.take m.length)).R 1) ((SK k p (m.take m.length)).R 2) ((SK k p (m.take m.length)).R 3) ((SK k p (m.take m.length)).R 4) ((SK k p (m.take m.length)).R 5) ((SK k p (m.take m.length)).R 6) ((SK k p (m.take m.length)).R 7)=_
  unfold XbO
  have ht:∀ e∈l++m,e.Text.length≤20:=fun e he=>(List.mem_append.1 he).elim (hl e) (hm e)
  have hz:=(Xdl.SK k p l).add (Xdl.SK k p m)
  have hnew:Xao 8 (p:Int) ⟨k.A,wI .u64 (k.B+1)⟩=some (.v8 (Xey (key1 k) p (newS p))):=Xmd (by omega) hp (key1 k)
  have ha1:Xah.v88 ⟨⟨k.A,k.B⟩,⟨(SK k p l).R 0,(SK k p l).R 1,(SK k p l).R 2,(SK k p l).R 3,(SK k p l).R 4,(SK k p l).R 5,(SK k p l).R 6,(SK k p l).R 7,p,p,p,p,p,p,p,p⟩,(SK k p l).tot⟩ ⟨⟨k.A,k.B⟩,⟨(SK k p m).R 0,(SK k p m).R 1,(SK k p m).R 2,(SK k p m).R 3,(SK k p m).R 4,(SK k p m).R 5,(SK k p m).R 6,(SK k p m).R 7,p,p,p,p,p,p,p,p⟩,(SK k p m).tot⟩=some (true,Xey k p (Xdk (SK k p l) (SK k p m))):=XFk hp.2 (Xdl.SK k p l) (Xdl.SK k p m)
  have ha2:Xah.v88 (Xey k p (Xdk (SK k p l) (SK k p m))) (Xey (key1 k) p (newS p))=some (false,Xey k p (Xdk (SK k p l) (SK k p m))):=XGf (k:=k) (k':=key1 k) (p:=p) hz (Xdl.new p) (XkN hk)
  have hg:Xad.v8 (Xey k p (Xdk (SK k p l) (SK k p m))) text=some (Xly k p (Xdk (SK k p l) (SK k p m)) text 8):=XxQ hp hz h20 (k:=k)
  have htt:Xae.v8 (Xey k p (Xdk (SK k p l) (SK k p m)))=some (Xdk (SK k p l) (SK k p m)).tot:=Xzs
  have hpo:i<0∨8≤i→Xab.v8 (Xey k p (Xdk (SK k p l) (SK k p m))) i text=some (-1):=fun h=>XvC _ h _
  have hpl:∀ q:Nat,q<8→Xab.v8 (Xey k p (Xdk (SK k p l) (SK k p m))) (q:Int) text=some (plN k p q text:Int):=fun q h=>Xd5 hp (Xey k p (Xdk (SK k p l) (SK k p m))) rfl ⟨rfl,rfl,rfl,rfl,rfl,rfl,rfl,rfl⟩ h20 q h
  have hg2:Xat k 8 (p:Int) (l++m) text=some (Xly k p (Xdk (SK k p l) (SK k p m)) text 8):=XkQ (n:=8) hp (by decide) (l:=l++m) (by rw [List.length_append];omega) ht h20 (Xji hp.1 k l m text)
  have ht2:=Xkb (l:=l++m) (by rw [List.length_append];omega)
  rw [List.take_length,Xa7 (by omega),hnew,Option.bind_some]
  dsimp only
  rw [ha1,Option.bind_some]
  dsimp only
  rw [show (!true)=false from rfl,cond_false,ha2,Option.bind_some]
  dsimp only
  rw [cond_false,XaH (by omega),XaH (by omega)]
  by_cases c1:i≥0
  ·rw [Xbd c1]
   by_cases c2:i<8
   ·obtain ⟨q,rfl⟩:=Int.eq_ofNat_of_zero_le c1
    rw [Xbd c2,Xjy hp q h20,Option.bind_some,hg,Option.bind_some,hg2,Option.bind_some,beq_self_eq_true,cond_true,htt,Option.bind_some,ht2,Option.bind_some,Xez,beq_self_eq_true,cond_true,
     hpl q (by omega),Option.bind_some,beq_self_eq_true,cond_true,XdN];rfl
   ·rw [Xa7 c2,hg,Option.bind_some,hg2,Option.bind_some,beq_self_eq_true,cond_true,htt,Option.bind_some,ht2,Option.bind_some,Xez,beq_self_eq_true,cond_true,
     hpo (.inr (by omega)),Option.bind_some,beq_self_eq_true,cond_true,XdN];rfl
  ·rw [Xa7 c1,hg,Option.bind_some,hg2,Option.bind_some,beq_self_eq_true,cond_true,htt,Option.bind_some,ht2,Option.bind_some,Xez,beq_self_eq_true,cond_true,
    hpo (.inl (by omega)),Option.bind_some,beq_self_eq_true,cond_true,XdN];rfl
theorem lawG8 {k:Xau} {p:Nat} (hp:1≤p∧p≤4096) (hk:0≤k.B∧k.B<2^64) {l m:List Xay} (h30:l.length≤30) (hl:∀ e∈l,e.Text.length≤20) (h31:m.length≤30) (hm:∀ e∈m,e.Text.length≤20) {text:List UInt8} (h20:text.length≤20) (i:Int) :
 iter (fun st=>XbR Xat XaI Xas Xaw Xam Xao Xah Xad Xab Xaf Xae 8 (p:Int) k l m text i (Xey k p (newS p)) st.1 st.2.1 st.2.2.1 st.2.2.2.1 st.2.2.2.2.1 st.2.2.2.2.2.1 st.2.2.2.2.2.2.1 st.2.2.2.2.2.2.2.1 st.2.2.2.2.2.2.2.2.1 st.2.2.2.2.2.2.2.2.2.1 st.2.2.2.2.2.2.2.2.2.2.1 st.2.2.2.2.2.2.2.2.2.2.2.1 st.2.2.2.2.2.2.2.2.2.2.2.2.1 st.2.2.2.2.2.2.2.2.2.2.2.2.2.1 st.2.2.2.2.2.2.2.2.2.2.2.2.2.2.1 st.2.2.2.2.2.2.2.2.2.2.2.2.2.2.2.1 st.2.2.2.2.2.2.2.2.2.2.2.2.2.2.2.2.1 st.2.2.2.2.2.2.2.2.2.2.2.2.2.2.2.2.2.1 st.2.2.2.2.2.2.2.2.2.2.2.2.2.2.2.2.2.2.1 st.2.2.2.2.2.2.2.2.2.2.2.2.2.2.2.2.2.2.2) FUEL (0,k.A,k.B,(newS p).tot,p,p,p,p,p,p,p,p,(newS p).R 0,(newS p).R 1,(newS p).R 2,(newS p).R 3,(newS p).R 4,(newS p).R 5,(newS p).R 6,(newS p).R 7)=some true:=by
 refine Xd3 (fun j:Nat=>((j:Int),k.A,k.B,(SK k p (l.take j)).tot,p,p,p,p,p,p,p,p,(SK k p (l.take j)).R 0,(SK k p (l.take j)).R 1,(SK k p (l.take j)).R 2,(SK k p (l.take j)).R 3,(SK k p (l.take j)).R 4,(SK k p (l.take j)).R 5,(SK k p (l.take j)).R 6,(SK k p (l.take j)).R 7)) _ l.length (fun j hj=>?_) ?_ (by rw [Xd0];omega)
 ·show XbR Xat XaI Xas Xaw Xam Xao Xah Xad Xab Xaf Xae 8 (p:Int) k l m text i (Xey k p (newS p)) (j:Int) k.A k.B (SK k p (l.take j)).tot p p p p p p p p ((SK k p (l.take j)).R 0) ((SK k p (l.take j)).R 1) ((SK k p (l.take j)).R 2) ((SK k p (l.take j)).R 3) ((SK k p (l.take j)).R 4) ((SK k p (l.take j)).R 5) ((SK k p (l.take j)).R 6) ((SK k p (l.take j)).R 7)=_
  unfold XbR
  have hp1:Xaf.v8 ⟨⟨k.A,k.B⟩,⟨(SK k p (l.take j)).R 0,(SK k p (l.take j)).R 1,(SK k p (l.take j)).R 2,(SK k p (l.take j)).R 3,(SK k p (l.take j)).R 4,(SK k p (l.take j)).R 5,(SK k p (l.take j)).R 6,(SK k p (l.take j)).R 7,p,p,p,p,p,p,p,p⟩,(SK k p (l.take j)).tot⟩ (l[j]).Text (l[j]).N=some (Xj8 l[j],Xey k p (stepS k p (SK k p (l.take j)) l[j])):=Xxg hp (Xdl.SK k p _) (hl _ (List.getElem_mem hj))
  rw [Xbd (by omega),XaH (by omega),Int.toNat_natCast,List.getElem?_eq_getElem hj,Option.bind_some,XaH (by omega),hp1,Option.bind_some,XaH (by omega),XoE,Option.bind_some,←XhH _ _ hj,Xf1 (by omega) (by omega)]
  dsimp only
  rw [beq_self_eq_true];rfl
 ·show XbR Xat XaI Xas Xaw Xam Xao Xah Xad Xab Xaf Xae 8 (p:Int) k l m text i (Xey k p (newS p)) (l.length:Int) k.A k.B (SK k p (l.take l.length)).tot p p p p p p p p ((SK k p (l.take l.length)).R 0) ((SK k p (l.take l.length)).R 1) ((SK k p (l.take l.length)).R 2) ((SK k p (l.take l.length)).R 3) ((SK k p (l.take l.length)).R 4) ((SK k p (l.take l.length)).R 5) ((SK k p (l.take l.length)).R 6) ((SK k p (l.take l.length)).R 7)=_
  unfold XbR
  rw [Xa7 (by omega),List.take_length]
  exact (congrArg (fun z=>Option.bind z _) (XHe hp hk h30 hl h31 hm h20 i)).trans rfl
theorem XEY {rows places:Int} (h:¬ (1≤rows∧rows≤8∧1≤places∧places≤4096)) (k:Xau):Xao rows places k=some .nil:=by
 unfold Xao Xjd
 by_cases h1:rows<1
 ·rw [Xbd h1]
 rw [Xa7 h1]
 by_cases h2:rows>8
 ·rw [Xbd h2]
 rw [Xa7 h2]
 by_cases h3:places<1
 ·rw [Xbd h3]
 rw [Xa7 h3,Xbd (by omega)]
theorem sketchGuesses (rows places:Int) (k:Xau) (l m:List Xay) (text:List UInt8) (i:Int) (hk:0≤k.B∧k.B<2^64):Xjc rows places k l m text i=some true:=by
 unfold Xjc Xfp
 rw [XIh,Option.bind_some]
 cases hf:(decide (l.length≤30)&&(l.take 30).all fun e=>decide (e.Text.length≤20)) with
 | false=>rw [show (!false)=true from rfl,cond_true,XdN];rfl
 | true=>
   obtain ⟨h30,hl⟩:=XuV hf
   rw [show (!true)=false from rfl,cond_false,XIh,Option.bind_some]
   cases hg:(decide (m.length≤30)&&(m.take 30).all fun e=>decide (e.Text.length≤20)) with
   | false=>rw [show (!false)=true from rfl,cond_true,XdN];rfl
   | true=>
     obtain ⟨h31,hm⟩:=XuV hg
     rw [show (!true)=false from rfl,cond_false]
     by_cases h20:(text.length:Int)>20
     ·rw [Xbd h20,XdN];rfl
     rw [Xa7 h20]
     by_cases hr:1≤rows∧rows≤8∧1≤places∧places≤4096
     ·obtain ⟨p,rfl⟩:∃ p:Nat,places=(p:Int):=⟨places.toNat,by omega⟩
      have hp1:1≤p∧p≤4096:=by omega
      rw [Xmd ⟨hr.1,hr.2.1⟩ hp1,Option.bind_some,XzW,decide_eq_true hr]
      obtain rfl|rfl|rfl|rfl|rfl|rfl|rfl|rfl:rows=1∨rows=2∨rows=3∨rows=4∨rows=5∨rows=6∨rows=7∨rows=8:=by omega
      ·exact lawG1 hp1 hk h30 hl h31 hm (by omega) i
      ·exact lawG2 hp1 hk h30 hl h31 hm (by omega) i
      ·exact lawG3 hp1 hk h30 hl h31 hm (by omega) i
      ·exact lawG4 hp1 hk h30 hl h31 hm (by omega) i
      ·exact lawG5 hp1 hk h30 hl h31 hm (by omega) i
      ·exact lawG6 hp1 hk h30 hl h31 hm (by omega) i
      ·exact lawG7 hp1 hk h30 hl h31 hm (by omega) i
      ·exact lawG8 hp1 hk h30 hl h31 hm (by omega) i
     ·rw [XEY hr,Option.bind_some]
      dsimp only
      rw [Option.bind_some]
      dsimp only
      rw [XzW,decide_eq_false hr,Option.bind_some,XdN];rfl
end Go.Vm.Code
