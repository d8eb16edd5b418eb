import Derived.Test.YtdnhoocoofnibaaMIcmpTellsa
namespace Go.Vm.Code
open Go Go.Vm Go.Proofs
set_option maxRecDepth 100000
set_option maxHeartbeats 4000000
set_option linter.unusedVariables false
def R05_fourF (R04_Right : api_Addr → Option Bool) (a : api_Addr) : Option Bool :=
  (R04_Right a).bind fun xr =>
  cond (xr)
    (
    some (!a.V6))
    (
    some (false))
def rx120 (x : Bool) : SRes := ⟨.bool x, [], []⟩
def r120 (g : api_Addr → Option Bool) : Dec := dV uvapi_Addr fun (y0 : api_Addr) => dEnd (ofG (g y0) rx120)
theorem r120_c {g : api_Addr → Option Bool} {y0 : api_Addr} {x : Bool} (hx : g y0 = some x) : r120 g [.agg ⟨[.bool y0.V6, .int .u64 y0.Hi, .int .u64 y0.Lo]⟩] [] = some (rx120 x) := (dV_eq (uvapi_Addr_c _)).trans (ofG_eq hx)
def s120 (g : api_Addr → Option Bool) : Summ := ⟨[.v], r120 g⟩
theorem r120_eq {g : api_Addr → Option Bool} {y0 : api_Addr} {x : Bool} (hx : g y0 = some x) : (s120 g).run [.agg ⟨[.bool y0.V6, .int .u64 y0.Hi, .int .u64 y0.Lo]⟩] [] = some (rx120 x) := r120_c hx
abbrev sums120 (R04_Right : api_Addr → Option Bool) : List (Nat × Summ) := [(86, s86 R04_Right)]
theorem leads120 (R04_Right : api_Addr → Option Bool) (hS : SumsOK Try.prog (aget (sums120 R04_Right))) (a : api_Addr) (res : Bool) (h : R05_fourF R04_Right a = some res) :
    Leads Try.prog 120 0 ⟨⟨120, 10, [(0, .agg ⟨[.bool a.V6, .int .u64 a.Hi, .int .u64 a.Lo]⟩)], [.code k120_3], [], false, none⟩, [], [], 0⟩ (fun v H _ => Res 0 (rx120 res) v H) := by
  unfold R05_fourF at h
  refine ev_ok tab_ok hS true 3000 ?_
  conv => whnf
  replace h := obind.elim h; obtain ⟨xr, hy, h⟩ := h
  refine sumK.q rfl rfl (r86_eq hy) rfl rfl rfl ?_
  conv => whnf
  refine br.h h ?_ ?_ ?_
  · rfl
  · clear h; intro hb h; conv => whnf
    all_goals (cases h; exact Res.z rfl rfl rfl)
  clear h; intro hb h; conv => whnf
  all_goals (cases h; exact Res.z rfl rfl rfl)
theorem ok120 (R04_Right : api_Addr → Option Bool) (hS : SumsOK Try.prog (aget (sums120 R04_Right))) : SumOK Try.prog 120 (s120 (R05_fourF R04_Right)) := by
  refine SumOK.of_leads tab_ok (fun ar os r ha hr => ?_) ⟨Try.f120, rfl, by decide, rfl⟩
  replace hr : r120 (R05_fourF R04_Right) ar (conts os) = some r := hr
  unfold r120 at hr
  generalize hc : conts os = C at hr
  replace hr := dV.elim hr; obtain ⟨v0, l1, y0, rfl, e0, hr⟩ := hr; obtain rfl := uvapi_Addr_eq _ _ e0
  replace hr := dFin hr; obtain ⟨rfl, rfl, x, h, rfl⟩ := hr
  obtain rfl := kinds_nil hc
  exact ⟨_, rfl, leads120 R04_Right hS _ x h⟩
def R05_four : api_Addr → Option Bool := R05_fourF R04_Right
theorem lift120 : SumOK Try.prog 120 (s120 R05_four) := ok120 R04_Right (SumsOK.of_tab ⟨lift86, trivial⟩)
def R05_RightF (R05_four : api_Addr → Option Bool) (R05_in : Int → Int → Option Bool) (ha0 : ipfour_Head) : Option Bool :=
  (R05_in ha0.Class 255).bind fun i =>
  cond (i)
    (
    (R05_in ha0.Mark 65535).bind fun i1 =>
    cond (i1)
      (
      (R05_in ha0.TTL 255).bind fun i2 =>
      cond (i2)
        (
        (R05_in ha0.Proto 255).bind fun i3 =>
        cond (i3)
          (
          (R05_four ha0.Src).bind fun f =>
          cond (f)
            (
            (R05_four ha0.Dst).bind fun f1 =>
            cond (f1)
              (
              cond (decide ((ha0.Options.length : Int) ≤ 40))
                (
                some (((ha0.Options.length : Int).tmod 4) == 0))
                (
                some (false)))
              (
              some (false)))
            (
            some (false)))
          (
          some (false)))
        (
        some (false)))
      (
      some (false)))
    (
    some (false))
def rx79 (x : Bool) : SRes := ⟨.bool x, [], []⟩
def r79 (g : ipfour_Head → Option Bool) : Dec := dV uvipfour_Head fun (y0 : ipfour_Head) => dEnd (ofG (g y0) rx79)
theorem r79_c {g : ipfour_Head → Option Bool} {y0 : ipfour_Head} {x : Bool} (hx : g y0 = some x) : r79 g [.agg ⟨[.int .i64 y0.Class, .int .i64 y0.Mark, .bool y0.Whole, .int .i64 y0.TTL, .int .i64 y0.Proto, .bool y0.Src.V6, .int .u64 y0.Src.Hi, .int .u64 y0.Src.Lo, .bool y0.Dst.V6, .int .u64 y0.Dst.Hi, .int .u64 y0.Dst.Lo, .string ⟨⟨y0.Options⟩⟩]⟩] [] = some (rx79 x) := (dV_eq (uvipfour_Head_c _)).trans (ofG_eq hx)
def s79 (g : ipfour_Head → Option Bool) : Summ := ⟨[.v], r79 g⟩
theorem r79_eq {g : ipfour_Head → Option Bool} {y0 : ipfour_Head} {x : Bool} (hx : g y0 = some x) : (s79 g).run [.agg ⟨[.int .i64 y0.Class, .int .i64 y0.Mark, .bool y0.Whole, .int .i64 y0.TTL, .int .i64 y0.Proto, .bool y0.Src.V6, .int .u64 y0.Src.Hi, .int .u64 y0.Src.Lo, .bool y0.Dst.V6, .int .u64 y0.Dst.Hi, .int .u64 y0.Dst.Lo, .string ⟨⟨y0.Options⟩⟩]⟩] [] = some (rx79 x) := r79_c hx
abbrev sums79 (R05_four : api_Addr → Option Bool) (R05_in : Int → Int → Option Bool) : List (Nat × Summ) := [(120, s120 R05_four), (119, s119 R05_in)]
theorem leads79 (R05_four : api_Addr → Option Bool) (R05_in : Int → Int → Option Bool) (hS : SumsOK Try.prog (aget (sums79 R05_four R05_in))) (ha0 : ipfour_Head) (res : Bool) (h : R05_RightF R05_four R05_in ha0 = some res) :
    Leads Try.prog 79 0 ⟨⟨79, 44, [(0, .agg ⟨[.int .i64 ha0.Class, .int .i64 ha0.Mark, .bool ha0.Whole, .int .i64 ha0.TTL, .int .i64 ha0.Proto, .bool ha0.Src.V6, .int .u64 ha0.Src.Hi, .int .u64 ha0.Src.Lo, .bool ha0.Dst.V6, .int .u64 ha0.Dst.Hi, .int .u64 ha0.Dst.Lo, .string ⟨⟨ha0.Options⟩⟩]⟩)], [.code k79_3], [], false, none⟩, [], [], 0⟩ (fun v H _ => Res 0 (rx79 res) v H) := by
  unfold R05_RightF at h
  refine ev_ok tab_ok hS true 3000 ?_
  conv => whnf
  replace h := obind.elim h; obtain ⟨i, hy, h⟩ := h
  refine sumK.q rfl rfl (r119_eq hy) rfl rfl rfl ?_
  conv => whnf
  refine br.h2 h ?_ ?_ ?_
  · rfl
  · clear h; intro hb h; conv => whnf
    all_goals (cases h; exact Res.z rfl rfl rfl)
  clear h; intro hb h; conv => whnf
  replace h := obind.elim h; obtain ⟨i1, hy, h⟩ := h
  refine sumK.q rfl rfl (r119_eq hy) rfl rfl rfl ?_
  conv => whnf
  refine br.h2 h ?_ ?_ ?_
  · rfl
  · clear h; intro hb h; conv => whnf
    all_goals (cases h; exact Res.z rfl rfl rfl)
  clear h; intro hb h; conv => whnf
  replace h := obind.elim h; obtain ⟨i2, hy, h⟩ := h
  refine sumK.q rfl rfl (r119_eq hy) rfl rfl rfl ?_
  conv => whnf
  refine br.h2 h ?_ ?_ ?_
  · rfl
  · clear h; intro hb h; conv => whnf
    all_goals (cases h; exact Res.z rfl rfl rfl)
  clear h; intro hb h; conv => whnf
  replace h := obind.elim h; obtain ⟨i3, hy, h⟩ := h
  refine sumK.q rfl rfl (r119_eq hy) rfl rfl rfl ?_
  conv => whnf
  refine br.h2 h ?_ ?_ ?_
  · rfl
  · clear h; intro hb h; conv => whnf
    all_goals (cases h; exact Res.z rfl rfl rfl)
  clear h; intro hb h; conv => whnf
  replace h := obind.elim h; obtain ⟨f, hy, h⟩ := h
  refine sumK.q rfl rfl (r120_eq hy) rfl rfl rfl ?_
  conv => whnf
  refine br.h2 h ?_ ?_ ?_
  · rfl
  · clear h; intro hb h; conv => whnf
    all_goals (cases h; exact Res.z rfl rfl rfl)
  clear h; intro hb h; conv => whnf
  replace h := obind.elim h; obtain ⟨f1, hy, h⟩ := h
  refine sumK.q rfl rfl (r120_eq hy) rfl rfl rfl ?_
  conv => whnf
  refine br.h2 h ?_ ?_ ?_
  · rfl
  · clear h; intro hb h; conv => whnf
    all_goals (cases h; exact Res.z rfl rfl rfl)
  clear h; intro hb h; conv => whnf
  refine br.h h ?_ ?_ ?_
  · rfl
  · clear h; intro hb h; conv => whnf
    all_goals (cases h; exact Res.z rfl rfl rfl)
  clear h; intro hb h; conv => whnf
  all_goals (cases h; exact Res.z rfl rfl rfl)
theorem ok79 (R05_four : api_Addr → Option Bool) (R05_in : Int → Int → Option Bool) (hS : SumsOK Try.prog (aget (sums79 R05_four R05_in))) : SumOK Try.prog 79 (s79 (R05_RightF R05_four R05_in)) := by
  refine SumOK.of_leads tab_ok (fun ar os r ha hr => ?_) ⟨Try.f79, rfl, by decide, rfl⟩
  replace hr : r79 (R05_RightF R05_four R05_in) ar (conts os) = some r := hr
  unfold r79 at hr
  generalize hc : conts os = C at hr
  replace hr := dV.elim hr; obtain ⟨v0, l1, y0, rfl, e0, hr⟩ := hr; obtain rfl := uvipfour_Head_eq _ _ e0
  replace hr := dFin hr; obtain ⟨rfl, rfl, x, h, rfl⟩ := hr
  obtain rfl := kinds_nil hc
  exact ⟨_, rfl, leads79 R05_four R05_in hS _ x h⟩
def R05_Right : ipfour_Head → Option Bool := R05_RightF R05_four R05_in
theorem lift79 : SumOK Try.prog 79 (s79 R05_Right) := ok79 R05_four R05_in (SumsOK.of_tab ⟨lift120, lift119, trivial⟩)
def R05_PutF (R03_Of : (List UInt8) → Option Int) (R03_Set : (List UInt8) → Int → Int → Int → Option (List UInt8)) (R04_Put : api_Addr → Option (List UInt8)) (R05_Right : ipfour_Head → Option Bool) (R05_num : Int → Int → Option (List UInt8)) (ha0 : ipfour_Head) (payload : List UInt8) : Option ((List UInt8) × Int) :=
  (R05_Right ha0).bind fun xr =>
  cond (!xr)
    (
    some (([], 1)))
    (
    let t := wI .i64 (20 + (ha0.Options.length : Int))
    let t1 := decide ((payload.length : Int) > (wI .i64 (65535 - t)))
    cond (t1)
      (
      some (([], 5)))
      (
      cond (ha0.Whole)
        (
        (R05_num (wI .i64 (64 + (wI .i64 (t.tdiv 4)))) 1).bind fun n =>
        (R05_num ha0.Class 1).bind fun n1 =>
        oreq (decide (n.length + n1.length < 2 ^ 63)) <|
        (R05_num (wI .i64 (t + (payload.length : Int))) 2).bind fun n2 =>
        oreq (decide ((n ++ n1).length + n2.length < 2 ^ 63)) <|
        (R05_num ha0.Mark 2).bind fun n3 =>
        oreq (decide (((n ++ n1) ++ n2).length + n3.length < 2 ^ 63)) <|
        (R05_num 64 1).bind fun n4 =>
        oreq (decide ((((n ++ n1) ++ n2) ++ n3).length + n4.length < 2 ^ 63)) <|
        (R05_num 0 1).bind fun n5 =>
        oreq (decide (((((n ++ n1) ++ n2) ++ n3) ++ n4).length + n5.length < 2 ^ 63)) <|
        (R05_num ha0.TTL 1).bind fun n6 =>
        oreq (decide ((((((n ++ n1) ++ n2) ++ n3) ++ n4) ++ n5).length + n6.length < 2 ^ 63)) <|
        let t2 := (((((n ++ n1) ++ n2) ++ n3) ++ n4) ++ n5) ++ n6
        (R05_num ha0.Proto 1).bind fun n7 =>
        oreq (decide (t2.length + n7.length < 2 ^ 63)) <|
        (R05_num 0 2).bind fun n8 =>
        oreq (decide ((t2 ++ n7).length + n8.length < 2 ^ 63)) <|
        (R04_Put ha0.Src).bind fun p =>
        oreq (decide (((t2 ++ n7) ++ n8).length + p.length < 2 ^ 63)) <|
        (R04_Put ha0.Dst).bind fun p1 =>
        oreq (decide ((((t2 ++ n7) ++ n8) ++ p).length + p1.length < 2 ^ 63)) <|
        oreq (decide (((((t2 ++ n7) ++ n8) ++ p) ++ p1).length + ha0.Options.length < 2 ^ 63)) <|
        let t3 := ((((t2 ++ n7) ++ n8) ++ p) ++ p1) ++ ha0.Options
        (R03_Of t3).bind fun xo =>
        (R03_Set t3 10 2 (wI .u64 xo)).bind fun s =>
        oreq (decide (s.length + payload.length < 2 ^ 63)) <|
        some ((s ++ payload, 0)))
        (
        (R05_num (wI .i64 (64 + (wI .i64 (t.tdiv 4)))) 1).bind fun n9 =>
        (R05_num ha0.Class 1).bind fun n10 =>
        oreq (decide (n9.length + n10.length < 2 ^ 63)) <|
        (R05_num (wI .i64 (t + (payload.length : Int))) 2).bind fun n11 =>
        oreq (decide ((n9 ++ n10).length + n11.length < 2 ^ 63)) <|
        (R05_num ha0.Mark 2).bind fun n12 =>
        oreq (decide (((n9 ++ n10) ++ n11).length + n12.length < 2 ^ 63)) <|
        (R05_num 0 1).bind fun n13 =>
        oreq (decide ((((n9 ++ n10) ++ n11) ++ n12).length + n13.length < 2 ^ 63)) <|
        (R05_num 0 1).bind fun n14 =>
        oreq (decide (((((n9 ++ n10) ++ n11) ++ n12) ++ n13).length + n14.length < 2 ^ 63)) <|
        let t4 := ((((n9 ++ n10) ++ n11) ++ n12) ++ n13) ++ n14
        (R05_num ha0.TTL 1).bind fun n15 =>
        oreq (decide (t4.length + n15.length < 2 ^ 63)) <|
        (R05_num ha0.Proto 1).bind fun n16 =>
        oreq (decide ((t4 ++ n15).length + n16.length < 2 ^ 63)) <|
        (R05_num 0 2).bind fun n17 =>
        oreq (decide (((t4 ++ n15) ++ n16).length + n17.length < 2 ^ 63)) <|
        (R04_Put ha0.Src).bind fun p2 =>
        oreq (decide ((((t4 ++ n15) ++ n16) ++ n17).length + p2.length < 2 ^ 63)) <|
        (R04_Put ha0.Dst).bind fun p3 =>
        oreq (decide (((((t4 ++ n15) ++ n16) ++ n17) ++ p2).length + p3.length < 2 ^ 63)) <|
        let t5 := ((((t4 ++ n15) ++ n16) ++ n17) ++ p2) ++ p3
        oreq (decide (t5.length + ha0.Options.length < 2 ^ 63)) <|
        (R03_Of (t5 ++ ha0.Options)).bind fun xo1 =>
        (R03_Set (t5 ++ ha0.Options) 10 2 (wI .u64 xo1)).bind fun s1 =>
        oreq (decide (s1.length + payload.length < 2 ^ 63)) <|
        some ((s1 ++ payload, 0)))))
def rx23 (x : (List UInt8) × Int) : SRes := ⟨.tuple ⟨[.string ⟨⟨x.1⟩⟩, .int .i64 x.2]⟩, [], []⟩
def r23 (g : ipfour_Head → (List UInt8) → Option ((List UInt8) × Int)) : Dec := dV uvipfour_Head fun (y0 : ipfour_Head) => dV asS fun (y1 : List UInt8) => dEnd (ofG (g y0 y1) rx23)
theorem r23_c {g : ipfour_Head → (List UInt8) → Option ((List UInt8) × Int)} {y0 : ipfour_Head} {y1 : List UInt8} {x : (List UInt8) × Int} (hx : g y0 y1 = some x) : r23 g [.agg ⟨[.int .i64 y0.Class, .int .i64 y0.Mark, .bool y0.Whole, .int .i64 y0.TTL, .int .i64 y0.Proto, .bool y0.Src.V6, .int .u64 y0.Src.Hi, .int .u64 y0.Src.Lo, .bool y0.Dst.V6, .int .u64 y0.Dst.Hi, .int .u64 y0.Dst.Lo, .string ⟨⟨y0.Options⟩⟩]⟩, .string ⟨⟨y1⟩⟩] [] = some (rx23 x) := (dV_eq (uvipfour_Head_c _)).trans ((dV_eq (asS_c)).trans (ofG_eq hx))
def s23 (g : ipfour_Head → (List UInt8) → Option ((List UInt8) × Int)) : Summ := ⟨[.v, .v], r23 g⟩
theorem r23_eq {g : ipfour_Head → (List UInt8) → Option ((List UInt8) × Int)} {y0 : ipfour_Head} {y1 : List UInt8} {x : (List UInt8) × Int} (hx : g y0 y1 = some x) : (s23 g).run [.agg ⟨[.int .i64 y0.Class, .int .i64 y0.Mark, .bool y0.Whole, .int .i64 y0.TTL, .int .i64 y0.Proto, .bool y0.Src.V6, .int .u64 y0.Src.Hi, .int .u64 y0.Src.Lo, .bool y0.Dst.V6, .int .u64 y0.Dst.Hi, .int .u64 y0.Dst.Lo, .string ⟨⟨y0.Options⟩⟩]⟩, .string ⟨⟨y1⟩⟩] [] = some (rx23 x) := r23_c hx
abbrev sums23 (R03_Of : (List UInt8) → Option Int) (R03_Set : (List UInt8) → Int → Int → Int → Option (List UInt8)) (R04_Put : api_Addr → Option (List UInt8)) (R05_Right : ipfour_Head → Option Bool) (R05_num : Int → Int → Option (List UInt8)) : List (Nat × Summ) := [(68, s68 R03_Of), (69, s69 R03_Set), (81, s81 R04_Put), (79, s79 R05_Right), (80, s80 R05_num)]
theorem leads23 (R03_Of : (List UInt8) → Option Int) (R03_Set : (List UInt8) → Int → Int → Int → Option (List UInt8)) (R04_Put : api_Addr → Option (List UInt8)) (R05_Right : ipfour_Head → Option Bool) (R05_num : Int → Int → Option (List UInt8)) (hS : SumsOK Try.prog (aget (sums23 R03_Of R03_Set R04_Put R05_Right R05_num))) (ha0 : ipfour_Head) (payload : List UInt8) (res : (List UInt8) × Int) (h : R05_PutF R03_Of R03_Set R04_Put R05_Right R05_num ha0 payload = some res) :
    Leads Try.prog 23 0 ⟨⟨23, 74, [(0, .agg ⟨[.int .i64 ha0.Class, .int .i64 ha0.Mark, .bool ha0.Whole, .int .i64 ha0.TTL, .int .i64 ha0.Proto, .bool ha0.Src.V6, .int .u64 ha0.Src.Hi, .int .u64 ha0.Src.Lo, .bool ha0.Dst.V6, .int .u64 ha0.Dst.Hi, .int .u64 ha0.Dst.Lo, .string ⟨⟨ha0.Options⟩⟩]⟩), (1, .string ⟨⟨payload⟩⟩)], [.code k23_26], [], false, none⟩, [], [], 0⟩ (fun v H _ => Res 0 (rx23 res) v H) := by
  unfold R05_PutF at h
  refine ev_ok tab_ok hS true 3000 ?_
  conv => whnf
  replace h := obind.elim h; obtain ⟨xr, hy, h⟩ := h
  refine sumK.q rfl rfl (r79_eq hy) rfl rfl rfl ?_
  conv => whnf
  refine br.h h ?_ ?_ ?_
  · rfl
  · clear h; intro hb h; conv => whnf
    all_goals (cases h; exact Res.z rfl rfl rfl)
  clear h; intro hb h; conv => whnf
  let t : Int := wI .i64 (20 + (ha0.Options.length : Int))
  let t1 : Bool := decide ((payload.length : Int) > (wI .i64 (65535 - t)))
  refine br.h h ?_ ?_ ?_
  · rfl
  · clear h; intro hb h; conv => whnf
    all_goals (cases h; exact Res.z rfl rfl rfl)
  clear h; intro hb h; conv => whnf
  refine br.h h ?_ ?_ ?_
  · rfl
  · clear h; intro hb h; conv => whnf
    replace h := obind.elim h; obtain ⟨n, hy, h⟩ := h
    refine sumK.q rfl rfl (r80_eq hy) rfl rfl rfl ?_
    conv => whnf
    replace h := obind.elim h; obtain ⟨n1, hy, h⟩ := h
    refine sumK.q rfl rfl (r80_eq hy) rfl rfl rfl ?_
    conv => whnf
    replace h := oreq.elim h; obtain ⟨hb, h⟩ := h
    first | (refine req.intro hb ?_; conv => whnf) | skip
    replace h := obind.elim h; obtain ⟨n2, hy, h⟩ := h
    refine sumK.q rfl rfl (r80_eq hy) rfl rfl rfl ?_
    conv => whnf
    replace h := oreq.elim h; obtain ⟨hb, h⟩ := h
    first | (refine req.intro hb ?_; conv => whnf) | skip
    replace h := obind.elim h; obtain ⟨n3, hy, h⟩ := h
    refine sumK.q rfl rfl (r80_eq hy) rfl rfl rfl ?_
    conv => whnf
    replace h := oreq.elim h; obtain ⟨hb, h⟩ := h
    first | (refine req.intro hb ?_; conv => whnf) | skip
    replace h := obind.elim h; obtain ⟨n4, hy, h⟩ := h
    refine sumK.q rfl rfl (r80_eq hy) rfl rfl rfl ?_
    conv => whnf
    replace h := oreq.elim h; obtain ⟨hb, h⟩ := h
    first | (refine req.intro hb ?_; conv => whnf) | skip
    replace h := obind.elim h; obtain ⟨n5, hy, h⟩ := h
    refine sumK.q rfl rfl (r80_eq hy) rfl rfl rfl ?_
    conv => whnf
    replace h := oreq.elim h; obtain ⟨hb, h⟩ := h
    first | (refine req.intro hb ?_; conv => whnf) | skip
    replace h := obind.elim h; obtain ⟨n6, hy, h⟩ := h
    refine sumK.q rfl rfl (r80_eq hy) rfl rfl rfl ?_
    conv => whnf
    replace h := oreq.elim h; obtain ⟨hb, h⟩ := h
    first | (refine req.intro hb ?_; conv => whnf) | skip
    let t2 : List UInt8 := (((((n ++ n1) ++ n2) ++ n3) ++ n4) ++ n5) ++ n6
    replace h := obind.elim h; obtain ⟨n7, hy, h⟩ := h
    refine sumK.q rfl rfl (r80_eq hy) rfl rfl rfl ?_
    conv => whnf
    replace h := oreq.elim h; obtain ⟨hb, h⟩ := h
    first | (refine req.intro hb ?_; conv => whnf) | skip
    replace h := obind.elim h; obtain ⟨n8, hy, h⟩ := h
    refine sumK.q rfl rfl (r80_eq hy) rfl rfl rfl ?_
    conv => whnf
    replace h := oreq.elim h; obtain ⟨hb, h⟩ := h
    first | (refine req.intro hb ?_; conv => whnf) | skip
    replace h := obind.elim h; obtain ⟨p, hy, h⟩ := h
    refine sumK.q rfl rfl (r81_eq hy) rfl rfl rfl ?_
    conv => whnf
    replace h := oreq.elim h; obtain ⟨hb, h⟩ := h
    first | (refine req.intro hb ?_; conv => whnf) | skip
    replace h := obind.elim h; obtain ⟨p1, hy, h⟩ := h
    refine sumK.q rfl rfl (r81_eq hy) rfl rfl rfl ?_
    conv => whnf
    replace h := oreq.elim h; obtain ⟨hb, h⟩ := h
    first | (refine req.intro hb ?_; conv => whnf) | skip
    replace h := oreq.elim h; obtain ⟨hb, h⟩ := h
    first | (refine req.intro hb ?_; conv => whnf) | skip
    let t3 : List UInt8 := ((((t2 ++ n7) ++ n8) ++ p) ++ p1) ++ ha0.Options
    replace h := obind.elim h; obtain ⟨xo, hy, h⟩ := h
    refine sumK.q rfl rfl (r68_eq hy) rfl rfl rfl ?_
    conv => whnf
    replace h := obind.elim h; obtain ⟨s, hy, h⟩ := h
    refine sumK.q rfl rfl (r69_eq hy) rfl rfl rfl ?_
    conv => whnf
    replace h := oreq.elim h; obtain ⟨hb, h⟩ := h
    first | (refine req.intro hb ?_; conv => whnf) | skip
    all_goals (cases h; exact Res.z rfl rfl rfl)
  clear h; intro hb h; conv => whnf
  replace h := obind.elim h; obtain ⟨n9, hy, h⟩ := h
  refine sumK.q rfl rfl (r80_eq hy) rfl rfl rfl ?_
  conv => whnf
  replace h := obind.elim h; obtain ⟨n10, hy, h⟩ := h
  refine sumK.q rfl rfl (r80_eq hy) rfl rfl rfl ?_
  conv => whnf
  replace h := oreq.elim h; obtain ⟨hb, h⟩ := h
  first | (refine req.intro hb ?_; conv => whnf) | skip
  replace h := obind.elim h; obtain ⟨n11, hy, h⟩ := h
  refine sumK.q rfl rfl (r80_eq hy) rfl rfl rfl ?_
  conv => whnf
  replace h := oreq.elim h; obtain ⟨hb, h⟩ := h
  first | (refine req.intro hb ?_; conv => whnf) | skip
  replace h := obind.elim h; obtain ⟨n12, hy, h⟩ := h
  refine sumK.q rfl rfl (r80_eq hy) rfl rfl rfl ?_
  conv => whnf
  replace h := oreq.elim h; obtain ⟨hb, h⟩ := h
  first | (refine req.intro hb ?_; conv => whnf) | skip
  replace h := obind.elim h; obtain ⟨n13, hy, h⟩ := h
  refine sumK.q rfl rfl (r80_eq hy) rfl rfl rfl ?_
  conv => whnf
  replace h := oreq.elim h; obtain ⟨hb, h⟩ := h
  first | (refine req.intro hb ?_; conv => whnf) | skip
  replace h := obind.elim h; obtain ⟨n14, hy, h⟩ := h
  refine sumK.q rfl rfl (r80_eq hy) rfl rfl rfl ?_
  conv => whnf
  replace h := oreq.elim h; obtain ⟨hb, h⟩ := h
  first | (refine req.intro hb ?_; conv => whnf) | skip
  let t4 : List UInt8 := ((((n9 ++ n10) ++ n11) ++ n12) ++ n13) ++ n14
  replace h := obind.elim h; obtain ⟨n15, hy, h⟩ := h
  refine sumK.q rfl rfl (r80_eq hy) rfl rfl rfl ?_
  conv => whnf
  replace h := oreq.elim h; obtain ⟨hb, h⟩ := h
  first | (refine req.intro hb ?_; conv => whnf) | skip
  replace h := obind.elim h; obtain ⟨n16, hy, h⟩ := h
  refine sumK.q rfl rfl (r80_eq hy) rfl rfl rfl ?_
  conv => whnf
  replace h := oreq.elim h; obtain ⟨hb, h⟩ := h
  first | (refine req.intro hb ?_; conv => whnf) | skip
  replace h := obind.elim h; obtain ⟨n17, hy, h⟩ := h
  refine sumK.q rfl rfl (r80_eq hy) rfl rfl rfl ?_
  conv => whnf
  replace h := oreq.elim h; obtain ⟨hb, h⟩ := h
  first | (refine req.intro hb ?_; conv => whnf) | skip
  replace h := obind.elim h; obtain ⟨p2, hy, h⟩ := h
  refine sumK.q rfl rfl (r81_eq hy) rfl rfl rfl ?_
  conv => whnf
  replace h := oreq.elim h; obtain ⟨hb, h⟩ := h
  first | (refine req.intro hb ?_; conv => whnf) | skip
  replace h := obind.elim h; obtain ⟨p3, hy, h⟩ := h
  refine sumK.q rfl rfl (r81_eq hy) rfl rfl rfl ?_
  conv => whnf
  replace h := oreq.elim h; obtain ⟨hb, h⟩ := h
  first | (refine req.intro hb ?_; conv => whnf) | skip
  let t5 : List UInt8 := ((((t4 ++ n15) ++ n16) ++ n17) ++ p2) ++ p3
  replace h := oreq.elim h; obtain ⟨hb, h⟩ := h
  first | (refine req.intro hb ?_; conv => whnf) | skip
  replace h := obind.elim h; obtain ⟨xo1, hy, h⟩ := h
  refine sumK.q rfl rfl (r68_eq hy) rfl rfl rfl ?_
  conv => whnf
  replace h := obind.elim h; obtain ⟨s1, hy, h⟩ := h
  refine sumK.q rfl rfl (r69_eq hy) rfl rfl rfl ?_
  conv => whnf
  replace h := oreq.elim h; obtain ⟨hb, h⟩ := h
  first | (refine req.intro hb ?_; conv => whnf) | skip
  all_goals (cases h; exact Res.z rfl rfl rfl)
theorem ok23 (R03_Of : (List UInt8) → Option Int) (R03_Set : (List UInt8) → Int → Int → Int → Option (List UInt8)) (R04_Put : api_Addr → Option (List UInt8)) (R05_Right : ipfour_Head → Option Bool) (R05_num : Int → Int → Option (List UInt8)) (hS : SumsOK Try.prog (aget (sums23 R03_Of R03_Set R04_Put R05_Right R05_num))) : SumOK Try.prog 23 (s23 (R05_PutF R03_Of R03_Set R04_Put R05_Right R05_num)) := by
  refine SumOK.of_leads tab_ok (fun ar os r ha hr => ?_) ⟨Try.f23, rfl, by decide, rfl⟩
  replace hr : r23 (R05_PutF R03_Of R03_Set R04_Put R05_Right R05_num) ar (conts os) = some r := hr
  unfold r23 at hr
  generalize hc : conts os = C at hr
  replace hr := dV.elim hr; obtain ⟨v0, l1, y0, rfl, e0, hr⟩ := hr; obtain rfl := uvipfour_Head_eq _ _ e0
  replace hr := dV.elim hr; obtain ⟨v1, l2, y1, rfl, e1, hr⟩ := hr; obtain rfl := asS_eq _ _ e1
  replace hr := dFin hr; obtain ⟨rfl, rfl, x, h, rfl⟩ := hr
  obtain rfl := kinds_nil hc
  exact ⟨_, rfl, leads23 R03_Of R03_Set R04_Put R05_Right R05_num hS _ _ x h⟩
def R05_Put : ipfour_Head → (List UInt8) → Option ((List UInt8) × Int) := R05_PutF R03_Of R03_Set R04_Put R05_Right R05_num
theorem lift23 : SumOK Try.prog 23 (s23 R05_Put) := ok23 R03_Of R03_Set R04_Put R05_Right R05_num (SumsOK.of_tab ⟨lift68, lift69, lift81, lift79, lift80, trivial⟩)
def ipsix_Head_mayF (ha0 : ipsix_Head) : Option Bool :=
  cond (decide (ha0.Class < 0))
    (
    some (false))
    (
    cond (decide (ha0.Class > 255))
      (
      some (false))
      (
      cond (decide (ha0.Label < 0))
        (
        some (false))
        (
        cond (decide (ha0.Label > 1048575))
          (
          some (false))
          (
          cond (decide (ha0.Next < 0))
            (
            some (false))
            (
            cond (decide (ha0.Next > 255))
              (
              some (false))
              (
              cond (decide (ha0.Hop < 0))
                (
                some (false))
                (
                cond (decide (ha0.Hop > 255))
                  (
                  some (false))
                  (
                  cond (ha0.Src.V6)
                    (
                    some (ha0.Dst.V6))
                    (
                    some (false))))))))))
def rx123 (x : Bool) : SRes := ⟨.bool x, [], []⟩
def r123 (g : ipsix_Head → Option Bool) : Dec := dV uvipsix_Head fun (y0 : ipsix_Head) => dEnd (ofG (g y0) rx123)
theorem r123_c {g : ipsix_Head → Option Bool} {y0 : ipsix_Head} {x : Bool} (hx : g y0 = some x) : r123 g [.agg ⟨[.int .i64 y0.Class, .int .i64 y0.Label, .int .i64 y0.Next, .int .i64 y0.Hop, .bool y0.Src.V6, .int .u64 y0.Src.Hi, .int .u64 y0.Src.Lo, .bool y0.Dst.V6, .int .u64 y0.Dst.Hi, .int .u64 y0.Dst.Lo]⟩] [] = some (rx123 x) := (dV_eq (uvipsix_Head_c _)).trans (ofG_eq hx)
def s123 (g : ipsix_Head → Option Bool) : Summ := ⟨[.v], r123 g⟩
theorem r123_eq {g : ipsix_Head → Option Bool} {y0 : ipsix_Head} {x : Bool} (hx : g y0 = some x) : (s123 g).run [.agg ⟨[.int .i64 y0.Class, .int .i64 y0.Label, .int .i64 y0.Next, .int .i64 y0.Hop, .bool y0.Src.V6, .int .u64 y0.Src.Hi, .int .u64 y0.Src.Lo, .bool y0.Dst.V6, .int .u64 y0.Dst.Hi, .int .u64 y0.Dst.Lo]⟩] [] = some (rx123 x) := r123_c hx
abbrev sums123 : List (Nat × Summ) := []
theorem leads123 (hS : SumsOK Try.prog (aget (sums123))) (ha0 : ipsix_Head) (res : Bool) (h : ipsix_Head_mayF ha0 = some res) :
    Leads Try.prog 123 0 ⟨⟨123, 42, [(0, .agg ⟨[.int .i64 ha0.Class, .int .i64 ha0.Label, .int .i64 ha0.Next, .int .i64 ha0.Hop, .bool ha0.Src.V6, .int .u64 ha0.Src.Hi, .int .u64 ha0.Src.Lo, .bool ha0.Dst.V6, .int .u64 ha0.Dst.Hi, .int .u64 ha0.Dst.Lo]⟩)], [.code k123_22], [], false, none⟩, [], [], 0⟩ (fun v H _ => Res 0 (rx123 res) v H) := by
  unfold ipsix_Head_mayF at h
  refine ev_ok tab_ok hS true 3000 ?_
  conv => whnf
  refine ev_ok tab_ok hS true 3000 ?_
  conv => whnf
  refine br.h h ?_ ?_ ?_
  · rfl
  · clear h; intro hb h; conv => whnf
    all_goals (cases h; exact Res.z rfl rfl rfl)
  clear h; intro hb h; conv => whnf
  refine br.h h ?_ ?_ ?_
  · rfl
  · clear h; intro hb h; conv => whnf
    all_goals (cases h; exact Res.z rfl rfl rfl)
  clear h; intro hb h; conv => whnf
  refine ev_ok tab_ok hS true 3000 ?_
  conv => whnf
  refine br.h h ?_ ?_ ?_
  · rfl
  · clear h; intro hb h; conv => whnf
    all_goals (cases h; exact Res.z rfl rfl rfl)
  clear h; intro hb h; conv => whnf
  refine br.h h ?_ ?_ ?_
  · rfl
  · clear h; intro hb h; conv => whnf
    all_goals (cases h; exact Res.z rfl rfl rfl)
  clear h; intro hb h; conv => whnf
  refine ev_ok tab_ok hS true 3000 ?_
  conv => whnf
  refine br.h h ?_ ?_ ?_
  · rfl
  · clear h; intro hb h; conv => whnf
    all_goals (cases h; exact Res.z rfl rfl rfl)
  clear h; intro hb h; conv => whnf
  refine br.h h ?_ ?_ ?_
  · rfl
  · clear h; intro hb h; conv => whnf
    all_goals (cases h; exact Res.z rfl rfl rfl)
  clear h; intro hb h; conv => whnf
  refine ev_ok tab_ok hS true 3000 ?_
  conv => whnf
  refine br.h h ?_ ?_ ?_
  · rfl
  · clear h; intro hb h; conv => whnf
    all_goals (cases h; exact Res.z rfl rfl rfl)
  clear h; intro hb h; conv => whnf
  refine br.h h ?_ ?_ ?_
  · rfl
  · clear h; intro hb h; conv => whnf
    all_goals (cases h; exact Res.z rfl rfl rfl)
  clear h; intro hb h; conv => whnf
  refine ev_ok tab_ok hS true 3000 ?_
  conv => whnf
  refine br.h h ?_ ?_ ?_
  · rfl
  · clear h; intro hb h; conv => whnf
    all_goals (cases h; exact Res.z rfl rfl rfl)
  clear h; intro hb h; conv => whnf
  all_goals (cases h; exact Res.z rfl rfl rfl)
theorem ok123 (hS : SumsOK Try.prog (aget (sums123))) : SumOK Try.prog 123 (s123 (ipsix_Head_mayF)) := by
  refine SumOK.of_leads tab_ok (fun ar os r ha hr => ?_) ⟨Try.f123, rfl, by decide, rfl⟩
  replace hr : r123 (ipsix_Head_mayF) ar (conts os) = some r := hr
  unfold r123 at hr
  generalize hc : conts os = C at hr
  replace hr := dV.elim hr; obtain ⟨v0, l1, y0, rfl, e0, hr⟩ := hr; obtain rfl := uvipsix_Head_eq _ _ e0
  replace hr := dFin hr; obtain ⟨rfl, rfl, x, h, rfl⟩ := hr
  obtain rfl := kinds_nil hc
  exact ⟨_, rfl, leads123 hS _ x h⟩
def ipsix_Head_may : ipsix_Head → Option Bool := ipsix_Head_mayF
theorem lift123 : SumOK Try.prog 123 (s123 ipsix_Head_may) := ok123 (SumsOK.of_tab trivial)
def ipsix_PutF (addr_Put : api_Addr → Option (List UInt8)) (ipsix_Head_may : ipsix_Head → Option Bool) (octet_Put : Int → Int → Option (List UInt8)) (ha0 : ipsix_Head) (payload : List UInt8) : Option ((List UInt8) × Int) :=
  (ipsix_Head_may ha0).bind fun m =>
  cond (!m)
    (
    some (([], 1)))
    (
    cond (decide ((payload.length : Int) > 65535))
      (
      some (([], 5)))
      (
      let t := iorI .u64 1610612736 (wI .u64 ((wI .u64 ha0.Class) * 2 ^ 20))
      (octet_Put (iorI .u64 t (wI .u64 ha0.Label)) 4).bind fun p =>
      let t1 := wI .u64 ((wI .u64 (payload.length : Int)) * 2 ^ 16)
      let t2 := iorI .u64 t1 (wI .u64 ((wI .u64 ha0.Next) * 2 ^ 8))
      (octet_Put (iorI .u64 t2 (wI .u64 ha0.Hop)) 4).bind fun p1 =>
      oreq (decide (p.length + p1.length < 2 ^ 63)) <|
      (addr_Put ha0.Src).bind fun p2 =>
      oreq (decide ((p ++ p1).length + p2.length < 2 ^ 63)) <|
      (addr_Put ha0.Dst).bind fun p3 =>
      oreq (decide (((p ++ p1) ++ p2).length + p3.length < 2 ^ 63)) <|
      oreq (decide ((((p ++ p1) ++ p2) ++ p3).length + payload.length < 2 ^ 63)) <|
      some (((((p ++ p1) ++ p2) ++ p3) ++ payload, 0))))
def rx98 (x : (List UInt8) × Int) : SRes := ⟨.tuple ⟨[.string ⟨⟨x.1⟩⟩, .int .i64 x.2]⟩, [], []⟩
def r98 (g : ipsix_Head → (List UInt8) → Option ((List UInt8) × Int)) : Dec := dV uvipsix_Head fun (y0 : ipsix_Head) => dV asS fun (y1 : List UInt8) => dEnd (ofG (g y0 y1) rx98)
theorem r98_c {g : ipsix_Head → (List UInt8) → Option ((List UInt8) × Int)} {y0 : ipsix_Head} {y1 : List UInt8} {x : (List UInt8) × Int} (hx : g y0 y1 = some x) : r98 g [.agg ⟨[.int .i64 y0.Class, .int .i64 y0.Label, .int .i64 y0.Next, .int .i64 y0.Hop, .bool y0.Src.V6, .int .u64 y0.Src.Hi, .int .u64 y0.Src.Lo, .bool y0.Dst.V6, .int .u64 y0.Dst.Hi, .int .u64 y0.Dst.Lo]⟩, .string ⟨⟨y1⟩⟩] [] = some (rx98 x) := (dV_eq (uvipsix_Head_c _)).trans ((dV_eq (asS_c)).trans (ofG_eq hx))
def s98 (g : ipsix_Head → (List UInt8) → Option ((List UInt8) × Int)) : Summ := ⟨[.v, .v], r98 g⟩
theorem r98_eq {g : ipsix_Head → (List UInt8) → Option ((List UInt8) × Int)} {y0 : ipsix_Head} {y1 : List UInt8} {x : (List UInt8) × Int} (hx : g y0 y1 = some x) : (s98 g).run [.agg ⟨[.int .i64 y0.Class, .int .i64 y0.Label, .int .i64 y0.Next, .int .i64 y0.Hop, .bool y0.Src.V6, .int .u64 y0.Src.Hi, .int .u64 y0.Src.Lo, .bool y0.Dst.V6, .int .u64 y0.Dst.Hi, .int .u64 y0.Dst.Lo]⟩, .string ⟨⟨y1⟩⟩] [] = some (rx98 x) := r98_c hx
abbrev sums98 (addr_Put : api_Addr → Option (List UInt8)) (ipsix_Head_may : ipsix_Head → Option Bool) (octet_Put : Int → Int → Option (List UInt8)) : List (Nat × Summ) := [(78, s78 addr_Put), (123, s123 ipsix_Head_may), (62, s62 octet_Put)]
theorem leads98 (addr_Put : api_Addr → Option (List UInt8)) (ipsix_Head_may : ipsix_Head → Option Bool) (octet_Put : Int → Int → Option (List UInt8)) (hS : SumsOK Try.prog (aget (sums98 addr_Put ipsix_Head_may octet_Put))) (ha0 : ipsix_Head) (payload : List UInt8) (res : (List UInt8) × Int) (h : ipsix_PutF addr_Put ipsix_Head_may octet_Put ha0 payload = some res) :
    Leads Try.prog 98 0 ⟨⟨98, 53, [(0, .agg ⟨[.int .i64 ha0.Class, .int .i64 ha0.Label, .int .i64 ha0.Next, .int .i64 ha0.Hop, .bool ha0.Src.V6, .int .u64 ha0.Src.Hi, .int .u64 ha0.Src.Lo, .bool ha0.Dst.V6, .int .u64 ha0.Dst.Hi, .int .u64 ha0.Dst.Lo]⟩), (1, .string ⟨⟨payload⟩⟩)], [.code k98_19], [], false, none⟩, [], [], 0⟩ (fun v H _ => Res 0 (rx98 res) v H) := by
  unfold ipsix_PutF at h
  refine ev_ok tab_ok hS true 3000 ?_
  conv => whnf
  replace h := obind.elim h; obtain ⟨m, hy, h⟩ := h
  refine sumK.q rfl rfl (r123_eq hy) rfl rfl rfl ?_
  conv => whnf
  refine br.h h ?_ ?_ ?_
  · rfl
  · clear h; intro hb h; conv => whnf
    all_goals (cases h; exact Res.z rfl rfl rfl)
  clear h; intro hb h; conv => whnf
  refine br.h h ?_ ?_ ?_
  · rfl
  · clear h; intro hb h; conv => whnf
    all_goals (cases h; exact Res.z rfl rfl rfl)
  clear h; intro hb h; conv => whnf
  let t : Int := iorI .u64 1610612736 (wI .u64 ((wI .u64 ha0.Class) * 2 ^ 20))
  replace h := obind.elim h; obtain ⟨p, hy, h⟩ := h
  refine sumK.q rfl rfl (r62_eq hy) rfl rfl rfl ?_
  conv => whnf
  let t1 : Int := wI .u64 ((wI .u64 (payload.length : Int)) * 2 ^ 16)
  let t2 : Int := iorI .u64 t1 (wI .u64 ((wI .u64 ha0.Next) * 2 ^ 8))
  replace h := obind.elim h; obtain ⟨p1, hy, h⟩ := h
  refine sumK.q rfl rfl (r62_eq hy) rfl rfl rfl ?_
  conv => whnf
  replace h := oreq.elim h; obtain ⟨hb, h⟩ := h
  first | (refine req.intro hb ?_; conv => whnf) | skip
  replace h := obind.elim h; obtain ⟨p2, hy, h⟩ := h
  refine sumK.q rfl rfl (r78_eq hy) rfl rfl rfl ?_
  conv => whnf
  replace h := oreq.elim h; obtain ⟨hb, h⟩ := h
  first | (refine req.intro hb ?_; conv => whnf) | skip
  replace h := obind.elim h; obtain ⟨p3, hy, h⟩ := h
  refine sumK.q rfl rfl (r78_eq hy) rfl rfl rfl ?_
  conv => whnf
  replace h := oreq.elim h; obtain ⟨hb, h⟩ := h
  first | (refine req.intro hb ?_; conv => whnf) | skip
  replace h := oreq.elim h; obtain ⟨hb, h⟩ := h
  first | (refine req.intro hb ?_; conv => whnf) | skip
  all_goals (cases h; exact Res.z rfl rfl rfl)
theorem ok98 (addr_Put : api_Addr → Option (List UInt8)) (ipsix_Head_may : ipsix_Head → Option Bool) (octet_Put : Int → Int → Option (List UInt8)) (hS : SumsOK Try.prog (aget (sums98 addr_Put ipsix_Head_may octet_Put))) : SumOK Try.prog 98 (s98 (ipsix_PutF addr_Put ipsix_Head_may octet_Put)) := by
  refine SumOK.of_leads tab_ok (fun ar os r ha hr => ?_) ⟨Try.f98, rfl, by decide, rfl⟩
  replace hr : r98 (ipsix_PutF addr_Put ipsix_Head_may octet_Put) ar (conts os) = some r := hr
  unfold r98 at hr
  generalize hc : conts os = C at hr
  replace hr := dV.elim hr; obtain ⟨v0, l1, y0, rfl, e0, hr⟩ := hr; obtain rfl := uvipsix_Head_eq _ _ e0
  replace hr := dV.elim hr; obtain ⟨v1, l2, y1, rfl, e1, hr⟩ := hr; obtain rfl := asS_eq _ _ e1
  replace hr := dFin hr; obtain ⟨rfl, rfl, x, h, rfl⟩ := hr
  obtain rfl := kinds_nil hc
  exact ⟨_, rfl, leads98 addr_Put ipsix_Head_may octet_Put hS _ _ x h⟩
def ipsix_Put : ipsix_Head → (List UInt8) → Option ((List UInt8) × Int) := ipsix_PutF addr_Put ipsix_Head_may octet_Put
theorem lift98 : SumOK Try.prog 98 (s98 ipsix_Put) := ok98 addr_Put ipsix_Head_may octet_Put (SumsOK.of_tab ⟨lift78, lift123, lift62, trivial⟩)
def R06_inF (n : Int) (most : Int) : Option Bool :=
  cond (decide (n ≥ 0))
    (
    some (decide (n ≤ most)))
    (
    some (false))
def rx132 (x : Bool) : SRes := ⟨.bool x, [], []⟩
def r132 (g : Int → Int → Option Bool) : Dec := dV (asI .i64) fun (y0 : Int) => dV (asI .i64) fun (y1 : Int) => dEnd (ofG (g y0 y1) rx132)
theorem r132_c {g : Int → Int → Option Bool} {y0 : Int} {y1 : Int} {x : Bool} (hx : g y0 y1 = some x) : r132 g [.int .i64 y0, .int .i64 y1] [] = some (rx132 x) := (dV_eq (asI_c _)).trans ((dV_eq (asI_c _)).trans (ofG_eq hx))
def s132 (g : Int → Int → Option Bool) : Summ := ⟨[.v, .v], r132 g⟩
theorem r132_eq {g : Int → Int → Option Bool} {y0 : Int} {y1 : Int} {x : Bool} (hx : g y0 y1 = some x) : (s132 g).run [.int .i64 y0, .int .i64 y1] [] = some (rx132 x) := r132_c hx
abbrev sums132 : List (Nat × Summ) := []
theorem leads132 (hS : SumsOK Try.prog (aget (sums132))) (n : Int) (most : Int) (res : Bool) (h : R06_inF n most = some res) :
    Leads Try.prog 132 0 ⟨⟨132, 12, [(0, .int .i64 n), (1, .int .i64 most)], [.code k132_3], [], false, none⟩, [], [], 0⟩ (fun v H _ => Res 0 (rx132 res) v H) := by
  unfold R06_inF at h
  refine ev_ok tab_ok hS true 3000 ?_
  conv => whnf
  refine br.h h ?_ ?_ ?_
  · rfl
  · clear h; intro hb h; conv => whnf
    all_goals (cases h; exact Res.z rfl rfl rfl)
  clear h; intro hb h; conv => whnf
  all_goals (cases h; exact Res.z rfl rfl rfl)
theorem ok132 (hS : SumsOK Try.prog (aget (sums132))) : SumOK Try.prog 132 (s132 (R06_inF)) := by
  refine SumOK.of_leads tab_ok (fun ar os r ha hr => ?_) ⟨Try.f132, rfl, by decide, rfl⟩
  replace hr : r132 (R06_inF) ar (conts os) = some r := hr
  unfold r132 at hr
  generalize hc : conts os = C at hr
  replace hr := dV.elim hr; obtain ⟨v0, l1, y0, rfl, e0, hr⟩ := hr; obtain rfl := asI_eq _ _ _ e0
  replace hr := dV.elim hr; obtain ⟨v1, l2, y1, rfl, e1, hr⟩ := hr; obtain rfl := asI_eq _ _ _ e1
  replace hr := dFin hr; obtain ⟨rfl, rfl, x, h, rfl⟩ := hr
  obtain rfl := kinds_nil hc
  exact ⟨_, rfl, leads132 hS _ _ x h⟩
def R06_in : Int → Int → Option Bool := R06_inF
theorem lift132 : SumOK Try.prog 132 (s132 R06_in) := ok132 (SumsOK.of_tab trivial)
def R06_RightF (R06_in : Int → Int → Option Bool) (ha0 : ipsix_Head) : Option Bool :=
  (R06_in ha0.Class 255).bind fun i =>
  cond (i)
    (
    (R06_in ha0.Label 1048575).bind fun i1 =>
    cond (i1)
      (
      (R06_in ha0.Next 255).bind fun i2 =>
      cond (i2)
        (
        (R06_in ha0.Hop 255).bind fun i3 =>
        cond (i3)
          (
          cond (ha0.Src.V6)
            (
            some (ha0.Dst.V6))
            (
            some (false)))
          (
          some (false)))
        (
        some (false)))
      (
      some (false)))
    (
    some (false))
def rx124 (x : Bool) : SRes := ⟨.bool x, [], []⟩
def r124 (g : ipsix_Head → Option Bool) : Dec := dV uvipsix_Head fun (y0 : ipsix_Head) => dEnd (ofG (g y0) rx124)
theorem r124_c {g : ipsix_Head → Option Bool} {y0 : ipsix_Head} {x : Bool} (hx : g y0 = some x) : r124 g [.agg ⟨[.int .i64 y0.Class, .int .i64 y0.Label, .int .i64 y0.Next, .int .i64 y0.Hop, .bool y0.Src.V6, .int .u64 y0.Src.Hi, .int .u64 y0.Src.Lo, .bool y0.Dst.V6, .int .u64 y0.Dst.Hi, .int .u64 y0.Dst.Lo]⟩] [] = some (rx124 x) := (dV_eq (uvipsix_Head_c _)).trans (ofG_eq hx)
def s124 (g : ipsix_Head → Option Bool) : Summ := ⟨[.v], r124 g⟩
theorem r124_eq {g : ipsix_Head → Option Bool} {y0 : ipsix_Head} {x : Bool} (hx : g y0 = some x) : (s124 g).run [.agg ⟨[.int .i64 y0.Class, .int .i64 y0.Label, .int .i64 y0.Next, .int .i64 y0.Hop, .bool y0.Src.V6, .int .u64 y0.Src.Hi, .int .u64 y0.Src.Lo, .bool y0.Dst.V6, .int .u64 y0.Dst.Hi, .int .u64 y0.Dst.Lo]⟩] [] = some (rx124 x) := r124_c hx
abbrev sums124 (R06_in : Int → Int → Option Bool) : List (Nat × Summ) := [(132, s132 R06_in)]
theorem leads124 (R06_in : Int → Int → Option Bool) (hS : SumsOK Try.prog (aget (sums124 R06_in))) (ha0 : ipsix_Head) (res : Bool) (h : R06_RightF R06_in ha0 = some res) :
    Leads Try.prog 124 0 ⟨⟨124, 31, [(0, .agg ⟨[.int .i64 ha0.Class, .int .i64 ha0.Label, .int .i64 ha0.Next, .int .i64 ha0.Hop, .bool ha0.Src.V6, .int .u64 ha0.Src.Hi, .int .u64 ha0.Src.Lo, .bool ha0.Dst.V6, .int .u64 ha0.Dst.Hi, .int .u64 ha0.Dst.Lo]⟩)], [.code k124_3], [], false, none⟩, [], [], 0⟩ (fun v H _ => Res 0 (rx124 res) v H) := by
  unfold R06_RightF at h
  refine ev_ok tab_ok hS true 3000 ?_
  conv => whnf
  replace h := obind.elim h; obtain ⟨i, hy, h⟩ := h
  refine sumK.q rfl rfl (r132_eq hy) rfl rfl rfl ?_
  conv => whnf
  refine br.h2 h ?_ ?_ ?_
  · rfl
  · clear h; intro hb h; conv => whnf
    all_goals (cases h; exact Res.z rfl rfl rfl)
  clear h; intro hb h; conv => whnf
  replace h := obind.elim h; obtain ⟨i1, hy, h⟩ := h
  refine sumK.q rfl rfl (r132_eq hy) rfl rfl rfl ?_
  conv => whnf
  refine br.h2 h ?_ ?_ ?_
  · rfl
  · clear h; intro hb h; conv => whnf
    all_goals (cases h; exact Res.z rfl rfl rfl)
  clear h; intro hb h; conv => whnf
  replace h := obind.elim h; obtain ⟨i2, hy, h⟩ := h
  refine sumK.q rfl rfl (r132_eq hy) rfl rfl rfl ?_
  conv => whnf
  refine br.h2 h ?_ ?_ ?_
  · rfl
  · clear h; intro hb h; conv => whnf
    all_goals (cases h; exact Res.z rfl rfl rfl)
  clear h; intro hb h; conv => whnf
  replace h := obind.elim h; obtain ⟨i3, hy, h⟩ := h
  refine sumK.q rfl rfl (r132_eq hy) rfl rfl rfl ?_
  conv => whnf
  refine br.h2 h ?_ ?_ ?_
  · rfl
  · clear h; intro hb h; conv => whnf
    all_goals (cases h; exact Res.z rfl rfl rfl)
  clear h; intro hb h; conv => whnf
  refine br.h h ?_ ?_ ?_
  · rfl
  · clear h; intro hb h; conv => whnf
    all_goals (cases h; exact Res.z rfl rfl rfl)
  clear h; intro hb h; conv => whnf
  all_goals (cases h; exact Res.z rfl rfl rfl)
theorem ok124 (R06_in : Int → Int → Option Bool) (hS : SumsOK Try.prog (aget (sums124 R06_in))) : SumOK Try.prog 124 (s124 (R06_RightF R06_in)) := by
  refine SumOK.of_leads tab_ok (fun ar os r ha hr => ?_) ⟨Try.f124, rfl, by decide, rfl⟩
  replace hr : r124 (R06_RightF R06_in) ar (conts os) = some r := hr
  unfold r124 at hr
  generalize hc : conts os = C at hr
  replace hr := dV.elim hr; obtain ⟨v0, l1, y0, rfl, e0, hr⟩ := hr; obtain rfl := uvipsix_Head_eq _ _ e0
  replace hr := dFin hr; obtain ⟨rfl, rfl, x, h, rfl⟩ := hr
  obtain rfl := kinds_nil hc
  exact ⟨_, rfl, leads124 R06_in hS _ x h⟩
def R06_Right : ipsix_Head → Option Bool := R06_RightF R06_in
theorem lift124 : SumOK Try.prog 124 (s124 R06_Right) := ok124 R06_in (SumsOK.of_tab ⟨lift132, trivial⟩)
def R06_numF (R02_Put : Int → Int → Option (List UInt8)) (n : Int) (k : Int) : Option (List UInt8) :=
  (R02_Put (wI .u64 n) k).bind fun p =>
  some (p)
def rx125 (x : List UInt8) : SRes := ⟨.string ⟨⟨x⟩⟩, [], []⟩
def r125 (g : Int → Int → Option (List UInt8)) : Dec := dV (asI .i64) fun (y0 : Int) => dV (asI .i64) fun (y1 : Int) => dEnd (ofG (g y0 y1) rx125)
theorem r125_c {g : Int → Int → Option (List UInt8)} {y0 : Int} {y1 : Int} {x : List UInt8} (hx : g y0 y1 = some x) : r125 g [.int .i64 y0, .int .i64 y1] [] = some (rx125 x) := (dV_eq (asI_c _)).trans ((dV_eq (asI_c _)).trans (ofG_eq hx))
def s125 (g : Int → Int → Option (List UInt8)) : Summ := ⟨[.v, .v], r125 g⟩
theorem r125_eq {g : Int → Int → Option (List UInt8)} {y0 : Int} {y1 : Int} {x : List UInt8} (hx : g y0 y1 = some x) : (s125 g).run [.int .i64 y0, .int .i64 y1] [] = some (rx125 x) := r125_c hx
abbrev sums125 (R02_Put : Int → Int → Option (List UInt8)) : List (Nat × Summ) := [(67, s67 R02_Put)]
theorem leads125 (R02_Put : Int → Int → Option (List UInt8)) (hS : SumsOK Try.prog (aget (sums125 R02_Put))) (n : Int) (k : Int) (res : List UInt8) (h : R06_numF R02_Put n k = some res) :
    Leads Try.prog 125 0 ⟨⟨125, 9, [(0, .int .i64 n), (1, .int .i64 k)], [.code k125_3], [], false, none⟩, [], [], 0⟩ (fun v H _ => Res 0 (rx125 res) v H) := by
  unfold R06_numF at h
  refine ev_ok tab_ok hS true 3000 ?_
  conv => whnf
  replace h := obind.elim h; obtain ⟨p, hy, h⟩ := h
  refine sumK.q rfl rfl (r67_eq hy) rfl rfl rfl ?_
  conv => whnf
  all_goals (cases h; exact Res.z rfl rfl rfl)
theorem ok125 (R02_Put : Int → Int → Option (List UInt8)) (hS : SumsOK Try.prog (aget (sums125 R02_Put))) : SumOK Try.prog 125 (s125 (R06_numF R02_Put)) := by
  refine SumOK.of_leads tab_ok (fun ar os r ha hr => ?_) ⟨Try.f125, rfl, by decide, rfl⟩
  replace hr : r125 (R06_numF R02_Put) ar (conts os) = some r := hr
  unfold r125 at hr
  generalize hc : conts os = C at hr
  replace hr := dV.elim hr; obtain ⟨v0, l1, y0, rfl, e0, hr⟩ := hr; obtain rfl := asI_eq _ _ _ e0
  replace hr := dV.elim hr; obtain ⟨v1, l2, y1, rfl, e1, hr⟩ := hr; obtain rfl := asI_eq _ _ _ e1
  replace hr := dFin hr; obtain ⟨rfl, rfl, x, h, rfl⟩ := hr
  obtain rfl := kinds_nil hc
  exact ⟨_, rfl, leads125 R02_Put hS _ _ x h⟩
def R06_num : Int → Int → Option (List UInt8) := R06_numF R02_Put
theorem lift125 : SumOK Try.prog 125 (s125 R06_num) := ok125 R02_Put (SumsOK.of_tab ⟨lift67, trivial⟩)
def R06_PutF (R04_Put : api_Addr → Option (List UInt8)) (R06_Right : ipsix_Head → Option Bool) (R06_num : Int → Int → Option (List UInt8)) (ha0 : ipsix_Head) (payload : List UInt8) : Option ((List UInt8) × Int) :=
  (R06_Right ha0).bind fun xr =>
  cond (!xr)
    (
    some (([], 1)))
    (
    cond (decide ((payload.length : Int) > 65535))
      (
      some (([], 5)))
      (
      let t := wI .i64 (1610612736 + (wI .i64 (ha0.Class * 1048576)))
      (R06_num (wI .i64 (t + ha0.Label)) 4).bind fun n =>
      (R06_num (payload.length : Int) 2).bind fun n1 =>
      oreq (decide (n.length + n1.length < 2 ^ 63)) <|
      (R06_num ha0.Next 1).bind fun n2 =>
      oreq (decide ((n ++ n1).length + n2.length < 2 ^ 63)) <|
      (R06_num ha0.Hop 1).bind fun n3 =>
      oreq (decide (((n ++ n1) ++ n2).length + n3.length < 2 ^ 63)) <|
      (R04_Put ha0.Src).bind fun p =>
      oreq (decide ((((n ++ n1) ++ n2) ++ n3).length + p.length < 2 ^ 63)) <|
      (R04_Put ha0.Dst).bind fun p1 =>
      oreq (decide (((((n ++ n1) ++ n2) ++ n3) ++ p).length + p1.length < 2 ^ 63)) <|
      oreq (decide ((((((n ++ n1) ++ n2) ++ n3) ++ p) ++ p1).length + payload.length < 2 ^ 63)) <|
      let t1 := (((((n ++ n1) ++ n2) ++ n3) ++ p) ++ p1) ++ payload
      some ((t1, 0))))
def rx99 (x : (List UInt8) × Int) : SRes := ⟨.tuple ⟨[.string ⟨⟨x.1⟩⟩, .int .i64 x.2]⟩, [], []⟩
def r99 (g : ipsix_Head → (List UInt8) → Option ((List UInt8) × Int)) : Dec := dV uvipsix_Head fun (y0 : ipsix_Head) => dV asS fun (y1 : List UInt8) => dEnd (ofG (g y0 y1) rx99)
theorem r99_c {g : ipsix_Head → (List UInt8) → Option ((List UInt8) × Int)} {y0 : ipsix_Head} {y1 : List UInt8} {x : (List UInt8) × Int} (hx : g y0 y1 = some x) : r99 g [.agg ⟨[.int .i64 y0.Class, .int .i64 y0.Label, .int .i64 y0.Next, .int .i64 y0.Hop, .bool y0.Src.V6, .int .u64 y0.Src.Hi, .int .u64 y0.Src.Lo, .bool y0.Dst.V6, .int .u64 y0.Dst.Hi, .int .u64 y0.Dst.Lo]⟩, .string ⟨⟨y1⟩⟩] [] = some (rx99 x) := (dV_eq (uvipsix_Head_c _)).trans ((dV_eq (asS_c)).trans (ofG_eq hx))
def s99 (g : ipsix_Head → (List UInt8) → Option ((List UInt8) × Int)) : Summ := ⟨[.v, .v], r99 g⟩
theorem r99_eq {g : ipsix_Head → (List UInt8) → Option ((List UInt8) × Int)} {y0 : ipsix_Head} {y1 : List UInt8} {x : (List UInt8) × Int} (hx : g y0 y1 = some x) : (s99 g).run [.agg ⟨[.int .i64 y0.Class, .int .i64 y0.Label, .int .i64 y0.Next, .int .i64 y0.Hop, .bool y0.Src.V6, .int .u64 y0.Src.Hi, .int .u64 y0.Src.Lo, .bool y0.Dst.V6, .int .u64 y0.Dst.Hi, .int .u64 y0.Dst.Lo]⟩, .string ⟨⟨y1⟩⟩] [] = some (rx99 x) := r99_c hx
abbrev sums99 (R04_Put : api_Addr → Option (List UInt8)) (R06_Right : ipsix_Head → Option Bool) (R06_num : Int → Int → Option (List UInt8)) : List (Nat × Summ) := [(81, s81 R04_Put), (124, s124 R06_Right), (125, s125 R06_num)]
theorem leads99 (R04_Put : api_Addr → Option (List UInt8)) (R06_Right : ipsix_Head → Option Bool) (R06_num : Int → Int → Option (List UInt8)) (hS : SumsOK Try.prog (aget (sums99 R04_Put R06_Right R06_num))) (ha0 : ipsix_Head) (payload : List UInt8) (res : (List UInt8) × Int) (h : R06_PutF R04_Put R06_Right R06_num ha0 payload = some res) :
    Leads Try.prog 99 0 ⟨⟨99, 42, [(0, .agg ⟨[.int .i64 ha0.Class, .int .i64 ha0.Label, .int .i64 ha0.Next, .int .i64 ha0.Hop, .bool ha0.Src.V6, .int .u64 ha0.Src.Hi, .int .u64 ha0.Src.Lo, .bool ha0.Dst.V6, .int .u64 ha0.Dst.Hi, .int .u64 ha0.Dst.Lo]⟩), (1, .string ⟨⟨payload⟩⟩)], [.code k99_15], [], false, none⟩, [], [], 0⟩ (fun v H _ => Res 0 (rx99 res) v H) := by
  unfold R06_PutF at h
  refine ev_ok tab_ok hS true 3000 ?_
  conv => whnf
  replace h := obind.elim h; obtain ⟨xr, hy, h⟩ := h
  refine sumK.q rfl rfl (r124_eq hy) rfl rfl rfl ?_
  conv => whnf
  refine br.h h ?_ ?_ ?_
  · rfl
  · clear h; intro hb h; conv => whnf
    all_goals (cases h; exact Res.z rfl rfl rfl)
  clear h; intro hb h; conv => whnf
  refine br.h h ?_ ?_ ?_
  · rfl
  · clear h; intro hb h; conv => whnf
    all_goals (cases h; exact Res.z rfl rfl rfl)
  clear h; intro hb h; conv => whnf
  let t : Int := wI .i64 (1610612736 + (wI .i64 (ha0.Class * 1048576)))
  replace h := obind.elim h; obtain ⟨n, hy, h⟩ := h
  refine sumK.q rfl rfl (r125_eq hy) rfl rfl rfl ?_
  conv => whnf
  replace h := obind.elim h; obtain ⟨n1, hy, h⟩ := h
  refine sumK.q rfl rfl (r125_eq hy) rfl rfl rfl ?_
  conv => whnf
  replace h := oreq.elim h; obtain ⟨hb, h⟩ := h
  first | (refine req.intro hb ?_; conv => whnf) | skip
  replace h := obind.elim h; obtain ⟨n2, hy, h⟩ := h
  refine sumK.q rfl rfl (r125_eq hy) rfl rfl rfl ?_
  conv => whnf
  replace h := oreq.elim h; obtain ⟨hb, h⟩ := h
  first | (refine req.intro hb ?_; conv => whnf) | skip
  replace h := obind.elim h; obtain ⟨n3, hy, h⟩ := h
  refine sumK.q rfl rfl (r125_eq hy) rfl rfl rfl ?_
  conv => whnf
  replace h := oreq.elim h; obtain ⟨hb, h⟩ := h
  first | (refine req.intro hb ?_; conv => whnf) | skip
  replace h := obind.elim h; obtain ⟨p, hy, h⟩ := h
  refine sumK.q rfl rfl (r81_eq hy) rfl rfl rfl ?_
  conv => whnf
  replace h := oreq.elim h; obtain ⟨hb, h⟩ := h
  first | (refine req.intro hb ?_; conv => whnf) | skip
  replace h := obind.elim h; obtain ⟨p1, hy, h⟩ := h
  refine sumK.q rfl rfl (r81_eq hy) rfl rfl rfl ?_
  conv => whnf
  replace h := oreq.elim h; obtain ⟨hb, h⟩ := h
  first | (refine req.intro hb ?_; conv => whnf) | skip
  replace h := oreq.elim h; obtain ⟨hb, h⟩ := h
  first | (refine req.intro hb ?_; conv => whnf) | skip
  let t1 : List UInt8 := (((((n ++ n1) ++ n2) ++ n3) ++ p) ++ p1) ++ payload
  all_goals (cases h; exact Res.z rfl rfl rfl)
theorem ok99 (R04_Put : api_Addr → Option (List UInt8)) (R06_Right : ipsix_Head → Option Bool) (R06_num : Int → Int → Option (List UInt8)) (hS : SumsOK Try.prog (aget (sums99 R04_Put R06_Right R06_num))) : SumOK Try.prog 99 (s99 (R06_PutF R04_Put R06_Right R06_num)) := by
  refine SumOK.of_leads tab_ok (fun ar os r ha hr => ?_) ⟨Try.f99, rfl, by decide, rfl⟩
  replace hr : r99 (R06_PutF R04_Put R06_Right R06_num) ar (conts os) = some r := hr
  unfold r99 at hr
  generalize hc : conts os = C at hr
  replace hr := dV.elim hr; obtain ⟨v0, l1, y0, rfl, e0, hr⟩ := hr; obtain rfl := uvipsix_Head_eq _ _ e0
  replace hr := dV.elim hr; obtain ⟨v1, l2, y1, rfl, e1, hr⟩ := hr; obtain rfl := asS_eq _ _ e1
  replace hr := dFin hr; obtain ⟨rfl, rfl, x, h, rfl⟩ := hr
  obtain rfl := kinds_nil hc
  exact ⟨_, rfl, leads99 R04_Put R06_Right R06_num hS _ _ x h⟩
def R06_Put : ipsix_Head → (List UInt8) → Option ((List UInt8) × Int) := R06_PutF R04_Put R06_Right R06_num
theorem lift99 : SumOK Try.prog 99 (s99 R06_Put) := ok99 R04_Put R06_Right R06_num (SumsOK.of_tab ⟨lift81, lift124, lift125, trivial⟩)
def law53_awakeF (icmp_Get : (List UInt8) → api_Addr → api_Addr → Option (icmp_Message × Int)) (icmp_Put : icmp_Message → api_Addr → api_Addr → Option ((List UInt8) × Int)) : Option Bool :=
  (icmp_Get [] (api_Addr.mk false 0 0) (api_Addr.mk false 0 0)).bind fun xg =>
  (icmp_Put (icmp_Message.mk 2 4 1400 []) (api_Addr.mk false 0 1) (api_Addr.mk false 0 2)).bind fun p =>
  (icmp_Get p.1 (api_Addr.mk false 0 1) (api_Addr.mk false 0 2)).bind fun xg1 =>
  cond (xg.2 == 2)
    (
    cond (p.2 == 0)
      (
      cond ((p.1.length : Int) == 8)
        (
        cond (xg1.2 == 0)
          (
          cond (xg1.1.MTU == 1400)
            (
            cond (xg1.1.Kind == 2)
              (
              some (true))
              (
              some (false)))
            (
            some (false)))
          (
          some (false)))
        (
        some (false)))
      (
      some (false)))
    (
    some (false))
def rx30 (x : Bool) : SRes := ⟨.bool x, [], []⟩
def r30 (g : Option Bool) : Dec := dEnd (ofG (g) rx30)
theorem r30_c {g : Option Bool} {x : Bool} (hx : g = some x) : r30 g [] [] = some (rx30 x) := ofG_eq hx
def s30 (g : Option Bool) : Summ := ⟨[], r30 g⟩
theorem r30_eq {g : Option Bool} {x : Bool} (hx : g = some x) : (s30 g).run [] [] = some (rx30 x) := r30_c hx
abbrev sums30 (icmp_Get : (List UInt8) → api_Addr → api_Addr → Option (icmp_Message × Int)) (icmp_Put : icmp_Message → api_Addr → api_Addr → Option ((List UInt8) × Int)) : List (Nat × Summ) := [(34, s34 icmp_Get), (31, s31 icmp_Put)]
theorem leads30 (icmp_Get : (List UInt8) → api_Addr → api_Addr → Option (icmp_Message × Int)) (icmp_Put : icmp_Message → api_Addr → api_Addr → Option ((List UInt8) × Int)) (hS : SumsOK Try.prog (aget (sums30 icmp_Get icmp_Put))) (res : Bool) (h : law53_awakeF icmp_Get icmp_Put = some res) :
    Leads Try.prog 30 0 ⟨⟨30, 54, [], [.code k30_9], [], false, none⟩, [], [], 0⟩ (fun v H _ => Res 0 (rx30 res) v H) := by
  unfold law53_awakeF at h
  refine ev_ok tab_ok hS true 3000 ?_
  conv => whnf
  replace h := obind.elim h; obtain ⟨xg, hy, h⟩ := h
  refine sumK.q rfl rfl (r34_eq hy) rfl rfl rfl ?_
  conv => whnf
  replace h := obind.elim h; obtain ⟨p, hy, h⟩ := h
  refine sumK.q rfl rfl (r31_eq hy) rfl rfl rfl ?_
  conv => whnf
  replace h := obind.elim h; obtain ⟨xg1, hy, h⟩ := h
  refine sumK.q rfl rfl (r34_eq hy) rfl rfl rfl ?_
  conv => whnf
  refine br.h2 h ?_ ?_ ?_
  · rfl
  · clear h; intro hb h; conv => whnf
    all_goals (cases h; exact Res.z rfl rfl rfl)
  clear h; intro hb h; conv => whnf
  refine br.h2 h ?_ ?_ ?_
  · rfl
  · clear h; intro hb h; conv => whnf
    all_goals (cases h; exact Res.z rfl rfl rfl)
  clear h; intro hb h; conv => whnf
  refine br.h2 h ?_ ?_ ?_
  · rfl
  · clear h; intro hb h; conv => whnf
    all_goals (cases h; exact Res.z rfl rfl rfl)
  clear h; intro hb h; conv => whnf
  refine br.h2 h ?_ ?_ ?_
  · rfl
  · clear h; intro hb h; conv => whnf
    all_goals (cases h; exact Res.z rfl rfl rfl)
  clear h; intro hb h; conv => whnf
  refine br.h2 h ?_ ?_ ?_
  · rfl
  · clear h; intro hb h; conv => whnf
    all_goals (cases h; exact Res.z rfl rfl rfl)
  clear h; intro hb h; conv => whnf
  refine br.h h ?_ ?_ ?_
  · rfl
  · clear h; intro hb h; conv => whnf
    all_goals (cases h; exact Res.z rfl rfl rfl)
  clear h; intro hb h; conv => whnf
  all_goals (cases h; exact Res.z rfl rfl rfl)
theorem ok30 (icmp_Get : (List UInt8) → api_Addr → api_Addr → Option (icmp_Message × Int)) (icmp_Put : icmp_Message → api_Addr → api_Addr → Option ((List UInt8) × Int)) (hS : SumsOK Try.prog (aget (sums30 icmp_Get icmp_Put))) : SumOK Try.prog 30 (s30 (law53_awakeF icmp_Get icmp_Put)) := by
  refine SumOK.of_leads tab_ok (fun ar os r ha hr => ?_) ⟨Try.f30, rfl, by decide, rfl⟩
  replace hr : r30 (law53_awakeF icmp_Get icmp_Put) ar (conts os) = some r := hr
  unfold r30 at hr
  generalize hc : conts os = C at hr
  replace hr := dFin hr; obtain ⟨rfl, rfl, x, h, rfl⟩ := hr
  obtain rfl := kinds_nil hc
  exact ⟨_, rfl, leads30 icmp_Get icmp_Put hS x h⟩
def law53_awake : Option Bool := law53_awakeF icmp_Get icmp_Put
theorem lift30 : SumOK Try.prog 30 (s30 law53_awake) := ok30 icmp_Get icmp_Put (SumsOK.of_tab ⟨lift34, lift31, trivial⟩)
def law53_ofF (m : icmp_Message) : Option icmp_Message :=
  some (m)
def rx32 (x : icmp_Message) : SRes := ⟨.agg ⟨[.int .i64 x.Kind, .int .i64 x.Code, .int .i64 x.MTU, .string ⟨⟨x.Quote⟩⟩]⟩, [], []⟩
def r32 (g : icmp_Message → Option icmp_Message) : Dec := dV uvicmp_Message fun (y0 : icmp_Message) => dEnd (ofG (g y0) rx32)
theorem r32_c {g : icmp_Message → Option icmp_Message} {y0 : icmp_Message} {x : icmp_Message} (hx : g y0 = some x) : r32 g [.agg ⟨[.int .i64 y0.Kind, .int .i64 y0.Code, .int .i64 y0.MTU, .string ⟨⟨y0.Quote⟩⟩]⟩] [] = some (rx32 x) := (dV_eq (uvicmp_Message_c _)).trans (ofG_eq hx)
def s32 (g : icmp_Message → Option icmp_Message) : Summ := ⟨[.v], r32 g⟩
theorem r32_eq {g : icmp_Message → Option icmp_Message} {y0 : icmp_Message} {x : icmp_Message} (hx : g y0 = some x) : (s32 g).run [.agg ⟨[.int .i64 y0.Kind, .int .i64 y0.Code, .int .i64 y0.MTU, .string ⟨⟨y0.Quote⟩⟩]⟩] [] = some (rx32 x) := r32_c hx
abbrev sums32 : List (Nat × Summ) := []
theorem leads32 (hS : SumsOK Try.prog (aget (sums32))) (m : icmp_Message) (res : icmp_Message) (h : law53_ofF m = some res) :
    Leads Try.prog 32 0 ⟨⟨32, 12, [(0, .agg ⟨[.int .i64 m.Kind, .int .i64 m.Code, .int .i64 m.MTU, .string ⟨⟨m.Quote⟩⟩]⟩)], [.code k32_3], [], false, none⟩, [], [], 0⟩ (fun v H _ => Res 0 (rx32 res) v H) := by
  unfold law53_ofF at h
  refine ev_ok tab_ok hS true 3000 ?_
  conv => whnf
  all_goals (cases h; exact Res.z rfl rfl rfl)
theorem ok32 (hS : SumsOK Try.prog (aget (sums32))) : SumOK Try.prog 32 (s32 (law53_ofF)) := by
  refine SumOK.of_leads tab_ok (fun ar os r ha hr => ?_) ⟨Try.f32, rfl, by decide, rfl⟩
  replace hr : r32 (law53_ofF) ar (conts os) = some r := hr
  unfold r32 at hr
  generalize hc : conts os = C at hr
  replace hr := dV.elim hr; obtain ⟨v0, l1, y0, rfl, e0, hr⟩ := hr; obtain rfl := uvicmp_Message_eq _ _ e0
  replace hr := dFin hr; obtain ⟨rfl, rfl, x, h, rfl⟩ := hr
  obtain rfl := kinds_nil hc
  exact ⟨_, rfl, leads32 hS _ x h⟩
def law53_of : icmp_Message → Option icmp_Message := law53_ofF
theorem lift32 : SumOK Try.prog 32 (s32 law53_of) := ok32 (SumsOK.of_tab trivial)
def icmp_PacketF (icmp_Put : icmp_Message → api_Addr → api_Addr → Option ((List UInt8) × Int)) (ipfour_Put : ipfour_Head → (List UInt8) → Option ((List UInt8) × Int)) (ipsix_Put : ipsix_Head → (List UInt8) → Option ((List UInt8) × Int)) (m : icmp_Message) (src : api_Addr) (dst : api_Addr) : Option ((List UInt8) × Int) :=
  (icmp_Put m src dst).bind fun p =>
  cond (p.2 != 0)
    (
    some (([], p.2)))
    (
    cond (src.V6)
      (
      (ipsix_Put (ipsix_Head.mk 0 0 58 64 src dst) p.1).bind fun p1 =>
      some ((p1.1, p1.2)))
      (
      (ipfour_Put (ipfour_Head.mk 0 0 true 64 1 src dst []) p.1).bind fun p2 =>
      some ((p2.1, p2.2))))
def rx36 (x : (List UInt8) × Int) : SRes := ⟨.tuple ⟨[.string ⟨⟨x.1⟩⟩, .int .i64 x.2]⟩, [], []⟩
def r36 (g : icmp_Message → api_Addr → api_Addr → Option ((List UInt8) × Int)) : Dec := dV uvicmp_Message fun (y0 : icmp_Message) => dV uvapi_Addr fun (y1 : api_Addr) => dV uvapi_Addr fun (y2 : api_Addr) => dEnd (ofG (g y0 y1 y2) rx36)
theorem r36_c {g : icmp_Message → api_Addr → api_Addr → Option ((List UInt8) × Int)} {y0 : icmp_Message} {y1 : api_Addr} {y2 : api_Addr} {x : (List UInt8) × Int} (hx : g y0 y1 y2 = some x) : r36 g [.agg ⟨[.int .i64 y0.Kind, .int .i64 y0.Code, .int .i64 y0.MTU, .string ⟨⟨y0.Quote⟩⟩]⟩, .agg ⟨[.bool y1.V6, .int .u64 y1.Hi, .int .u64 y1.Lo]⟩, .agg ⟨[.bool y2.V6, .int .u64 y2.Hi, .int .u64 y2.Lo]⟩] [] = some (rx36 x) := (dV_eq (uvicmp_Message_c _)).trans ((dV_eq (uvapi_Addr_c _)).trans ((dV_eq (uvapi_Addr_c _)).trans (ofG_eq hx)))
def s36 (g : icmp_Message → api_Addr → api_Addr → Option ((List UInt8) × Int)) : Summ := ⟨[.v, .v, .v], r36 g⟩
theorem r36_eq {g : icmp_Message → api_Addr → api_Addr → Option ((List UInt8) × Int)} {y0 : icmp_Message} {y1 : api_Addr} {y2 : api_Addr} {x : (List UInt8) × Int} (hx : g y0 y1 y2 = some x) : (s36 g).run [.agg ⟨[.int .i64 y0.Kind, .int .i64 y0.Code, .int .i64 y0.MTU, .string ⟨⟨y0.Quote⟩⟩]⟩, .agg ⟨[.bool y1.V6, .int .u64 y1.Hi, .int .u64 y1.Lo]⟩, .agg ⟨[.bool y2.V6, .int .u64 y2.Hi, .int .u64 y2.Lo]⟩] [] = some (rx36 x) := r36_c hx
abbrev sums36 (icmp_Put : icmp_Message → api_Addr → api_Addr → Option ((List UInt8) × Int)) (ipfour_Put : ipfour_Head → (List UInt8) → Option ((List UInt8) × Int)) (ipsix_Put : ipsix_Head → (List UInt8) → Option ((List UInt8) × Int)) : List (Nat × Summ) := [(31, s31 icmp_Put), (21, s21 ipfour_Put), (98, s98 ipsix_Put)]
theorem leads36 (icmp_Put : icmp_Message → api_Addr → api_Addr → Option ((List UInt8) × Int)) (ipfour_Put : ipfour_Head → (List UInt8) → Option ((List UInt8) × Int)) (ipsix_Put : ipsix_Head → (List UInt8) → Option ((List UInt8) × Int)) (hS : SumsOK Try.prog (aget (sums36 icmp_Put ipfour_Put ipsix_Put))) (m : icmp_Message) (src : api_Addr) (dst : api_Addr) (res : (List UInt8) × Int) (h : icmp_PacketF icmp_Put ipfour_Put ipsix_Put m src dst = some res) :
    Leads Try.prog 36 0 ⟨⟨36, 38, [(0, .agg ⟨[.int .i64 m.Kind, .int .i64 m.Code, .int .i64 m.MTU, .string ⟨⟨m.Quote⟩⟩]⟩), (1, .agg ⟨[.bool src.V6, .int .u64 src.Hi, .int .u64 src.Lo]⟩), (2, .agg ⟨[.bool dst.V6, .int .u64 dst.Hi, .int .u64 dst.Lo]⟩)], [.code k36_17], [], false, none⟩, [], [], 0⟩ (fun v H _ => Res 0 (rx36 res) v H) := by
  unfold icmp_PacketF at h
  refine ev_ok tab_ok hS true 3000 ?_
  conv => whnf
  replace h := obind.elim h; obtain ⟨p, hy, h⟩ := h
  refine sumK.q rfl rfl (r31_eq hy) rfl rfl rfl ?_
  conv => whnf
  refine br.h h ?_ ?_ ?_
  · rfl
  · clear h; intro hb h; conv => whnf
    all_goals (cases h; exact Res.z rfl rfl rfl)
  clear h; intro hb h; conv => whnf
  refine br.h h ?_ ?_ ?_
  · rfl
  · clear h; intro hb h; conv => whnf
    replace h := obind.elim h; obtain ⟨p1, hy, h⟩ := h
    refine sumK.q rfl rfl (r98_eq hy) rfl rfl rfl ?_
    conv => whnf
    all_goals (cases h; exact Res.z rfl rfl rfl)
  clear h; intro hb h; conv => whnf
  replace h := obind.elim h; obtain ⟨p2, hy, h⟩ := h
  refine sumK.q rfl rfl (r21_eq hy) rfl rfl rfl ?_
  conv => whnf
  all_goals (cases h; exact Res.z rfl rfl rfl)
theorem ok36 (icmp_Put : icmp_Message → api_Addr → api_Addr → Option ((List UInt8) × Int)) (ipfour_Put : ipfour_Head → (List UInt8) → Option ((List UInt8) × Int)) (ipsix_Put : ipsix_Head → (List UInt8) → Option ((List UInt8) × Int)) (hS : SumsOK Try.prog (aget (sums36 icmp_Put ipfour_Put ipsix_Put))) : SumOK Try.prog 36 (s36 (icmp_PacketF icmp_Put ipfour_Put ipsix_Put)) := by
  refine SumOK.of_leads tab_ok (fun ar os r ha hr => ?_) ⟨Try.f36, rfl, by decide, rfl⟩
  replace hr : r36 (icmp_PacketF icmp_Put ipfour_Put ipsix_Put) ar (conts os) = some r := hr
  unfold r36 at hr
  generalize hc : conts os = C at hr
  replace hr := dV.elim hr; obtain ⟨v0, l1, y0, rfl, e0, hr⟩ := hr; obtain rfl := uvicmp_Message_eq _ _ e0
  replace hr := dV.elim hr; obtain ⟨v1, l2, y1, rfl, e1, hr⟩ := hr; obtain rfl := uvapi_Addr_eq _ _ e1
  replace hr := dV.elim hr; obtain ⟨v2, l3, y2, rfl, e2, hr⟩ := hr; obtain rfl := uvapi_Addr_eq _ _ e2
  replace hr := dFin hr; obtain ⟨rfl, rfl, x, h, rfl⟩ := hr
  obtain rfl := kinds_nil hc
  exact ⟨_, rfl, leads36 icmp_Put ipfour_Put ipsix_Put hS _ _ _ x h⟩
def icmp_Packet : icmp_Message → api_Addr → api_Addr → Option ((List UInt8) × Int) := icmp_PacketF icmp_Put ipfour_Put ipsix_Put
theorem lift36 : SumOK Try.prog 36 (s36 icmp_Packet) := ok36 icmp_Put ipfour_Put ipsix_Put (SumsOK.of_tab ⟨lift31, lift21, lift98, trivial⟩)
def R53_PacketF (R05_Put : ipfour_Head → (List UInt8) → Option ((List UInt8) × Int)) (R06_Put : ipsix_Head → (List UInt8) → Option ((List UInt8) × Int)) (R53_Put : icmp_Message → api_Addr → api_Addr → Option ((List UInt8) × Int)) (m : icmp_Message) (src : api_Addr) (dst : api_Addr) : Option ((List UInt8) × Int) :=
  (R53_Put m src dst).bind fun p =>
  cond (p.2 != 0)
    (
    some (([], p.2)))
    (
    cond (src.V6)
      (
      (R06_Put (ipsix_Head.mk 0 0 58 64 src dst) p.1).bind fun p1 =>
      some ((p1.1, p1.2)))
      (
      (R05_Put (ipfour_Head.mk 0 0 true 64 1 src dst []) p.1).bind fun p2 =>
      some ((p2.1, p2.2))))
def rx37 (x : (List UInt8) × Int) : SRes := ⟨.tuple ⟨[.string ⟨⟨x.1⟩⟩, .int .i64 x.2]⟩, [], []⟩
def r37 (g : icmp_Message → api_Addr → api_Addr → Option ((List UInt8) × Int)) : Dec := dV uvicmp_Message fun (y0 : icmp_Message) => dV uvapi_Addr fun (y1 : api_Addr) => dV uvapi_Addr fun (y2 : api_Addr) => dEnd (ofG (g y0 y1 y2) rx37)
theorem r37_c {g : icmp_Message → api_Addr → api_Addr → Option ((List UInt8) × Int)} {y0 : icmp_Message} {y1 : api_Addr} {y2 : api_Addr} {x : (List UInt8) × Int} (hx : g y0 y1 y2 = some x) : r37 g [.agg ⟨[.int .i64 y0.Kind, .int .i64 y0.Code, .int .i64 y0.MTU, .string ⟨⟨y0.Quote⟩⟩]⟩, .agg ⟨[.bool y1.V6, .int .u64 y1.Hi, .int .u64 y1.Lo]⟩, .agg ⟨[.bool y2.V6, .int .u64 y2.Hi, .int .u64 y2.Lo]⟩] [] = some (rx37 x) := (dV_eq (uvicmp_Message_c _)).trans ((dV_eq (uvapi_Addr_c _)).trans ((dV_eq (uvapi_Addr_c _)).trans (ofG_eq hx)))
def s37 (g : icmp_Message → api_Addr → api_Addr → Option ((List UInt8) × Int)) : Summ := ⟨[.v, .v, .v], r37 g⟩
theorem r37_eq {g : icmp_Message → api_Addr → api_Addr → Option ((List UInt8) × Int)} {y0 : icmp_Message} {y1 : api_Addr} {y2 : api_Addr} {x : (List UInt8) × Int} (hx : g y0 y1 y2 = some x) : (s37 g).run [.agg ⟨[.int .i64 y0.Kind, .int .i64 y0.Code, .int .i64 y0.MTU, .string ⟨⟨y0.Quote⟩⟩]⟩, .agg ⟨[.bool y1.V6, .int .u64 y1.Hi, .int .u64 y1.Lo]⟩, .agg ⟨[.bool y2.V6, .int .u64 y2.Hi, .int .u64 y2.Lo]⟩] [] = some (rx37 x) := r37_c hx
abbrev sums37 (R05_Put : ipfour_Head → (List UInt8) → Option ((List UInt8) × Int)) (R06_Put : ipsix_Head → (List UInt8) → Option ((List UInt8) × Int)) (R53_Put : icmp_Message → api_Addr → api_Addr → Option ((List UInt8) × Int)) : List (Nat × Summ) := [(23, s23 R05_Put), (99, s99 R06_Put), (33, s33 R53_Put)]
theorem leads37 (R05_Put : ipfour_Head → (List UInt8) → Option ((List UInt8) × Int)) (R06_Put : ipsix_Head → (List UInt8) → Option ((List UInt8) × Int)) (R53_Put : icmp_Message → api_Addr → api_Addr → Option ((List UInt8) × Int)) (hS : SumsOK Try.prog (aget (sums37 R05_Put R06_Put R53_Put))) (m : icmp_Message) (src : api_Addr) (dst : api_Addr) (res : (List UInt8) × Int) (h : R53_PacketF R05_Put R06_Put R53_Put m src dst = some res) :
    Leads Try.prog 37 0 ⟨⟨37, 36, [(0, .agg ⟨[.int .i64 m.Kind, .int .i64 m.Code, .int .i64 m.MTU, .string ⟨⟨m.Quote⟩⟩]⟩), (1, .agg ⟨[.bool src.V6, .int .u64 src.Hi, .int .u64 src.Lo]⟩), (2, .agg ⟨[.bool dst.V6, .int .u64 dst.Hi, .int .u64 dst.Lo]⟩)], [.code k37_17], [], false, none⟩, [], [], 0⟩ (fun v H _ => Res 0 (rx37 res) v H) := by
  unfold R53_PacketF at h
  refine ev_ok tab_ok hS true 3000 ?_
  conv => whnf
  replace h := obind.elim h; obtain ⟨p, hy, h⟩ := h
  refine sumK.q rfl rfl (r33_eq hy) rfl rfl rfl ?_
  conv => whnf
  refine br.h h ?_ ?_ ?_
  · rfl
  · clear h; intro hb h; conv => whnf
    all_goals (cases h; exact Res.z rfl rfl rfl)
  clear h; intro hb h; conv => whnf
  refine br.h h ?_ ?_ ?_
  · rfl
  · clear h; intro hb h; conv => whnf
    replace h := obind.elim h; obtain ⟨p1, hy, h⟩ := h
    refine sumK.q rfl rfl (r99_eq hy) rfl rfl rfl ?_
    conv => whnf
    all_goals (cases h; exact Res.z rfl rfl rfl)
  clear h; intro hb h; conv => whnf
  replace h := obind.elim h; obtain ⟨p2, hy, h⟩ := h
  refine sumK.q rfl rfl (r23_eq hy) rfl rfl rfl ?_
  conv => whnf
  all_goals (cases h; exact Res.z rfl rfl rfl)
theorem ok37 (R05_Put : ipfour_Head → (List UInt8) → Option ((List UInt8) × Int)) (R06_Put : ipsix_Head → (List UInt8) → Option ((List UInt8) × Int)) (R53_Put : icmp_Message → api_Addr → api_Addr → Option ((List UInt8) × Int)) (hS : SumsOK Try.prog (aget (sums37 R05_Put R06_Put R53_Put))) : SumOK Try.prog 37 (s37 (R53_PacketF R05_Put R06_Put R53_Put)) := by
  refine SumOK.of_leads tab_ok (fun ar os r ha hr => ?_) ⟨Try.f37, rfl, by decide, rfl⟩
  replace hr : r37 (R53_PacketF R05_Put R06_Put R53_Put) ar (conts os) = some r := hr
  unfold r37 at hr
  generalize hc : conts os = C at hr
  replace hr := dV.elim hr; obtain ⟨v0, l1, y0, rfl, e0, hr⟩ := hr; obtain rfl := uvicmp_Message_eq _ _ e0
  replace hr := dV.elim hr; obtain ⟨v1, l2, y1, rfl, e1, hr⟩ := hr; obtain rfl := uvapi_Addr_eq _ _ e1
  replace hr := dV.elim hr; obtain ⟨v2, l3, y2, rfl, e2, hr⟩ := hr; obtain rfl := uvapi_Addr_eq _ _ e2
  replace hr := dFin hr; obtain ⟨rfl, rfl, x, h, rfl⟩ := hr
  obtain rfl := kinds_nil hc
  exact ⟨_, rfl, leads37 R05_Put R06_Put R53_Put hS _ _ _ x h⟩
def R53_Packet : icmp_Message → api_Addr → api_Addr → Option ((List UInt8) × Int) := R53_PacketF R05_Put R06_Put R53_Put
theorem lift37 : SumOK Try.prog 37 (s37 R53_Packet) := ok37 R05_Put R06_Put R53_Put (SumsOK.of_tab ⟨lift23, lift99, lift33, trivial⟩)
def law53_backF (m : icmp_Message) : Option icmp_Message :=
  some (m)
def rx38 (x : icmp_Message) : SRes := ⟨.agg ⟨[.int .i64 x.Kind, .int .i64 x.Code, .int .i64 x.MTU, .string ⟨⟨x.Quote⟩⟩]⟩, [], []⟩
def r38 (g : icmp_Message → Option icmp_Message) : Dec := dV uvicmp_Message fun (y0 : icmp_Message) => dEnd (ofG (g y0) rx38)
theorem r38_c {g : icmp_Message → Option icmp_Message} {y0 : icmp_Message} {x : icmp_Message} (hx : g y0 = some x) : r38 g [.agg ⟨[.int .i64 y0.Kind, .int .i64 y0.Code, .int .i64 y0.MTU, .string ⟨⟨y0.Quote⟩⟩]⟩] [] = some (rx38 x) := (dV_eq (uvicmp_Message_c _)).trans (ofG_eq hx)
def s38 (g : icmp_Message → Option icmp_Message) : Summ := ⟨[.v], r38 g⟩
theorem r38_eq {g : icmp_Message → Option icmp_Message} {y0 : icmp_Message} {x : icmp_Message} (hx : g y0 = some x) : (s38 g).run [.agg ⟨[.int .i64 y0.Kind, .int .i64 y0.Code, .int .i64 y0.MTU, .string ⟨⟨y0.Quote⟩⟩]⟩] [] = some (rx38 x) := r38_c hx
abbrev sums38 : List (Nat × Summ) := []
theorem leads38 (hS : SumsOK Try.prog (aget (sums38))) (m : icmp_Message) (res : icmp_Message) (h : law53_backF m = some res) :
    Leads Try.prog 38 0 ⟨⟨38, 12, [(0, .agg ⟨[.int .i64 m.Kind, .int .i64 m.Code, .int .i64 m.MTU, .string ⟨⟨m.Quote⟩⟩]⟩)], [.code k38_3], [], false, none⟩, [], [], 0⟩ (fun v H _ => Res 0 (rx38 res) v H) := by
  unfold law53_backF at h
  refine ev_ok tab_ok hS true 3000 ?_
  conv => whnf
  all_goals (cases h; exact Res.z rfl rfl rfl)
theorem ok38 (hS : SumsOK Try.prog (aget (sums38))) : SumOK Try.prog 38 (s38 (law53_backF)) := by
  refine SumOK.of_leads tab_ok (fun ar os r ha hr => ?_) ⟨Try.f38, rfl, by decide, rfl⟩
  replace hr : r38 (law53_backF) ar (conts os) = some r := hr
  unfold r38 at hr
  generalize hc : conts os = C at hr
  replace hr := dV.elim hr; obtain ⟨v0, l1, y0, rfl, e0, hr⟩ := hr; obtain rfl := uvicmp_Message_eq _ _ e0
  replace hr := dFin hr; obtain ⟨rfl, rfl, x, h, rfl⟩ := hr
  obtain rfl := kinds_nil hc
  exact ⟨_, rfl, leads38 hS _ x h⟩
def law53_back : icmp_Message → Option icmp_Message := law53_backF
theorem lift38 : SumOK Try.prog 38 (s38 law53_back) := ok38 (SumsOK.of_tab trivial)
def law53_IcmpTellsF (R53_Get : (List UInt8) → api_Addr → api_Addr → Option (icmp_Message × Int)) (R53_Packet : icmp_Message → api_Addr → api_Addr → Option ((List UInt8) × Int)) (R53_Put : icmp_Message → api_Addr → api_Addr → Option ((List UInt8) × Int)) (icmp_Get : (List UInt8) → api_Addr → api_Addr → Option (icmp_Message × Int)) (icmp_Packet : icmp_Message → api_Addr → api_Addr → Option ((List UInt8) × Int)) (icmp_Put : icmp_Message → api_Addr → api_Addr → Option ((List UInt8) × Int)) (law53_awake : Option Bool) (law53_back : icmp_Message → Option icmp_Message) (law53_of : icmp_Message → Option icmp_Message) (m : icmp_Message) (src : api_Addr) (dst : api_Addr) (s : List UInt8) : Option Bool :=
  cond (decide ((m.Quote.length : Int) > 1300))
    (
    (law53_awake).bind fun a =>
    some (a))
    (
    cond (decide ((s.length : Int) > 300))
      (
      (law53_awake).bind fun a1 =>
      some (a1))
      (
      (law53_of m).bind fun xo =>
      (icmp_Put xo src dst).bind fun p =>
      (R53_Put m src dst).bind fun p1 =>
      (icmp_Get s src dst).bind fun xg =>
      (R53_Get s src dst).bind fun xg1 =>
      (law53_of m).bind fun xo1 =>
      (icmp_Packet xo1 src dst).bind fun p2 =>
      (R53_Packet m src dst).bind fun p3 =>
      cond (p.1 == p1.1)
        (
        cond (p.2 == p1.2)
          (
          (law53_back xg.1).bind fun b =>
          let t := (b.Kind == xg1.1.Kind) && ((b.Code == xg1.1.Code) && ((b.MTU == xg1.1.MTU) && ((b.Quote == xg1.1.Quote) && true)))
          cond (t)
            (
            cond (xg.2 == xg1.2)
              (
              cond (p2.1 == p3.1)
                (
                cond (p2.2 == p3.2)
                  (
                  (law53_awake).bind fun a2 =>
                  some (a2))
                  (
                  some (false)))
                (
                some (false)))
              (
              some (false)))
            (
            some (false)))
          (
          some (false)))
        (
        some (false))))
def rx7 (x : Bool) : SRes := ⟨.bool x, [], []⟩
def r7 (g : icmp_Message → api_Addr → api_Addr → (List UInt8) → Option Bool) : Dec := dV uvicmp_Message fun (y0 : icmp_Message) => dV uvapi_Addr fun (y1 : api_Addr) => dV uvapi_Addr fun (y2 : api_Addr) => dV asS fun (y3 : List UInt8) => dEnd (ofG (g y0 y1 y2 y3) rx7)
theorem r7_c {g : icmp_Message → api_Addr → api_Addr → (List UInt8) → Option Bool} {y0 : icmp_Message} {y1 : api_Addr} {y2 : api_Addr} {y3 : List UInt8} {x : Bool} (hx : g y0 y1 y2 y3 = some x) : r7 g [.agg ⟨[.int .i64 y0.Kind, .int .i64 y0.Code, .int .i64 y0.MTU, .string ⟨⟨y0.Quote⟩⟩]⟩, .agg ⟨[.bool y1.V6, .int .u64 y1.Hi, .int .u64 y1.Lo]⟩, .agg ⟨[.bool y2.V6, .int .u64 y2.Hi, .int .u64 y2.Lo]⟩, .string ⟨⟨y3⟩⟩] [] = some (rx7 x) := (dV_eq (uvicmp_Message_c _)).trans ((dV_eq (uvapi_Addr_c _)).trans ((dV_eq (uvapi_Addr_c _)).trans ((dV_eq (asS_c)).trans (ofG_eq hx))))
def s7 (g : icmp_Message → api_Addr → api_Addr → (List UInt8) → Option Bool) : Summ := ⟨[.v, .v, .v, .v], r7 g⟩
theorem r7_eq {g : icmp_Message → api_Addr → api_Addr → (List UInt8) → Option Bool} {y0 : icmp_Message} {y1 : api_Addr} {y2 : api_Addr} {y3 : List UInt8} {x : Bool} (hx : g y0 y1 y2 y3 = some x) : (s7 g).run [.agg ⟨[.int .i64 y0.Kind, .int .i64 y0.Code, .int .i64 y0.MTU, .string ⟨⟨y0.Quote⟩⟩]⟩, .agg ⟨[.bool y1.V6, .int .u64 y1.Hi, .int .u64 y1.Lo]⟩, .agg ⟨[.bool y2.V6, .int .u64 y2.Hi, .int .u64 y2.Lo]⟩, .string ⟨⟨y3⟩⟩] [] = some (rx7 x) := r7_c hx
abbrev sums7 (R53_Get : (List UInt8) → api_Addr → api_Addr → Option (icmp_Message × Int)) (R53_Packet : icmp_Message → api_Addr → api_Addr → Option ((List UInt8) × Int)) (R53_Put : icmp_Message → api_Addr → api_Addr → Option ((List UInt8) × Int)) (icmp_Get : (List UInt8) → api_Addr → api_Addr → Option (icmp_Message × Int)) (icmp_Packet : icmp_Message → api_Addr → api_Addr → Option ((List UInt8) × Int)) (icmp_Put : icmp_Message → api_Addr → api_Addr → Option ((List UInt8) × Int)) (law53_awake : Option Bool) (law53_back : icmp_Message → Option icmp_Message) (law53_of : icmp_Message → Option icmp_Message) : List (Nat × Summ) := [(35, s35 R53_Get), (37, s37 R53_Packet), (33, s33 R53_Put), (34, s34 icmp_Get), (36, s36 icmp_Packet), (31, s31 icmp_Put), (30, s30 law53_awake), (38, s38 law53_back), (32, s32 law53_of)]
theorem leads7 (R53_Get : (List UInt8) → api_Addr → api_Addr → Option (icmp_Message × Int)) (R53_Packet : icmp_Message → api_Addr → api_Addr → Option ((List UInt8) × Int)) (R53_Put : icmp_Message → api_Addr → api_Addr → Option ((List UInt8) × Int)) (icmp_Get : (List UInt8) → api_Addr → api_Addr → Option (icmp_Message × Int)) (icmp_Packet : icmp_Message → api_Addr → api_Addr → Option ((List UInt8) × Int)) (icmp_Put : icmp_Message → api_Addr → api_Addr → Option ((List UInt8) × Int)) (law53_awake : Option Bool) (law53_back : icmp_Message → Option icmp_Message) (law53_of : icmp_Message → Option icmp_Message) (hS : SumsOK Try.prog (aget (sums7 R53_Get R53_Packet R53_Put icmp_Get icmp_Packet icmp_Put law53_awake law53_back law53_of))) (m : icmp_Message) (src : api_Addr) (dst : api_Addr) (s : List UInt8) (res : Bool) (h : law53_IcmpTellsF R53_Get R53_Packet R53_Put icmp_Get icmp_Packet icmp_Put law53_awake law53_back law53_of m src dst s = some res) :
    Leads Try.prog 7 0 ⟨⟨7, 107, [(0, .agg ⟨[.int .i64 m.Kind, .int .i64 m.Code, .int .i64 m.MTU, .string ⟨⟨m.Quote⟩⟩]⟩), (1, .agg ⟨[.bool src.V6, .int .u64 src.Hi, .int .u64 src.Lo]⟩), (2, .agg ⟨[.bool dst.V6, .int .u64 dst.Hi, .int .u64 dst.Lo]⟩), (3, .string ⟨⟨s⟩⟩)], [.code k7_21], [], false, none⟩, [], [], 0⟩ (fun v H _ => Res 0 (rx7 res) v H) := by
  unfold law53_IcmpTellsF at h
  refine ev_ok tab_ok hS true 3000 ?_
  conv => whnf
  refine br.h h ?_ ?_ ?_
  · rfl
  · clear h; intro hb h; conv => whnf
    replace h := obind.elim h; obtain ⟨a, hy, h⟩ := h
    refine sumK.q rfl rfl (r30_eq hy) rfl rfl rfl ?_
    conv => whnf
    all_goals (cases h; exact Res.z rfl rfl rfl)
  clear h; intro hb h; conv => whnf
  refine br.h h ?_ ?_ ?_
  · rfl
  · clear h; intro hb h; conv => whnf
    replace h := obind.elim h; obtain ⟨a1, hy, h⟩ := h
    refine sumK.q rfl rfl (r30_eq hy) rfl rfl rfl ?_
    conv => whnf
    all_goals (cases h; exact Res.z rfl rfl rfl)
  clear h; intro hb h; conv => whnf
  replace h := obind.elim h; obtain ⟨xo, hy, h⟩ := h
  refine sumK.q rfl rfl (r32_eq hy) rfl rfl rfl ?_
  conv => whnf
  replace h := obind.elim h; obtain ⟨p, hy, h⟩ := h
  refine sumK.q rfl rfl (r31_eq hy) rfl rfl rfl ?_
  conv => whnf
  replace h := obind.elim h; obtain ⟨p1, hy, h⟩ := h
  refine sumK.q rfl rfl (r33_eq hy) rfl rfl rfl ?_
  conv => whnf
  replace h := obind.elim h; obtain ⟨xg, hy, h⟩ := h
  refine sumK.q rfl rfl (r34_eq hy) rfl rfl rfl ?_
  conv => whnf
  replace h := obind.elim h; obtain ⟨xg1, hy, h⟩ := h
  refine sumK.q rfl rfl (r35_eq hy) rfl rfl rfl ?_
  conv => whnf
  replace h := obind.elim h; obtain ⟨xo1, hy, h⟩ := h
  refine sumK.q rfl rfl (r32_eq hy) rfl rfl rfl ?_
  conv => whnf
  replace h := obind.elim h; obtain ⟨p2, hy, h⟩ := h
  refine sumK.q rfl rfl (r36_eq hy) rfl rfl rfl ?_
  conv => whnf
  replace h := obind.elim h; obtain ⟨p3, hy, h⟩ := h
  refine sumK.q rfl rfl (r37_eq hy) rfl rfl rfl ?_
  conv => whnf
  refine br.h2 h ?_ ?_ ?_
  · rfl
  · clear h; intro hb h; conv => whnf
    all_goals (cases h; exact Res.z rfl rfl rfl)
  clear h; intro hb h; conv => whnf
  refine br.h2 h ?_ ?_ ?_
  · rfl
  · clear h; intro hb h; conv => whnf
    all_goals (cases h; exact Res.z rfl rfl rfl)
  clear h; intro hb h; conv => whnf
  replace h := obind.elim h; obtain ⟨b, hy, h⟩ := h
  refine sumK.q rfl rfl (r38_eq hy) rfl rfl rfl ?_
  conv => whnf
  let t : Bool := (b.Kind == xg1.1.Kind) && ((b.Code == xg1.1.Code) && ((b.MTU == xg1.1.MTU) && ((b.Quote == xg1.1.Quote) && true)))
  refine br.h2 h ?_ ?_ ?_
  · rfl
  · clear h; intro hb h; conv => whnf
    all_goals (cases h; exact Res.z rfl rfl rfl)
  clear h; intro hb h; conv => whnf
  refine br.h2 h ?_ ?_ ?_
  · rfl
  · clear h; intro hb h; conv => whnf
    all_goals (cases h; exact Res.z rfl rfl rfl)
  clear h; intro hb h; conv => whnf
  refine br.h2 h ?_ ?_ ?_
  · rfl
  · clear h; intro hb h; conv => whnf
    all_goals (cases h; exact Res.z rfl rfl rfl)
  clear h; intro hb h; conv => whnf
  refine br.h2 h ?_ ?_ ?_
  · rfl
  · clear h; intro hb h; conv => whnf
    all_goals (cases h; exact Res.z rfl rfl rfl)
  clear h; intro hb h; conv => whnf
  replace h := obind.elim h; obtain ⟨a2, hy, h⟩ := h
  refine sumK.q rfl rfl (r30_eq hy) rfl rfl rfl ?_
  conv => whnf
  all_goals (cases h; exact Res.z rfl rfl rfl)
theorem ok7 (R53_Get : (List UInt8) → api_Addr → api_Addr → Option (icmp_Message × Int)) (R53_Packet : icmp_Message → api_Addr → api_Addr → Option ((List UInt8) × Int)) (R53_Put : icmp_Message → api_Addr → api_Addr → Option ((List UInt8) × Int)) (icmp_Get : (List UInt8) → api_Addr → api_Addr → Option (icmp_Message × Int)) (icmp_Packet : icmp_Message → api_Addr → api_Addr → Option ((List UInt8) × Int)) (icmp_Put : icmp_Message → api_Addr → api_Addr → Option ((List UInt8) × Int)) (law53_awake : Option Bool) (law53_back : icmp_Message → Option icmp_Message) (law53_of : icmp_Message → Option icmp_Message) (hS : SumsOK Try.prog (aget (sums7 R53_Get R53_Packet R53_Put icmp_Get icmp_Packet icmp_Put law53_awake law53_back law53_of))) : SumOK Try.prog 7 (s7 (law53_IcmpTellsF R53_Get R53_Packet R53_Put icmp_Get icmp_Packet icmp_Put law53_awake law53_back law53_of)) := by
  refine SumOK.of_leads tab_ok (fun ar os r ha hr => ?_) ⟨Try.f7, rfl, by decide, rfl⟩
  replace hr : r7 (law53_IcmpTellsF R53_Get R53_Packet R53_Put icmp_Get icmp_Packet icmp_Put law53_awake law53_back law53_of) ar (conts os) = some r := hr
  unfold r7 at hr
  generalize hc : conts os = C at hr
  replace hr := dV.elim hr; obtain ⟨v0, l1, y0, rfl, e0, hr⟩ := hr; obtain rfl := uvicmp_Message_eq _ _ e0
  replace hr := dV.elim hr; obtain ⟨v1, l2, y1, rfl, e1, hr⟩ := hr; obtain rfl := uvapi_Addr_eq _ _ e1
  replace hr := dV.elim hr; obtain ⟨v2, l3, y2, rfl, e2, hr⟩ := hr; obtain rfl := uvapi_Addr_eq _ _ e2
  replace hr := dV.elim hr; obtain ⟨v3, l4, y3, rfl, e3, hr⟩ := hr; obtain rfl := asS_eq _ _ e3
  replace hr := dFin hr; obtain ⟨rfl, rfl, x, h, rfl⟩ := hr
  obtain rfl := kinds_nil hc
  exact ⟨_, rfl, leads7 R53_Get R53_Packet R53_Put icmp_Get icmp_Packet icmp_Put law53_awake law53_back law53_of hS _ _ _ _ x h⟩
def law53_IcmpTells : icmp_Message → api_Addr → api_Addr → (List UInt8) → Option Bool := law53_IcmpTellsF R53_Get R53_Packet R53_Put icmp_Get icmp_Packet icmp_Put law53_awake law53_back law53_of
theorem lift7 : SumOK Try.prog 7 (s7 law53_IcmpTells) := ok7 R53_Get R53_Packet R53_Put icmp_Get icmp_Packet icmp_Put law53_awake law53_back law53_of (SumsOK.of_tab ⟨lift35, lift37, lift33, lift34, lift36, lift31, lift30, lift38, lift32, trivial⟩)
end Go.Vm.Code
namespace Go.Vm
open Go
theorem wI64 {n : Int} (h1 : -9223372036854775808 ≤ n) (h2 : n < 9223372036854775808) : wI .i64 n = n := by
  show IntKind.wrap .i64 n = n; rw [IntKind.wrap_i64]; omega
theorem wU64 {n : Int} (h1 : 0 ≤ n) (h2 : n < 18446744073709551616) : wI .u64 n = n := by
  show IntKind.wrap .u64 n = n
  simp only [IntKind.wrap, IntKind.bits, IntKind.signed]; simp; omega
theorem wU32 {n : Int} (h1 : 0 ≤ n) (h2 : n < 4294967296) : wI .u32 n = n := by
  show IntKind.wrap .u32 n = n
  simp only [IntKind.wrap, IntKind.bits, IntKind.signed]; simp; omega
theorem wU16 {n : Int} (h1 : 0 ≤ n) (h2 : n < 65536) : wI .u16 n = n := by
  show IntKind.wrap .u16 n = n
  simp only [IntKind.wrap, IntKind.bits, IntKind.signed]; simp; omega
theorem wU8 {n : Int} (h1 : 0 ≤ n) (h2 : n < 256) : wI .u8 n = n := by
  show IntKind.wrap .u8 n = n
  simp only [IntKind.wrap, IntKind.bits, IntKind.signed]; simp; omega
theorem wU64m (n : Int) : wI .u64 n = n % 18446744073709551616 := by
  show IntKind.wrap .u64 n = _
  simp only [IntKind.wrap, IntKind.bits, IntKind.signed]; simp
theorem wU32m (n : Int) : wI .u32 n = n % 4294967296 := by
  show IntKind.wrap .u32 n = _
  simp only [IntKind.wrap, IntKind.bits, IntKind.signed]; simp
theorem wU16m (n : Int) : wI .u16 n = n % 65536 := by
  show IntKind.wrap .u16 n = _
  simp only [IntKind.wrap, IntKind.bits, IntKind.signed]; simp
theorem wU8m (n : Int) : wI .u8 n = n % 256 := by
  show IntKind.wrap .u8 n = _
  simp only [IntKind.wrap, IntKind.bits, IntKind.signed]; simp
theorem bv64 {n : Nat} (h : n < 18446744073709551616) : (BitVec.ofInt 64 (n : Int)).toNat = n := by
  rw [BitVec.toNat_ofInt]; omega
theorem andI64 {a b : Nat} (ha : a < 9223372036854775808) (hb : b < 9223372036854775808) : andI .i64 (a : Int) (b : Int) = ((a &&& b : Nat) : Int) := by
  have h : a &&& b ≤ a := Nat.and_le_left
  show IntKind.wrap .i64 _ = _
  rw [show IntKind.bits .i64 = 64 from rfl, BitVec.toNat_and, bv64 (by omega), bv64 (by omega)]
  exact wI64 (by omega) (by omega)
theorem iorI64 {a b : Nat} (ha : a < 9223372036854775808) (hb : b < 9223372036854775808) : iorI .i64 (a : Int) (b : Int) = ((a ||| b : Nat) : Int) := by
  have h : a ||| b < 2 ^ 63 := Nat.or_lt_two_pow (by omega) (by omega)
  show IntKind.wrap .i64 _ = _
  rw [show IntKind.bits .i64 = 64 from rfl, BitVec.toNat_or, bv64 (by omega), bv64 (by omega)]
  exact wI64 (by omega) (by omega)
theorem andU64 {a b : Nat} (ha : a < 18446744073709551616) (hb : b < 18446744073709551616) : andI .u64 (a : Int) (b : Int) = ((a &&& b : Nat) : Int) := by
  have h : a &&& b ≤ a := Nat.and_le_left
  show IntKind.wrap .u64 _ = _
  rw [show IntKind.bits .u64 = 64 from rfl, BitVec.toNat_and, bv64 (by omega), bv64 (by omega)]
  exact wU64 (by omega) (by omega)
theorem iorU64 {a b : Nat} (ha : a < 18446744073709551616) (hb : b < 18446744073709551616) : iorI .u64 (a : Int) (b : Int) = ((a ||| b : Nat) : Int) := by
  have h : a ||| b < 2 ^ 64 := Nat.or_lt_two_pow (by omega) (by omega)
  show IntKind.wrap .u64 _ = _
  rw [show IntKind.bits .u64 = 64 from rfl, BitVec.toNat_or, bv64 (by omega), bv64 (by omega)]
  exact wU64 (by omega) (by omega)
theorem ixorU64 {a b : Nat} (ha : a < 18446744073709551616) (hb : b < 18446744073709551616) : ixorI .u64 (a : Int) (b : Int) = ((a ^^^ b : Nat) : Int) := by
  have h : a ^^^ b < 2 ^ 64 := Nat.xor_lt_two_pow (by omega) (by omega)
  show IntKind.wrap .u64 _ = _
  rw [show IntKind.bits .u64 = 64 from rfl, BitVec.toNat_xor, bv64 (by omega), bv64 (by omega)]
  exact wU64 (by omega) (by omega)
theorem and_mask (a k : Nat) : a &&& (2 ^ k - 1) = a % 2 ^ k := Nat.and_two_pow_sub_one_eq_mod a k
theorem or_low {a b k : Nat} (hb : b < 2 ^ k) : (a * 2 ^ k) ||| b = a * 2 ^ k + b := by
  rw [Nat.mul_comm]; exact (Nat.two_pow_add_eq_or_of_lt hb a).symm
theorem andI64_mask (k : Nat) {a m : Int} (hm : m = 2 ^ k - 1) (hk : k ≤ 62) (h0 : 0 ≤ a) (h1 : a < 9223372036854775808) : andI .i64 a m = a % 2 ^ k := by
  obtain ⟨n, rfl⟩ := Int.eq_ofNat_of_zero_le h0
  have hp : 2 ^ k ≤ 2 ^ 62 := Nat.pow_le_pow_right (by decide) hk
  have hp1 : 1 ≤ 2 ^ k := Nat.one_le_two_pow
  have : m = ((2 ^ k - 1 : Nat) : Int) := by rw [hm]; push_cast [hp1]; rfl
  rw [this, andI64 (by omega) (by omega), and_mask]; push_cast; rfl
theorem andU64_mask (k : Nat) {a m : Int} (hm : m = 2 ^ k - 1) (hk : k ≤ 64) (h0 : 0 ≤ a) (h1 : a < 18446744073709551616) : andI .u64 a m = a % 2 ^ k := by
  obtain ⟨n, rfl⟩ := Int.eq_ofNat_of_zero_le h0
  have hp : 2 ^ k ≤ 2 ^ 64 := Nat.pow_le_pow_right (by decide) hk
  have hp1 : 1 ≤ 2 ^ k := Nat.one_le_two_pow
  have : m = ((2 ^ k - 1 : Nat) : Int) := by rw [hm]; push_cast [hp1]; rfl
  rw [this, andU64 (by omega) (by omega), and_mask]; push_cast; rfl
theorem iorI64_low (k : Nat) {a b : Int} (h0 : 0 ≤ a) (h1 : a * 2 ^ k < 9223372036854775808) (hb0 : 0 ≤ b) (hb : b < 2 ^ k) (hb1 : b < 9223372036854775808) : iorI .i64 (a * 2 ^ k) b = a * 2 ^ k + b := by
  obtain ⟨n, rfl⟩ := Int.eq_ofNat_of_zero_le h0
  obtain ⟨m, rfl⟩ := Int.eq_ofNat_of_zero_le hb0
  have e : ((n : Int) * 2 ^ k) = ((n * 2 ^ k : Nat) : Int) := by push_cast; rfl
  rw [e] at h1 ⊢
  rw [iorI64 (by omega) (by omega), or_low (by exact_mod_cast hb)]; push_cast; rfl
theorem iorU64_low (k : Nat) {a b : Int} (h0 : 0 ≤ a) (h1 : a * 2 ^ k < 18446744073709551616) (hb0 : 0 ≤ b) (hb : b < 2 ^ k) (hb1 : b < 18446744073709551616) : iorI .u64 (a * 2 ^ k) b = a * 2 ^ k + b := by
  obtain ⟨n, rfl⟩ := Int.eq_ofNat_of_zero_le h0
  obtain ⟨m, rfl⟩ := Int.eq_ofNat_of_zero_le hb0
  have e : ((n : Int) * 2 ^ k) = ((n * 2 ^ k : Nat) : Int) := by push_cast; rfl
  rw [e] at h1 ⊢
  rw [iorU64 (by omega) (by omega), or_low (by exact_mod_cast hb)]; push_cast; rfl
theorem fdivP (a : Int) (k : Nat) : a.fdiv (2 ^ k) = a / 2 ^ k := Int.fdiv_eq_ediv_of_nonneg a (Int.le_of_lt (Int.pow_pos (by decide)))
theorem oreq_p {α : Type} {p : Prop} [Decidable p] {x : Option α} (h : p) : oreq (decide p) x = x := oreq.mk (decide_eq_true h)
theorem cond_p {α : Type} {p : Prop} [Decidable p] {x y : α} (h : p) : cond (decide p) x y = x := by rw [decide_eq_true h, cond_true]
theorem cond_n {α : Type} {p : Prop} [Decidable p] {x y : α} (h : ¬ p) : cond (decide p) x y = y := by rw [decide_eq_false h, cond_false]
theorem cond_dec {α : Type} {p : Prop} [Decidable p] {x y : α} : cond (decide p) x y = if p then x else y := by
  by_cases h : p <;> simp [h]
theorem iter_eq {σ ρ : Type} {step : σ → Option (Sum σ ρ)} (F : σ → ρ) (P : σ → Prop) (μ : σ → Nat)
    (h : ∀ s, P s → step s = some (.inr (F s)) ∨ ∃ s', step s = some (.inl s') ∧ P s' ∧ μ s' < μ s ∧ F s' = F s) : ∀ n s, P s → μ s < n → iter step n s = some (F s)
  | 0, s, hp, hn => by omega
  | n + 1, s, hp, hn => by
    rw [iter]
    rcases h s hp with e | ⟨s', e, hp', hm, hf⟩
    · rw [e]
    · rw [e]; exact hf ▸ iter_eq F P μ h n s' hp' (by omega)
theorem FUEL_eq : FUEL = 18446744073709551616 := rfl
end Go.Vm
namespace Go.Vm.Code
open Go Go.Vm
def wsum : List UInt8 → Nat
  | [] => 0
  | [b] => b.toNat * 256
  | b :: c :: l => b.toNat * 256 + c.toNat + wsum l
def norm (n : Nat) : Nat := if n = 0 then 0 else (n - 1) % 65535 + 1
theorem norm_eq {n r : Nat} (h1 : r ≤ 65535) (h2 : r % 65535 = n % 65535) (h3 : r = 0 ↔ n = 0) : norm n = r := by unfold norm; split <;> omega
theorem norm_le (n : Nat) : norm n ≤ 65535 := by unfold norm; split <;> omega
theorem norm_mod (n : Nat) : norm n % 65535 = n % 65535 := by unfold norm; split <;> omega
theorem norm_zero (n : Nat) : norm n = 0 ↔ n = 0 := by unfold norm; split <;> omega
theorem norm_same {n : Nat} (h : n ≤ 65535) : norm n = n := norm_eq h rfl Iff.rfl
theorem norm_add (a b : Nat) : norm (norm a + b) = norm (a + b) :=
  (norm_eq (norm_le _) (by have h1 := norm_mod a; have h2 := norm_mod (norm a + b); omega) (by have h1 := norm_zero a; have h2 := norm_zero (norm a + b); omega)).symm
theorem fold_eq {n : Int} (h0 : 0 ≤ n) (h1 : n < 2 ^ 62) : check_fold n = some ((norm n.toNat : Nat) : Int) := by
  unfold check_fold check_foldF
  refine iter_eq (fun n => ((norm n.toNat : Nat) : Int)) (fun n => 0 ≤ n ∧ n < 2 ^ 62) (fun n => n.toNat) ?_ FUEL _ ⟨h0, h1⟩ (by rw [FUEL_eq]; omega)
  intro s ⟨a, b⟩
  unfold check_fold_s1
  by_cases hs : s > 65535
  · refine .inr ⟨s % 65536 + s / 65536, ?_, ⟨by omega, by omega⟩, by omega, ?_⟩
    · rw [cond_p hs, andI64_mask (m := 65535) 16 (by decide) (by decide) a (by omega), fdivP, wI64 (by omega) (by omega)]; rfl
    · have : norm (s % 65536 + s / 65536).toNat = norm s.toNat :=
        (norm_eq (norm_le _) (by have := norm_mod (s % 65536 + s / 65536).toNat; omega) (by have := norm_zero (s % 65536 + s / 65536).toNat; omega)).symm
      rw [this]
  · refine .inl ?_
    rw [cond_n hs]
    have := norm_same (n := s.toNat) (by omega)
    simp only [this]
    rw [Int.toNat_of_nonneg a]
theorem wsum_two {s : List UInt8} {i : Nat} (h : i + 1 < s.length) : wsum (s.drop i) = s[i].toNat * 256 + s[i + 1].toNat + wsum (s.drop (i + 2)) := by
  rw [List.drop_eq_getElem_cons (by omega : i < s.length), List.drop_eq_getElem_cons h]; rfl
theorem wsum_one {s : List UInt8} {i : Nat} (h : i + 1 = s.length) : wsum (s.drop i) = s[i].toNat * 256 := by
  rw [List.drop_eq_getElem_cons (by omega : i < s.length), List.drop_eq_nil_of_le (by omega)]; rfl
theorem wsum_none {s : List UInt8} {i : Nat} (h : s.length ≤ i) : wsum (s.drop i) = 0 := by
  rw [List.drop_eq_nil_of_le h]; rfl
theorem sum_eq (s : List UInt8) (h : s.length < 2 ^ 61) : check_Sum s = some ((norm (wsum s) : Nat) : Int) := by
  unfold check_Sum check_SumF
  have key := iter_eq (step := fun (st : Int × Int) => check_Sum_s1 check_fold s st.1 st.2) (fun (st : Int × Int) => ((norm (st.2.toNat + wsum (s.drop st.1.toNat)) : Nat) : Int)) (fun (st : Int × Int) => 0 ≤ st.1 ∧ st.1 ≤ s.length + 1 ∧ 0 ≤ st.2 ∧ st.2 ≤ 65535) (fun (st : Int × Int) => (s.length + 2 - st.1).toNat) ?_ FUEL (0, 0) ⟨by simp, by simp; omega, by simp, by simp⟩ (by rw [FUEL_eq]; simp only; omega)
  · rw [key]; simp
  rintro ⟨p, n⟩ ⟨h1, h2, h3, h4⟩
  simp only at h1 h2 h3 h4 ⊢
  obtain ⟨i, rfl⟩ := Int.eq_ofNat_of_zero_le h1
  obtain ⟨m, rfl⟩ := Int.eq_ofNat_of_zero_le h3
  unfold check_Sum_s1
  by_cases hp : i < s.length
  · by_cases hq : i + 1 < s.length
    · have b1 := s[i].toNat_lt
      have b2 := s[i + 1].toNat_lt
      refine .inr ⟨(((i + 2 : Nat) : Int), ((norm (m + (s[i].toNat * 256 + s[i + 1].toNat)) : Nat) : Int)), ?_, ⟨by simp only; omega, by simp only; omega, by simp only; omega, by simp only; have := norm_le (m + (s[i].toNat * 256 + s[i + 1].toNat)); omega⟩, by simp only; omega, ?_⟩
      · simp (disch := omega) only [wI64, oreq_p, cond_p]
        have e : ((i : Int) + 1).toNat = i + 1 := by omega
        rw [e]
        simp (disch := omega) only [Int.toNat_natCast, List.getElem?_eq_getElem, Option.bind_some, iorI64_low, wI64, fold_eq]
        congr 3 <;> omega
      · simp only [Int.toNat_natCast]
        rw [norm_add, wsum_two hq, Nat.add_assoc]
    · have b1 := s[i].toNat_lt
      refine .inr ⟨(((i + 2 : Nat) : Int), ((norm (m + s[i].toNat * 256) : Nat) : Int)), ?_, ⟨by simp only; omega, by simp only; omega, by simp only; omega, by simp only; have := norm_le (m + s[i].toNat * 256); omega⟩, by simp only; omega, ?_⟩
      · simp (disch := omega) only [wI64, oreq_p, cond_p, cond_n, Int.toNat_natCast, List.getElem?_eq_getElem, Option.bind_some, fold_eq]
        congr 3 <;> omega
      · simp only [Int.toNat_natCast]
        rw [norm_add, wsum_none (i := i + 2) (by omega), Nat.add_zero, wsum_one (i := i) (by omega)]
  · refine .inl ?_
    simp (disch := omega) only [cond_n]
    simp only [Int.toNat_natCast]
    rw [wsum_none (by omega), Nat.add_zero, norm_same (by omega)]
theorem wsum_append : ∀ (a b : List UInt8), a.length % 2 = 0 → wsum (a ++ b) = wsum a + wsum b
  | [], b, _ => by simp [wsum]
  | [_], b, h => by simp at h
  | x :: y :: a, b, h => by
    have := wsum_append a b (by simp at h; omega)
    simp only [List.cons_append, wsum, this]; omega
def allz (l : List UInt8) : Bool := l.all fun b => b == 0
theorem wsum_zero : ∀ a : List UInt8, a.length % 2 = 0 → (wsum a = 0 ↔ allz a = true)
  | [], _ => by simp [wsum, allz]
  | [_], h => by simp at h
  | x :: y :: a, h => by
    have h1 := wsum_zero a (by simp at h; omega)
    have ex : (x == 0) = true ↔ x.toNat = 0 := by rw [beq_iff_eq]; exact ⟨fun e => by rw [e]; rfl, fun e => UInt8.toNat_inj.1 e⟩
    have ey : (y == 0) = true ↔ y.toNat = 0 := by rw [beq_iff_eq]; exact ⟨fun e => by rw [e]; rfl, fun e => UInt8.toNat_inj.1 e⟩
    have e : allz (x :: y :: a) = (x == 0 && (y == 0 && allz a)) := rfl
    rw [e, Bool.and_eq_true, Bool.and_eq_true, ex, ey, ← h1, wsum]
    omega
theorem take1 {l : List UInt8} {i : Nat} (h : i < l.length) : (l.drop i).take 1 = [l[i]] := by
  rw [List.drop_eq_getElem_cons h]; rfl
theorem take2 {l : List UInt8} {i : Nat} (h : i + 1 < l.length) : l.take (i + 2) = l.take i ++ [l[i], l[i + 1]] := by
  have e1 := List.take_succ_eq_append_getElem h
  have e2 := List.take_succ_eq_append_getElem (show i < l.length by omega)
  rw [show i + 2 = (i + 1) + 1 from rfl, e1, e2, List.append_assoc]; rfl
theorem bz (b : UInt8) : ((b.toNat : Int) == 0) = (b == 0) := by
  by_cases h : b = 0
  · subst h; rfl
  · have : b.toNat ≠ 0 := fun e => h (UInt8.toNat_inj.1 e)
    rw [beq_eq_false_iff_ne.2 h]; simp; exact this
end Go.Vm.Code
namespace Go.Vm
open Go
def be (n : Nat) : Nat → List UInt8
  | 0 => []
  | r + 1 => UInt8.ofNat (n / 256 ^ r) :: be n r
def valL (l : List UInt8) : Nat := l.foldl (fun n b => n * 256 + b.toNat) 0
@[simp] theorem be_len (n : Nat) : ∀ k, (be n k).length = k
  | 0 => rfl
  | k + 1 => by simp [be, be_len n k]
theorem be_snoc (n : Nat) : ∀ k, be n (k + 1) = be (n / 256) k ++ [UInt8.ofNat n]
  | 0 => by simp [be]
  | k + 1 => by
    rw [be, be_snoc n k, be, Nat.div_div_eq_div_mul, Nat.pow_succ, Nat.mul_comm 256]; rfl
theorem be_mod (n : Nat) : ∀ k, be (n % 256 ^ k) k = be n k
  | 0 => rfl
  | k + 1 => by
    rw [be_snoc, be_snoc, Nat.pow_succ, Nat.mul_comm, Nat.mod_mul_right_div_self, be_mod (n / 256) k]
    congr 2
    apply UInt8.toNat_inj.1
    simp only [UInt8.toNat_ofNat']
    rw [Nat.mod_mul_right_mod]
theorem val_foldl (l : List UInt8) : ∀ n : Nat, l.foldl (fun n b => n * 256 + b.toNat) n = n * 256 ^ l.length + valL l := by
  induction l with
  | nil => intro n; simp [valL]
  | cons b l ih =>
    intro n
    rw [valL, List.foldl_cons, ih, List.foldl_cons, ih, List.length_cons, Nat.pow_succ]
    rw [Nat.zero_mul, Nat.zero_add, Nat.add_mul, Nat.mul_assoc, Nat.mul_comm (256 ^ _) 256, Nat.add_assoc]
@[simp] theorem val_nil : valL [] = 0 := rfl
theorem val_cons (b : UInt8) (l : List UInt8) : valL (b :: l) = b.toNat * 256 ^ l.length + valL l := by
  rw [valL, List.foldl_cons, val_foldl]; simp
theorem val_append (l m : List UInt8) : valL (l ++ m) = valL l * 256 ^ m.length + valL m := by
  rw [valL, List.foldl_append, val_foldl]; rfl
theorem val_snoc (l : List UInt8) (b : UInt8) : valL (l ++ [b]) = valL l * 256 + b.toNat := by
  rw [val_append]; simp [val_cons]
theorem val_lt : ∀ l : List UInt8, valL l < 256 ^ l.length
  | [] => by simp
  | b :: l => by
    have h := val_lt l
    have hb := b.toNat_lt
    rw [val_cons, List.length_cons, Nat.pow_succ]
    have : b.toNat * 256 ^ l.length + 256 ^ l.length ≤ 256 * 256 ^ l.length := by
      rw [← Nat.succ_mul]; exact Nat.mul_le_mul_right _ (by omega)
    rw [Nat.mul_comm (256 ^ l.length)]; omega
theorem val_be (n : Nat) : ∀ k, valL (be n k) = n % 256 ^ k
  | 0 => by simp [be, Nat.mod_one]
  | k + 1 => by
    have e : n % 256 ^ (k + 1) = n % 256 + 256 * (n / 256 % 256 ^ k) := by rw [Nat.pow_succ', Nat.mod_mul]
    rw [be_snoc, val_snoc, val_be (n / 256) k, UInt8.toNat_ofNat', e]
    generalize n / 256 % 256 ^ k = x
    omega
theorem val_be_lt {n k : Nat} (h : n < 256 ^ k) : valL (be n k) = n := by rw [val_be, Nat.mod_eq_of_lt h]
theorem be_val : ∀ l : List UInt8, be (valL l) l.length = l
  | [] => rfl
  | b :: l => by
    have h := val_lt l
    rw [List.length_cons, be]
    have e1 : valL (b :: l) / 256 ^ l.length = b.toNat := by
      rw [val_cons, Nat.mul_comm, Nat.mul_add_div (Nat.pow_pos (by decide)), Nat.div_eq_of_lt h, Nat.add_zero]
    have e2 : be (valL (b :: l)) l.length = be (valL l) l.length := by
      rw [← be_mod (valL (b :: l)), val_cons, Nat.mul_add_mod', be_mod]
    rw [e1, e2, be_val l]
    simp
theorem be_inj {n m k : Nat} (hn : n < 256 ^ k) (hm : m < 256 ^ k) (h : be n k = be m k) : n = m := by
  rw [← val_be_lt hn, ← val_be_lt hm, h]
theorem be_val' {l : List UInt8} {k : Nat} (h : l.length = k) : be (valL l) k = l := by subst h; exact be_val l
theorem be_of {l : List UInt8} {n k : Nat} (h : l.length = k) (hv : valL l = n) : be n k = l := by subst hv; exact be_val' h
theorem val_take_lt {l : List UInt8} {k : Nat} (n : Nat) (h : 256 ^ k ≤ n) : valL (l.take k) < n := by
  have h1 := val_lt (l.take k)
  have h2 : (l.take k).length ≤ k := List.length_take_le _ _
  exact Nat.lt_of_lt_of_le h1 (Nat.le_trans (Nat.pow_le_pow_right (by decide) h2) h)
theorem be_split (n : Nat) (j : Nat) : ∀ k, be n (j + k) = be (n / 256 ^ k) j ++ be n k
  | 0 => by simp [be]
  | k + 1 => by
    rw [show j + (k + 1) = (j + k) + 1 from rfl, be_snoc, be_split (n / 256) j k, be_snoc n k, Nat.div_div_eq_div_mul, Nat.pow_succ, Nat.mul_comm (256 ^ k), List.append_assoc]
end Go.Vm
namespace Go.Vm.Code
open Go Go.Vm
def putS (n k : Int) : List UInt8 := if 1 ≤ k ∧ k ≤ 8 then be n.toNat k.toNat else []
theorem octet_Put_eq {n k : Int} (h0 : 0 ≤ n) : octet_Put n k = some (putS n k) := by
  unfold octet_Put octet_PutF putS
  by_cases h1 : k < 1
  · rw [cond_p h1, if_neg (by omega)]
  by_cases h2 : k > 8
  · rw [cond_n h1, cond_p h2, if_neg (by omega)]
  rw [cond_n h1, cond_n h2, oreq_p (by omega), if_pos (by omega)]
  obtain ⟨m, rfl⟩ := Int.eq_ofNat_of_zero_le h0
  obtain ⟨j, rfl⟩ := Int.eq_ofNat_of_zero_le (show 0 ≤ k by omega)
  have key := iter_eq (step := fun (st : Int × List Int) => octet_Put_s1 (m : Int) (j : Int) st.1 st.2) (fun st => iB (st.2.take st.1.toNat) ++ be m (j - st.1.toNat)) (fun st => 0 ≤ st.1 ∧ st.1 ≤ j ∧ st.2.length = j) (fun st => (j - st.1).toNat) ?_ FUEL (0, List.replicate (j : Int).toNat 0) ⟨by simp, by simp, by simp⟩ (by rw [FUEL_eq]; simp only; omega)
  · rw [key]; simp [iB]
  rintro ⟨p, b⟩ ⟨g1, g2, g3⟩
  simp only at g1 g2 g3 ⊢
  obtain ⟨i, rfl⟩ := Int.eq_ofNat_of_zero_le g1
  unfold octet_Put_s1
  by_cases hp : i < j
  · refine .inr ⟨(((i + 1 : Nat) : Int), b.set i ((m / 256 ^ (j - 1 - i) % 256 : Nat) : Int)), ?_, ⟨by simp only; omega, by simp only; omega, by simp [g3]⟩, by simp only; omega, ?_⟩
    · simp (disch := omega) only [wI64, oreq_p, cond_p, Int.toNat_natCast]
      have e1 : min (8 * ((j : Int) - 1 - i)).toNat 64 = 8 * (j - 1 - i) := by omega
      have e0 : (2 : Int) ^ (8 * (j - 1 - i)) = ((256 ^ (j - 1 - i) : Nat) : Int) := by rw [show (256 : Nat) = 2 ^ 8 from rfl, ← Nat.pow_mul]; push_cast; rfl
      rw [e1, fdivP, wU8m, e0]
      rfl
    · simp only [Int.toNat_natCast]
      have e2 : j - i = (j - (i + 1)) + 1 := by omega
      have e3 : j - (i + 1) = j - 1 - i := by omega
      have e4 : (b.set i ((m / 256 ^ (j - 1 - i) % 256 : Nat) : Int)).take (i + 1) = b.take i ++ [((m / 256 ^ (j - 1 - i) % 256 : Nat) : Int)] := by
        rw [List.take_succ_eq_append_getElem (by simp; omega), List.take_set_of_le (Nat.le_refl _), List.getElem_set_self]
      rw [e2, e4, be, e3]
      simp only [iB, List.map_append, List.map_cons, List.map_nil, List.append_assoc, List.cons_append, List.nil_append, Int.toNat_natCast]
      congr 2
      apply UInt8.toNat_inj.1
      simp
  · refine .inl ?_
    obtain rfl : i = j := by omega
    simp (disch := omega) only [cond_n, oreq_p, Int.toNat_natCast]
    simp [be]
theorem R02_Put_eq {n k : Int} (h0 : 0 ≤ n) (h1 : n < 2 ^ 64) : R02_Put n k = some (putS n k) := by
  unfold R02_Put R02_PutF putS
  obtain ⟨m, rfl⟩ := Int.eq_ofNat_of_zero_le h0
  by_cases hk : 1 ≤ k ∧ k ≤ 8
  · rw [if_pos hk]
    obtain ⟨j, rfl⟩ := Int.eq_ofNat_of_zero_le (show 0 ≤ k by omega)
    have key := iter_eq (step := fun st => R02_Put_s1 (j : Int) st.1 st.2.1 st.2.2) (fun st => be st.1.toNat (j - st.2.2.toNat) ++ st.2.1) (fun st => 0 ≤ st.1 ∧ st.1 < 2 ^ 64 ∧ 0 ≤ st.2.2 ∧ st.2.2 ≤ j ∧ st.2.1.length < 2 ^ 20 + st.2.2.toNat) (fun st => (j - st.2.2).toNat) ?_ FUEL ((m : Int), [], 0) ⟨by simp, by simp only; omega, by simp, by simp, by simp⟩ (by rw [FUEL_eq]; simp only; omega)
    · rw [key]; simp
    rintro ⟨n, s, p⟩ ⟨g1, g2, g3, g4, g5⟩
    simp only at g1 g2 g3 g4 g5 ⊢
    obtain ⟨i, rfl⟩ := Int.eq_ofNat_of_zero_le g3
    obtain ⟨x, rfl⟩ := Int.eq_ofNat_of_zero_le g1
    unfold R02_Put_s1
    by_cases hp : i < j
    · refine .inr ⟨(((x / 256 : Nat) : Int), UInt8.ofNat x :: s, ((i + 1 : Nat) : Int)), ?_, ⟨by simp only; omega, by simp only; omega, by simp only; omega, by simp only; omega, by simp at g5 ⊢; omega⟩, by simp only; omega, ?_⟩
      · have e1 : (x : Int).tmod 256 = ((x % 256 : Nat) : Int) := by rw [Int.tmod_eq_emod_of_nonneg (by omega)]; rfl
        have e2 : (x : Int).tdiv 256 = ((x / 256 : Nat) : Int) := by rw [Int.tdiv_eq_ediv_of_nonneg (by omega)]; rfl
        rw [cond_p (by omega), cond_p (by omega), e1, e2, wU8 (by omega) (by omega)]
        simp only [List.length_cons, List.length_nil]
        rw [oreq_p (by omega), wU64 (by omega) (by omega), wI64 (by omega) (by omega), Int.toNat_natCast]
        have e3 : UInt8.ofNat (x % 256) = UInt8.ofNat x := by apply UInt8.toNat_inj.1; simp
        rw [e3]; rfl
      · simp only [Int.toNat_natCast]
        have e2 : j - i = (j - (i + 1)) + 1 := by omega
        rw [e2, be_snoc]; simp
    · refine .inl ?_
      obtain rfl : i = j := by omega
      rw [cond_n (by omega)]
      simp [be]
  · rw [if_neg hk]
    show iter _ (18446744073709551615 + 1) _ = _
    rw [iter]
    have : R02_Put_s1 k (m : Int) [] 0 = some (.inr []) := by
      unfold R02_Put_s1
      by_cases h2 : 0 < k
      · rw [cond_p h2, cond_n (by omega)]
      · rw [cond_n h2]
    simp only [this]
def getS (s : List UInt8) (p k : Int) : Int × Bool := if 1 ≤ k ∧ k ≤ 8 ∧ 0 ≤ p ∧ p + k ≤ s.length then (((valL ((s.drop p.toNat).take k.toNat) : Nat) : Int), true) else (0, false)
theorem pow_step {v i : Nat} (h : v < 256 ^ i) (hi : i ≤ 7) : v < 2 ^ 56 := Nat.lt_of_lt_of_le h (by
  have : (256 : Nat) ^ i ≤ 256 ^ 7 := Nat.pow_le_pow_right (by decide) hi
  simpa using this)
theorem octet_Get_eq {s : List UInt8} {p k : Int} (hs : s.length < 2 ^ 61) : octet_Get s p k = some (getS s p k) := by
  unfold octet_Get octet_GetF getS
  by_cases h1 : k < 1
  · rw [cond_p h1, if_neg (by omega)]
  by_cases h2 : k > 8
  · rw [cond_n h1, cond_p h2, if_neg (by omega)]
  by_cases h3 : p < 0
  · rw [cond_n h1, cond_n h2, cond_p h3, if_neg (by omega)]
  rw [cond_n h1, cond_n h2, cond_n h3, wI64 (n := (s.length : Int) - k) (by omega) (by omega)]
  by_cases h4 : (s.length : Int) - k < p
  · simp only []
    rw [cond_p h4, if_neg (by omega)]
  simp only []
  rw [cond_n h4, wI64 (n := p + k) (by omega) (by omega), oreq_p (by omega), if_pos (by omega)]
  obtain ⟨q, rfl⟩ := Int.eq_ofNat_of_zero_le (show 0 ≤ p by omega)
  obtain ⟨j, rfl⟩ := Int.eq_ofNat_of_zero_le (show 0 ≤ k by omega)
  have e : ((q : Int) + j).toNat - (q : Int).toNat = j := by omega
  rw [e]
  simp only [Int.toNat_natCast]
  generalize ht : (s.drop q).take j = t
  have hl : t.length = j := by rw [← ht]; simp; omega
  have key := iter_eq (step := fun st => octet_Get_s1 t st.1 st.2) (fun st => (((st.1.toNat * 256 ^ (j - st.2.toNat) + valL (t.drop st.2.toNat) : Nat) : Int), true)) (fun st => 0 ≤ st.1 ∧ 0 ≤ st.2 ∧ st.2 ≤ j ∧ st.1.toNat < 256 ^ st.2.toNat) (fun st => (j - st.2).toNat) ?_ FUEL (0, 0) ⟨by simp, by simp, by simp, by simp⟩ (by rw [FUEL_eq]; simp only; omega)
  · rw [key]; simp
  rintro ⟨n, x⟩ ⟨g1, g2, g3, g4⟩
  simp only at g1 g2 g3 g4 ⊢
  obtain ⟨i, rfl⟩ := Int.eq_ofNat_of_zero_le g2
  obtain ⟨v, rfl⟩ := Int.eq_ofNat_of_zero_le g1
  simp only [Int.toNat_natCast] at g4 ⊢
  unfold octet_Get_s1
  by_cases hp : i < j
  · have hlt : i < t.length := by omega
    have hb := t[i].toNat_lt
    have hv := pow_step g4 (by omega)
    refine .inr ⟨(((v * 256 + t[i].toNat : Nat) : Int), ((i + 1 : Nat) : Int)), ?_, ⟨by simp only; omega, by simp only; omega, by simp only; omega, ?_⟩, by simp only; omega, ?_⟩
    · rw [cond_p (by omega), oreq_p (by omega)]
      have e1 : (bI t)[(i : Int).toNat]? = some (t[i].toNat : Int) := by simp [bI, hlt]
      rw [e1, Option.bind_some]
      have e2 : iorI .u64 (wI .u64 ((v : Int) * 2 ^ 8)) (wI .u64 (t[i].toNat : Int)) = ((v * 256 + t[i].toNat : Nat) : Int) := by
        rw [wU64 (by omega) (by omega), wU64 (by omega) (by omega), iorU64_low 8 (by omega) (by omega) (by omega) (by omega) (by omega)]; omega
      simp only [e2]
      rw [wI64 (by omega) (by omega)]; rfl
    · simp only [Int.toNat_natCast]
      rw [Nat.pow_succ]; omega
    · simp only [Int.toNat_natCast]
      rw [List.drop_eq_getElem_cons hlt, val_cons]
      have e3 : (t.drop (i + 1)).length = j - (i + 1) := by simp; omega
      have e4 : j - i = (j - (i + 1)) + 1 := by omega
      rw [e3, e4, Nat.pow_succ, Nat.add_mul, Nat.mul_assoc, Nat.mul_comm 256, Nat.add_assoc]
  · refine .inl ?_
    obtain rfl : i = j := by omega
    rw [cond_n (by omega)]
    simp [← hl]
theorem R02_Get_eq {s : List UInt8} {p k : Int} (hs : s.length < 2 ^ 61) : R02_Get s p k = some (getS s p k) := by
  unfold R02_Get R02_GetF getS
  by_cases h1 : k < 1
  · rw [cond_p h1, if_neg (by omega)]
  by_cases h2 : k > 8
  · rw [cond_n h1, cond_p h2, if_neg (by omega)]
  by_cases h3 : p < 0
  · rw [cond_n h1, cond_n h2, cond_p h3, if_neg (by omega)]
  by_cases h5 : p > s.length
  · rw [cond_n h1, cond_n h2, cond_n h3, cond_p h5, if_neg (by omega)]
  rw [cond_n h1, cond_n h2, cond_n h3, cond_n h5, wI64 (n := (s.length : Int) - p) (by omega) (by omega)]
  by_cases h4 : k > (s.length : Int) - p
  · simp only []
    rw [cond_p h4, if_neg (by omega)]
  simp only []
  rw [cond_n h4, if_pos (by omega)]
  obtain ⟨q, rfl⟩ := Int.eq_ofNat_of_zero_le (show 0 ≤ p by omega)
  obtain ⟨j, rfl⟩ := Int.eq_ofNat_of_zero_le (show 0 ≤ k by omega)
  simp only [Int.toNat_natCast]
  generalize ht : (s.drop q).take j = t
  have hl : t.length = j := by rw [← ht]; simp; omega
  have key := iter_eq (step := fun st => R02_Get_s1 s (q : Int) (j : Int) st.1 st.2) (fun st => (((st.1.toNat * 256 ^ (j - st.2.toNat) + valL (t.drop st.2.toNat) : Nat) : Int), true)) (fun st => 0 ≤ st.1 ∧ 0 ≤ st.2 ∧ st.2 ≤ j ∧ st.1.toNat < 256 ^ st.2.toNat) (fun st => (j - st.2).toNat) ?_ FUEL (0, 0) ⟨by simp, by simp, by simp, by simp⟩ (by rw [FUEL_eq]; simp only; omega)
  · rw [key]; simp
  rintro ⟨n, x⟩ ⟨g1, g2, g3, g4⟩
  simp only at g1 g2 g3 g4 ⊢
  obtain ⟨i, rfl⟩ := Int.eq_ofNat_of_zero_le g2
  obtain ⟨v, rfl⟩ := Int.eq_ofNat_of_zero_le g1
  simp only [Int.toNat_natCast] at g4 ⊢
  unfold R02_Get_s1
  by_cases hp : i < j
  · have hlt : i < t.length := by omega
    have hb := t[i].toNat_lt
    have hv := pow_step g4 (by omega)
    refine .inr ⟨(((v * 256 + t[i].toNat : Nat) : Int), ((i + 1 : Nat) : Int)), ?_, ⟨by simp only; omega, by simp only; omega, by simp only; omega, ?_⟩, by simp only; omega, ?_⟩
    · rw [cond_p (by omega), wI64 (n := (q : Int) + i) (by omega) (by omega), oreq_p (by omega)]
      have e0 : ((q : Int) + i).toNat = q + i := by omega
      have e1 : s[q + i]? = some t[i] := by
        subst ht
        rw [List.getElem?_eq_getElem (by omega)]
        simp
      rw [e0, e1, Option.bind_some]
      have e2 : wI .u64 ((wI .u64 ((v : Int) * 256)) + (wI .u64 (t[i].toNat : Int))) = ((v * 256 + t[i].toNat : Nat) : Int) := by
        rw [wU64 (n := (v : Int) * 256) (by omega) (by omega), wU64 (n := (t[i].toNat : Int)) (by omega) (by omega), wU64 (by omega) (by omega)]; omega
      simp only [e2]
      rw [wI64 (by omega) (by omega)]; rfl
    · simp only [Int.toNat_natCast]
      rw [Nat.pow_succ]; omega
    · simp only [Int.toNat_natCast]
      rw [List.drop_eq_getElem_cons hlt, val_cons]
      have e3 : (t.drop (i + 1)).length = j - (i + 1) := by simp; omega
      have e4 : j - i = (j - (i + 1)) + 1 := by omega
      rw [e3, e4, Nat.pow_succ, Nat.add_mul, Nat.mul_assoc, Nat.mul_comm 256, Nat.add_assoc]
  · refine .inl ?_
    obtain rfl : i = j := by omega
    rw [cond_n (by omega)]
    simp [← hl]
theorem R02_Must_eq {s : List UInt8} {p k : Int} (hs : s.length < 2 ^ 61) : R02_Must s p k = some (wI .i64 (getS s p k).1) := by
  unfold R02_Must R02_MustF
  rw [R02_Get_eq hs]; rfl
theorem getS_two {s : List UInt8} {i : Nat} (h : i + 1 < s.length) : getS s (i : Int) 2 = (((s[i].toNat * 256 + s[i + 1].toNat : Nat) : Int), true) := by
  unfold getS
  rw [if_pos (by omega)]
  have e : (s.drop (i : Int).toNat).take (2 : Int).toNat = [s[i], s[i + 1]] := by
    show (s.drop i).take 2 = _
    rw [List.drop_eq_getElem_cons (by omega : i < s.length), List.drop_eq_getElem_cons h]; rfl
  rw [e]; simp [val_cons]
def wordsL : List UInt8 → List Int
  | [] => []
  | [b] => [((b.toNat * 256 : Nat) : Int)]
  | b :: c :: l => ((b.toNat * 256 + c.toNat : Nat) : Int) :: wordsL l
theorem wordsL_two {s : List UInt8} {i : Nat} (h : i + 1 < s.length) : wordsL (s.drop i) = ((s[i].toNat * 256 + s[i + 1].toNat : Nat) : Int) :: wordsL (s.drop (i + 2)) := by
  rw [List.drop_eq_getElem_cons (by omega : i < s.length), List.drop_eq_getElem_cons h]; rfl
theorem wordsL_pad : ∀ s : List UInt8, s.length % 2 = 1 → wordsL (s ++ [0]) = wordsL s
  | [], h => by simp at h
  | [b], _ => by
    show [((b.toNat * 256 + 0 : Nat) : Int)] = [((b.toNat * 256 : Nat) : Int)]
    rw [Nat.add_zero]
  | b :: c :: l, h => by
    have := wordsL_pad l (by simp at h; omega)
    simp only [List.cons_append, wordsL, this]
theorem wordsL_sum : ∀ s : List UInt8, (wordsL s).sum = (wsum s : Int)
  | [] => rfl
  | [b] => by simp only [wordsL, wsum, List.sum_cons, List.sum_nil, Int.add_zero]
  | b :: c :: l => by
    have := wordsL_sum l
    simp only [wordsL, wsum, List.sum_cons, this]; omega
theorem wordsL_rng : ∀ s : List UInt8, ∀ e ∈ wordsL s, 0 ≤ e ∧ e ≤ 65535
  | [], e, h => by simp [wordsL] at h
  | [b], e, h => by simp [wordsL] at h; have := b.toNat_lt; omega
  | b :: c :: l, e, h => by
    simp only [wordsL, List.mem_cons] at h
    rcases h with rfl | h
    · have := b.toNat_lt; have := c.toNat_lt; omega
    · exact wordsL_rng l e h
theorem wordsL_len : ∀ s : List UInt8, (wordsL s).length = (s.length + 1) / 2
  | [] => rfl
  | [b] => by simp [wordsL]
  | b :: c :: l => by
    have := wordsL_len l
    simp only [wordsL, List.length_cons, this]; omega
theorem R03_Words_loop {s : List UInt8} (h : s.length < 2 ^ 40) (he : s.length % 2 = 0) : iter (fun (st : List UInt8 × Int × List Int) => R03_Words_s1 R02_Must st.1 st.2.1 st.2.2) FUEL (s, 0, []) = some (wordsL s) := by
  have key := iter_eq (step := fun (st : List UInt8 × Int × List Int) => R03_Words_s1 R02_Must st.1 st.2.1 st.2.2) (fun st => st.2.2 ++ wordsL (s.drop st.2.1.toNat)) (fun st => st.1 = s ∧ ∃ i : Nat, st.2.1 = i ∧ i % 2 = 0 ∧ i ≤ s.length ∧ st.2.2.length ≤ i) (fun st => (s.length - st.2.1).toNat) ?_ FUEL (s, 0, []) ⟨rfl, 0, rfl, by omega, by omega, by simp⟩ (by rw [FUEL_eq]; simp only; omega)
  · rw [key]; simp
  rintro ⟨s1, p, out⟩ ⟨h1, i, h2, h3, h4, h5⟩
  simp only at h1 h2 h5 ⊢
  subst h1 h2
  unfold R03_Words_s1
  by_cases hi : i < s1.length
  · have hi2 : i + 1 < s1.length := by omega
    refine .inr ⟨(s1, ((i + 2 : Nat) : Int), out ++ [((s1[i].toNat * 256 + s1[i + 1].toNat : Nat) : Int)]), ?_, ⟨rfl, i + 2, rfl, by omega, by omega, by simp; omega⟩, by simp only; omega, ?_⟩
    · have b1 := s1[i].toNat_lt
      have b2 := s1[i + 1].toNat_lt
      rw [cond_p (by omega), R02_Must_eq (by omega), getS_two hi2, Option.bind_some, oreq_p (by omega), wI64 (by omega) (by omega), wI64 (by omega) (by omega)]; rfl
    · simp only [Int.toNat_natCast]
      rw [wordsL_two hi2]; simp
  · refine .inl ?_
    rw [cond_n (by omega)]
    simp [List.drop_eq_nil_of_le (by omega : s1.length ≤ i), wordsL]
theorem R03_Words_eq {s : List UInt8} (h : s.length < 2 ^ 39) : R03_Words s = some (wordsL s) := by
  unfold R03_Words R03_WordsF
  have ea : ((s.length : Int).tmod 2 == 1) = decide (s.length % 2 = 1) := by
    rw [Int.tmod_eq_emod_of_nonneg (by omega), Bool.eq_iff_iff, beq_iff_eq, decide_eq_true_eq]; omega
  rw [ea]
  by_cases h2 : s.length % 2 = 1
  · rw [cond_p h2, oreq_p (by omega), R03_Words_loop (by simp only [List.length_append, List.length_cons, List.length_nil]; omega) (by simp only [List.length_append, List.length_cons, List.length_nil]; omega), wordsL_pad s h2]
  · rw [cond_n h2, R03_Words_loop (by omega) (by omega)]
theorem R03_Add1_eq {l : List Int} {n : Int} (h0 : 0 ≤ n) (h1 : n < 2 ^ 62) : iter (fun st => R03_Add_s1 l st) FUEL n = some ((norm n.toNat : Nat) : Int) := by
  refine iter_eq (fun n => ((norm n.toNat : Nat) : Int)) (fun n => 0 ≤ n ∧ n < 2 ^ 62) (fun n => n.toNat) ?_ FUEL _ ⟨h0, h1⟩ (by rw [FUEL_eq]; omega)
  intro s ⟨a, b⟩
  unfold R03_Add_s1
  by_cases hs : s > 65535
  · refine .inr ⟨s % 65536 + s / 65536, ?_, ⟨by omega, by omega⟩, by omega, ?_⟩
    · rw [cond_p hs, Int.tdiv_eq_ediv_of_nonneg a, Int.tmod_eq_emod_of_nonneg a, wI64 (n := s / 65536) (by omega) (by omega), wI64 (by omega) (by omega)]
    · have : norm (s % 65536 + s / 65536).toNat = norm s.toNat :=
        (norm_eq (norm_le _) (by have := norm_mod (s % 65536 + s / 65536).toNat; omega) (by have := norm_zero (s % 65536 + s / 65536).toNat; omega)).symm
      rw [this]
  · refine .inl ?_
    rw [cond_n hs]
    have := norm_same (n := s.toNat) (by omega)
    simp only [this]
    rw [Int.toNat_of_nonneg a]
theorem sum_nonneg : ∀ {l : List Int}, (∀ e ∈ l, 0 ≤ e ∧ e ≤ 65535) → 0 ≤ l.sum
  | [], _ => by simp
  | x :: l, h => by
    have h1 := h x (by simp)
    have h2 := sum_nonneg (l := l) fun e he => h e (by simp [he])
    simp only [List.sum_cons]; omega
theorem R03_Add_eq {l : List Int} (hl : l.length < 2 ^ 40) (hr : ∀ e ∈ l, 0 ≤ e ∧ e ≤ 65535) : R03_Add l = some ((norm l.sum.toNat : Nat) : Int) := by
  unfold R03_Add R03_AddF
  have key := iter_eq (step := fun (st : Int × Int) => R03_Add_s2 l st.1 st.2) (fun st => ((norm (st.1 + (l.drop st.2.toNat).sum).toNat : Nat) : Int)) (fun st => 0 ≤ st.1 ∧ 0 ≤ st.2 ∧ st.2 ≤ l.length ∧ st.1 ≤ st.2 * 65535) (fun st => (l.length - st.2).toNat) ?_ FUEL (0, 0) ⟨by simp, by simp, by simp, by simp⟩ (by rw [FUEL_eq]; simp only; omega)
  · rw [key]; simp
  rintro ⟨n, p⟩ ⟨g1, g2, g3, g4⟩
  simp only at g1 g2 g3 g4 ⊢
  obtain ⟨i, rfl⟩ := Int.eq_ofNat_of_zero_le g2
  simp only [Int.toNat_natCast]
  unfold R03_Add_s2
  by_cases hi : i < l.length
  · have hx := hr l[i] (List.getElem_mem hi)
    refine .inr ⟨(n + l[i], ((i + 1 : Nat) : Int)), ?_, ⟨by simp only; omega, by simp only; omega, by simp only; omega, by simp only; omega⟩, by simp only; omega, ?_⟩
    · simp (disch := omega) only [cond_p, oreq_p, Int.toNat_natCast, List.getElem?_eq_getElem, Option.bind_some, wI64]; rfl
    · simp only [Int.toNat_natCast]
      rw [List.drop_eq_getElem_cons hi, List.sum_cons, Int.add_assoc]
  · refine .inl ?_
    rw [cond_n (by omega), R03_Add1_eq g1 (by omega), List.drop_eq_nil_of_le (by omega)]
    simp
theorem R03_Sum_eq {s : List UInt8} (h : s.length < 2 ^ 39) : R03_Sum s = some ((norm (wsum s) : Nat) : Int) := by
  unfold R03_Sum R03_SumF
  rw [R03_Words_eq h, Option.bind_some, R03_Add_eq (by rw [wordsL_len]; omega) (wordsL_rng s), wordsL_sum]; rfl
def setS (s : List UInt8) (p k n : Int) : List UInt8 := if 1 ≤ k ∧ k ≤ 8 ∧ 0 ≤ p ∧ p + k ≤ s.length then s.take p.toNat ++ be n.toNat k.toNat ++ s.drop (p + k).toNat else s
theorem Set_eq {s : List UInt8} {p k n : Int} (hs : s.length < 2 ^ 40) (hn : 0 ≤ n) : check_Set s p k n = some (setS s p k n) := by
  unfold check_Set check_SetF setS
  rw [octet_Put_eq hn, Option.bind_some]
  unfold putS
  by_cases hk : 1 ≤ k ∧ k ≤ 8
  · rw [if_pos hk]
    have e : (be n.toNat k.toNat == []) = false := by
      rw [beq_eq_false_iff_ne]; intro h; have := congrArg List.length h; simp at this; omega
    rw [e, cond_false]
    by_cases h1 : p < 0
    · rw [cond_p h1, if_neg (by omega)]
    rw [cond_n h1, wI64 (n := (s.length : Int) - k) (by omega) (by omega)]
    by_cases h2 : (s.length : Int) - k < p
    · simp only []
      rw [cond_p h2, if_neg (by omega)]
    simp only []
    have e1 : (p + k).toNat = p.toNat + k.toNat := by omega
    have e2 : ((s.drop (p + k).toNat).take (s.length - (p + k).toNat)) = s.drop (p + k).toNat := List.take_of_length_le (by simp)
    rw [cond_n h2, oreq_p (by omega), wI64 (n := p + k) (by omega) (by omega), e2, oreq_p (by simp; omega), oreq_p (by omega), oreq_p (by simp; omega), if_pos (by omega)]
  · rw [if_neg hk, if_neg (by omega)]; rfl
theorem R03_Set_eq {s : List UInt8} {p k n : Int} (hs : s.length < 2 ^ 40) (hn : 0 ≤ n) (hn2 : n < 2 ^ 64) : R03_Set s p k n = some (setS s p k n) := by
  unfold R03_Set R03_SetF setS
  rw [R02_Get_eq (by omega), Option.bind_some]
  unfold getS
  by_cases hc : 1 ≤ k ∧ k ≤ 8 ∧ 0 ≤ p ∧ p + k ≤ s.length
  · rw [if_pos hc, if_pos hc]
    have e2 : ((s.drop (p + k).toNat).take (s.length - (p + k).toNat)) = s.drop (p + k).toNat := List.take_of_length_le (by simp)
    simp only [Bool.not_true, cond_false]
    rw [R02_Put_eq hn hn2, Option.bind_some, oreq_p (by omega), wI64 (n := p + k) (by omega) (by omega), e2]
    unfold putS
    rw [if_pos (by omega), oreq_p (by simp; omega), oreq_p (by omega), oreq_p (by simp; omega)]
  · rw [if_neg hc, if_neg hc]; rfl
theorem Of_eq {s : List UInt8} (h : s.length < 2 ^ 39) : check_Of s = some (65535 - ((norm (wsum s) : Nat) : Int)) := by
  unfold check_Of check_OfF
  have := norm_le (wsum s)
  rw [sum_eq s (by omega), Option.bind_some, wI64 (by omega) (by omega)]
theorem R03_Of_eq {s : List UInt8} (h : s.length < 2 ^ 39) : R03_Of s = some (65535 - ((norm (wsum s) : Nat) : Int)) := by
  unfold R03_Of R03_OfF
  have := norm_le (wsum s)
  rw [R03_Sum_eq h, Option.bind_some, wI64 (by omega) (by omega)]
theorem Right_eq {s : List UInt8} (h : s.length < 2 ^ 39) : check_Right s = some (((norm (wsum s) : Nat) : Int) == 65535) := by
  unfold check_Right check_RightF
  rw [sum_eq s (by omega), Option.bind_some]
def A4 (a : api_Addr) : Prop := 0 ≤ a.Hi ∧ a.Hi < 2 ^ 64 ∧ 0 ≤ a.Lo ∧ a.Lo < 2 ^ 64
def aok (a : api_Addr) : Bool := a.V6 || (a.Hi == 0 && decide (a.Lo < 4294967296))
theorem aRight_eq (a : api_Addr) : addr_Right a = some (aok a) := by
  unfold addr_Right addr_RightF aok
  cases a.V6
  · cases (a.Hi == 0) <;> rfl
  · rfl
theorem a4Right_eq (a : api_Addr) : R04_Right a = some (aok a) := by
  unfold R04_Right R04_RightF aok
  cases a.V6
  · cases (a.Hi == 0) <;> rfl
  · rfl
def abytes (a : api_Addr) : List UInt8 := cond a.V6 (be a.Hi.toNat 8 ++ be a.Lo.toNat 8) (be a.Lo.toNat 4)
theorem abytes_len (a : api_Addr) : (abytes a).length = cond a.V6 16 4 := by unfold abytes; cases a.V6 <;> simp
theorem putS_be {n : Int} {k : Nat} (h : 1 ≤ k ∧ k ≤ 8) : putS n (k : Int) = be n.toNat k := by unfold putS; rw [if_pos (by omega)]; rfl
theorem aPut_eq {a : api_Addr} (h : A4 a) (hr : aok a = true) : addr_Put a = some (abytes a) := by
  obtain ⟨h1, h2, h3, h4⟩ := h
  unfold addr_Put addr_PutF abytes
  rw [aRight_eq, Option.bind_some, hr]
  simp only [Bool.not_true, cond_false]
  cases a.V6
  · simp only [cond_false]
    rw [octet_Put_eq h3, Option.bind_some, show (4 : Int) = ((4 : Nat) : Int) from rfl, putS_be (by omega)]
  · simp only [cond_true]
    rw [octet_Put_eq h1, Option.bind_some, octet_Put_eq h3, Option.bind_some, show (8 : Int) = ((8 : Nat) : Int) from rfl, putS_be (by omega), putS_be (by omega), oreq_p (by simp)]
theorem a4Put_eq {a : api_Addr} (h : A4 a) (hr : aok a = true) : R04_Put a = some (abytes a) := by
  obtain ⟨h1, h2, h3, h4⟩ := h
  unfold R04_Put R04_PutF abytes
  rw [a4Right_eq, Option.bind_some, hr]
  simp only [Bool.not_true, cond_false]
  cases a.V6
  · simp only [cond_false]
    rw [R02_Put_eq h3 h4, Option.bind_some, show (4 : Int) = ((4 : Nat) : Int) from rfl, putS_be (by omega)]
  · simp only [cond_true]
    rw [R02_Put_eq h1 h2, Option.bind_some, R02_Put_eq h3 h4, Option.bind_some, show (8 : Int) = ((8 : Nat) : Int) from rfl, putS_be (by omega), putS_be (by omega), oreq_p (by simp)]
theorem num5_eq {n k : Int} (h0 : 0 ≤ n) (h1 : n < 2 ^ 63) : R05_num n k = some (putS n k) := by
  unfold R05_num R05_numF
  rw [wU64 h0 (by omega), R02_Put_eq h0 (by omega)]; rfl
theorem putS_len (n k : Int) : (putS n k).length ≤ 8 := by unfold putS; split <;> simp <;> omega
theorem iB_bI (s : List UInt8) : iB (bI s) = s := by simp [iB, bI, List.map_map, Function.comp_def]
theorem iB_app (a b : List Int) : iB (a ++ b) = iB a ++ iB b := by simp [iB]
theorem bI_app (a b : List UInt8) : bI (a ++ b) = bI a ++ bI b := by simp [bI]
theorem iter_inl {σ ρ : Type} {f : σ → Option (Sum σ ρ)} {n : Nat} {s s' : σ} (h : f s = some (.inl s')) : iter f (n + 1) s = iter f n s' := by rw [iter, h]
theorem iter_inr {σ ρ : Type} {f : σ → Option (Sum σ ρ)} {n : Nat} {s : σ} {r : ρ} (h : f s = some (.inr r)) : iter f (n + 1) s = some r := by rw [iter, h]
theorem FUEL_succ : ∃ n, FUEL = n + 8 := ⟨18446744073709551608, rfl⟩
theorem row_eq {a b c d e f : Int} (ha : 0 ≤ a) (hc : 0 ≤ c) (he : 0 ≤ e) (ha1 : a < 2 ^ 63) (hc1 : c < 2 ^ 63) (he1 : e < 2 ^ 63) : ipfour_row [a, b, c, d, e, f] = some (putS a b ++ putS c d ++ putS e f) := by
  have l1 := putS_len a b
  have l2 := putS_len c d
  have l3 := putS_len e f
  unfold ipfour_row ipfour_rowF
  rw [cond_p (by simp), oreq_p (by simp)]
  show ((some a).bind _) = _
  rw [Option.bind_some, oreq_p (by simp)]
  show ((some b).bind _) = _
  rw [Option.bind_some, wU64 ha (by omega), octet_Put_eq ha, Option.bind_some, oreq_p (by omega)]
  obtain ⟨n, hn⟩ := FUEL_succ
  rw [hn]
  have s1 : ipfour_row_s1 octet_Put [a, b, c, d, e, f] 2 (bI (putS a b)) = some (.inl (4, bI (putS a b ++ putS c d))) := by
    unfold ipfour_row_s1
    simp only []
    rw [cond_p (by rw [show wI .i64 (2 + 1) = 3 from rfl]; simp), oreq_p (by simp)]
    show ((some c).bind _) = _
    rw [Option.bind_some, oreq_p (by rw [show wI .i64 (2 + 1) = 3 from rfl]; simp)]
    show ((some d).bind _) = _
    rw [Option.bind_some, wU64 hc (by omega), octet_Put_eq hc, Option.bind_some, oreq_p (by simp; omega), bI_app]; rfl
  have s2 : ipfour_row_s1 octet_Put [a, b, c, d, e, f] 4 (bI (putS a b ++ putS c d)) = some (.inl (6, bI (putS a b ++ putS c d ++ putS e f))) := by
    unfold ipfour_row_s1
    simp only []
    rw [cond_p (by rw [show wI .i64 (4 + 1) = 5 from rfl]; simp), oreq_p (by simp)]
    show ((some e).bind _) = _
    rw [Option.bind_some, oreq_p (by rw [show wI .i64 (4 + 1) = 5 from rfl]; simp)]
    show ((some f).bind _) = _
    rw [Option.bind_some, wU64 he (by omega), octet_Put_eq he, Option.bind_some, oreq_p (by simp; omega), bI_app (putS a b ++ putS c d)]; rfl
  have s3 : ipfour_row_s1 octet_Put [a, b, c, d, e, f] 6 (bI (putS a b ++ putS c d ++ putS e f)) = some (.inr (putS a b ++ putS c d ++ putS e f)) := by
    unfold ipfour_row_s1
    simp only []
    rw [cond_n (by rw [show wI .i64 (6 + 1) = 7 from rfl]; simp), oreq_p (by simp; omega), iB_bI]
  rw [iter_inl (f := fun (st : Int × List Int) => ipfour_row_s1 octet_Put [a, b, c, d, e, f] st.1 st.2) (n := n + 7) s1, iter_inl (n := n + 6) s2, iter_inr (n := n + 5) s3]
def pseu (src dst : api_Addr) (p n : Int) : List UInt8 :=
  if aok src = true ∧ aok dst = true ∧ src.V6 = dst.V6 then abytes src ++ abytes dst ++ cond src.V6 (putS n 4 ++ putS 0 3 ++ putS p 1) (putS 0 1 ++ putS p 1 ++ putS n 2) else []
theorem pseu_len (src dst : api_Addr) (p n : Int) : (pseu src dst p n).length ≤ 56 := by
  have l1 := putS_len n 4
  have l2 := putS_len 0 3
  have l3 := putS_len p 1
  have l4 := putS_len 0 1
  have l5 := putS_len n 2
  unfold pseu
  split
  · rw [List.length_append, List.length_append, abytes_len, abytes_len]
    cases src.V6 <;> cases dst.V6 <;> simp <;> omega
  · simp
theorem pseudo_eq {src dst : api_Addr} {p n : Int} (h1 : A4 src) (h2 : A4 dst) (hp : 0 ≤ p ∧ p < 2 ^ 63) (hn : 0 ≤ n ∧ n < 2 ^ 63) : ipfour_Pseudo src dst p n = some (pseu src dst p n) := by
  unfold ipfour_Pseudo ipfour_PseudoF pseu
  rw [aRight_eq, aRight_eq, Option.bind_some]
  cases e1 : aok src
  · simp
  simp only [Bool.not_true, cond_false, Option.bind_some]
  cases e2 : aok dst
  · simp
  simp only [Bool.not_true, cond_false]
  by_cases e3 : src.V6 = dst.V6
  · rw [if_pos (by simpa using e3), show (src.V6 == dst.V6) = true by simpa using e3]
    simp only [Bool.not_true, cond_false]
    have l1 := abytes_len src
    have l2 := abytes_len dst
    rw [aPut_eq h1 e1, Option.bind_some, aPut_eq h2 e2, Option.bind_some, oreq_p (by rw [l1, l2]; cases src.V6 <;> cases dst.V6 <;> decide)]
    rw [row_eq hn.1 (by omega) hp.1 hn.2 (by omega) hp.2, row_eq (by omega) hp.1 hn.1 (by omega) hp.2 hn.2]
    have m1 := putS_len n 4
    have m2 := putS_len 0 3
    have m3 := putS_len p 1
    have m4 := putS_len 0 1
    have m5 := putS_len n 2
    have b1 : (abytes src).length ≤ 16 := by rw [l1]; cases src.V6 <;> decide
    have b2 : (abytes dst).length ≤ 16 := by rw [l2]; cases dst.V6 <;> decide
    cases src.V6
    · simp only [cond_false, Option.bind_some]
      rw [oreq_p (by simp only [List.length_append]; omega)]
    · simp only [cond_true, Option.bind_some]
      rw [oreq_p (by simp only [List.length_append]; omega)]
  · rw [if_neg (fun h => e3 h.2.2), show (src.V6 == dst.V6) = false by simpa using e3]; rfl
theorem pseudo5_eq {src dst : api_Addr} {p n : Int} (h1 : A4 src) (h2 : A4 dst) (hp : 0 ≤ p ∧ p < 2 ^ 63) (hn : 0 ≤ n ∧ n < 2 ^ 63) : R05_Pseudo src dst p n = some (pseu src dst p n) := by
  unfold R05_Pseudo R05_PseudoF pseu
  rw [a4Right_eq, a4Right_eq, Option.bind_some]
  cases e1 : aok src
  · simp
  simp only [Bool.not_true, cond_false, Option.bind_some]
  cases e2 : aok dst
  · simp
  simp only [Bool.not_true, cond_false]
  by_cases e3 : src.V6 = dst.V6
  · rw [if_pos (by simpa using e3), show (src.V6 == dst.V6) = true by simpa using e3]
    simp only [Bool.not_true, cond_false]
    have l1 := abytes_len src
    have l2 := abytes_len dst
    have m1 := putS_len n 4
    have m2 := putS_len 0 3
    have m3 := putS_len p 1
    have m4 := putS_len 0 1
    have m5 := putS_len n 2
    have b1 : (abytes src).length ≤ 16 := by rw [l1]; cases src.V6 <;> decide
    have b2 : (abytes dst).length ≤ 16 := by rw [l2]; cases dst.V6 <;> decide
    rw [a4Put_eq h1 e1, a4Put_eq h2 e2, num5_eq hn.1 hn.2, num5_eq (n := 0) (k := 3) (by omega) (by omega), num5_eq hp.1 hp.2, num5_eq (n := 0) (k := 1) (by omega) (by omega), num5_eq hn.1 hn.2]
    cases src.V6
    · simp only [cond_false, Option.bind_some]
      rw [oreq_p (by omega), oreq_p (by simp only [List.length_append]; omega), oreq_p (by simp only [List.length_append]; omega), oreq_p (by simp only [List.length_append]; omega)]
      simp only [List.append_assoc]
    · simp only [cond_true, Option.bind_some]
      rw [oreq_p (by omega), oreq_p (by simp only [List.length_append]; omega), oreq_p (by simp only [List.length_append]; omega), oreq_p (by simp only [List.length_append]; omega)]
      simp only [List.append_assoc]
  · rw [if_neg (fun h => e3 h.2.2), show (src.V6 == dst.V6) = false by simpa using e3]; rfl
theorem wU64_rng (n : Int) : 0 ≤ wI .u64 n ∧ wI .u64 n < 2 ^ 64 := by rw [wU64m]; omega
def rowS : List Int → List UInt8
  | a :: b :: l => putS (wI .u64 a) b ++ rowS l
  | _ => []
theorem rowG_eq {l : List Int} (he : l.length % 2 = 0) (h2 : 2 ≤ l.length) (hl : l.length ≤ 1000) : ipfour_row l = some (rowS l) := by
  unfold ipfour_row ipfour_rowF
  obtain ⟨a, b, r, rfl⟩ : ∃ a b r, l = a :: b :: r := by
    match l, h2 with
    | a :: b :: r, _ => exact ⟨a, b, r, rfl⟩
  have p0 := putS_len (wI .u64 a) b
  rw [cond_p (by simp; omega), oreq_p (by simp; omega)]
  show ((some a).bind _) = _
  rw [Option.bind_some, oreq_p (by simp; omega)]
  show ((some b).bind _) = _
  rw [Option.bind_some, octet_Put_eq (wU64_rng a).1, Option.bind_some, oreq_p (by omega)]
  generalize hL : a :: b :: r = L at *
  have key := iter_eq (step := fun (st : Int × List Int) => ipfour_row_s1 octet_Put L st.1 st.2) (fun st => iB st.2 ++ rowS (L.drop st.1.toNat)) (fun st => 0 ≤ st.1 ∧ st.1 ≤ L.length ∧ st.1.toNat % 2 = 0 ∧ st.2.length ≤ 8 * st.1.toNat) (fun st => (L.length - st.1).toNat) ?_ FUEL (2, bI (putS (wI .u64 a) b)) ⟨by simp, by simp only; omega, by simp, by simp; omega⟩ (by rw [FUEL_eq]; simp only; omega)
  · rw [key]
    simp only [iB_bI]
    subst hL; rfl
  rintro ⟨p, c⟩ ⟨g1, g2, g3, g4⟩
  simp only at g1 g2 g3 g4 ⊢
  obtain ⟨i, rfl⟩ := Int.eq_ofNat_of_zero_le g1
  simp only [Int.toNat_natCast] at g3 g4 ⊢
  unfold ipfour_row_s1
  simp only []
  rw [wI64 (n := (i : Int) + 1) (by omega) (by omega)]
  by_cases hi : i < L.length
  · have hi1 : i + 1 < L.length := by omega
    have pl := putS_len (wI .u64 L[i]) L[i + 1]
    refine .inr ⟨(((i + 2 : Nat) : Int), c ++ bI (putS (wI .u64 L[i]) L[i + 1])), ?_, ⟨by simp only; omega, by simp only; omega, by simp only [Int.toNat_natCast]; omega, by simp; omega⟩, by simp only; omega, ?_⟩
    · rw [cond_p (by omega), oreq_p (by omega), Int.toNat_natCast, List.getElem?_eq_getElem hi, Option.bind_some, oreq_p (by omega), show ((i : Int) + 1).toNat = i + 1 by omega, List.getElem?_eq_getElem hi1, Option.bind_some, octet_Put_eq (wU64_rng _).1, Option.bind_some, oreq_p (by omega), wI64 (by omega) (by omega)]; rfl
    · simp only [Int.toNat_natCast]
      rw [iB_app, iB_bI, List.drop_eq_getElem_cons hi, List.drop_eq_getElem_cons hi1, rowS]; simp
  · refine .inl ?_
    rw [cond_n (by omega), oreq_p (by omega), List.drop_eq_nil_of_le (by omega)]; simp [rowS]
theorem num5W_eq (n k : Int) : R05_num n k = some (putS (wI .u64 n) k) := by
  unfold R05_num R05_numF
  rw [R02_Put_eq (wU64_rng n).1 (wU64_rng n).2]; rfl
def pseuW (src dst : api_Addr) (p n : Int) : List UInt8 := pseu src dst (wI .u64 p) (wI .u64 n)
theorem pseuW_eq {src dst : api_Addr} {p n : Int} (hp : 0 ≤ p ∧ p < 2 ^ 63) (hn : 0 ≤ n ∧ n < 2 ^ 63) : pseuW src dst p n = pseu src dst p n := by
  unfold pseuW; rw [wU64 hp.1 (by omega), wU64 hn.1 (by omega)]
theorem pseudoW_eq {src dst : api_Addr} {p n : Int} (h1 : A4 src) (h2 : A4 dst) : ipfour_Pseudo src dst p n = some (pseuW src dst p n) := by
  unfold ipfour_Pseudo ipfour_PseudoF pseuW pseu
  rw [aRight_eq, aRight_eq, Option.bind_some]
  cases e1 : aok src
  · simp
  simp only [Bool.not_true, cond_false, Option.bind_some]
  cases e2 : aok dst
  · simp
  simp only [Bool.not_true, cond_false]
  by_cases e3 : src.V6 = dst.V6
  · rw [if_pos (by simpa using e3), show (src.V6 == dst.V6) = true by simpa using e3]
    simp only [Bool.not_true, cond_false]
    have l1 := abytes_len src
    have l2 := abytes_len dst
    rw [aPut_eq h1 e1, Option.bind_some, aPut_eq h2 e2, Option.bind_some, oreq_p (by rw [l1, l2]; cases src.V6 <;> cases dst.V6 <;> decide)]
    rw [rowG_eq (by simp) (by simp) (by simp), rowG_eq (by simp) (by simp) (by simp)]
    have m1 := putS_len (wI .u64 n) 4
    have m2 := putS_len 0 3
    have m3 := putS_len (wI .u64 p) 1
    have m4 := putS_len 0 1
    have m5 := putS_len (wI .u64 n) 2
    have b1 : (abytes src).length ≤ 16 := by rw [l1]; cases src.V6 <;> decide
    have b2 : (abytes dst).length ≤ 16 := by rw [l2]; cases dst.V6 <;> decide
    have z : wI .u64 0 = 0 := rfl
    simp only [rowS, z, List.append_nil]
    cases src.V6
    · simp only [cond_false, Option.bind_some]
      rw [oreq_p (by simp only [List.length_append]; omega)]; simp only [List.append_assoc]
    · simp only [cond_true, Option.bind_some]
      rw [oreq_p (by simp only [List.length_append]; omega)]; simp only [List.append_assoc]
  · rw [if_neg (fun h => e3 h.2.2), show (src.V6 == dst.V6) = false by simpa using e3]; rfl
theorem pseudo5W_eq {src dst : api_Addr} {p n : Int} (h1 : A4 src) (h2 : A4 dst) : R05_Pseudo src dst p n = some (pseuW src dst p n) := by
  unfold R05_Pseudo R05_PseudoF pseuW pseu
  rw [a4Right_eq, a4Right_eq, Option.bind_some]
  cases e1 : aok src
  · simp
  simp only [Bool.not_true, cond_false, Option.bind_some]
  cases e2 : aok dst
  · simp
  simp only [Bool.not_true, cond_false]
  by_cases e3 : src.V6 = dst.V6
  · rw [if_pos (by simpa using e3), show (src.V6 == dst.V6) = true by simpa using e3]
    simp only [Bool.not_true, cond_false]
    have l1 := abytes_len src
    have l2 := abytes_len dst
    have m1 := putS_len (wI .u64 n) 4
    have m2 := putS_len 0 3
    have m3 := putS_len (wI .u64 p) 1
    have m4 := putS_len 0 1
    have m5 := putS_len (wI .u64 n) 2
    have b1 : (abytes src).length ≤ 16 := by rw [l1]; cases src.V6 <;> decide
    have b2 : (abytes dst).length ≤ 16 := by rw [l2]; cases dst.V6 <;> decide
    have z : wI .u64 0 = 0 := rfl
    rw [a4Put_eq h1 e1, a4Put_eq h2 e2]
    simp only [num5W_eq, z]
    cases src.V6
    · simp only [cond_false, Option.bind_some]
      rw [oreq_p (by omega), oreq_p (by simp only [List.length_append]; omega), oreq_p (by simp only [List.length_append]; omega), oreq_p (by simp only [List.length_append]; omega)]
      simp only [List.append_assoc]
    · simp only [cond_true, Option.bind_some]
      rw [oreq_p (by omega), oreq_p (by simp only [List.length_append]; omega), oreq_p (by simp only [List.length_append]; omega), oreq_p (by simp only [List.length_append]; omega)]
      simp only [List.append_assoc]
  · rw [if_neg (fun h => e3 h.2.2), show (src.V6 == dst.V6) = false by simpa using e3]; rfl
def rdr (r : octet_Reader) (k : Int) : octet_Reader := if r.bad = true ∨ k < 0 ∨ k > r.s.length then ⟨r.s, true, true⟩ else ⟨r.s.drop k.toNat, true, false⟩
def rdt (r : octet_Reader) (k : Int) : List UInt8 := if r.bad = true ∨ k < 0 ∨ k > r.s.length then [] else r.s.take k.toNat
theorem rBad_eq {r : octet_Reader} (h : r.made = true) : octet_Reader_Bad r = some (r.bad, r) := by
  unfold octet_Reader_Bad octet_Reader_BadF
  rw [h]; rfl
theorem rText_eq {r : octet_Reader} {k : Int} (h : r.made = true) : octet_Reader_Text r k = some (rdt r k, rdr r k) := by
  unfold octet_Reader_Text octet_Reader_TextF rdt rdr
  rw [rBad_eq h, Option.bind_some]
  simp only []
  obtain ⟨s, m, b⟩ := r
  simp only at h ⊢
  subst h
  cases b with
  | true => simp
  | false =>
    rw [cond_false]
    by_cases h1 : k < 0
    · rw [cond_p h1, if_pos (by omega), if_pos (by omega)]
    rw [cond_n h1]
    by_cases h2 : k > s.length
    · rw [cond_p h2, if_pos (by omega), if_pos (by omega)]
    · have e : (s.drop k.toNat).take (s.length - k.toNat) = s.drop k.toNat := List.take_of_length_le (by simp)
      rw [cond_n h2, oreq_p (by omega), oreq_p (by omega), if_neg (by simp; omega), if_neg (by simp; omega), e]
theorem rdr_made (r : octet_Reader) (k : Int) : (rdr r k).made = true := by unfold rdr; split <;> rfl
theorem rdr_bad {r : octet_Reader} {k : Int} : (rdr r k).bad = false ↔ r.bad = false ∧ 0 ≤ k ∧ k ≤ r.s.length := by
  unfold rdr
  split
  · rename_i h
    simp only [Bool.true_eq_false, false_iff]
    intro ⟨a, b, c⟩
    rcases h with h | h | h
    · rw [a] at h; cases h
    · omega
    · omega
  · rename_i h
    simp only [true_iff]
    cases hb : r.bad
    · exact ⟨rfl, by omega, by omega⟩
    · exact absurd (.inl hb) h
theorem rdr_len {r : octet_Reader} {k : Int} (h : (rdr r k).bad = false) : ((rdr r k).s.length : Int) = r.s.length - k := by
  obtain ⟨a, b, c⟩ := rdr_bad.1 h
  unfold rdr
  rw [if_neg (by rw [a]; simp; omega)]
  simp; omega
theorem rdr_step {r r' : octet_Reader} {k : Int} (h : rdr r k = r') (hb : r'.bad = false) : r.bad = false ∧ (r'.s.length : Int) + k = r.s.length := by
  subst h
  have := rdr_len hb
  exact ⟨(rdr_bad.1 hb).1, by omega⟩
theorem rdr_ok {s : List UInt8} {k : Int} (h0 : 0 ≤ k) (h1 : k ≤ s.length) : rdr ⟨s, true, false⟩ k = ⟨s.drop k.toNat, true, false⟩ := by
  unfold rdr; rw [if_neg (by simp; omega)]
theorem rdt_ok {s : List UInt8} {k : Int} (h0 : 0 ≤ k) (h1 : k ≤ s.length) : rdt ⟨s, true, false⟩ k = s.take k.toNat := by
  unfold rdt; rw [if_neg (by simp; omega)]
theorem rdt_len (r : octet_Reader) (k : Int) : (rdt r k).length ≤ r.s.length := by
  unfold rdt; split
  · simp
  · rw [List.length_take]; omega
def rdn (r : octet_Reader) (k : Int) : Int := (valL (rdt r (if k < 1 ∨ k > 7 then -1 else k)) : Nat)
theorem rNum_eq {r : octet_Reader} {k : Int} (h : r.made = true) (hl : r.s.length < 2 ^ 61) : octet_Reader_Num r k = some (rdn r k, rdr r (if k < 1 ∨ k > 7 then -1 else k)) := by
  unfold octet_Reader_Num octet_Reader_NumF rdn
  have bad : octet_Reader_Text r (-1) = some ([], rdr r (-1)) := by
    rw [rText_eq h]; unfold rdt; rw [if_pos (by omega)]
  have e0 : rdt r (-1) = [] := by unfold rdt; rw [if_pos (by omega)]
  by_cases h1 : k < 1
  · rw [cond_p h1, bad, Option.bind_some, octet_Get_eq (by simp), if_pos (by omega), Option.bind_some, e0]; rfl
  rw [cond_n h1]
  by_cases h2 : k > 7
  · rw [cond_p h2, bad, Option.bind_some, octet_Get_eq (by simp), if_pos (by omega), Option.bind_some, e0]; rfl
  have hlen := rdt_len r k
  rw [cond_n h2, rText_eq h, Option.bind_some, octet_Get_eq (by simp only []; omega), Option.bind_some, if_neg (by omega)]
  simp only []
  unfold getS
  by_cases hc : r.bad = true ∨ k < 0 ∨ k > r.s.length
  · have e : rdt r k = [] := by unfold rdt; rw [if_pos hc]
    rw [e, if_neg (by simp; omega)]; rfl
  · have hl2 : (rdt r k).length = k.toNat := by unfold rdt; rw [if_neg hc]; simp; omega
    rw [if_pos (by omega)]
    have e2 : ((rdt r k).drop (0 : Int).toNat).take k.toNat = rdt r k := by
      rw [show (0 : Int).toNat = 0 from rfl, List.drop_zero, List.take_of_length_le (by omega)]
    have hv : valL (rdt r k) < 2 ^ 56 := by
      have := val_lt (rdt r k)
      rw [hl2] at this
      exact pow_step this (by omega)
    simp only [e2]
    rw [wI64 (by omega) (by omega)]
theorem getS_at {s : List UInt8} {p k : Int} (h0 : 0 ≤ p) (h1 : 1 ≤ k) (h8 : k ≤ 8) (h : p + k ≤ s.length) : getS s p k = (((valL ((s.drop p.toNat).take k.toNat) : Nat) : Int), true) := by
  unfold getS; rw [if_pos (by omega)]
theorem rNew_eq (s : List UInt8) : octet_New s = some ⟨s, true, false⟩ := rfl
def sset (s : List UInt8) (p k n : Nat) : List UInt8 := s.take p ++ be n k ++ s.drop (p + k)
theorem sset_len {s : List UInt8} {p k n : Nat} (h : p + k ≤ s.length) : (sset s p k n).length = s.length := by simp [sset]; omega
theorem Set_sset {s : List UInt8} {p k : Nat} {n : Int} (hs : s.length < 2 ^ 40) (hn : 0 ≤ n) (h1 : 1 ≤ k) (h8 : k ≤ 8) (h : p + k ≤ s.length) : check_Set s (p : Int) (k : Int) n = some (sset s p k n.toNat) := by
  rw [Set_eq hs hn]; unfold setS
  rw [if_pos (by omega)]
  have e : ((p : Int) + k).toNat = p + k := by omega
  rw [e]; rfl
theorem sset_get {s : List UInt8} {p k n y : Nat} (h : p + k ≤ s.length) : (sset s p k n)[y]? = if y < p then s[y]? else if y < p + k then (be n k)[y - p]? else s[y]? := by
  unfold sset
  rw [List.append_assoc, List.getElem?_append]
  have e1 : (s.take p).length = p := by simp; omega
  rw [e1]
  by_cases h1 : y < p
  · rw [if_pos h1, if_pos h1, List.getElem?_take_of_lt h1]
  · rw [if_neg h1, if_neg h1, List.getElem?_append, be_len]
    by_cases h2 : y < p + k
    · rw [if_pos (by omega), if_pos h2]
    · rw [if_neg (by omega), if_neg h2, List.getElem?_drop]
      congr 1; omega
theorem slice_get {l : List UInt8} {q m x : Nat} : ((l.drop q).take m)[x]? = if x < m then l[q + x]? else none := by
  rw [List.getElem?_take]; split
  · rw [List.getElem?_drop]
  · rfl
theorem slice_same {s : List UInt8} {p k n : Nat} (h : p + k ≤ s.length) : ((sset s p k n).drop p).take k = be n k := by
  apply List.ext_getElem?
  intro x
  rw [slice_get, sset_get h]
  split
  · rw [if_neg (by omega), if_pos (by omega), Nat.add_sub_cancel_left]
  · rw [List.getElem?_eq_none (by simp; omega)]
theorem slice_other {s : List UInt8} {p k n q m : Nat} (h : p + k ≤ s.length) (ho : q + m ≤ p ∨ p + k ≤ q) : ((sset s p k n).drop q).take m = (s.drop q).take m := by
  apply List.ext_getElem?
  intro x
  rw [slice_get, slice_get]
  split
  · rw [sset_get h]
    by_cases h1 : q + x < p
    · rw [if_pos h1]
    · rw [if_neg h1, if_neg (by omega)]
  · rfl
theorem wsum_cut {s : List UInt8} {p k : Nat} (h : p + k ≤ s.length) (hp : p % 2 = 0) (hk : k % 2 = 0) : wsum s = wsum (s.take p) + (wsum ((s.drop p).take k) + wsum (s.drop (p + k))) := by
  rw [← List.drop_drop, ← wsum_append _ _ (by rw [List.length_take, List.length_drop]; omega), List.take_append_drop, ← wsum_append _ _ (by rw [List.length_take]; omega), List.take_append_drop]
theorem wsum_sset {s : List UInt8} {p k n : Nat} (h : p + k ≤ s.length) (hp : p % 2 = 0) (hk : k % 2 = 0) : wsum (sset s p k n) + wsum ((s.drop p).take k) = wsum s + wsum (be n k) := by
  rw [wsum_cut h hp hk]
  unfold sset
  rw [List.append_assoc, wsum_append _ _ (by rw [List.length_take]; omega), wsum_append _ _ (by rw [be_len]; omega)]
  omega
theorem wsum_be2 {n : Nat} (h : n < 65536) : wsum (be n 2) = n := by
  have e : be n 2 = [UInt8.ofNat (n / 256), UInt8.ofNat n] := by simp [be]
  rw [e, wsum, wsum]
  simp only [UInt8.toNat_ofNat']
  omega
theorem norm_zero_mod {n : Nat} (h : n % 65535 = 0) (h0 : n ≠ 0) : norm n = 65535 := norm_eq (by omega) (by omega) (by omega)
def inR (n m : Int) : Bool := decide (0 ≤ n ∧ n ≤ m)
theorem inR_iff {n m : Int} : inR n m = true ↔ 0 ≤ n ∧ n ≤ m := by unfold inR; simp
theorem opt_mod (n : Nat) : (((n : Int).tmod 4) == 0) = decide (n % 4 = 0) := by
  rw [Int.tmod_eq_emod_of_nonneg (by omega), Bool.eq_iff_iff, beq_iff_eq, decide_eq_true_eq]; omega
theorem opt_le (n : Nat) : decide ((n : Int) ≤ 40) = decide (n ≤ 40) := by rw [Bool.eq_iff_iff, decide_eq_true_eq, decide_eq_true_eq]; omega
theorem tdiv4 (n : Nat) : (20 + (n : Int)).tdiv 4 = (((20 + n) / 4 : Nat) : Int) := by rw [Int.tdiv_eq_ediv_of_nonneg (by omega)]; omega
def vK (s : List UInt8) (p k : Nat) : Int := (valL ((s.drop p).take k) : Nat)
theorem vK_rng (s : List UInt8) (p k n : Nat) (h : 256 ^ k ≤ n) : 0 ≤ vK s p k ∧ vK s p k < n := by
  have := val_take_lt (l := s.drop p) (k := k) n h
  unfold vK; omega
theorem num_at {s : List UInt8} {p k : Nat} (h1 : 1 ≤ k) (h7 : k ≤ 7) (h : p + k ≤ s.length) (hl : s.length < 2 ^ 61) : octet_Reader_Num ⟨s.drop p, true, false⟩ (k : Int) = some (vK s p k, ⟨s.drop (p + k), true, false⟩) := by
  have hd : (s.drop p).length = s.length - p := by simp
  rw [rNum_eq rfl (by simp only; omega), if_neg (by omega), rdr_ok (by omega) (by omega)]
  unfold rdn
  rw [if_neg (by omega), rdt_ok (by omega) (by omega), Int.toNat_natCast, List.drop_drop]; rfl
theorem text_at {s : List UInt8} {p k : Nat} (h : p + k ≤ s.length) : octet_Reader_Text ⟨s.drop p, true, false⟩ (k : Int) = some ((s.drop p).take k, ⟨s.drop (p + k), true, false⟩) := by
  have hd : (s.drop p).length = s.length - p := by simp
  rw [rText_eq rfl, rdr_ok (by omega) (by omega), rdt_ok (by omega) (by omega), Int.toNat_natCast, List.drop_drop]
theorem must_at {s : List UInt8} {p k : Nat} (hs : s.length < 2 ^ 61) (h1 : 1 ≤ k) (h7 : k ≤ 7) (h : p + k ≤ s.length) : R02_Must s (p : Int) (k : Int) = some (vK s p k) := by
  rw [R02_Must_eq hs, getS_at (by omega) (by omega) (by omega) (by omega)]
  have := vK_rng s p k (256 ^ k) (Nat.le_refl _)
  have h8 : 256 ^ k ≤ 256 ^ 7 := Nat.pow_le_pow_right (by decide) h7
  have h9 : (256 : Nat) ^ 7 = 72057594037927936 := by decide
  show some (wI .i64 (vK s p k)) = _
  rw [wI64 (by omega) (by omega)]
theorem vK_one {s : List UInt8} {p : Nat} (h : p < s.length) : vK s p 1 = (s[p].toNat : Int) := by
  unfold vK
  rw [List.drop_eq_getElem_cons h]
  show ((valL [s[p]] : Nat) : Int) = _
  rw [val_cons]; simp
theorem vK_two {s : List UInt8} {p : Nat} (h : p + 1 < s.length) : vK s p 2 = (s[p].toNat * 256 + s[p + 1].toNat : Int) := by
  unfold vK
  rw [List.drop_eq_getElem_cons (by omega : p < s.length), List.drop_eq_getElem_cons h]
  show ((valL [s[p], s[p + 1]] : Nat) : Int) = _
  rw [val_cons, val_cons]; simp
theorem l1 {l : List UInt8} (h : l.length = 1) : ∃ a, l = [a] := by
  match l, h with
  | [a], _ => exact ⟨a, rfl⟩
theorem l2 {l : List UInt8} (h : l.length = 2) : ∃ a b, l = [a, b] := by
  match l, h with
  | [a, b], _ => exact ⟨a, b, rfl⟩
theorem l4 {l : List UInt8} (h : l.length = 4) : ∃ a b c d, l = [a, b, c, d] := by
  match l, h with
  | [a, b, c, d], _ => exact ⟨a, b, c, d, rfl⟩
theorem vK_of {s w : List UInt8} {p k n : Nat} (h : (s.drop p).take k = w) (e : w = be n k) (hn : n < 256 ^ k) : vK s p k = (n : Int) := by
  unfold vK; rw [h, e, val_be_lt hn]
theorem be_vK {s : List UInt8} {p k : Nat} (h : p + k ≤ s.length) : be (vK s p k).toNat k = (s.drop p).take k := by
  unfold vK; rw [Int.toNat_natCast]; exact be_val' (by simp; omega)
theorem putS_two (n : Int) : putS n 2 = be n.toNat 2 := putS_be (k := 2) (by omega)
theorem pseu_even (src dst : api_Addr) (p n : Int) : (pseu src dst p n).length % 2 = 0 := by
  unfold pseu
  split
  · rename_i h
    rw [List.length_append, List.length_append, abytes_len, abytes_len, ← h.2.2]
    cases src.V6
    · simp only [cond_false, List.length_append]
      rw [show (putS 0 1).length = 1 from rfl, show putS p 1 = be p.toNat 1 from putS_be (k := 1) (by omega), show putS n 2 = be n.toNat 2 from putS_be (k := 2) (by omega), be_len, be_len]
    · simp only [cond_true, List.length_append]
      rw [show (putS 0 3).length = 3 from rfl, show putS p 1 = be p.toNat 1 from putS_be (k := 1) (by omega), show putS n 4 = be n.toNat 4 from putS_be (k := 4) (by omega), be_len, be_len]
  · rfl
theorem setS_mid {A B : List UInt8} {p : Nat} {c : Int} (hA : A.length = p) : setS (A ++ (be 0 2 ++ B)) (p : Int) 2 c = A ++ (be c.toNat 2 ++ B) := by
  subst hA
  unfold setS
  rw [if_pos (by simp only [List.length_append, be_len]; omega), Int.toNat_natCast, List.take_left, show ((A.length : Int) + 2).toNat = A.length + 2 by omega, ← List.drop_drop, List.drop_left, show (be 0 2 ++ B).drop 2 = B from rfl, List.append_assoc]; rfl
theorem wsum_mid {A B : List UInt8} {c : Nat} (hA : A.length % 2 = 0) (hc : c < 65536) : wsum (A ++ (be c 2 ++ B)) = wsum (A ++ (be 0 2 ++ B)) + c := by
  rw [wsum_append _ _ hA, wsum_append _ _ hA, wsum_append (be c 2) B (by simp), wsum_append (be 0 2) B (by simp), wsum_be2 hc, wsum_be2 (by omega)]; omega
def ckN (W : Nat) : Nat := 65535 - norm W
theorem ckN_ok (W : Nat) : ckN W ≤ 65535 ∧ (W + ckN W) % 65535 = 0 ∧ W + ckN W ≠ 0 := by
  have n1 := norm_le W
  have n2 := norm_mod W
  have n3 := norm_zero W
  unfold ckN; omega
theorem ckN_uniq {W c : Nat} (hc : c ≤ 65535) (h : norm (W + c) = 65535) : c = ckN W ∨ c = 65535 := by
  have n0 := norm_le W
  have n1 := norm_mod (W + c)
  have n2 := norm_mod W
  have n3 := norm_zero W
  have n4 := norm_zero (W + c)
  rw [h] at n1 n4
  unfold ckN; omega
theorem bytes_two {l : List UInt8} (h : l.length = 2) : l = be (valL l) 2 := (be_val' h).symm
theorem be_two (a b : Nat) (hb : b < 65536) : be (a * 65536 + b) 4 = be a 2 ++ be b 2 := by
  rw [be_split _ 2 2, show (256 : Nat) ^ 2 = 65536 from rfl, show (a * 65536 + b) / 65536 = a by omega, ← be_mod (a * 65536 + b) 2, show (256 : Nat) ^ 2 = 65536 from rfl, show (a * 65536 + b) % 65536 = b by omega]
theorem be_four (a b : Nat) (hb : b < 4294967296) : be (a * 4294967296 + b) 8 = be a 4 ++ be b 4 := by
  rw [be_split _ 4 4, show (256 : Nat) ^ 4 = 4294967296 from rfl, show (a * 4294967296 + b) / 4294967296 = a by omega, ← be_mod (a * 4294967296 + b) 4, show (256 : Nat) ^ 4 = 4294967296 from rfl, show (a * 4294967296 + b) % 4294967296 = b by omega]
theorem be_one (a b : Nat) (hb : b < 256) : be (a * 256 + b) 2 = be a 1 ++ be b 1 := by
  rw [be_split _ 1 1, show (256 : Nat) ^ 1 = 256 from rfl, show (a * 256 + b) / 256 = a by omega, ← be_mod (a * 256 + b) 1, show (256 : Nat) ^ 1 = 256 from rfl, show (a * 256 + b) % 256 = b by omega]
theorem wsum_set : ∀ (s : List UInt8) (i : Nat) (h : i < s.length) (b : UInt8), wsum (s.set i b) + s[i].toNat * (if i % 2 = 0 then 256 else 1) = wsum s + b.toNat * (if i % 2 = 0 then 256 else 1)
  | [], i, h, b => by simp at h
  | [x], i, h, b => by
    have : i = 0 := by simp at h; omega
    subst this
    simp [wsum]; omega
  | x :: y :: l, 0, h, b => by simp [wsum]; omega
  | x :: y :: l, 1, h, b => by simp [wsum]; omega
  | x :: y :: l, i + 2, h, b => by
    have := wsum_set l i (by simpa using h) b
    have e : (i + 2) % 2 = i % 2 := by omega
    simp only [List.set_cons_succ, wsum, List.getElem_cons_succ, e]
    omega
theorem xor_bit : ∀ x : Fin 256, ∀ j : Fin 8, x.val ^^^ 2 ^ j.val = x.val + 2 ^ j.val ∨ x.val = (x.val ^^^ 2 ^ j.val) + 2 ^ j.val := by decide +kernel
theorem xor_lt : ∀ x : Fin 256, ∀ j : Fin 8, x.val ^^^ 2 ^ j.val < 256 := by decide +kernel
theorem xorI_bit : ∀ x : Fin 256, ∀ j : Fin 8, ixorI .u8 (x.val : Int) (wI .u8 (1 * 2 ^ (min j.val 8))) = ((x.val ^^^ 2 ^ j.val : Nat) : Int) := by decide +kernel
def flipB (b : UInt8) (j : Nat) : UInt8 := UInt8.ofNat (b.toNat ^^^ 2 ^ j)
theorem flipB_nat {b : UInt8} {j : Nat} (hj : j < 8) : (flipB b j).toNat = b.toNat ^^^ 2 ^ j := by
  have := xor_lt ⟨b.toNat, b.toNat_lt⟩ ⟨j, hj⟩
  simp only at this
  unfold flipB
  simp only [UInt8.toNat_ofNat']
  omega
theorem wsum_flip {s : List UInt8} {i j : Nat} (h : i < s.length) (hj : j < 8) : ∃ d, 1 ≤ d ∧ d ≤ 32768 ∧ (wsum (s.set i (flipB s[i] j)) = wsum s + d ∨ wsum s = wsum (s.set i (flipB s[i] j)) + d) := by
  have hw := wsum_set s i h (flipB s[i] j)
  rw [flipB_nat hj] at hw
  have hx := xor_bit ⟨s[i].toNat, s[i].toNat_lt⟩ ⟨j, hj⟩
  simp only at hx
  generalize s[i].toNat ^^^ 2 ^ j = y at hw hx
  generalize wsum (s.set i (flipB s[i] j)) = W at *
  obtain ⟨p, hp, h1, h2⟩ : ∃ p : Nat, 2 ^ j = p ∧ 1 ≤ p ∧ p ≤ 128 := by
    refine ⟨2 ^ j, rfl, Nat.one_le_two_pow, ?_⟩
    exact Nat.le_trans (Nat.pow_le_pow_right (by decide) (show j ≤ 7 by omega)) (by decide)
  rw [hp] at hx
  by_cases he : i % 2 = 0
  · rw [if_pos he] at hw
    exact ⟨p * 256, by omega, by omega, by omega⟩
  · rw [if_neg he] at hw
    exact ⟨p, by omega, by omega, by omega⟩
theorem flip_row {s : List UInt8} {i j : Nat} {e : Int} (h : i < s.length) (hj : j < 8) (he : e = (s[i].toNat : Int)) : iB (((bI s).set i (ixorI .u8 e (wI .u8 (1 * 2 ^ (min j 8))))).take s.length) = s.set i (flipB s[i] j) := by
  subst he
  have hx := xorI_bit ⟨s[i].toNat, s[i].toNat_lt⟩ ⟨j, hj⟩
  simp only at hx
  rw [hx, List.take_of_length_le (by simp)]
  unfold iB bI flipB
  rw [List.map_set]
  simp [List.map_map, Function.comp_def]
theorem bI_get {s : List UInt8} {i : Nat} (h : i < s.length) : (bI s)[i]? = some (s[i].toNat : Int) := by simp [bI, h]
theorem slice_set {s : List UInt8} {i p k : Nat} {b : UInt8} (h : i < p ∨ p + k ≤ i) : ((s.set i b).drop p).take k = (s.drop p).take k := by
  apply List.ext_getElem?
  intro x
  simp only [List.getElem?_take, List.getElem?_drop, List.getElem?_set]
  split
  · rw [if_neg (by omega)]
  · rfl
def pairB (src dst : api_Addr) : Bool := aok src && aok dst && (src.V6 == dst.V6)
theorem pseu_ne (src dst : api_Addr) (p n : Int) : (pseu src dst p n == []) = !pairB src dst := by
  unfold pseu pairB
  by_cases h : aok src = true ∧ aok dst = true ∧ src.V6 = dst.V6
  · rw [if_pos h]
    obtain ⟨a, b, c⟩ := h
    rw [a, b, c]
    have := abytes_len src
    have hl : abytes src ≠ [] := by
      intro e; rw [e] at this; revert this; cases src.V6 <;> simp
    have h2 : (abytes src ++ abytes dst ++ cond dst.V6 (putS n 4 ++ putS 0 3 ++ putS p 1) (putS 0 1 ++ putS p 1 ++ putS n 2)) ≠ [] := by
      intro e
      rw [List.append_assoc] at e
      exact hl (List.append_eq_nil_iff.1 e).1
    rw [show (abytes src ++ abytes dst ++ cond dst.V6 (putS n 4 ++ putS 0 3 ++ putS p 1) (putS 0 1 ++ putS p 1 ++ putS n 2) == []) = false by simpa using h2]
    simp
  · rw [if_neg h]
    cases a : aok src
    · rfl
    cases b : aok dst
    · rfl
    have c : src.V6 ≠ dst.V6 := fun c => h ⟨a, b, c⟩
    simp [c]
def ov (src dst : api_Addr) (n : Int) : List UInt8 := cond src.V6 (pseu src dst 58 n) []
theorem ov_even (src dst : api_Addr) (n : Int) : (ov src dst n).length % 2 = 0 := by
  unfold ov; cases src.V6
  · rfl
  · exact pseu_even src dst 58 n
theorem ov_len (src dst : api_Addr) (n : Int) : (ov src dst n).length ≤ 56 := by
  unfold ov; cases src.V6
  · exact Nat.zero_le _
  · exact pseu_len src dst 58 n
def P53 (m : icmp_Message) : Prop := 1 ≤ m.Kind ∧ m.Kind ≤ 3 ∧ 0 ≤ m.Code ∧ m.Code ≤ 255 ∧ 0 ≤ m.MTU ∧ m.MTU ≤ 65535 ∧ m.Quote.length ≤ 1232 ∧ (m.Kind = 2 ∨ m.MTU = 0)
instance (m : icmp_Message) : Decidable (P53 m) := inferInstanceAs (Decidable (_ ∧ _))
def M53 (m : icmp_Message) (v6 : Bool) : Bool := cond v6 (decide (P53 m ∧ (m.Kind = 2 → m.Code = 0))) (decide (P53 m ∧ (m.Kind = 3 ∨ (m.Kind = 2 ∧ m.Code = 4) ∨ (m.Kind = 1 ∧ m.Code ≠ 4))))
theorem ibeq (a b : Int) : (a == b) = decide (a = b) := by rw [Bool.eq_iff_iff]; simp
theorem M53_inv {m : icmp_Message} {v6 : Bool} (h : M53 m v6 = true) : P53 m := by
  unfold M53 at h
  cases v6
  · rw [cond_false, decide_eq_true_eq] at h; exact h.1
  · rw [cond_true, decide_eq_true_eq] at h; exact h.1
def typ53 (v6 : Bool) (k : Int) : Int := cond v6 k (cond (k == 3) 11 3)
def kind53 (v6 : Bool) (t c : Int) : Int := cond v6 (if 1 ≤ t ∧ t ≤ 3 ∧ (t ≠ 2 ∨ c = 0) then t else 4) (if t = 11 then 3 else if t ≠ 3 then 4 else if c = 4 then 2 else 1)
def hc53 (v6 : Bool) (m : icmp_Message) (c : Nat) : List UInt8 := be (typ53 v6 m.Kind).toNat 1 ++ be m.Code.toNat 1 ++ (be c 2 ++ (be 0 2 ++ be m.MTU.toNat 2 ++ m.Quote))
theorem hc53_len (v6 : Bool) (m : icmp_Message) (c : Nat) : (hc53 v6 m c).length = 8 + m.Quote.length := by simp [hc53]; omega
theorem hc53_sum {p : List UInt8} (hp : p.length % 2 = 0) (v6 : Bool) (m : icmp_Message) {c : Nat} (hc : c < 65536) : wsum (p ++ hc53 v6 m c) = wsum (p ++ hc53 v6 m 0) + c := by
  have e : ∀ x, p ++ hc53 v6 m x = (p ++ (be (typ53 v6 m.Kind).toNat 1 ++ be m.Code.toNat 1)) ++ (be x 2 ++ (be 0 2 ++ be m.MTU.toNat 2 ++ m.Quote)) := fun x => by simp only [hc53, List.append_assoc]
  rw [e, e, wsum_mid (by simp; omega) hc]
def ck53 (p : List UInt8) (v6 : Bool) (m : icmp_Message) : Nat := ckN (wsum (p ++ hc53 v6 m 0))
theorem ck53_ok {p : List UInt8} (hp : p.length % 2 = 0) (v6 : Bool) (m : icmp_Message) : ck53 p v6 m ≤ 65535 ∧ wsum (p ++ hc53 v6 m (ck53 p v6 m)) % 65535 = 0 ∧ wsum (p ++ hc53 v6 m (ck53 p v6 m)) ≠ 0 := by
  have := ckN_ok (wsum (p ++ hc53 v6 m 0))
  rw [hc53_sum hp v6 m (by unfold ck53; omega)]
  exact this
def put53 (m : icmp_Message) (src dst : api_Addr) : List UInt8 × Int :=
  if pairB src dst = false then ([], 1) else if M53 m src.V6 = false then ([], 1) else (hc53 src.V6 m (ck53 (ov src dst (8 + m.Quote.length)) src.V6 m), 0)
def zero53 : icmp_Message := ⟨0, 0, 0, []⟩
def get53 (s : List UInt8) (src dst : api_Addr) : icmp_Message × Int :=
  if s.length < 8 then (zero53, 2) else if pairB src dst = false then (zero53, 1) else if norm (wsum (ov src dst s.length ++ s)) ≠ 65535 then (zero53, 4) else if 1240 < s.length then (zero53, 5) else
    (⟨kind53 src.V6 (vK s 0 1) (vK s 1 1), vK s 1 1, if kind53 src.V6 (vK s 0 1) (vK s 1 1) = 2 then vK s 6 2 else 0, s.drop 8⟩, 0)
theorem put53_fin {p : List UInt8} {v6 : Bool} {m : icmp_Message} (hp : p.length < 2 ^ 30) (hm : m.Quote.length < 2 ^ 30) : ((check_Of (p ++ hc53 v6 m 0)).bind fun xo => (check_Set (hc53 v6 m 0) 2 2 (wI .u64 xo)).bind fun s => some (s, (0 : Int))) = some (hc53 v6 m (ck53 p v6 m), 0) := by
  have n := norm_le (wsum (p ++ hc53 v6 m 0))
  have hl := hc53_len v6 m 0
  rw [Of_eq (by rw [List.length_append]; omega), Option.bind_some, wU64 (by omega) (by omega), Set_eq (by omega) (by omega), Option.bind_some]
  have := setS_mid (A := be (typ53 v6 m.Kind).toNat 1 ++ be m.Code.toNat 1) (B := be 0 2 ++ be m.MTU.toNat 2 ++ m.Quote) (p := 2) (c := 65535 - ((norm (wsum (p ++ hc53 v6 m 0)) : Nat) : Int)) (by simp)
  rw [show ((2 : Nat) : Int) = 2 from rfl] at this
  show some (setS (hc53 v6 m 0) 2 2 _, (0 : Int)) = _
  rw [show setS (hc53 v6 m 0) 2 2 (65535 - ((norm (wsum (p ++ hc53 v6 m 0)) : Nat) : Int)) = _ from this]
  unfold ck53 ckN
  rw [show (65535 - ((norm (wsum (p ++ hc53 v6 m 0)) : Nat) : Int)).toNat = 65535 - norm (wsum (p ++ hc53 v6 m 0)) by omega]; rfl
theorem put53_rfin {p : List UInt8} {v6 : Bool} {m : icmp_Message} (hp : p.length < 2 ^ 30) (hm : m.Quote.length < 2 ^ 30) : ((R03_Of (p ++ hc53 v6 m 0)).bind fun xo => (R03_Set (hc53 v6 m 0) 2 2 (wI .u64 xo)).bind fun s => some (s, (0 : Int))) = some (hc53 v6 m (ck53 p v6 m), 0) := by
  have n := norm_le (wsum (p ++ hc53 v6 m 0))
  have hl := hc53_len v6 m 0
  rw [R03_Of_eq (by rw [List.length_append]; omega), Option.bind_some, wU64 (by omega) (by omega), R03_Set_eq (by omega) (by omega) (by omega), Option.bind_some]
  have := setS_mid (A := be (typ53 v6 m.Kind).toNat 1 ++ be m.Code.toNat 1) (B := be 0 2 ++ be m.MTU.toNat 2 ++ m.Quote) (p := 2) (c := 65535 - ((norm (wsum (p ++ hc53 v6 m 0)) : Nat) : Int)) (by simp)
  rw [show ((2 : Nat) : Int) = 2 from rfl] at this
  show some (setS (hc53 v6 m 0) 2 2 _, (0 : Int)) = _
  rw [show setS (hc53 v6 m 0) 2 2 (65535 - ((norm (wsum (p ++ hc53 v6 m 0)) : Nat) : Int)) = _ from this]
  unfold ck53 ckN
  rw [show (65535 - ((norm (wsum (p ++ hc53 v6 m 0)) : Nat) : Int)).toNat = 65535 - norm (wsum (p ++ hc53 v6 m 0)) by omega]; rfl
theorem over_eq {src dst : api_Addr} {n : Int} (h1 : A4 src) (h2 : A4 dst) (hn : 0 ≤ n ∧ n < 2 ^ 63) : icmp_over src dst n = some (cond (pairB src dst) (ov src dst n) [], pairB src dst) := by
  unfold icmp_over icmp_overF ov
  have := pseu_ne src dst 58 n
  rw [pseudo_eq h1 h2 (by omega) hn, Option.bind_some, this]
  cases hp : pairB src dst
  · rw [hp] at this
    have e : pseu src dst 58 n = [] := by simpa using this
    rw [e]; rfl
  · cases src.V6 <;> rfl
theorem pair53_eq {src dst : api_Addr} (h1 : A4 src) (h2 : A4 dst) : R53_pair src dst = some (pairB src dst) := by
  unfold R53_pair R53_pairF
  rw [pseudo5_eq h1 h2 (by omega) (by omega), Option.bind_some, pseu_ne, Bool.not_not]
theorem rover_eq {src dst : api_Addr} {n : Int} (h1 : A4 src) (h2 : A4 dst) (hn : 0 ≤ n ∧ n < 2 ^ 63) : R53_over src dst n = some (ov src dst n) := by
  unfold R53_over R53_overF ov
  rw [pseudo5_eq h1 h2 (by omega) hn]
  cases src.V6 <;> rfl
theorem within53_eq (n m : Int) : icmp_within n m = some (decide (0 ≤ n ∧ n ≤ m)) := by
  unfold icmp_within icmp_withinF
  by_cases h : 0 ≤ n
  · rw [cond_p h]; simp [h]
  · rw [cond_n h]; simp [h]
theorem P53_iff (k c u : Int) (q : List UInt8) : P53 ⟨k, c, u, q⟩ ↔ (1 ≤ k ∧ k ≤ 3 ∧ 0 ≤ c ∧ c ≤ 255 ∧ 0 ≤ u ∧ u ≤ 65535 ∧ q.length ≤ 1232 ∧ (k = 2 ∨ u = 0)) := Iff.rfl
theorem bool_iff {a b : Bool} (h : a = true ↔ b = true) : some a = some b := by rw [Bool.eq_iff_iff.2 h]
theorem may53_eq (m : icmp_Message) (v6 : Bool) : icmp_Message_may m v6 = some (M53 m v6) := by
  obtain ⟨k, c, u, q⟩ := m
  unfold icmp_Message_may icmp_Message_mayF M53 icmp_fits icmp_fitsF
  simp only [within53_eq, Option.bind_some, bne, ibeq, ← decide_not, cond_dec]
  cases v6
  · simp only [cond_false, Bool.not_false, cond_true]
    repeat' split
    all_goals (try simp only [Option.bind_some, cond_dec])
    all_goals (repeat' split)
    all_goals (refine bool_iff ?_; simp only [decide_eq_true_eq, Bool.false_eq_true, false_iff, true_iff, P53_iff]; omega)
  · simp only [cond_false, Bool.not_true, cond_true]
    repeat' split
    all_goals (try simp only [Option.bind_some, cond_dec])
    all_goals (repeat' split)
    all_goals (refine bool_iff ?_; simp only [decide_eq_true_eq, Bool.false_eq_true, false_iff, true_iff, P53_iff]; omega)
theorem right53_eq (m : icmp_Message) (v6 : Bool) : R53_right m v6 = some (M53 m v6) := by
  obtain ⟨k, c, u, q⟩ := m
  unfold R53_right R53_rightF M53
  simp only [bne, ibeq, ← decide_not, cond_dec]
  cases v6
  · simp only [cond_false]
    repeat' split
    all_goals (refine bool_iff ?_; simp only [decide_eq_true_eq, Bool.false_eq_true, false_iff, true_iff, beq_iff_eq, decide_eq_decide, P53_iff]; omega)
  · simp only [cond_true]
    repeat' split
    all_goals (refine bool_iff ?_; simp only [decide_eq_true_eq, Bool.false_eq_true, false_iff, true_iff, P53_iff]; omega)
theorem types_at {α : Type} {k : Int} {v : Bool} (hk : k = 1 ∨ k = 2 ∨ k = 3) (F : Int → Option α) : ((icmp_types).bind fun t =>
      oreq (decide (0 ≤ k ∧ k < 4)) <|
      ([udp_Head.mk t.e0.e0 t.e0.e1, udp_Head.mk t.e1.e0 t.e1.e1, udp_Head.mk t.e2.e0 t.e2.e1, udp_Head.mk t.e3.e0 t.e3.e1][k.toNat]?).bind fun (e : udp_Head) =>
      (icmp_side v).bind fun s =>
      oreq (decide (0 ≤ s ∧ s < 2)) <|
      ([e.SPort, e.DPort][s.toNat]?).bind fun (e1 : Int) => F e1) = F (typ53 v k) := by
  rcases hk with rfl | rfl | rfl <;> cases v <;> rfl
theorem typ53_rng {k : Int} {v : Bool} (hk : k = 1 ∨ k = 2 ∨ k = 3) : 0 ≤ typ53 v k ∧ typ53 v k ≤ 11 := by
  rcases hk with rfl | rfl | rfl <;> cases v <;> decide
theorem be_six {n : Nat} (h : n < 65536) : be n 6 = be 0 2 ++ (be 0 2 ++ be n 2) := by
  have e1 := be_split n 4 2
  rw [show (256 : Nat) ^ 2 = 65536 from rfl, show n / 65536 = 0 by omega] at e1
  exact e1
theorem iput_eq {m : icmp_Message} {src dst : api_Addr} (h1 : A4 src) (h2 : A4 dst) (hq : m.Quote.length < 2 ^ 20) : icmp_Put m src dst = some (put53 m src dst) := by
  unfold icmp_Put icmp_PutF put53
  rw [wI64 (n := 8 + (m.Quote.length : Int)) (by omega) (by omega), over_eq h1 h2 (by omega), Option.bind_some]
  have hl := ov_len src dst (8 + m.Quote.length)
  generalize ov src dst (8 + m.Quote.length) = p at *
  cases hp : pairB src dst
  · rfl
  simp only [Bool.not_true, cond_false, cond_true]
  rw [may53_eq, Option.bind_some, if_neg (by decide)]
  cases hm : M53 m src.V6
  · rfl
  obtain ⟨q1, q2, q3, q4, q5, q6, q7, q8⟩ := M53_inv hm
  have hk : m.Kind = 1 ∨ m.Kind = 2 ∨ m.Kind = 3 := by omega
  have ht := typ53_rng (v := src.V6) hk
  rw [Bool.not_true, cond_false, if_neg (by decide)]
  rw [types_at hk]
  have k1 : octet_Put (iorI .u64 (wI .u64 ((wI .u64 (typ53 src.V6 m.Kind)) * 2 ^ 8)) (wI .u64 m.Code)) 2 = some (be (typ53 src.V6 m.Kind).toNat 1 ++ be m.Code.toNat 1) := by
    obtain ⟨x, hx⟩ := Int.eq_ofNat_of_zero_le ht.1
    obtain ⟨c, hc⟩ := Int.eq_ofNat_of_zero_le q3
    rw [hx, hc]
    have e2 : iorI .u64 (wI .u64 ((wI .u64 (x : Int)) * 2 ^ 8)) (wI .u64 (c : Int)) = ((x * 256 + c : Nat) : Int) := by
      rw [wU64 (n := (x : Int)) (by omega) (by omega), wU64 (n := (c : Int)) (by omega) (by omega), wU64 (n := (x : Int) * 2 ^ 8) (by omega) (by omega), iorU64_low 8 (by omega) (by omega) (by omega) (by omega) (by omega)]; omega
    rw [e2, octet_Put_eq (by omega), show putS ((x * 256 + c : Nat) : Int) 2 = be ((x * 256 + c : Nat) : Int).toNat 2 from putS_be (k := 2) (by omega), Int.toNat_natCast, be_one _ _ (by omega)]; rfl
  have k2 : octet_Put (wI .u64 m.MTU) 6 = some (be 0 2 ++ (be 0 2 ++ be m.MTU.toNat 2)) := by
    rw [wU64 (by omega) (by omega), octet_Put_eq (by omega), show putS m.MTU 6 = be m.MTU.toNat 6 from putS_be (k := 6) (by omega), be_six (by omega)]
  rw [k1, Option.bind_some, k2, Option.bind_some]
  have e : be (typ53 src.V6 m.Kind).toNat 1 ++ be m.Code.toNat 1 ++ (be 0 2 ++ (be 0 2 ++ be m.MTU.toNat 2)) ++ m.Quote = hc53 src.V6 m 0 := by simp only [hc53, List.append_assoc]
  have hh := hc53_len src.V6 m 0
  rw [e, oreq_p (by simp), oreq_p (by simp; omega), oreq_p (by omega)]
  exact put53_fin (by omega) (by omega)
theorem rtyp_eq (v : Bool) (k : Int) : R53_typ v k = some (typ53 v k) := by
  unfold R53_typ R53_typF typ53
  cases v
  · cases (k == 3) <;> rfl
  · rfl
theorem rput53_eq {m : icmp_Message} {src dst : api_Addr} (h1 : A4 src) (h2 : A4 dst) (hq : m.Quote.length < 2 ^ 20) : R53_Put m src dst = some (put53 m src dst) := by
  unfold R53_Put R53_PutF put53
  rw [pair53_eq h1 h2, Option.bind_some]
  cases hp : pairB src dst
  · rfl
  rw [Bool.not_true, cond_false, right53_eq, Option.bind_some, if_neg (by decide)]
  cases hm : M53 m src.V6
  · rfl
  obtain ⟨q1, q2, q3, q4, q5, q6, q7, q8⟩ := M53_inv hm
  have hk : m.Kind = 1 ∨ m.Kind = 2 ∨ m.Kind = 3 := by omega
  have ht := typ53_rng (v := src.V6) hk
  rw [Bool.not_true, cond_false, if_neg (by decide), rtyp_eq, Option.bind_some, wU64 (n := typ53 src.V6 m.Kind) (by omega) (by omega), wU64 (n := m.Code) (by omega) (by omega), wU64 (n := m.MTU) (by omega) (by omega), R02_Put_eq (by omega) (by omega), R02_Put_eq (by omega) (by omega), R02_Put_eq (by omega) (by omega)]
  simp only [Option.bind_some]
  rw [show putS (typ53 src.V6 m.Kind) 1 = be (typ53 src.V6 m.Kind).toNat 1 from putS_be (k := 1) (by omega), show putS m.Code 1 = be m.Code.toNat 1 from putS_be (k := 1) (by omega), show putS m.MTU 2 = be m.MTU.toNat 2 from putS_be (k := 2) (by omega)]
  have e : be (typ53 src.V6 m.Kind).toNat 1 ++ be m.Code.toNat 1 ++ [0, 0, 0, 0] ++ be m.MTU.toNat 2 ++ m.Quote = hc53 src.V6 m 0 := by
    rw [show ([0, 0, 0, 0] : List UInt8) = be 0 2 ++ be 0 2 from rfl]
    simp only [hc53, List.append_assoc]
  have hh := hc53_len src.V6 m 0
  rw [e, oreq_p (by simp), oreq_p (by simp), oreq_p (by simp), oreq_p (by simp; omega), hh, rover_eq h1 h2 (by omega), Option.bind_some]
  have hn : ((8 + m.Quote.length : Nat) : Int) = 8 + (m.Quote.length : Int) := by omega
  rw [hn]
  have hl := ov_len src dst (8 + m.Quote.length)
  generalize ov src dst (8 + m.Quote.length) = p at *
  rw [oreq_p (by omega)]
  exact put53_rfin (by omega) (by omega)
theorem kind53_eq {t c : Int} (h0 : 0 ≤ t) (v : Bool) : icmp_kind t c v = some (kind53 v t c) := by
  unfold icmp_kind icmp_kindF icmp_types icmp_typesF
  rw [Option.bind_some]
  obtain ⟨n, hn⟩ := FUEL_succ
  rw [hn]
  have st0 : icmp_kind_s1 icmp_fits icmp_side t c v ⟨⟨-1, -1⟩, ⟨3, 1⟩, ⟨3, 2⟩, ⟨11, 3⟩⟩ 0 = some (.inl 1) := by
    have e : ((-1 : Int) == t) = false := by simp; omega
    cases v
    · show cond ((-1 : Int) == t) _ _ = _
      rw [e]; rfl
    · show cond ((-1 : Int) == t) _ _ = _
      rw [e]; rfl
  rw [iter_inl (f := fun st => icmp_kind_s1 icmp_fits icmp_side t c v ⟨⟨-1, -1⟩, ⟨3, 1⟩, ⟨3, 2⟩, ⟨11, 3⟩⟩ st) (n := n + 7) st0]
  have st1 : icmp_kind_s1 icmp_fits icmp_side t c v ⟨⟨-1, -1⟩, ⟨3, 1⟩, ⟨3, 2⟩, ⟨11, 3⟩⟩ 1 = if t = cond v 1 3 ∧ (v = true ∨ c ≠ 4) then some (.inr 1) else some (.inl 2) := by
    cases v
    · show cond ((3 : Int) == t) ((some (c != 4)).bind fun f => cond f _ _) _ = _
      by_cases a : t = 3
      · subst a
        by_cases b : c = 4
        · subst b; rfl
        · rw [show ((c : Int) != 4) = true by simpa using b, if_pos ⟨rfl, .inr b⟩]; rfl
      · rw [show ((3 : Int) == t) = false by simp; omega, if_neg (fun h => a h.1)]; rfl
    · show cond ((1 : Int) == t) _ _ = _
      by_cases a : t = 1
      · subst a; rfl
      · rw [show ((1 : Int) == t) = false by simp; omega, if_neg (fun h => a h.1)]; rfl
  have st2 : icmp_kind_s1 icmp_fits icmp_side t c v ⟨⟨-1, -1⟩, ⟨3, 1⟩, ⟨3, 2⟩, ⟨11, 3⟩⟩ 2 = if t = cond v 2 3 ∧ c = cond v 0 4 then some (.inr 2) else some (.inl 3) := by
    cases v
    · show cond ((3 : Int) == t) ((some (c == 4)).bind fun f => cond f _ _) _ = _
      by_cases a : t = 3
      · subst a
        by_cases b : c = 4
        · subst b; rfl
        · rw [show ((c : Int) == 4) = false by simpa using b, if_neg (fun h => b h.2)]; rfl
      · rw [show ((3 : Int) == t) = false by simp; omega, if_neg (fun h => a h.1)]; rfl
    · show cond ((2 : Int) == t) ((some (c == 0)).bind fun f => cond f _ _) _ = _
      by_cases a : t = 2
      · subst a
        by_cases b : c = 0
        · subst b; rfl
        · rw [show ((c : Int) == 0) = false by simpa using b, if_neg (fun h => b h.2)]; rfl
      · rw [show ((2 : Int) == t) = false by simp; omega, if_neg (fun h => a h.1)]; rfl
  have st3 : icmp_kind_s1 icmp_fits icmp_side t c v ⟨⟨-1, -1⟩, ⟨3, 1⟩, ⟨3, 2⟩, ⟨11, 3⟩⟩ 3 = if t = cond v 3 11 then some (.inr 3) else some (.inl 4) := by
    cases v
    · show cond ((11 : Int) == t) _ _ = _
      by_cases a : t = 11
      · subst a; rfl
      · rw [show ((11 : Int) == t) = false by simp; omega]; simp only [cond_false]; rw [if_neg a]; rfl
    · show cond ((3 : Int) == t) _ _ = _
      by_cases a : t = 3
      · subst a; rfl
      · rw [show ((3 : Int) == t) = false by simp; omega]; simp only [cond_false, cond_true]; rw [if_neg a]; rfl
  have st4 : icmp_kind_s1 icmp_fits icmp_side t c v ⟨⟨-1, -1⟩, ⟨3, 1⟩, ⟨3, 2⟩, ⟨11, 3⟩⟩ 4 = some (.inr 4) := rfl
  by_cases c1 : t = cond v 1 3 ∧ (v = true ∨ c ≠ 4)
  · rw [if_pos c1] at st1
    rw [iter_inr (n := n + 6) st1]
    unfold kind53
    cases v
    · simp only [cond_false, Bool.false_eq_true, false_or] at c1 ⊢
      rw [if_neg (by omega), if_neg (by omega), if_neg (by omega)]
    · simp only [cond_true] at c1 ⊢
      rw [if_pos (by omega), c1.1]
  rw [if_neg c1] at st1
  rw [iter_inl (n := n + 6) st1]
  by_cases c2 : t = cond v 2 3 ∧ c = cond v 0 4
  · rw [if_pos c2] at st2
    rw [iter_inr (n := n + 5) st2]
    unfold kind53
    cases v
    · simp only [cond_false] at c2 ⊢
      rw [if_neg (by omega), if_neg (by omega), if_pos (by omega)]
    · simp only [cond_true] at c2 ⊢
      rw [if_pos (by omega), c2.1]
  rw [if_neg c2] at st2
  rw [iter_inl (n := n + 5) st2]
  by_cases c3 : t = cond v 3 11
  · rw [if_pos c3] at st3
    rw [iter_inr (n := n + 4) st3]
    unfold kind53
    cases v
    · simp only [cond_false] at c3 ⊢
      rw [if_pos (by omega)]
    · simp only [cond_true] at c3 ⊢
      rw [if_pos (by omega), c3]
  rw [if_neg c3] at st3
  rw [iter_inl (n := n + 4) st3, iter_inr (n := n + 3) st4]
  unfold kind53
  cases v
  · simp only [cond_false, Bool.false_eq_true, false_or] at c1 c2 c3 ⊢
    rw [if_neg (by omega), if_pos (by omega)]
  · simp only [cond_true, true_or, and_true] at c1 c2 c3 ⊢
    rw [if_neg (by omega)]
theorem rkind53_eq (t c : Int) (v : Bool) : R53_kind v t c = some (kind53 v t c) := by
  unfold R53_kind R53_kindF kind53
  simp only [bne, ibeq, ← decide_not, cond_dec]
  cases v
  · simp only [cond_false]
    repeat' split
    all_goals first | rfl | omega
  · simp only [cond_true]
    repeat' split
    all_goals first | rfl | omega
theorem rest_at {s : List UInt8} {p : Nat} (h : p ≤ s.length) : octet_Reader_Rest ⟨s.drop p, true, false⟩ = some (s.drop p, ⟨[], true, false⟩) := by
  unfold octet_Reader_Rest octet_Reader_RestF
  rw [rBad_eq rfl, Option.bind_some]
  simp only [cond_false]
  rw [rText_eq rfl, rdr_ok (by omega) (by omega), rdt_ok (by omega) (by omega), Int.toNat_natCast, List.take_of_length_le (Nat.le_refl _), List.drop_of_length_le (Nat.le_refl _)]; rfl
theorem iget_eq {s : List UInt8} {src dst : api_Addr} (h1 : A4 src) (h2 : A4 dst) (hs : s.length < 2 ^ 38) : icmp_Get s src dst = some (get53 s src dst) := by
  unfold icmp_Get icmp_GetF get53
  have hz : (⟨0, 0, 0, []⟩ : icmp_Message) = zero53 := rfl
  rw [hz]
  by_cases h0 : s.length < 8
  · rw [cond_p (by omega), if_pos h0]
  rw [cond_n (by omega), if_neg h0, over_eq h1 h2 (by omega), Option.bind_some]
  have hl := ov_len src dst s.length
  generalize ov src dst s.length = p at *
  cases hp : pairB src dst
  · rfl
  simp only [Bool.not_true, cond_false, cond_true]
  rw [if_neg (by decide), oreq_p (by omega), Right_eq (by simp only [List.length_append]; omega), Option.bind_some]
  by_cases g5 : norm (wsum (p ++ s)) = 65535
  · rw [if_neg (by simpa using g5), g5, show ((((65535 : Nat) : Int) == 65535)) = true from rfl, Bool.not_true, cond_false]
    by_cases g6 : 1240 < s.length
    · rw [cond_p (by omega), if_pos g6]
    rw [cond_n (by omega), if_neg g6, rNew_eq, Option.bind_some]
    have N : ∀ (p k : Nat), 1 ≤ k → k ≤ 7 → p + k ≤ 8 → octet_Reader_Num ⟨s.drop p, true, false⟩ (k : Int) = some (vK s p k, ⟨s.drop (p + k), true, false⟩) := fun p k a b c => num_at a b (by omega) (by omega)
    have N0 : octet_Reader_Num ⟨s, true, false⟩ 1 = some (vK s 0 1, ⟨s.drop 1, true, false⟩) := N 0 1 (by omega) (by omega) (by omega)
    have N1 : octet_Reader_Num ⟨s.drop 1, true, false⟩ 1 = some (vK s 1 1, ⟨s.drop 2, true, false⟩) := N 1 1 (by omega) (by omega) (by omega)
    have N2 : octet_Reader_Num ⟨s.drop 2, true, false⟩ 4 = some (vK s 2 4, ⟨s.drop 6, true, false⟩) := N 2 4 (by omega) (by omega) (by omega)
    have N6 : octet_Reader_Num ⟨s.drop 6, true, false⟩ 2 = some (vK s 6 2, ⟨s.drop 8, true, false⟩) := N 6 2 (by omega) (by omega) (by omega)
    have r0 := vK_rng s 0 1 256 (by decide)
    rw [N0, Option.bind_some]
    simp only []
    rw [N1, Option.bind_some]
    simp only []
    rw [N2, Option.bind_some]
    simp only []
    rw [kind53_eq r0.1, Option.bind_some, N6, Option.bind_some]
    simp only []
    rw [rest_at (by omega), Option.bind_some]
    by_cases g7 : kind53 src.V6 (vK s 0 1) (vK s 1 1) = 2
    · rw [g7, if_pos rfl]; rfl
    · rw [if_neg g7, show (kind53 src.V6 (vK s 0 1) (vK s 1 1) == 2) = false by simpa using g7]; rfl
  · rw [if_pos (by simpa using g5), show ((((norm (wsum (p ++ s)) : Nat) : Int) == 65535)) = false by simp; omega]; rfl
theorem rget53_eq {s : List UInt8} {src dst : api_Addr} (h1 : A4 src) (h2 : A4 dst) (hs : s.length < 2 ^ 38) : R53_Get s src dst = some (get53 s src dst) := by
  unfold R53_Get R53_GetF get53
  have hz : (⟨0, 0, 0, []⟩ : icmp_Message) = zero53 := rfl
  rw [hz]
  by_cases h0 : s.length < 8
  · rw [cond_p (by omega), if_pos h0]
  rw [cond_n (by omega), if_neg h0, pair53_eq h1 h2, Option.bind_some]
  cases hp : pairB src dst
  · rfl
  rw [Bool.not_true, cond_false, if_neg (by decide), rover_eq h1 h2 (by omega), Option.bind_some]
  have hl := ov_len src dst s.length
  generalize ov src dst s.length = p at *
  rw [oreq_p (by omega), R03_Sum_eq (by simp only [List.length_append]; omega), Option.bind_some]
  by_cases g5 : norm (wsum (p ++ s)) = 65535
  · rw [if_neg (by simpa using g5), g5, show ((((65535 : Nat) : Int) != 65535)) = false from rfl, cond_false]
    by_cases g6 : 1240 < s.length
    · rw [cond_p (by omega), if_pos g6]
    have e0 := vK_one (s := s) (p := 0) (by omega)
    have e1 := vK_one (s := s) (p := 1) (by omega)
    have r0 := vK_rng s 0 1 256 (by decide)
    have r1 := vK_rng s 1 1 256 (by decide)
    rw [cond_n (by omega), if_neg g6, List.getElem?_eq_getElem (show 0 < s.length by omega), List.getElem?_eq_getElem (show 1 < s.length by omega)]
    simp only [Option.bind_some]
    rw [← e0, ← e1, wI64 (n := vK s 0 1) (by omega) (by omega), wI64 (n := vK s 1 1) (by omega) (by omega), rkind53_eq, Option.bind_some, oreq_p (by omega), List.take_of_length_le (by simp)]
    by_cases g7 : kind53 src.V6 (vK s 0 1) (vK s 1 1) = 2
    · have M6 : R02_Must s 6 2 = some (vK s 6 2) := must_at (p := 6) (k := 2) (by omega) (by omega) (by omega) (by omega)
      rw [g7, if_pos rfl, M6]; rfl
    · rw [if_neg g7, show (kind53 src.V6 (vK s 0 1) (vK s 1 1) == 2) = false by simpa using g7]; rfl
  · rw [if_pos (by simpa using g5), show ((((norm (wsum (p ++ s)) : Nat) : Int) != 65535)) = true by simp; omega]; rfl
theorem within5_eq (n m : Int) : ipfour_within n m = some (inR n m) := by
  unfold ipfour_within ipfour_withinF inR
  by_cases h : 0 ≤ n
  · rw [cond_p h]; simp [h]
  · rw [cond_n h]; simp [h]
theorem in5_eq (n m : Int) : R05_in n m = some (inR n m) := by
  unfold R05_in R05_inF inR
  by_cases h : 0 ≤ n
  · rw [cond_p (by omega)]; simp [h]
  · rw [cond_n (by omega)]; simp [h]
def four (a : api_Addr) : Bool := !a.V6 && aok a
theorem four_eq (a : api_Addr) : ipfour_four a = some (four a) := by
  unfold ipfour_four ipfour_fourF four
  rw [aRight_eq]; cases a.V6 <;> rfl
theorem four5_eq (a : api_Addr) : R05_four a = some (four a) := by
  unfold R05_four R05_fourF four
  rw [a4Right_eq]; cases aok a <;> cases a.V6 <;> rfl
def H5 (h : ipfour_Head) : Bool := inR h.Class 255 && inR h.Mark 65535 && inR h.TTL 255 && inR h.Proto 255 && four h.Src && four h.Dst && decide (h.Options.length % 4 = 0) && decide (h.Options.length ≤ 40)
theorem may5_eq (h : ipfour_Head) : ipfour_Head_may h = some (H5 h) := by
  unfold ipfour_Head_may ipfour_Head_mayF H5
  simp only [within5_eq, four_eq, Option.bind_some, opt_mod, opt_le]
  cases inR h.Class 255 <;> cases inR h.Mark 65535 <;> cases inR h.TTL 255 <;> cases inR h.Proto 255 <;> cases four h.Src <;> cases four h.Dst <;> cases decide (h.Options.length % 4 = 0) <;> rfl
theorem right5_eq (h : ipfour_Head) : R05_Right h = some (H5 h) := by
  unfold R05_Right R05_RightF H5
  simp only [in5_eq, four5_eq, Option.bind_some, opt_mod, opt_le]
  cases inR h.Class 255 <;> cases inR h.Mark 65535 <;> cases inR h.TTL 255 <;> cases inR h.Proto 255 <;> cases four h.Src <;> cases four h.Dst <;> cases decide (h.Options.length % 4 = 0) <;> cases decide (h.Options.length ≤ 40) <;> rfl
def hd5 (h : ipfour_Head) (n : Int) : List UInt8 :=
  putS (64 + ((20 + h.Options.length) / 4 : Nat)) 1 ++ putS h.Class 1 ++ putS n 2 ++ putS h.Mark 2 ++ putS (cond h.Whole 64 0) 1 ++ putS 0 1 ++ putS h.TTL 1 ++ putS h.Proto 1 ++ putS 0 2 ++ abytes h.Src ++ abytes h.Dst ++ h.Options
theorem hd5_len (h : ipfour_Head) (n : Int) : (hd5 h n).length ≤ 104 + h.Options.length := by
  have a1 := putS_len (64 + ((20 + h.Options.length) / 4 : Nat)) 1
  have a2 := putS_len h.Class 1
  have a3 := putS_len n 2
  have a4 := putS_len h.Mark 2
  have a5 := putS_len (cond h.Whole 64 0) 1
  have a6 := putS_len 0 1
  have a7 := putS_len h.TTL 1
  have a8 := putS_len h.Proto 1
  have a9 := putS_len 0 2
  have b1 : (abytes h.Src).length ≤ 16 := by rw [abytes_len]; cases h.Src.V6 <;> decide
  have b2 : (abytes h.Dst).length ≤ 16 := by rw [abytes_len]; cases h.Dst.V6 <;> decide
  unfold hd5
  simp only [List.length_append]; omega
def put5 (h : ipfour_Head) (l : List UInt8) : List UInt8 × Int :=
  if H5 h = false then ([], 1) else if 65535 - (20 + (h.Options.length : Int)) < l.length then ([], 5) else
    (setS (hd5 h (20 + h.Options.length + l.length)) 10 2 (65535 - (norm (wsum (hd5 h (20 + h.Options.length + l.length))) : Nat)) ++ l, 0)
theorem setS_len (s : List UInt8) (p k n : Int) : (setS s p k n).length ≤ s.length + 8 := by
  unfold setS
  split
  · simp; omega
  · omega
theorem put5_fin {t l : List UInt8} (ht : t.length ≤ 2 ^ 20) (hl : l.length < 2 ^ 30) : ((check_Of t).bind fun xo => (check_Set t 10 2 (wI .u64 xo)).bind fun s => oreq (decide (s.length + l.length < 2 ^ 63)) (some (s ++ l, (0 : Int)))) = some (setS t 10 2 (65535 - (norm (wsum t) : Nat)) ++ l, 0) := by
  have := norm_le (wsum t)
  have hs := setS_len t 10 2 (65535 - (norm (wsum t) : Nat))
  rw [Of_eq (by omega), Option.bind_some, wU64 (by omega) (by omega), Set_eq (by omega) (by omega), Option.bind_some, oreq_p (by omega)]
theorem put5_rfin {t l : List UInt8} (ht : t.length ≤ 2 ^ 20) (hl : l.length < 2 ^ 30) : ((R03_Of t).bind fun xo => (R03_Set t 10 2 (wI .u64 xo)).bind fun s => oreq (decide (s.length + l.length < 2 ^ 63)) (some (s ++ l, (0 : Int)))) = some (setS t 10 2 (65535 - (norm (wsum t) : Nat)) ++ l, 0) := by
  have := norm_le (wsum t)
  have hs := setS_len t 10 2 (65535 - (norm (wsum t) : Nat))
  rw [R03_Of_eq (by omega), Option.bind_some, wU64 (by omega) (by omega), R03_Set_eq (by omega) (by omega) (by omega), Option.bind_some, oreq_p (by omega)]
theorem H5_inv {h : ipfour_Head} (hh : H5 h = true) : (0 ≤ h.Class ∧ h.Class ≤ 255) ∧ (0 ≤ h.Mark ∧ h.Mark ≤ 65535) ∧ (0 ≤ h.TTL ∧ h.TTL ≤ 255) ∧ (0 ≤ h.Proto ∧ h.Proto ≤ 255) ∧ (h.Src.V6 = false ∧ aok h.Src = true) ∧ (h.Dst.V6 = false ∧ aok h.Dst = true) ∧ h.Options.length % 4 = 0 ∧ h.Options.length ≤ 40 := by
  unfold H5 four at hh
  simp only [Bool.and_eq_true, inR_iff, Bool.not_eq_true', decide_eq_true_eq] at hh
  obtain ⟨⟨⟨⟨⟨⟨⟨a, b⟩, c⟩, d⟩, e⟩, f⟩, g⟩, i⟩ := hh
  exact ⟨a, b, c, d, e, f, g, i⟩
theorem p5_eq {h : ipfour_Head} {l : List UInt8} (h1 : A4 h.Src) (h2 : A4 h.Dst) (hl : l.length < 2 ^ 20) (ho : h.Options.length < 2 ^ 20) : ipfour_Put h l = some (put5 h l) := by
  unfold ipfour_Put ipfour_PutF put5
  rw [may5_eq, Option.bind_some]
  cases hh : H5 h
  · rfl
  obtain ⟨q1, q2, q3, q4, q5, q6, q7, q8⟩ := H5_inv hh
  simp only [Bool.not_true, cond_false]
  rw [if_neg (by decide), wI64 (n := 20 + (h.Options.length : Int)) (by omega) (by omega), wI64 (n := 65535 - (20 + (h.Options.length : Int))) (by omega) (by omega)]
  by_cases h5 : (l.length : Int) > 65535 - (20 + (h.Options.length : Int))
  · rw [cond_p h5, if_pos (by omega)]
  rw [cond_n h5, if_neg (by omega)]
  have b1 : (abytes h.Src).length ≤ 16 := by rw [abytes_len]; cases h.Src.V6 <;> decide
  have b2 : (abytes h.Dst).length ≤ 16 := by rw [abytes_len]; cases h.Dst.V6 <;> decide
  have eo : iorI .i64 64 (wI .i64 (((20 + h.Options.length) / 4 : Nat) : Int)) = 64 + (((20 + h.Options.length) / 4 : Nat) : Int) := by
    rw [wI64 (by omega) (by omega)]
    exact iorI64_low 4 (a := 4) (by omega) (by omega) (by omega) (by omega) (by omega)
  have hlen := hd5_len h (20 + h.Options.length + l.length)
  have key : ∀ fl : Int, fl = cond h.Whole 64 0 → ((ipfour_row [64 + (((20 + h.Options.length) / 4 : Nat) : Int), 1, h.Class, 1, 20 + (h.Options.length : Int) + l.length, 2, h.Mark, 2, fl, 1, 0, 1, h.TTL, 1, h.Proto, 1, 0, 2]).bind fun xr => oreq (decide ((abytes h.Src).length + (abytes h.Dst).length < 2 ^ 63)) <| oreq (decide ((abytes h.Src ++ abytes h.Dst).length + h.Options.length < 2 ^ 63)) <| oreq (decide (xr.length + ((abytes h.Src ++ abytes h.Dst) ++ h.Options).length < 2 ^ 63)) <|
      (check_Of (xr ++ ((abytes h.Src ++ abytes h.Dst) ++ h.Options))).bind fun xo => (check_Set (xr ++ ((abytes h.Src ++ abytes h.Dst) ++ h.Options)) 10 2 (wI .u64 xo)).bind fun s => oreq (decide (s.length + l.length < 2 ^ 63)) (some (s ++ l, (0 : Int)))) = some (setS (hd5 h (20 + h.Options.length + l.length)) 10 2 (65535 - (norm (wsum (hd5 h (20 + h.Options.length + l.length))) : Nat)) ++ l, 0) := by
    intro fl hfl
    have hfr : 0 ≤ fl ∧ fl ≤ 64 := by subst hfl; cases h.Whole <;> decide
    have hrow : rowS [64 + (((20 + h.Options.length) / 4 : Nat) : Int), 1, h.Class, 1, 20 + (h.Options.length : Int) + l.length, 2, h.Mark, 2, fl, 1, 0, 1, h.TTL, 1, h.Proto, 1, 0, 2] = putS (64 + ((20 + h.Options.length) / 4 : Nat)) 1 ++ (putS h.Class 1 ++ (putS (20 + (h.Options.length : Int) + l.length) 2 ++ (putS h.Mark 2 ++ (putS fl 1 ++ (putS 0 1 ++ (putS h.TTL 1 ++ (putS h.Proto 1 ++ (putS 0 2 ++ [])))))))) := by
      simp only [rowS]
      rw [wU64 (n := 64 + (((20 + h.Options.length) / 4 : Nat) : Int)) (by omega) (by omega), wU64 q1.1 (by omega), wU64 (n := 20 + (h.Options.length : Int) + l.length) (by omega) (by omega), wU64 q2.1 (by omega), wU64 hfr.1 (by omega), wU64 q3.1 (by omega), wU64 q4.1 (by omega), show wI .u64 0 = 0 from rfl]
    rw [rowG_eq (by simp) (by simp) (by simp), hrow, Option.bind_some]
    have e : putS (64 + ((20 + h.Options.length) / 4 : Nat)) 1 ++ (putS h.Class 1 ++ (putS (20 + (h.Options.length : Int) + l.length) 2 ++ (putS h.Mark 2 ++ (putS fl 1 ++ (putS 0 1 ++ (putS h.TTL 1 ++ (putS h.Proto 1 ++ (putS 0 2 ++ [])))))))) ++ (abytes h.Src ++ abytes h.Dst ++ h.Options) = hd5 h (20 + h.Options.length + l.length) := by
      subst hfl; unfold hd5; simp only [List.append_assoc, List.append_nil]
    have hl2 := congrArg List.length e
    rw [List.length_append] at hl2
    rw [oreq_p (by omega), oreq_p (by simp only [List.length_append]; omega), oreq_p (by omega), e]
    exact put5_fin (by omega) (by omega)
  rw [wI64 (n := 20 + (h.Options.length : Int) + l.length) (by omega) (by omega), tdiv4, eo, aPut_eq h1 q5.2, aPut_eq h2 q6.2]
  simp only [Option.bind_some]
  cases hw : h.Whole
  · rw [cond_false]
    have := key 0 (by rw [hw]; rfl)
    rw [hw] at *
    exact this
  · rw [cond_true]
    have := key 64 (by rw [hw]; rfl)
    exact this
theorem rp5_eq {h : ipfour_Head} {l : List UInt8} (h1 : A4 h.Src) (h2 : A4 h.Dst) (hl : l.length < 2 ^ 20) (ho : h.Options.length < 2 ^ 20) : R05_Put h l = some (put5 h l) := by
  unfold R05_Put R05_PutF put5
  rw [right5_eq, Option.bind_some]
  cases hh : H5 h
  · rfl
  obtain ⟨q1, q2, q3, q4, q5, q6, q7, q8⟩ := H5_inv hh
  simp only [Bool.not_true, cond_false]
  rw [if_neg (by decide), wI64 (n := 20 + (h.Options.length : Int)) (by omega) (by omega), wI64 (n := 65535 - (20 + (h.Options.length : Int))) (by omega) (by omega)]
  by_cases h5 : (l.length : Int) > 65535 - (20 + (h.Options.length : Int))
  · rw [cond_p h5, if_pos (by omega)]
  rw [cond_n h5, if_neg (by omega)]
  have b1 : (abytes h.Src).length ≤ 16 := by rw [abytes_len]; cases h.Src.V6 <;> decide
  have b2 : (abytes h.Dst).length ≤ 16 := by rw [abytes_len]; cases h.Dst.V6 <;> decide
  rw [wI64 (n := 20 + (h.Options.length : Int) + l.length) (by omega) (by omega), tdiv4, wI64 (n := (((20 + h.Options.length) / 4 : Nat) : Int)) (by omega) (by omega), wI64 (n := 64 + (((20 + h.Options.length) / 4 : Nat) : Int)) (by omega) (by omega), a4Put_eq h1 q5.2, a4Put_eq h2 q6.2]
  simp only [num5W_eq, Option.bind_some]
  rw [wU64 (n := 64 + (((20 + h.Options.length) / 4 : Nat) : Int)) (by omega) (by omega), wU64 q1.1 (by omega), wU64 (n := 20 + (h.Options.length : Int) + l.length) (by omega) (by omega), wU64 q2.1 (by omega), wU64 q3.1 (by omega), wU64 q4.1 (by omega), show wI .u64 0 = 0 from rfl, show wI .u64 64 = 64 from rfl]
  have a1 := putS_len (64 + ((20 + h.Options.length) / 4 : Nat)) 1
  have a2 := putS_len h.Class 1
  have a3 := putS_len (20 + (h.Options.length : Int) + l.length) 2
  have a4 := putS_len h.Mark 2
  have a5 := putS_len 64 1
  have a6 := putS_len 0 1
  have a7 := putS_len h.TTL 1
  have a8 := putS_len h.Proto 1
  have a9 := putS_len 0 2
  have hlen := hd5_len h (20 + h.Options.length + l.length)
  cases hw : h.Whole
  · rw [cond_false]
    have e : putS (64 + ((20 + h.Options.length) / 4 : Nat)) 1 ++ putS h.Class 1 ++ putS (20 + (h.Options.length : Int) + l.length) 2 ++ putS h.Mark 2 ++ putS 0 1 ++ putS 0 1 ++ putS h.TTL 1 ++ putS h.Proto 1 ++ putS 0 2 ++ abytes h.Src ++ abytes h.Dst ++ h.Options = hd5 h (20 + h.Options.length + l.length) := by unfold hd5; rw [hw]; rfl
    iterate 11 rw [oreq_p (by first | omega | (simp only [List.length_append]; omega))]
    rw [e]
    exact put5_rfin (by omega) (by omega)
  · rw [cond_true]
    have e : putS (64 + ((20 + h.Options.length) / 4 : Nat)) 1 ++ putS h.Class 1 ++ putS (20 + (h.Options.length : Int) + l.length) 2 ++ putS h.Mark 2 ++ putS 64 1 ++ putS 0 1 ++ putS h.TTL 1 ++ putS h.Proto 1 ++ putS 0 2 ++ abytes h.Src ++ abytes h.Dst ++ h.Options = hd5 h (20 + h.Options.length + l.length) := by unfold hd5; rw [hw]; rfl
    iterate 11 rw [oreq_p (by first | omega | (simp only [List.length_append]; omega))]
    rw [e]
    exact put5_rfin (by omega) (by omega)
def AddrOK (a : api_Addr) : Prop := (0 ≤ a.Hi ∧ a.Hi < 2 ^ 64) ∧ 0 ≤ a.Lo ∧ a.Lo < 2 ^ 64
theorem addrOK_of {v : Bool} {hi lo : Int} (h1 : 0 ≤ hi ∧ hi < 18446744073709551616) (h2 : 0 ≤ lo ∧ lo < 18446744073709551616) : AddrOK ⟨v, hi, lo⟩ := ⟨⟨h1.1, by have := h1.2; simp only []; omega⟩, h2.1, by have := h2.2; simp only []; omega⟩
def addrB (a : api_Addr) : List UInt8 := be a.Hi.toNat 8 ++ be a.Lo.toNat 8
theorem addr_Put6 {a : api_Addr} (h : AddrOK a) (h6 : a.V6 = true) : addr_Put a = some (addrB a) := by
  unfold addr_Put addr_PutF addr_Right addr_RightF
  rw [h6]
  simp only [cond_true, Option.bind_some, Bool.not_true, cond_false]
  rw [octet_Put_eq h.1.1, octet_Put_eq h.2.1]
  simp only [Option.bind_some, putS]
  rw [if_pos (by omega), if_pos (by omega), oreq_p (by simp)]; rfl
theorem R04_Put6 {a : api_Addr} (h : AddrOK a) (h6 : a.V6 = true) : R04_Put a = some (addrB a) := by
  unfold R04_Put R04_PutF R04_Right R04_RightF
  rw [h6]
  simp only [cond_true, Option.bind_some, Bool.not_true, cond_false]
  rw [R02_Put_eq h.1.1 h.1.2, R02_Put_eq h.2.1 h.2.2]
  simp only [Option.bind_some, putS]
  rw [if_pos (by omega), if_pos (by omega), oreq_p (by simp)]; rfl
def addrG (s : List UInt8) : api_Addr := ⟨true, (valL (s.take 8) : Nat), (valL (s.drop 8) : Nat)⟩
theorem getS_in {s : List UInt8} {p k : Nat} (h : p + k ≤ s.length) (h1 : 1 ≤ k) (h8 : k ≤ 8) : getS s (p : Int) (k : Int) = (((valL ((s.drop p).take k) : Nat) : Int), true) := by
  unfold getS; rw [if_pos (by omega)]; rfl
def H6 (h : ipsix_Head) : Prop := (0 ≤ h.Class ∧ h.Class ≤ 255) ∧ (0 ≤ h.Label ∧ h.Label ≤ 1048575) ∧ (0 ≤ h.Next ∧ h.Next ≤ 255) ∧ (0 ≤ h.Hop ∧ h.Hop ≤ 255) ∧ h.Src.V6 = true ∧ h.Dst.V6 = true
instance (h : ipsix_Head) : Decidable (H6 h) := inferInstanceAs (Decidable (_ ∧ _))
theorem may6_eq (h : ipsix_Head) : ipsix_Head_may h = some (decide (H6 h)) := by
  unfold ipsix_Head_may ipsix_Head_mayF
  simp only [cond_dec]
  by_cases hh : H6 h
  · rw [decide_eq_true hh]
    obtain ⟨a, b, c, d, e, f⟩ := hh
    rw [if_neg (by omega), if_neg (by omega), if_neg (by omega), if_neg (by omega), if_neg (by omega), if_neg (by omega), if_neg (by omega), if_neg (by omega), e, f]; rfl
  · rw [decide_eq_false hh]
    unfold H6 at hh
    repeat' split
    all_goals first | rfl | skip
    cases e : h.Src.V6
    · rfl
    · rw [cond_true]
      cases f : h.Dst.V6
      · rfl
      · exact absurd ⟨by omega, by omega, by omega, by omega, e, f⟩ hh
theorem in6_eq (n m : Int) : R06_in n m = some (decide (0 ≤ n ∧ n ≤ m)) := by
  unfold R06_in R06_inF
  by_cases h : n ≥ 0
  · rw [cond_p h]; congr 1; rw [Bool.eq_iff_iff, decide_eq_true_eq, decide_eq_true_eq]; omega
  · rw [cond_n h]; congr 1; symm; exact decide_eq_false (by omega)
theorem right6_eq (h : ipsix_Head) : R06_Right h = some (decide (H6 h)) := by
  unfold R06_Right R06_RightF
  simp only [in6_eq, Option.bind_some, cond_dec]
  by_cases hh : H6 h
  · rw [decide_eq_true hh]
    obtain ⟨a, b, c, d, e, f⟩ := hh
    rw [if_pos a, if_pos b, if_pos c, if_pos d, e, f]; rfl
  · rw [decide_eq_false hh]
    unfold H6 at hh
    repeat' split
    all_goals first | rfl | skip
    cases e : h.Src.V6
    · rfl
    · rw [cond_true]
      cases f : h.Dst.V6
      · rfl
      · exact absurd ⟨by assumption, by assumption, by assumption, by assumption, e, f⟩ hh
def headB (h : ipsix_Head) (n : Nat) : List UInt8 := be (6 * 2 ^ 28 + h.Class.toNat * 2 ^ 20 + h.Label.toNat) 4 ++ be n 2 ++ be h.Next.toNat 1 ++ be h.Hop.toNat 1 ++ addrB h.Src ++ addrB h.Dst
theorem headB_len (h : ipsix_Head) (n : Nat) : (headB h n).length = 40 := by simp [headB, addrB]
def put6 (h : ipsix_Head) (p : List UInt8) : List UInt8 × Int := if ¬ H6 h then ([], 1) else if p.length > 65535 then ([], 5) else (headB h p.length ++ p, 0)
theorem put6_eq {h : ipsix_Head} {p : List UInt8} (hs : AddrOK h.Src) (hd : AddrOK h.Dst) (hp : p.length < 2 ^ 60) : ipsix_Put h p = some (put6 h p) := by
  unfold ipsix_Put ipsix_PutF put6
  rw [may6_eq, Option.bind_some]
  by_cases hh : H6 h
  · rw [decide_eq_true hh, Bool.not_true, cond_false, if_neg (by simpa using hh)]
    obtain ⟨a, b, c, d, e, f⟩ := hh
    by_cases h5 : (p.length : Int) > 65535
    · rw [cond_p h5, if_pos (by omega)]
    rw [cond_n h5, if_neg (by omega)]
    simp only []
    rw [addr_Put6 hs e, addr_Put6 hd f]
    obtain ⟨C, hC⟩ := Int.eq_ofNat_of_zero_le a.1
    obtain ⟨L, hL⟩ := Int.eq_ofNat_of_zero_le b.1
    obtain ⟨X, hX⟩ := Int.eq_ofNat_of_zero_le c.1
    obtain ⟨O, hO⟩ := Int.eq_ofNat_of_zero_le d.1
    rw [hC] at a; rw [hL] at b; rw [hX] at c; rw [hO] at d
    have e1 : iorI .u64 (iorI .u64 1610612736 (wI .u64 ((wI .u64 h.Class) * 2 ^ 20))) (wI .u64 h.Label) = ((6 * 2 ^ 28 + C * 2 ^ 20 + L : Nat) : Int) := by
      rw [hC, hL, wU64 (n := (C : Int)) (by omega) (by omega), wU64 (n := (L : Int)) (by omega) (by omega), wU64 (n := (C : Int) * 2 ^ 20) (by omega) (by omega)]
      have g1 : iorI .u64 1610612736 ((C : Int) * 2 ^ 20) = ((6 * 2 ^ 8 + C : Nat) : Int) * 2 ^ 20 := by
        have := iorU64_low 28 (a := 6) (b := (C : Int) * 2 ^ 20) (by omega) (by omega) (by omega) (by omega) (by omega)
        rw [show (6 : Int) * 2 ^ 28 = 1610612736 from rfl] at this
        rw [this]; omega
      rw [g1, iorU64_low 20 (by omega) (by omega) (by omega) (by omega) (by omega)]; omega
    have e2 : iorI .u64 (iorI .u64 (wI .u64 ((wI .u64 (p.length : Int)) * 2 ^ 16)) (wI .u64 ((wI .u64 h.Next) * 2 ^ 8))) (wI .u64 h.Hop) = ((p.length * 2 ^ 16 + X * 2 ^ 8 + O : Nat) : Int) := by
      rw [hX, hO, wU64 (n := (X : Int)) (by omega) (by omega), wU64 (n := (O : Int)) (by omega) (by omega), wU64 (n := (p.length : Int)) (by omega) (by omega), wU64 (n := (X : Int) * 2 ^ 8) (by omega) (by omega), wU64 (n := (p.length : Int) * 2 ^ 16) (by omega) (by omega)]
      have g1 : iorI .u64 ((p.length : Int) * 2 ^ 16) ((X : Int) * 2 ^ 8) = ((p.length * 2 ^ 8 + X : Nat) : Int) * 2 ^ 8 := by
        rw [iorU64_low 16 (by omega) (by omega) (by omega) (by omega) (by omega)]; omega
      rw [g1, iorU64_low 8 (by omega) (by omega) (by omega) (by omega) (by omega)]; omega
    rw [e1, e2, octet_Put_eq (by omega), octet_Put_eq (by omega)]
    simp only [Option.bind_some, putS]
    have e3 : be (p.length * 2 ^ 16 + X * 2 ^ 8 + O) 4 = be p.length 2 ++ be X 1 ++ be O 1 := by
      refine be_of (by simp) ?_
      rw [val_append, val_append, val_be, val_be, val_be]
      simp only [be_len]
      omega
    rw [if_pos (by omega), if_pos (by omega)]
    have hl : (be (6 * 2 ^ 28 + C * 2 ^ 20 + L) 4).length = 4 := be_len _ _
    simp only [Int.toNat_natCast, show (4 : Int).toNat = 4 from rfl, e3]
    rw [oreq_p (by simp), oreq_p (by simp [addrB]), oreq_p (by simp [addrB]), oreq_p (by simp [addrB]; omega)]
    simp [headB, hC, hL, hX, hO]
  · rw [decide_eq_false hh, Bool.not_false, cond_true, if_pos hh]
theorem num6 {n k : Int} (h0 : 0 ≤ n) (h1 : n < 2 ^ 64) : R06_num n k = some (putS n k) := by
  unfold R06_num R06_numF
  rw [wU64 h0 (by omega), R02_Put_eq h0 h1]; rfl
theorem rput6_eq {h : ipsix_Head} {p : List UInt8} (hs : AddrOK h.Src) (hd : AddrOK h.Dst) (hp : p.length < 2 ^ 60) : R06_Put h p = some (put6 h p) := by
  unfold R06_Put R06_PutF put6
  rw [right6_eq, Option.bind_some]
  by_cases hh : H6 h
  · rw [decide_eq_true hh, Bool.not_true, cond_false, if_neg (by simpa using hh)]
    obtain ⟨a, b, c, d, e, f⟩ := hh
    by_cases h5 : (p.length : Int) > 65535
    · rw [cond_p h5, if_pos (by omega)]
    rw [cond_n h5, if_neg (by omega)]
    simp only []
    obtain ⟨C, hC⟩ := Int.eq_ofNat_of_zero_le a.1
    obtain ⟨L, hL⟩ := Int.eq_ofNat_of_zero_le b.1
    rw [hC] at a; rw [hL] at b
    have e1 : wI .i64 (wI .i64 (1610612736 + (wI .i64 (h.Class * 1048576))) + h.Label) = ((6 * 2 ^ 28 + C * 2 ^ 20 + L : Nat) : Int) := by
      rw [hC, hL, wI64 (n := (C : Int) * 1048576) (by omega) (by omega), wI64 (n := 1610612736 + (C : Int) * 1048576) (by omega) (by omega), wI64 (by omega) (by omega)]; omega
    rw [e1, R04_Put6 hs e, R04_Put6 hd f, num6 (by omega) (by omega), num6 (by omega) (by omega), num6 c.1 (by omega), num6 d.1 (by omega)]
    simp only [Option.bind_some, putS]
    rw [if_pos (by omega), if_pos (by omega), if_pos (by omega), if_pos (by omega)]
    simp only [Int.toNat_natCast, show (4 : Int).toNat = 4 from rfl, show (2 : Int).toNat = 2 from rfl, show (1 : Int).toNat = 1 from rfl]
    rw [oreq_p (by simp), oreq_p (by simp), oreq_p (by simp), oreq_p (by simp [addrB]), oreq_p (by simp [addrB]), oreq_p (by simp [addrB]; omega)]
    simp [headB, hC, hL]
  · rw [decide_eq_false hh, Bool.not_false, cond_true, if_pos hh]
theorem awake53 : law53_awake = some true := by decide +kernel
theorem of53 (h : icmp_Message) : law53_of h = some h := rfl
theorem back53 (h : icmp_Message) : law53_back h = some h := rfl
theorem A4_addrOK {a : api_Addr} (h : A4 a) : AddrOK a := ⟨⟨h.1, h.2.1⟩, h.2.2.1, h.2.2.2⟩
def pack53 (m : icmp_Message) (src dst : api_Addr) : List UInt8 × Int :=
  if (put53 m src dst).2 ≠ 0 then ([], (put53 m src dst).2) else cond src.V6 (put6 ⟨0, 0, 58, 64, src, dst⟩ (put53 m src dst).1) (put5 ⟨0, 0, true, 64, 1, src, dst, []⟩ (put53 m src dst).1)
theorem put53_len (m : icmp_Message) (src dst : api_Addr) : (put53 m src dst).1.length ≤ 8 + m.Quote.length := by
  unfold put53
  split
  · simp
  split
  · simp
  · simp only [hc53_len]; omega
theorem ipack_eq {m : icmp_Message} {src dst : api_Addr} (h1 : A4 src) (h2 : A4 dst) (hq : m.Quote.length < 2 ^ 19) : icmp_Packet m src dst = some (pack53 m src dst) := by
  unfold icmp_Packet icmp_PacketF pack53
  have hl := put53_len m src dst
  rw [iput_eq h1 h2 (by omega), Option.bind_some]
  generalize put53 m src dst = p at *
  by_cases g : p.2 = 0
  · rw [show (p.2 != 0) = false by simpa using g, cond_false, if_neg (by simpa using g), put6_eq (h := ⟨0, 0, 58, 64, src, dst⟩) (A4_addrOK h1) (A4_addrOK h2) (by omega), p5_eq (h := ⟨0, 0, true, 64, 1, src, dst, []⟩) h1 h2 (by omega) (by simp)]
    cases src.V6 <;> rfl
  · rw [show (p.2 != 0) = true by simpa using g, cond_true, if_pos g]
theorem rpack_eq {m : icmp_Message} {src dst : api_Addr} (h1 : A4 src) (h2 : A4 dst) (hq : m.Quote.length < 2 ^ 19) : R53_Packet m src dst = some (pack53 m src dst) := by
  unfold R53_Packet R53_PacketF pack53
  have hl := put53_len m src dst
  rw [rput53_eq h1 h2 (by omega), Option.bind_some]
  generalize put53 m src dst = p at *
  by_cases g : p.2 = 0
  · rw [show (p.2 != 0) = false by simpa using g, cond_false, if_neg (by simpa using g), rput6_eq (h := ⟨0, 0, 58, 64, src, dst⟩) (A4_addrOK h1) (A4_addrOK h2) (by omega), rp5_eq (h := ⟨0, 0, true, 64, 1, src, dst, []⟩) h1 h2 (by omega) (by simp)]
    cases src.V6 <;> rfl
  · rw [show (p.2 != 0) = true by simpa using g, cond_true, if_pos g]
theorem icmpTells (m : icmp_Message) (src dst : api_Addr) (s : List UInt8) (h1 : A4 src) (h2 : A4 dst) : law53_IcmpTells m src dst s = some true := by
  unfold law53_IcmpTells law53_IcmpTellsF
  rw [awake53]
  by_cases g1 : (m.Quote.length : Int) > 1300
  · rw [cond_p g1]; rfl
  by_cases g2 : (s.length : Int) > 300
  · rw [cond_n g1, cond_p g2]; rfl
  rw [cond_n g1, cond_n g2, of53, Option.bind_some, iput_eq h1 h2 (by omega), rput53_eq h1 h2 (by omega), iget_eq h1 h2 (by omega), rget53_eq h1 h2 (by omega), Option.bind_some, Option.bind_some, Option.bind_some, Option.bind_some, Option.bind_some, ipack_eq h1 h2 (by omega), rpack_eq h1 h2 (by omega)]
  simp only [Option.bind_some, beq_self_eq_true, cond_true, back53, Bool.and_self]
end Go.Vm.Code
