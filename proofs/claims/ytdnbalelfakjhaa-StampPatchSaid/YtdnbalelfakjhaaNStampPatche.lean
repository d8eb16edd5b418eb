import Derived.Test.YtdnbalelfakjhaaNStampPatchd
namespace Go.Vm.Code
open Go Go.Vm Go.Proofs
set_option maxRecDepth 100000
set_option maxHeartbeats 4000000
set_option linter.unusedVariables false
def R07_PutF (R03_Of : (List UInt8) → Option Int) (R03_Set : (List UInt8) → Int → Int → Int → Option (List UInt8)) (R05_Pseudo : api_Addr → api_Addr → Int → Int → Option (List UInt8)) (R07_Right : tcp_Head → Option Bool) (R07_num : Int → Int → Option (List UInt8)) (ha0 : tcp_Head) (src : api_Addr) (dst : api_Addr) (payload : List UInt8) : Option ((List UInt8) × Int) :=
  let t := wI .i64 (20 + (ha0.Options.length : Int))
  (R05_Pseudo src dst 6 (wI .i64 (t + (payload.length : Int)))).bind fun p =>
  (R07_Right ha0).bind fun xr =>
  cond (!xr)
    (
    some (([], 1)))
    (
    cond (p == [])
      (
      some (([], 1)))
      (
      let t1 := decide ((payload.length : Int) > (wI .i64 (65535 - t)))
      cond (t1)
        (
        some (([], 5)))
        (
        (R07_num ha0.SPort 2).bind fun n =>
        (R07_num ha0.DPort 2).bind fun n1 =>
        oreq (decide (n.length + n1.length < 2 ^ 63)) <|
        (R07_num (wI .i64 ha0.Seq) 4).bind fun n2 =>
        oreq (decide ((n ++ n1).length + n2.length < 2 ^ 63)) <|
        (R07_num (wI .i64 ha0.Ack) 4).bind fun n3 =>
        oreq (decide (((n ++ n1) ++ n2).length + n3.length < 2 ^ 63)) <|
        (R07_num (wI .i64 (4 * t)) 1).bind fun n4 =>
        oreq (decide ((((n ++ n1) ++ n2) ++ n3).length + n4.length < 2 ^ 63)) <|
        (R07_num ha0.Flags 1).bind fun n5 =>
        oreq (decide (((((n ++ n1) ++ n2) ++ n3) ++ n4).length + n5.length < 2 ^ 63)) <|
        (R07_num ha0.Window 2).bind fun n6 =>
        oreq (decide ((((((n ++ n1) ++ n2) ++ n3) ++ n4) ++ n5).length + n6.length < 2 ^ 63)) <|
        let t2 := (((((n ++ n1) ++ n2) ++ n3) ++ n4) ++ n5) ++ n6
        (R07_num 0 2).bind fun n7 =>
        oreq (decide (t2.length + n7.length < 2 ^ 63)) <|
        (R07_num ha0.Urgent 2).bind fun n8 =>
        oreq (decide ((t2 ++ n7).length + n8.length < 2 ^ 63)) <|
        oreq (decide (((t2 ++ n7) ++ n8).length + ha0.Options.length < 2 ^ 63)) <|
        oreq (decide ((((t2 ++ n7) ++ n8) ++ ha0.Options).length + payload.length < 2 ^ 63)) <|
        let t3 := (((t2 ++ n7) ++ n8) ++ ha0.Options) ++ payload
        oreq (decide (p.length + t3.length < 2 ^ 63)) <|
        (R03_Of (p ++ t3)).bind fun xo =>
        (R03_Set t3 16 2 (wI .u64 xo)).bind fun s =>
        some ((s, 0)))))
def rx36 (x : (List UInt8) × Int) : SRes := ⟨.tuple ⟨[.string ⟨⟨x.1⟩⟩, .int .i64 x.2]⟩, [], []⟩
def r36 (g : tcp_Head → api_Addr → api_Addr → (List UInt8) → Option ((List UInt8) × Int)) : Dec := dV uvtcp_Head fun (y0 : tcp_Head) => dV uvapi_Addr fun (y1 : api_Addr) => dV uvapi_Addr fun (y2 : api_Addr) => dV asS fun (y3 : List UInt8) => dEnd (ofG (g y0 y1 y2 y3) rx36)
theorem r36_c {g : tcp_Head → api_Addr → api_Addr → (List UInt8) → Option ((List UInt8) × Int)} {y0 : tcp_Head} {y1 : api_Addr} {y2 : api_Addr} {y3 : List UInt8} {x : (List UInt8) × Int} (hx : g y0 y1 y2 y3 = some x) : r36 g [.agg ⟨[.int .i64 y0.SPort, .int .i64 y0.DPort, .int .u32 y0.Seq, .int .u32 y0.Ack, .int .i64 y0.Flags, .int .i64 y0.Window, .int .i64 y0.Urgent, .string ⟨⟨y0.Options⟩⟩]⟩, .agg ⟨[.bool y1.V6, .int .u64 y1.Hi, .int .u64 y1.Lo]⟩, .agg ⟨[.bool y2.V6, .int .u64 y2.Hi, .int .u64 y2.Lo]⟩, .string ⟨⟨y3⟩⟩] [] = some (rx36 x) := (dV_eq (uvtcp_Head_c _)).trans ((dV_eq (uvapi_Addr_c _)).trans ((dV_eq (uvapi_Addr_c _)).trans ((dV_eq (asS_c)).trans (ofG_eq hx))))
def s36 (g : tcp_Head → api_Addr → api_Addr → (List UInt8) → Option ((List UInt8) × Int)) : Summ := ⟨[.v, .v, .v, .v], r36 g⟩
theorem r36_eq {g : tcp_Head → api_Addr → api_Addr → (List UInt8) → Option ((List UInt8) × Int)} {y0 : tcp_Head} {y1 : api_Addr} {y2 : api_Addr} {y3 : List UInt8} {x : (List UInt8) × Int} (hx : g y0 y1 y2 y3 = some x) : (s36 g).run [.agg ⟨[.int .i64 y0.SPort, .int .i64 y0.DPort, .int .u32 y0.Seq, .int .u32 y0.Ack, .int .i64 y0.Flags, .int .i64 y0.Window, .int .i64 y0.Urgent, .string ⟨⟨y0.Options⟩⟩]⟩, .agg ⟨[.bool y1.V6, .int .u64 y1.Hi, .int .u64 y1.Lo]⟩, .agg ⟨[.bool y2.V6, .int .u64 y2.Hi, .int .u64 y2.Lo]⟩, .string ⟨⟨y3⟩⟩] [] = some (rx36 x) := r36_c hx
abbrev sums36 (R03_Of : (List UInt8) → Option Int) (R03_Set : (List UInt8) → Int → Int → Int → Option (List UInt8)) (R05_Pseudo : api_Addr → api_Addr → Int → Int → Option (List UInt8)) (R07_Right : tcp_Head → Option Bool) (R07_num : Int → Int → Option (List UInt8)) : List (Nat × Summ) := [(10, s10 R03_Of), (9, s9 R03_Set), (59, s59 R05_Pseudo), (60, s60 R07_Right), (33, s33 R07_num)]
theorem leads36 (R03_Of : (List UInt8) → Option Int) (R03_Set : (List UInt8) → Int → Int → Int → Option (List UInt8)) (R05_Pseudo : api_Addr → api_Addr → Int → Int → Option (List UInt8)) (R07_Right : tcp_Head → Option Bool) (R07_num : Int → Int → Option (List UInt8)) (hS : SumsOK Try.prog (aget (sums36 R03_Of R03_Set R05_Pseudo R07_Right R07_num))) (ha0 : tcp_Head) (src : api_Addr) (dst : api_Addr) (payload : List UInt8) (res : (List UInt8) × Int) (h : R07_PutF R03_Of R03_Set R05_Pseudo R07_Right R07_num ha0 src dst payload = some res) :
    Leads Try.prog 36 0 ⟨⟨36, 83, [(0, .agg ⟨[.int .i64 ha0.SPort, .int .i64 ha0.DPort, .int .u32 ha0.Seq, .int .u32 ha0.Ack, .int .i64 ha0.Flags, .int .i64 ha0.Window, .int .i64 ha0.Urgent, .string ⟨⟨ha0.Options⟩⟩]⟩), (1, .agg ⟨[.bool src.V6, .int .u64 src.Hi, .int .u64 src.Lo]⟩), (2, .agg ⟨[.bool dst.V6, .int .u64 dst.Hi, .int .u64 dst.Lo]⟩), (3, .string ⟨⟨payload⟩⟩)], [.code k36_21], [], false, none⟩, [], [], 0⟩ (fun v H _ => Res 0 (rx36 res) v H) := by
  unfold R07_PutF at h
  refine ev_ok tab_ok hS true 3000 ?_
  conv => whnf
  let t : Int := wI .i64 (20 + (ha0.Options.length : Int))
  replace h := obind.elim h; obtain ⟨p, hy, h⟩ := h
  refine sumK.q rfl rfl (r59_eq hy) rfl rfl rfl ?_
  conv => whnf
  replace h := obind.elim h; obtain ⟨xr, hy, h⟩ := h
  refine sumK.q rfl rfl (r60_eq hy) rfl rfl rfl ?_
  conv => whnf
  refine br.h h ?_ ?_ ?_
  · rfl
  · clear h; intro hb h; conv => whnf
    all_goals (cases h; exact Res.z rfl rfl rfl)
  clear h; intro hb h; conv => whnf
  refine br.h h ?_ ?_ ?_
  · rfl
  · clear h; intro hb h; conv => whnf
    all_goals (cases h; exact Res.z rfl rfl rfl)
  clear h; intro hb h; conv => whnf
  let t1 : Bool := decide ((payload.length : Int) > (wI .i64 (65535 - t)))
  refine br.h h ?_ ?_ ?_
  · rfl
  · clear h; intro hb h; conv => whnf
    all_goals (cases h; exact Res.z rfl rfl rfl)
  clear h; intro hb h; conv => whnf
  replace h := obind.elim h; obtain ⟨n, hy, h⟩ := h
  refine sumK.q rfl rfl (r33_eq hy) rfl rfl rfl ?_
  conv => whnf
  replace h := obind.elim h; obtain ⟨n1, hy, h⟩ := h
  refine sumK.q rfl rfl (r33_eq hy) rfl rfl rfl ?_
  conv => whnf
  replace h := oreq.elim h; obtain ⟨hb, h⟩ := h
  first | (refine req.intro hb ?_; conv => whnf) | skip
  replace h := obind.elim h; obtain ⟨n2, hy, h⟩ := h
  refine sumK.q rfl rfl (r33_eq hy) rfl rfl rfl ?_
  conv => whnf
  replace h := oreq.elim h; obtain ⟨hb, h⟩ := h
  first | (refine req.intro hb ?_; conv => whnf) | skip
  replace h := obind.elim h; obtain ⟨n3, hy, h⟩ := h
  refine sumK.q rfl rfl (r33_eq hy) rfl rfl rfl ?_
  conv => whnf
  replace h := oreq.elim h; obtain ⟨hb, h⟩ := h
  first | (refine req.intro hb ?_; conv => whnf) | skip
  replace h := obind.elim h; obtain ⟨n4, hy, h⟩ := h
  refine sumK.q rfl rfl (r33_eq hy) rfl rfl rfl ?_
  conv => whnf
  replace h := oreq.elim h; obtain ⟨hb, h⟩ := h
  first | (refine req.intro hb ?_; conv => whnf) | skip
  replace h := obind.elim h; obtain ⟨n5, hy, h⟩ := h
  refine sumK.q rfl rfl (r33_eq hy) rfl rfl rfl ?_
  conv => whnf
  replace h := oreq.elim h; obtain ⟨hb, h⟩ := h
  first | (refine req.intro hb ?_; conv => whnf) | skip
  replace h := obind.elim h; obtain ⟨n6, hy, h⟩ := h
  refine sumK.q rfl rfl (r33_eq hy) rfl rfl rfl ?_
  conv => whnf
  replace h := oreq.elim h; obtain ⟨hb, h⟩ := h
  first | (refine req.intro hb ?_; conv => whnf) | skip
  let t2 : List UInt8 := (((((n ++ n1) ++ n2) ++ n3) ++ n4) ++ n5) ++ n6
  replace h := obind.elim h; obtain ⟨n7, hy, h⟩ := h
  refine sumK.q rfl rfl (r33_eq hy) rfl rfl rfl ?_
  conv => whnf
  replace h := oreq.elim h; obtain ⟨hb, h⟩ := h
  first | (refine req.intro hb ?_; conv => whnf) | skip
  replace h := obind.elim h; obtain ⟨n8, hy, h⟩ := h
  refine sumK.q rfl rfl (r33_eq hy) rfl rfl rfl ?_
  conv => whnf
  replace h := oreq.elim h; obtain ⟨hb, h⟩ := h
  first | (refine req.intro hb ?_; conv => whnf) | skip
  replace h := oreq.elim h; obtain ⟨hb, h⟩ := h
  first | (refine req.intro hb ?_; conv => whnf) | skip
  replace h := oreq.elim h; obtain ⟨hb, h⟩ := h
  first | (refine req.intro hb ?_; conv => whnf) | skip
  let t3 : List UInt8 := (((t2 ++ n7) ++ n8) ++ ha0.Options) ++ payload
  replace h := oreq.elim h; obtain ⟨hb, h⟩ := h
  first | (refine req.intro hb ?_; conv => whnf) | skip
  replace h := obind.elim h; obtain ⟨xo, hy, h⟩ := h
  refine sumK.q rfl rfl (r10_eq hy) rfl rfl rfl ?_
  conv => whnf
  replace h := obind.elim h; obtain ⟨s, hy, h⟩ := h
  refine sumK.q rfl rfl (r9_eq hy) rfl rfl rfl ?_
  conv => whnf
  all_goals (cases h; exact Res.z rfl rfl rfl)
theorem ok36 (R03_Of : (List UInt8) → Option Int) (R03_Set : (List UInt8) → Int → Int → Int → Option (List UInt8)) (R05_Pseudo : api_Addr → api_Addr → Int → Int → Option (List UInt8)) (R07_Right : tcp_Head → Option Bool) (R07_num : Int → Int → Option (List UInt8)) (hS : SumsOK Try.prog (aget (sums36 R03_Of R03_Set R05_Pseudo R07_Right R07_num))) : SumOK Try.prog 36 (s36 (R07_PutF R03_Of R03_Set R05_Pseudo R07_Right R07_num)) := by
  refine SumOK.of_leads tab_ok (fun ar os r ha hr => ?_) ⟨Try.f36, rfl, by decide, rfl⟩
  replace hr : r36 (R07_PutF R03_Of R03_Set R05_Pseudo R07_Right R07_num) ar (conts os) = some r := hr
  unfold r36 at hr
  generalize hc : conts os = C at hr
  replace hr := dV.elim hr; obtain ⟨v0, l1, y0, rfl, e0, hr⟩ := hr; obtain rfl := uvtcp_Head_eq _ _ e0
  replace hr := dV.elim hr; obtain ⟨v1, l2, y1, rfl, e1, hr⟩ := hr; obtain rfl := uvapi_Addr_eq _ _ e1
  replace hr := dV.elim hr; obtain ⟨v2, l3, y2, rfl, e2, hr⟩ := hr; obtain rfl := uvapi_Addr_eq _ _ e2
  replace hr := dV.elim hr; obtain ⟨v3, l4, y3, rfl, e3, hr⟩ := hr; obtain rfl := asS_eq _ _ e3
  replace hr := dFin hr; obtain ⟨rfl, rfl, x, h, rfl⟩ := hr
  obtain rfl := kinds_nil hc
  exact ⟨_, rfl, leads36 R03_Of R03_Set R05_Pseudo R07_Right R07_num hS _ _ _ _ x h⟩
def R07_Put : tcp_Head → api_Addr → api_Addr → (List UInt8) → Option ((List UInt8) × Int) := R07_PutF R03_Of R03_Set R05_Pseudo R07_Right R07_num
theorem lift36 : SumOK Try.prog 36 (s36 R07_Put) := ok36 R03_Of R03_Set R05_Pseudo R07_Right R07_num (SumsOK.of_tab ⟨lift10, lift9, lift59, lift60, lift33, trivial⟩)
def R06_inF (n : Int) (most : Int) : Option Bool :=
  cond (decide (n ≥ 0))
    (
    some (decide (n ≤ most)))
    (
    some (false))
def rx111 (x : Bool) : SRes := ⟨.bool x, [], []⟩
def r111 (g : Int → Int → Option Bool) : Dec := dV (asI .i64) fun (y0 : Int) => dV (asI .i64) fun (y1 : Int) => dEnd (ofG (g y0 y1) rx111)
theorem r111_c {g : Int → Int → Option Bool} {y0 : Int} {y1 : Int} {x : Bool} (hx : g y0 y1 = some x) : r111 g [.int .i64 y0, .int .i64 y1] [] = some (rx111 x) := (dV_eq (asI_c _)).trans ((dV_eq (asI_c _)).trans (ofG_eq hx))
def s111 (g : Int → Int → Option Bool) : Summ := ⟨[.v, .v], r111 g⟩
theorem r111_eq {g : Int → Int → Option Bool} {y0 : Int} {y1 : Int} {x : Bool} (hx : g y0 y1 = some x) : (s111 g).run [.int .i64 y0, .int .i64 y1] [] = some (rx111 x) := r111_c hx
abbrev sums111 : List (Nat × Summ) := []
theorem leads111 (hS : SumsOK Try.prog (aget (sums111))) (n : Int) (most : Int) (res : Bool) (h : R06_inF n most = some res) :
    Leads Try.prog 111 0 ⟨⟨111, 12, [(0, .int .i64 n), (1, .int .i64 most)], [.code k111_3], [], false, none⟩, [], [], 0⟩ (fun v H _ => Res 0 (rx111 res) v H) := by
  unfold R06_inF at h
  refine ev_ok tab_ok hS true 3000 ?_
  conv => whnf
  refine br.h h ?_ ?_ ?_
  · rfl
  · clear h; intro hb h; conv => whnf
    all_goals (cases h; exact Res.z rfl rfl rfl)
  clear h; intro hb h; conv => whnf
  all_goals (cases h; exact Res.z rfl rfl rfl)
theorem ok111 (hS : SumsOK Try.prog (aget (sums111))) : SumOK Try.prog 111 (s111 (R06_inF)) := by
  refine SumOK.of_leads tab_ok (fun ar os r ha hr => ?_) ⟨Try.f111, rfl, by decide, rfl⟩
  replace hr : r111 (R06_inF) ar (conts os) = some r := hr
  unfold r111 at hr
  generalize hc : conts os = C at hr
  replace hr := dV.elim hr; obtain ⟨v0, l1, y0, rfl, e0, hr⟩ := hr; obtain rfl := asI_eq _ _ _ e0
  replace hr := dV.elim hr; obtain ⟨v1, l2, y1, rfl, e1, hr⟩ := hr; obtain rfl := asI_eq _ _ _ e1
  replace hr := dFin hr; obtain ⟨rfl, rfl, x, h, rfl⟩ := hr
  obtain rfl := kinds_nil hc
  exact ⟨_, rfl, leads111 hS _ _ x h⟩
def R06_in : Int → Int → Option Bool := R06_inF
theorem lift111 : SumOK Try.prog 111 (s111 R06_in) := ok111 (SumsOK.of_tab trivial)
def R06_RightF (R06_in : Int → Int → Option Bool) (ha0 : ipsix_Head) : Option Bool :=
  (R06_in ha0.Class 255).bind fun i =>
  cond (i)
    (
    (R06_in ha0.Label 1048575).bind fun i1 =>
    cond (i1)
      (
      (R06_in ha0.Next 255).bind fun i2 =>
      cond (i2)
        (
        (R06_in ha0.Hop 255).bind fun i3 =>
        cond (i3)
          (
          cond (ha0.Src.V6)
            (
            some (ha0.Dst.V6))
            (
            some (false)))
          (
          some (false)))
        (
        some (false)))
      (
      some (false)))
    (
    some (false))
def rx88 (x : Bool) : SRes := ⟨.bool x, [], []⟩
def r88 (g : ipsix_Head → Option Bool) : Dec := dV uvipsix_Head fun (y0 : ipsix_Head) => dEnd (ofG (g y0) rx88)
theorem r88_c {g : ipsix_Head → Option Bool} {y0 : ipsix_Head} {x : Bool} (hx : g y0 = some x) : r88 g [.agg ⟨[.int .i64 y0.Class, .int .i64 y0.Label, .int .i64 y0.Next, .int .i64 y0.Hop, .bool y0.Src.V6, .int .u64 y0.Src.Hi, .int .u64 y0.Src.Lo, .bool y0.Dst.V6, .int .u64 y0.Dst.Hi, .int .u64 y0.Dst.Lo]⟩] [] = some (rx88 x) := (dV_eq (uvipsix_Head_c _)).trans (ofG_eq hx)
def s88 (g : ipsix_Head → Option Bool) : Summ := ⟨[.v], r88 g⟩
theorem r88_eq {g : ipsix_Head → Option Bool} {y0 : ipsix_Head} {x : Bool} (hx : g y0 = some x) : (s88 g).run [.agg ⟨[.int .i64 y0.Class, .int .i64 y0.Label, .int .i64 y0.Next, .int .i64 y0.Hop, .bool y0.Src.V6, .int .u64 y0.Src.Hi, .int .u64 y0.Src.Lo, .bool y0.Dst.V6, .int .u64 y0.Dst.Hi, .int .u64 y0.Dst.Lo]⟩] [] = some (rx88 x) := r88_c hx
abbrev sums88 (R06_in : Int → Int → Option Bool) : List (Nat × Summ) := [(111, s111 R06_in)]
theorem leads88 (R06_in : Int → Int → Option Bool) (hS : SumsOK Try.prog (aget (sums88 R06_in))) (ha0 : ipsix_Head) (res : Bool) (h : R06_RightF R06_in ha0 = some res) :
    Leads Try.prog 88 0 ⟨⟨88, 31, [(0, .agg ⟨[.int .i64 ha0.Class, .int .i64 ha0.Label, .int .i64 ha0.Next, .int .i64 ha0.Hop, .bool ha0.Src.V6, .int .u64 ha0.Src.Hi, .int .u64 ha0.Src.Lo, .bool ha0.Dst.V6, .int .u64 ha0.Dst.Hi, .int .u64 ha0.Dst.Lo]⟩)], [.code k88_3], [], false, none⟩, [], [], 0⟩ (fun v H _ => Res 0 (rx88 res) v H) := by
  unfold R06_RightF at h
  refine ev_ok tab_ok hS true 3000 ?_
  conv => whnf
  replace h := obind.elim h; obtain ⟨i, hy, h⟩ := h
  refine sumK.q rfl rfl (r111_eq hy) rfl rfl rfl ?_
  conv => whnf
  refine br.h2 h ?_ ?_ ?_
  · rfl
  · clear h; intro hb h; conv => whnf
    all_goals (cases h; exact Res.z rfl rfl rfl)
  clear h; intro hb h; conv => whnf
  replace h := obind.elim h; obtain ⟨i1, hy, h⟩ := h
  refine sumK.q rfl rfl (r111_eq hy) rfl rfl rfl ?_
  conv => whnf
  refine br.h2 h ?_ ?_ ?_
  · rfl
  · clear h; intro hb h; conv => whnf
    all_goals (cases h; exact Res.z rfl rfl rfl)
  clear h; intro hb h; conv => whnf
  replace h := obind.elim h; obtain ⟨i2, hy, h⟩ := h
  refine sumK.q rfl rfl (r111_eq hy) rfl rfl rfl ?_
  conv => whnf
  refine br.h2 h ?_ ?_ ?_
  · rfl
  · clear h; intro hb h; conv => whnf
    all_goals (cases h; exact Res.z rfl rfl rfl)
  clear h; intro hb h; conv => whnf
  replace h := obind.elim h; obtain ⟨i3, hy, h⟩ := h
  refine sumK.q rfl rfl (r111_eq hy) rfl rfl rfl ?_
  conv => whnf
  refine br.h2 h ?_ ?_ ?_
  · rfl
  · clear h; intro hb h; conv => whnf
    all_goals (cases h; exact Res.z rfl rfl rfl)
  clear h; intro hb h; conv => whnf
  refine br.h h ?_ ?_ ?_
  · rfl
  · clear h; intro hb h; conv => whnf
    all_goals (cases h; exact Res.z rfl rfl rfl)
  clear h; intro hb h; conv => whnf
  all_goals (cases h; exact Res.z rfl rfl rfl)
theorem ok88 (R06_in : Int → Int → Option Bool) (hS : SumsOK Try.prog (aget (sums88 R06_in))) : SumOK Try.prog 88 (s88 (R06_RightF R06_in)) := by
  refine SumOK.of_leads tab_ok (fun ar os r ha hr => ?_) ⟨Try.f88, rfl, by decide, rfl⟩
  replace hr : r88 (R06_RightF R06_in) ar (conts os) = some r := hr
  unfold r88 at hr
  generalize hc : conts os = C at hr
  replace hr := dV.elim hr; obtain ⟨v0, l1, y0, rfl, e0, hr⟩ := hr; obtain rfl := uvipsix_Head_eq _ _ e0
  replace hr := dFin hr; obtain ⟨rfl, rfl, x, h, rfl⟩ := hr
  obtain rfl := kinds_nil hc
  exact ⟨_, rfl, leads88 R06_in hS _ x h⟩
def R06_Right : ipsix_Head → Option Bool := R06_RightF R06_in
theorem lift88 : SumOK Try.prog 88 (s88 R06_Right) := ok88 R06_in (SumsOK.of_tab ⟨lift111, trivial⟩)
def R06_numF (R02_Put : Int → Int → Option (List UInt8)) (n : Int) (k : Int) : Option (List UInt8) :=
  (R02_Put (wI .u64 n) k).bind fun p =>
  some (p)
def rx89 (x : List UInt8) : SRes := ⟨.string ⟨⟨x⟩⟩, [], []⟩
def r89 (g : Int → Int → Option (List UInt8)) : Dec := dV (asI .i64) fun (y0 : Int) => dV (asI .i64) fun (y1 : Int) => dEnd (ofG (g y0 y1) rx89)
theorem r89_c {g : Int → Int → Option (List UInt8)} {y0 : Int} {y1 : Int} {x : List UInt8} (hx : g y0 y1 = some x) : r89 g [.int .i64 y0, .int .i64 y1] [] = some (rx89 x) := (dV_eq (asI_c _)).trans ((dV_eq (asI_c _)).trans (ofG_eq hx))
def s89 (g : Int → Int → Option (List UInt8)) : Summ := ⟨[.v, .v], r89 g⟩
theorem r89_eq {g : Int → Int → Option (List UInt8)} {y0 : Int} {y1 : Int} {x : List UInt8} (hx : g y0 y1 = some x) : (s89 g).run [.int .i64 y0, .int .i64 y1] [] = some (rx89 x) := r89_c hx
abbrev sums89 (R02_Put : Int → Int → Option (List UInt8)) : List (Nat × Summ) := [(24, s24 R02_Put)]
theorem leads89 (R02_Put : Int → Int → Option (List UInt8)) (hS : SumsOK Try.prog (aget (sums89 R02_Put))) (n : Int) (k : Int) (res : List UInt8) (h : R06_numF R02_Put n k = some res) :
    Leads Try.prog 89 0 ⟨⟨89, 9, [(0, .int .i64 n), (1, .int .i64 k)], [.code k89_3], [], false, none⟩, [], [], 0⟩ (fun v H _ => Res 0 (rx89 res) v H) := by
  unfold R06_numF at h
  refine ev_ok tab_ok hS true 3000 ?_
  conv => whnf
  replace h := obind.elim h; obtain ⟨p, hy, h⟩ := h
  refine sumK.q rfl rfl (r24_eq hy) rfl rfl rfl ?_
  conv => whnf
  all_goals (cases h; exact Res.z rfl rfl rfl)
theorem ok89 (R02_Put : Int → Int → Option (List UInt8)) (hS : SumsOK Try.prog (aget (sums89 R02_Put))) : SumOK Try.prog 89 (s89 (R06_numF R02_Put)) := by
  refine SumOK.of_leads tab_ok (fun ar os r ha hr => ?_) ⟨Try.f89, rfl, by decide, rfl⟩
  replace hr : r89 (R06_numF R02_Put) ar (conts os) = some r := hr
  unfold r89 at hr
  generalize hc : conts os = C at hr
  replace hr := dV.elim hr; obtain ⟨v0, l1, y0, rfl, e0, hr⟩ := hr; obtain rfl := asI_eq _ _ _ e0
  replace hr := dV.elim hr; obtain ⟨v1, l2, y1, rfl, e1, hr⟩ := hr; obtain rfl := asI_eq _ _ _ e1
  replace hr := dFin hr; obtain ⟨rfl, rfl, x, h, rfl⟩ := hr
  obtain rfl := kinds_nil hc
  exact ⟨_, rfl, leads89 R02_Put hS _ _ x h⟩
def R06_num : Int → Int → Option (List UInt8) := R06_numF R02_Put
theorem lift89 : SumOK Try.prog 89 (s89 R06_num) := ok89 R02_Put (SumsOK.of_tab ⟨lift24, trivial⟩)
def R06_PutF (R04_Put : api_Addr → Option (List UInt8)) (R06_Right : ipsix_Head → Option Bool) (R06_num : Int → Int → Option (List UInt8)) (ha0 : ipsix_Head) (payload : List UInt8) : Option ((List UInt8) × Int) :=
  (R06_Right ha0).bind fun xr =>
  cond (!xr)
    (
    some (([], 1)))
    (
    cond (decide ((payload.length : Int) > 65535))
      (
      some (([], 5)))
      (
      let t := wI .i64 (1610612736 + (wI .i64 (ha0.Class * 1048576)))
      (R06_num (wI .i64 (t + ha0.Label)) 4).bind fun n =>
      (R06_num (payload.length : Int) 2).bind fun n1 =>
      oreq (decide (n.length + n1.length < 2 ^ 63)) <|
      (R06_num ha0.Next 1).bind fun n2 =>
      oreq (decide ((n ++ n1).length + n2.length < 2 ^ 63)) <|
      (R06_num ha0.Hop 1).bind fun n3 =>
      oreq (decide (((n ++ n1) ++ n2).length + n3.length < 2 ^ 63)) <|
      (R04_Put ha0.Src).bind fun p =>
      oreq (decide ((((n ++ n1) ++ n2) ++ n3).length + p.length < 2 ^ 63)) <|
      (R04_Put ha0.Dst).bind fun p1 =>
      oreq (decide (((((n ++ n1) ++ n2) ++ n3) ++ p).length + p1.length < 2 ^ 63)) <|
      oreq (decide ((((((n ++ n1) ++ n2) ++ n3) ++ p) ++ p1).length + payload.length < 2 ^ 63)) <|
      let t1 := (((((n ++ n1) ++ n2) ++ n3) ++ p) ++ p1) ++ payload
      some ((t1, 0))))
def rx62 (x : (List UInt8) × Int) : SRes := ⟨.tuple ⟨[.string ⟨⟨x.1⟩⟩, .int .i64 x.2]⟩, [], []⟩
def r62 (g : ipsix_Head → (List UInt8) → Option ((List UInt8) × Int)) : Dec := dV uvipsix_Head fun (y0 : ipsix_Head) => dV asS fun (y1 : List UInt8) => dEnd (ofG (g y0 y1) rx62)
theorem r62_c {g : ipsix_Head → (List UInt8) → Option ((List UInt8) × Int)} {y0 : ipsix_Head} {y1 : List UInt8} {x : (List UInt8) × Int} (hx : g y0 y1 = some x) : r62 g [.agg ⟨[.int .i64 y0.Class, .int .i64 y0.Label, .int .i64 y0.Next, .int .i64 y0.Hop, .bool y0.Src.V6, .int .u64 y0.Src.Hi, .int .u64 y0.Src.Lo, .bool y0.Dst.V6, .int .u64 y0.Dst.Hi, .int .u64 y0.Dst.Lo]⟩, .string ⟨⟨y1⟩⟩] [] = some (rx62 x) := (dV_eq (uvipsix_Head_c _)).trans ((dV_eq (asS_c)).trans (ofG_eq hx))
def s62 (g : ipsix_Head → (List UInt8) → Option ((List UInt8) × Int)) : Summ := ⟨[.v, .v], r62 g⟩
theorem r62_eq {g : ipsix_Head → (List UInt8) → Option ((List UInt8) × Int)} {y0 : ipsix_Head} {y1 : List UInt8} {x : (List UInt8) × Int} (hx : g y0 y1 = some x) : (s62 g).run [.agg ⟨[.int .i64 y0.Class, .int .i64 y0.Label, .int .i64 y0.Next, .int .i64 y0.Hop, .bool y0.Src.V6, .int .u64 y0.Src.Hi, .int .u64 y0.Src.Lo, .bool y0.Dst.V6, .int .u64 y0.Dst.Hi, .int .u64 y0.Dst.Lo]⟩, .string ⟨⟨y1⟩⟩] [] = some (rx62 x) := r62_c hx
abbrev sums62 (R04_Put : api_Addr → Option (List UInt8)) (R06_Right : ipsix_Head → Option Bool) (R06_num : Int → Int → Option (List UInt8)) : List (Nat × Summ) := [(85, s85 R04_Put), (88, s88 R06_Right), (89, s89 R06_num)]
theorem leads62 (R04_Put : api_Addr → Option (List UInt8)) (R06_Right : ipsix_Head → Option Bool) (R06_num : Int → Int → Option (List UInt8)) (hS : SumsOK Try.prog (aget (sums62 R04_Put R06_Right R06_num))) (ha0 : ipsix_Head) (payload : List UInt8) (res : (List UInt8) × Int) (h : R06_PutF R04_Put R06_Right R06_num ha0 payload = some res) :
    Leads Try.prog 62 0 ⟨⟨62, 42, [(0, .agg ⟨[.int .i64 ha0.Class, .int .i64 ha0.Label, .int .i64 ha0.Next, .int .i64 ha0.Hop, .bool ha0.Src.V6, .int .u64 ha0.Src.Hi, .int .u64 ha0.Src.Lo, .bool ha0.Dst.V6, .int .u64 ha0.Dst.Hi, .int .u64 ha0.Dst.Lo]⟩), (1, .string ⟨⟨payload⟩⟩)], [.code k62_15], [], false, none⟩, [], [], 0⟩ (fun v H _ => Res 0 (rx62 res) v H) := by
  unfold R06_PutF at h
  refine ev_ok tab_ok hS true 3000 ?_
  conv => whnf
  replace h := obind.elim h; obtain ⟨xr, hy, h⟩ := h
  refine sumK.q rfl rfl (r88_eq hy) rfl rfl rfl ?_
  conv => whnf
  refine br.h h ?_ ?_ ?_
  · rfl
  · clear h; intro hb h; conv => whnf
    all_goals (cases h; exact Res.z rfl rfl rfl)
  clear h; intro hb h; conv => whnf
  refine br.h h ?_ ?_ ?_
  · rfl
  · clear h; intro hb h; conv => whnf
    all_goals (cases h; exact Res.z rfl rfl rfl)
  clear h; intro hb h; conv => whnf
  let t : Int := wI .i64 (1610612736 + (wI .i64 (ha0.Class * 1048576)))
  replace h := obind.elim h; obtain ⟨n, hy, h⟩ := h
  refine sumK.q rfl rfl (r89_eq hy) rfl rfl rfl ?_
  conv => whnf
  replace h := obind.elim h; obtain ⟨n1, hy, h⟩ := h
  refine sumK.q rfl rfl (r89_eq hy) rfl rfl rfl ?_
  conv => whnf
  replace h := oreq.elim h; obtain ⟨hb, h⟩ := h
  first | (refine req.intro hb ?_; conv => whnf) | skip
  replace h := obind.elim h; obtain ⟨n2, hy, h⟩ := h
  refine sumK.q rfl rfl (r89_eq hy) rfl rfl rfl ?_
  conv => whnf
  replace h := oreq.elim h; obtain ⟨hb, h⟩ := h
  first | (refine req.intro hb ?_; conv => whnf) | skip
  replace h := obind.elim h; obtain ⟨n3, hy, h⟩ := h
  refine sumK.q rfl rfl (r89_eq hy) rfl rfl rfl ?_
  conv => whnf
  replace h := oreq.elim h; obtain ⟨hb, h⟩ := h
  first | (refine req.intro hb ?_; conv => whnf) | skip
  replace h := obind.elim h; obtain ⟨p, hy, h⟩ := h
  refine sumK.q rfl rfl (r85_eq hy) rfl rfl rfl ?_
  conv => whnf
  replace h := oreq.elim h; obtain ⟨hb, h⟩ := h
  first | (refine req.intro hb ?_; conv => whnf) | skip
  replace h := obind.elim h; obtain ⟨p1, hy, h⟩ := h
  refine sumK.q rfl rfl (r85_eq hy) rfl rfl rfl ?_
  conv => whnf
  replace h := oreq.elim h; obtain ⟨hb, h⟩ := h
  first | (refine req.intro hb ?_; conv => whnf) | skip
  replace h := oreq.elim h; obtain ⟨hb, h⟩ := h
  first | (refine req.intro hb ?_; conv => whnf) | skip
  let t1 : List UInt8 := (((((n ++ n1) ++ n2) ++ n3) ++ p) ++ p1) ++ payload
  all_goals (cases h; exact Res.z rfl rfl rfl)
theorem ok62 (R04_Put : api_Addr → Option (List UInt8)) (R06_Right : ipsix_Head → Option Bool) (R06_num : Int → Int → Option (List UInt8)) (hS : SumsOK Try.prog (aget (sums62 R04_Put R06_Right R06_num))) : SumOK Try.prog 62 (s62 (R06_PutF R04_Put R06_Right R06_num)) := by
  refine SumOK.of_leads tab_ok (fun ar os r ha hr => ?_) ⟨Try.f62, rfl, by decide, rfl⟩
  replace hr : r62 (R06_PutF R04_Put R06_Right R06_num) ar (conts os) = some r := hr
  unfold r62 at hr
  generalize hc : conts os = C at hr
  replace hr := dV.elim hr; obtain ⟨v0, l1, y0, rfl, e0, hr⟩ := hr; obtain rfl := uvipsix_Head_eq _ _ e0
  replace hr := dV.elim hr; obtain ⟨v1, l2, y1, rfl, e1, hr⟩ := hr; obtain rfl := asS_eq _ _ e1
  replace hr := dFin hr; obtain ⟨rfl, rfl, x, h, rfl⟩ := hr
  obtain rfl := kinds_nil hc
  exact ⟨_, rfl, leads62 R04_Put R06_Right R06_num hS _ _ x h⟩
def R06_Put : ipsix_Head → (List UInt8) → Option ((List UInt8) × Int) := R06_PutF R04_Put R06_Right R06_num
theorem lift62 : SumOK Try.prog 62 (s62 R06_Put) := ok62 R04_Put R06_Right R06_num (SumsOK.of_tab ⟨lift85, lift88, lift89, trivial⟩)
def R05_inF (n : Int) (most : Int) : Option Bool :=
  cond (decide (n ≥ 0))
    (
    some (decide (n ≤ most)))
    (
    some (false))
def rx112 (x : Bool) : SRes := ⟨.bool x, [], []⟩
def r112 (g : Int → Int → Option Bool) : Dec := dV (asI .i64) fun (y0 : Int) => dV (asI .i64) fun (y1 : Int) => dEnd (ofG (g y0 y1) rx112)
theorem r112_c {g : Int → Int → Option Bool} {y0 : Int} {y1 : Int} {x : Bool} (hx : g y0 y1 = some x) : r112 g [.int .i64 y0, .int .i64 y1] [] = some (rx112 x) := (dV_eq (asI_c _)).trans ((dV_eq (asI_c _)).trans (ofG_eq hx))
def s112 (g : Int → Int → Option Bool) : Summ := ⟨[.v, .v], r112 g⟩
theorem r112_eq {g : Int → Int → Option Bool} {y0 : Int} {y1 : Int} {x : Bool} (hx : g y0 y1 = some x) : (s112 g).run [.int .i64 y0, .int .i64 y1] [] = some (rx112 x) := r112_c hx
abbrev sums112 : List (Nat × Summ) := []
theorem leads112 (hS : SumsOK Try.prog (aget (sums112))) (n : Int) (most : Int) (res : Bool) (h : R05_inF n most = some res) :
    Leads Try.prog 112 0 ⟨⟨112, 12, [(0, .int .i64 n), (1, .int .i64 most)], [.code k112_3], [], false, none⟩, [], [], 0⟩ (fun v H _ => Res 0 (rx112 res) v H) := by
  unfold R05_inF at h
  refine ev_ok tab_ok hS true 3000 ?_
  conv => whnf
  refine br.h h ?_ ?_ ?_
  · rfl
  · clear h; intro hb h; conv => whnf
    all_goals (cases h; exact Res.z rfl rfl rfl)
  clear h; intro hb h; conv => whnf
  all_goals (cases h; exact Res.z rfl rfl rfl)
theorem ok112 (hS : SumsOK Try.prog (aget (sums112))) : SumOK Try.prog 112 (s112 (R05_inF)) := by
  refine SumOK.of_leads tab_ok (fun ar os r ha hr => ?_) ⟨Try.f112, rfl, by decide, rfl⟩
  replace hr : r112 (R05_inF) ar (conts os) = some r := hr
  unfold r112 at hr
  generalize hc : conts os = C at hr
  replace hr := dV.elim hr; obtain ⟨v0, l1, y0, rfl, e0, hr⟩ := hr; obtain rfl := asI_eq _ _ _ e0
  replace hr := dV.elim hr; obtain ⟨v1, l2, y1, rfl, e1, hr⟩ := hr; obtain rfl := asI_eq _ _ _ e1
  replace hr := dFin hr; obtain ⟨rfl, rfl, x, h, rfl⟩ := hr
  obtain rfl := kinds_nil hc
  exact ⟨_, rfl, leads112 hS _ _ x h⟩
def R05_in : Int → Int → Option Bool := R05_inF
theorem lift112 : SumOK Try.prog 112 (s112 R05_in) := ok112 (SumsOK.of_tab trivial)
def R05_fourF (R04_Right : api_Addr → Option Bool) (a : api_Addr) : Option Bool :=
  (R04_Right a).bind fun xr =>
  cond (xr)
    (
    some (!a.V6))
    (
    some (false))
def rx113 (x : Bool) : SRes := ⟨.bool x, [], []⟩
def r113 (g : api_Addr → Option Bool) : Dec := dV uvapi_Addr fun (y0 : api_Addr) => dEnd (ofG (g y0) rx113)
theorem r113_c {g : api_Addr → Option Bool} {y0 : api_Addr} {x : Bool} (hx : g y0 = some x) : r113 g [.agg ⟨[.bool y0.V6, .int .u64 y0.Hi, .int .u64 y0.Lo]⟩] [] = some (rx113 x) := (dV_eq (uvapi_Addr_c _)).trans (ofG_eq hx)
def s113 (g : api_Addr → Option Bool) : Summ := ⟨[.v], r113 g⟩
theorem r113_eq {g : api_Addr → Option Bool} {y0 : api_Addr} {x : Bool} (hx : g y0 = some x) : (s113 g).run [.agg ⟨[.bool y0.V6, .int .u64 y0.Hi, .int .u64 y0.Lo]⟩] [] = some (rx113 x) := r113_c hx
abbrev sums113 (R04_Right : api_Addr → Option Bool) : List (Nat × Summ) := [(61, s61 R04_Right)]
theorem leads113 (R04_Right : api_Addr → Option Bool) (hS : SumsOK Try.prog (aget (sums113 R04_Right))) (a : api_Addr) (res : Bool) (h : R05_fourF R04_Right a = some res) :
    Leads Try.prog 113 0 ⟨⟨113, 10, [(0, .agg ⟨[.bool a.V6, .int .u64 a.Hi, .int .u64 a.Lo]⟩)], [.code k113_3], [], false, none⟩, [], [], 0⟩ (fun v H _ => Res 0 (rx113 res) v H) := by
  unfold R05_fourF at h
  refine ev_ok tab_ok hS true 3000 ?_
  conv => whnf
  replace h := obind.elim h; obtain ⟨xr, hy, h⟩ := h
  refine sumK.q rfl rfl (r61_eq hy) rfl rfl rfl ?_
  conv => whnf
  refine br.h h ?_ ?_ ?_
  · rfl
  · clear h; intro hb h; conv => whnf
    all_goals (cases h; exact Res.z rfl rfl rfl)
  clear h; intro hb h; conv => whnf
  all_goals (cases h; exact Res.z rfl rfl rfl)
theorem ok113 (R04_Right : api_Addr → Option Bool) (hS : SumsOK Try.prog (aget (sums113 R04_Right))) : SumOK Try.prog 113 (s113 (R05_fourF R04_Right)) := by
  refine SumOK.of_leads tab_ok (fun ar os r ha hr => ?_) ⟨Try.f113, rfl, by decide, rfl⟩
  replace hr : r113 (R05_fourF R04_Right) ar (conts os) = some r := hr
  unfold r113 at hr
  generalize hc : conts os = C at hr
  replace hr := dV.elim hr; obtain ⟨v0, l1, y0, rfl, e0, hr⟩ := hr; obtain rfl := uvapi_Addr_eq _ _ e0
  replace hr := dFin hr; obtain ⟨rfl, rfl, x, h, rfl⟩ := hr
  obtain rfl := kinds_nil hc
  exact ⟨_, rfl, leads113 R04_Right hS _ x h⟩
def R05_four : api_Addr → Option Bool := R05_fourF R04_Right
theorem lift113 : SumOK Try.prog 113 (s113 R05_four) := ok113 R04_Right (SumsOK.of_tab ⟨lift61, trivial⟩)
def R05_RightF (R05_four : api_Addr → Option Bool) (R05_in : Int → Int → Option Bool) (ha0 : ipfour_Head) : Option Bool :=
  (R05_in ha0.Class 255).bind fun i =>
  cond (i)
    (
    (R05_in ha0.Mark 65535).bind fun i1 =>
    cond (i1)
      (
      (R05_in ha0.TTL 255).bind fun i2 =>
      cond (i2)
        (
        (R05_in ha0.Proto 255).bind fun i3 =>
        cond (i3)
          (
          (R05_four ha0.Src).bind fun f =>
          cond (f)
            (
            (R05_four ha0.Dst).bind fun f1 =>
            cond (f1)
              (
              cond (decide ((ha0.Options.length : Int) ≤ 40))
                (
                some (((ha0.Options.length : Int).tmod 4) == 0))
                (
                some (false)))
              (
              some (false)))
            (
            some (false)))
          (
          some (false)))
        (
        some (false)))
      (
      some (false)))
    (
    some (false))
def rx90 (x : Bool) : SRes := ⟨.bool x, [], []⟩
def r90 (g : ipfour_Head → Option Bool) : Dec := dV uvipfour_Head fun (y0 : ipfour_Head) => dEnd (ofG (g y0) rx90)
theorem r90_c {g : ipfour_Head → Option Bool} {y0 : ipfour_Head} {x : Bool} (hx : g y0 = some x) : r90 g [.agg ⟨[.int .i64 y0.Class, .int .i64 y0.Mark, .bool y0.Whole, .int .i64 y0.TTL, .int .i64 y0.Proto, .bool y0.Src.V6, .int .u64 y0.Src.Hi, .int .u64 y0.Src.Lo, .bool y0.Dst.V6, .int .u64 y0.Dst.Hi, .int .u64 y0.Dst.Lo, .string ⟨⟨y0.Options⟩⟩]⟩] [] = some (rx90 x) := (dV_eq (uvipfour_Head_c _)).trans (ofG_eq hx)
def s90 (g : ipfour_Head → Option Bool) : Summ := ⟨[.v], r90 g⟩
theorem r90_eq {g : ipfour_Head → Option Bool} {y0 : ipfour_Head} {x : Bool} (hx : g y0 = some x) : (s90 g).run [.agg ⟨[.int .i64 y0.Class, .int .i64 y0.Mark, .bool y0.Whole, .int .i64 y0.TTL, .int .i64 y0.Proto, .bool y0.Src.V6, .int .u64 y0.Src.Hi, .int .u64 y0.Src.Lo, .bool y0.Dst.V6, .int .u64 y0.Dst.Hi, .int .u64 y0.Dst.Lo, .string ⟨⟨y0.Options⟩⟩]⟩] [] = some (rx90 x) := r90_c hx
abbrev sums90 (R05_four : api_Addr → Option Bool) (R05_in : Int → Int → Option Bool) : List (Nat × Summ) := [(113, s113 R05_four), (112, s112 R05_in)]
theorem leads90 (R05_four : api_Addr → Option Bool) (R05_in : Int → Int → Option Bool) (hS : SumsOK Try.prog (aget (sums90 R05_four R05_in))) (ha0 : ipfour_Head) (res : Bool) (h : R05_RightF R05_four R05_in ha0 = some res) :
    Leads Try.prog 90 0 ⟨⟨90, 44, [(0, .agg ⟨[.int .i64 ha0.Class, .int .i64 ha0.Mark, .bool ha0.Whole, .int .i64 ha0.TTL, .int .i64 ha0.Proto, .bool ha0.Src.V6, .int .u64 ha0.Src.Hi, .int .u64 ha0.Src.Lo, .bool ha0.Dst.V6, .int .u64 ha0.Dst.Hi, .int .u64 ha0.Dst.Lo, .string ⟨⟨ha0.Options⟩⟩]⟩)], [.code k90_3], [], false, none⟩, [], [], 0⟩ (fun v H _ => Res 0 (rx90 res) v H) := by
  unfold R05_RightF at h
  refine ev_ok tab_ok hS true 3000 ?_
  conv => whnf
  replace h := obind.elim h; obtain ⟨i, hy, h⟩ := h
  refine sumK.q rfl rfl (r112_eq hy) rfl rfl rfl ?_
  conv => whnf
  refine br.h2 h ?_ ?_ ?_
  · rfl
  · clear h; intro hb h; conv => whnf
    all_goals (cases h; exact Res.z rfl rfl rfl)
  clear h; intro hb h; conv => whnf
  replace h := obind.elim h; obtain ⟨i1, hy, h⟩ := h
  refine sumK.q rfl rfl (r112_eq hy) rfl rfl rfl ?_
  conv => whnf
  refine br.h2 h ?_ ?_ ?_
  · rfl
  · clear h; intro hb h; conv => whnf
    all_goals (cases h; exact Res.z rfl rfl rfl)
  clear h; intro hb h; conv => whnf
  replace h := obind.elim h; obtain ⟨i2, hy, h⟩ := h
  refine sumK.q rfl rfl (r112_eq hy) rfl rfl rfl ?_
  conv => whnf
  refine br.h2 h ?_ ?_ ?_
  · rfl
  · clear h; intro hb h; conv => whnf
    all_goals (cases h; exact Res.z rfl rfl rfl)
  clear h; intro hb h; conv => whnf
  replace h := obind.elim h; obtain ⟨i3, hy, h⟩ := h
  refine sumK.q rfl rfl (r112_eq hy) rfl rfl rfl ?_
  conv => whnf
  refine br.h2 h ?_ ?_ ?_
  · rfl
  · clear h; intro hb h; conv => whnf
    all_goals (cases h; exact Res.z rfl rfl rfl)
  clear h; intro hb h; conv => whnf
  replace h := obind.elim h; obtain ⟨f, hy, h⟩ := h
  refine sumK.q rfl rfl (r113_eq hy) rfl rfl rfl ?_
  conv => whnf
  refine br.h2 h ?_ ?_ ?_
  · rfl
  · clear h; intro hb h; conv => whnf
    all_goals (cases h; exact Res.z rfl rfl rfl)
  clear h; intro hb h; conv => whnf
  replace h := obind.elim h; obtain ⟨f1, hy, h⟩ := h
  refine sumK.q rfl rfl (r113_eq hy) rfl rfl rfl ?_
  conv => whnf
  refine br.h2 h ?_ ?_ ?_
  · rfl
  · clear h; intro hb h; conv => whnf
    all_goals (cases h; exact Res.z rfl rfl rfl)
  clear h; intro hb h; conv => whnf
  refine br.h h ?_ ?_ ?_
  · rfl
  · clear h; intro hb h; conv => whnf
    all_goals (cases h; exact Res.z rfl rfl rfl)
  clear h; intro hb h; conv => whnf
  all_goals (cases h; exact Res.z rfl rfl rfl)
theorem ok90 (R05_four : api_Addr → Option Bool) (R05_in : Int → Int → Option Bool) (hS : SumsOK Try.prog (aget (sums90 R05_four R05_in))) : SumOK Try.prog 90 (s90 (R05_RightF R05_four R05_in)) := by
  refine SumOK.of_leads tab_ok (fun ar os r ha hr => ?_) ⟨Try.f90, rfl, by decide, rfl⟩
  replace hr : r90 (R05_RightF R05_four R05_in) ar (conts os) = some r := hr
  unfold r90 at hr
  generalize hc : conts os = C at hr
  replace hr := dV.elim hr; obtain ⟨v0, l1, y0, rfl, e0, hr⟩ := hr; obtain rfl := uvipfour_Head_eq _ _ e0
  replace hr := dFin hr; obtain ⟨rfl, rfl, x, h, rfl⟩ := hr
  obtain rfl := kinds_nil hc
  exact ⟨_, rfl, leads90 R05_four R05_in hS _ x h⟩
def R05_Right : ipfour_Head → Option Bool := R05_RightF R05_four R05_in
theorem lift90 : SumOK Try.prog 90 (s90 R05_Right) := ok90 R05_four R05_in (SumsOK.of_tab ⟨lift113, lift112, trivial⟩)
def R05_PutF (R03_Of : (List UInt8) → Option Int) (R03_Set : (List UInt8) → Int → Int → Int → Option (List UInt8)) (R04_Put : api_Addr → Option (List UInt8)) (R05_Right : ipfour_Head → Option Bool) (R05_num : Int → Int → Option (List UInt8)) (ha0 : ipfour_Head) (payload : List UInt8) : Option ((List UInt8) × Int) :=
  (R05_Right ha0).bind fun xr =>
  cond (!xr)
    (
    some (([], 1)))
    (
    let t := wI .i64 (20 + (ha0.Options.length : Int))
    let t1 := decide ((payload.length : Int) > (wI .i64 (65535 - t)))
    cond (t1)
      (
      some (([], 5)))
      (
      cond (ha0.Whole)
        (
        (R05_num (wI .i64 (64 + (wI .i64 (t.tdiv 4)))) 1).bind fun n =>
        (R05_num ha0.Class 1).bind fun n1 =>
        oreq (decide (n.length + n1.length < 2 ^ 63)) <|
        (R05_num (wI .i64 (t + (payload.length : Int))) 2).bind fun n2 =>
        oreq (decide ((n ++ n1).length + n2.length < 2 ^ 63)) <|
        (R05_num ha0.Mark 2).bind fun n3 =>
        oreq (decide (((n ++ n1) ++ n2).length + n3.length < 2 ^ 63)) <|
        (R05_num 64 1).bind fun n4 =>
        oreq (decide ((((n ++ n1) ++ n2) ++ n3).length + n4.length < 2 ^ 63)) <|
        (R05_num 0 1).bind fun n5 =>
        oreq (decide (((((n ++ n1) ++ n2) ++ n3) ++ n4).length + n5.length < 2 ^ 63)) <|
        (R05_num ha0.TTL 1).bind fun n6 =>
        oreq (decide ((((((n ++ n1) ++ n2) ++ n3) ++ n4) ++ n5).length + n6.length < 2 ^ 63)) <|
        let t2 := (((((n ++ n1) ++ n2) ++ n3) ++ n4) ++ n5) ++ n6
        (R05_num ha0.Proto 1).bind fun n7 =>
        oreq (decide (t2.length + n7.length < 2 ^ 63)) <|
        (R05_num 0 2).bind fun n8 =>
        oreq (decide ((t2 ++ n7).length + n8.length < 2 ^ 63)) <|
        (R04_Put ha0.Src).bind fun p =>
        oreq (decide (((t2 ++ n7) ++ n8).length + p.length < 2 ^ 63)) <|
        (R04_Put ha0.Dst).bind fun p1 =>
        oreq (decide ((((t2 ++ n7) ++ n8) ++ p).length + p1.length < 2 ^ 63)) <|
        oreq (decide (((((t2 ++ n7) ++ n8) ++ p) ++ p1).length + ha0.Options.length < 2 ^ 63)) <|
        let t3 := ((((t2 ++ n7) ++ n8) ++ p) ++ p1) ++ ha0.Options
        (R03_Of t3).bind fun xo =>
        (R03_Set t3 10 2 (wI .u64 xo)).bind fun s =>
        oreq (decide (s.length + payload.length < 2 ^ 63)) <|
        some ((s ++ payload, 0)))
        (
        (R05_num (wI .i64 (64 + (wI .i64 (t.tdiv 4)))) 1).bind fun n9 =>
        (R05_num ha0.Class 1).bind fun n10 =>
        oreq (decide (n9.length + n10.length < 2 ^ 63)) <|
        (R05_num (wI .i64 (t + (payload.length : Int))) 2).bind fun n11 =>
        oreq (decide ((n9 ++ n10).length + n11.length < 2 ^ 63)) <|
        (R05_num ha0.Mark 2).bind fun n12 =>
        oreq (decide (((n9 ++ n10) ++ n11).length + n12.length < 2 ^ 63)) <|
        (R05_num 0 1).bind fun n13 =>
        oreq (decide ((((n9 ++ n10) ++ n11) ++ n12).length + n13.length < 2 ^ 63)) <|
        (R05_num 0 1).bind fun n14 =>
        oreq (decide (((((n9 ++ n10) ++ n11) ++ n12) ++ n13).length + n14.length < 2 ^ 63)) <|
        let t4 := ((((n9 ++ n10) ++ n11) ++ n12) ++ n13) ++ n14
        (R05_num ha0.TTL 1).bind fun n15 =>
        oreq (decide (t4.length + n15.length < 2 ^ 63)) <|
        (R05_num ha0.Proto 1).bind fun n16 =>
        oreq (decide ((t4 ++ n15).length + n16.length < 2 ^ 63)) <|
        (R05_num 0 2).bind fun n17 =>
        oreq (decide (((t4 ++ n15) ++ n16).length + n17.length < 2 ^ 63)) <|
        (R04_Put ha0.Src).bind fun p2 =>
        oreq (decide ((((t4 ++ n15) ++ n16) ++ n17).length + p2.length < 2 ^ 63)) <|
        (R04_Put ha0.Dst).bind fun p3 =>
        oreq (decide (((((t4 ++ n15) ++ n16) ++ n17) ++ p2).length + p3.length < 2 ^ 63)) <|
        let t5 := ((((t4 ++ n15) ++ n16) ++ n17) ++ p2) ++ p3
        oreq (decide (t5.length + ha0.Options.length < 2 ^ 63)) <|
        (R03_Of (t5 ++ ha0.Options)).bind fun xo1 =>
        (R03_Set (t5 ++ ha0.Options) 10 2 (wI .u64 xo1)).bind fun s1 =>
        oreq (decide (s1.length + payload.length < 2 ^ 63)) <|
        some ((s1 ++ payload, 0)))))
def rx63 (x : (List UInt8) × Int) : SRes := ⟨.tuple ⟨[.string ⟨⟨x.1⟩⟩, .int .i64 x.2]⟩, [], []⟩
def r63 (g : ipfour_Head → (List UInt8) → Option ((List UInt8) × Int)) : Dec := dV uvipfour_Head fun (y0 : ipfour_Head) => dV asS fun (y1 : List UInt8) => dEnd (ofG (g y0 y1) rx63)
theorem r63_c {g : ipfour_Head → (List UInt8) → Option ((List UInt8) × Int)} {y0 : ipfour_Head} {y1 : List UInt8} {x : (List UInt8) × Int} (hx : g y0 y1 = some x) : r63 g [.agg ⟨[.int .i64 y0.Class, .int .i64 y0.Mark, .bool y0.Whole, .int .i64 y0.TTL, .int .i64 y0.Proto, .bool y0.Src.V6, .int .u64 y0.Src.Hi, .int .u64 y0.Src.Lo, .bool y0.Dst.V6, .int .u64 y0.Dst.Hi, .int .u64 y0.Dst.Lo, .string ⟨⟨y0.Options⟩⟩]⟩, .string ⟨⟨y1⟩⟩] [] = some (rx63 x) := (dV_eq (uvipfour_Head_c _)).trans ((dV_eq (asS_c)).trans (ofG_eq hx))
def s63 (g : ipfour_Head → (List UInt8) → Option ((List UInt8) × Int)) : Summ := ⟨[.v, .v], r63 g⟩
theorem r63_eq {g : ipfour_Head → (List UInt8) → Option ((List UInt8) × Int)} {y0 : ipfour_Head} {y1 : List UInt8} {x : (List UInt8) × Int} (hx : g y0 y1 = some x) : (s63 g).run [.agg ⟨[.int .i64 y0.Class, .int .i64 y0.Mark, .bool y0.Whole, .int .i64 y0.TTL, .int .i64 y0.Proto, .bool y0.Src.V6, .int .u64 y0.Src.Hi, .int .u64 y0.Src.Lo, .bool y0.Dst.V6, .int .u64 y0.Dst.Hi, .int .u64 y0.Dst.Lo, .string ⟨⟨y0.Options⟩⟩]⟩, .string ⟨⟨y1⟩⟩] [] = some (rx63 x) := r63_c hx
abbrev sums63 (R03_Of : (List UInt8) → Option Int) (R03_Set : (List UInt8) → Int → Int → Int → Option (List UInt8)) (R04_Put : api_Addr → Option (List UInt8)) (R05_Right : ipfour_Head → Option Bool) (R05_num : Int → Int → Option (List UInt8)) : List (Nat × Summ) := [(10, s10 R03_Of), (9, s9 R03_Set), (85, s85 R04_Put), (90, s90 R05_Right), (86, s86 R05_num)]
theorem leads63 (R03_Of : (List UInt8) → Option Int) (R03_Set : (List UInt8) → Int → Int → Int → Option (List UInt8)) (R04_Put : api_Addr → Option (List UInt8)) (R05_Right : ipfour_Head → Option Bool) (R05_num : Int → Int → Option (List UInt8)) (hS : SumsOK Try.prog (aget (sums63 R03_Of R03_Set R04_Put R05_Right R05_num))) (ha0 : ipfour_Head) (payload : List UInt8) (res : (List UInt8) × Int) (h : R05_PutF R03_Of R03_Set R04_Put R05_Right R05_num ha0 payload = some res) :
    Leads Try.prog 63 0 ⟨⟨63, 74, [(0, .agg ⟨[.int .i64 ha0.Class, .int .i64 ha0.Mark, .bool ha0.Whole, .int .i64 ha0.TTL, .int .i64 ha0.Proto, .bool ha0.Src.V6, .int .u64 ha0.Src.Hi, .int .u64 ha0.Src.Lo, .bool ha0.Dst.V6, .int .u64 ha0.Dst.Hi, .int .u64 ha0.Dst.Lo, .string ⟨⟨ha0.Options⟩⟩]⟩), (1, .string ⟨⟨payload⟩⟩)], [.code k63_26], [], false, none⟩, [], [], 0⟩ (fun v H _ => Res 0 (rx63 res) v H) := by
  unfold R05_PutF at h
  refine ev_ok tab_ok hS true 3000 ?_
  conv => whnf
  replace h := obind.elim h; obtain ⟨xr, hy, h⟩ := h
  refine sumK.q rfl rfl (r90_eq hy) rfl rfl rfl ?_
  conv => whnf
  refine br.h h ?_ ?_ ?_
  · rfl
  · clear h; intro hb h; conv => whnf
    all_goals (cases h; exact Res.z rfl rfl rfl)
  clear h; intro hb h; conv => whnf
  let t : Int := wI .i64 (20 + (ha0.Options.length : Int))
  let t1 : Bool := decide ((payload.length : Int) > (wI .i64 (65535 - t)))
  refine br.h h ?_ ?_ ?_
  · rfl
  · clear h; intro hb h; conv => whnf
    all_goals (cases h; exact Res.z rfl rfl rfl)
  clear h; intro hb h; conv => whnf
  refine br.h h ?_ ?_ ?_
  · rfl
  · clear h; intro hb h; conv => whnf
    replace h := obind.elim h; obtain ⟨n, hy, h⟩ := h
    refine sumK.q rfl rfl (r86_eq hy) rfl rfl rfl ?_
    conv => whnf
    replace h := obind.elim h; obtain ⟨n1, hy, h⟩ := h
    refine sumK.q rfl rfl (r86_eq hy) rfl rfl rfl ?_
    conv => whnf
    replace h := oreq.elim h; obtain ⟨hb, h⟩ := h
    first | (refine req.intro hb ?_; conv => whnf) | skip
    replace h := obind.elim h; obtain ⟨n2, hy, h⟩ := h
    refine sumK.q rfl rfl (r86_eq hy) rfl rfl rfl ?_
    conv => whnf
    replace h := oreq.elim h; obtain ⟨hb, h⟩ := h
    first | (refine req.intro hb ?_; conv => whnf) | skip
    replace h := obind.elim h; obtain ⟨n3, hy, h⟩ := h
    refine sumK.q rfl rfl (r86_eq hy) rfl rfl rfl ?_
    conv => whnf
    replace h := oreq.elim h; obtain ⟨hb, h⟩ := h
    first | (refine req.intro hb ?_; conv => whnf) | skip
    replace h := obind.elim h; obtain ⟨n4, hy, h⟩ := h
    refine sumK.q rfl rfl (r86_eq hy) rfl rfl rfl ?_
    conv => whnf
    replace h := oreq.elim h; obtain ⟨hb, h⟩ := h
    first | (refine req.intro hb ?_; conv => whnf) | skip
    replace h := obind.elim h; obtain ⟨n5, hy, h⟩ := h
    refine sumK.q rfl rfl (r86_eq hy) rfl rfl rfl ?_
    conv => whnf
    replace h := oreq.elim h; obtain ⟨hb, h⟩ := h
    first | (refine req.intro hb ?_; conv => whnf) | skip
    replace h := obind.elim h; obtain ⟨n6, hy, h⟩ := h
    refine sumK.q rfl rfl (r86_eq hy) rfl rfl rfl ?_
    conv => whnf
    replace h := oreq.elim h; obtain ⟨hb, h⟩ := h
    first | (refine req.intro hb ?_; conv => whnf) | skip
    let t2 : List UInt8 := (((((n ++ n1) ++ n2) ++ n3) ++ n4) ++ n5) ++ n6
    replace h := obind.elim h; obtain ⟨n7, hy, h⟩ := h
    refine sumK.q rfl rfl (r86_eq hy) rfl rfl rfl ?_
    conv => whnf
    replace h := oreq.elim h; obtain ⟨hb, h⟩ := h
    first | (refine req.intro hb ?_; conv => whnf) | skip
    replace h := obind.elim h; obtain ⟨n8, hy, h⟩ := h
    refine sumK.q rfl rfl (r86_eq hy) rfl rfl rfl ?_
    conv => whnf
    replace h := oreq.elim h; obtain ⟨hb, h⟩ := h
    first | (refine req.intro hb ?_; conv => whnf) | skip
    replace h := obind.elim h; obtain ⟨p, hy, h⟩ := h
    refine sumK.q rfl rfl (r85_eq hy) rfl rfl rfl ?_
    conv => whnf
    replace h := oreq.elim h; obtain ⟨hb, h⟩ := h
    first | (refine req.intro hb ?_; conv => whnf) | skip
    replace h := obind.elim h; obtain ⟨p1, hy, h⟩ := h
    refine sumK.q rfl rfl (r85_eq hy) rfl rfl rfl ?_
    conv => whnf
    replace h := oreq.elim h; obtain ⟨hb, h⟩ := h
    first | (refine req.intro hb ?_; conv => whnf) | skip
    replace h := oreq.elim h; obtain ⟨hb, h⟩ := h
    first | (refine req.intro hb ?_; conv => whnf) | skip
    let t3 : List UInt8 := ((((t2 ++ n7) ++ n8) ++ p) ++ p1) ++ ha0.Options
    replace h := obind.elim h; obtain ⟨xo, hy, h⟩ := h
    refine sumK.q rfl rfl (r10_eq hy) rfl rfl rfl ?_
    conv => whnf
    replace h := obind.elim h; obtain ⟨s, hy, h⟩ := h
    refine sumK.q rfl rfl (r9_eq hy) rfl rfl rfl ?_
    conv => whnf
    replace h := oreq.elim h; obtain ⟨hb, h⟩ := h
    first | (refine req.intro hb ?_; conv => whnf) | skip
    all_goals (cases h; exact Res.z rfl rfl rfl)
  clear h; intro hb h; conv => whnf
  replace h := obind.elim h; obtain ⟨n9, hy, h⟩ := h
  refine sumK.q rfl rfl (r86_eq hy) rfl rfl rfl ?_
  conv => whnf
  replace h := obind.elim h; obtain ⟨n10, hy, h⟩ := h
  refine sumK.q rfl rfl (r86_eq hy) rfl rfl rfl ?_
  conv => whnf
  replace h := oreq.elim h; obtain ⟨hb, h⟩ := h
  first | (refine req.intro hb ?_; conv => whnf) | skip
  replace h := obind.elim h; obtain ⟨n11, hy, h⟩ := h
  refine sumK.q rfl rfl (r86_eq hy) rfl rfl rfl ?_
  conv => whnf
  replace h := oreq.elim h; obtain ⟨hb, h⟩ := h
  first | (refine req.intro hb ?_; conv => whnf) | skip
  replace h := obind.elim h; obtain ⟨n12, hy, h⟩ := h
  refine sumK.q rfl rfl (r86_eq hy) rfl rfl rfl ?_
  conv => whnf
  replace h := oreq.elim h; obtain ⟨hb, h⟩ := h
  first | (refine req.intro hb ?_; conv => whnf) | skip
  replace h := obind.elim h; obtain ⟨n13, hy, h⟩ := h
  refine sumK.q rfl rfl (r86_eq hy) rfl rfl rfl ?_
  conv => whnf
  replace h := oreq.elim h; obtain ⟨hb, h⟩ := h
  first | (refine req.intro hb ?_; conv => whnf) | skip
  replace h := obind.elim h; obtain ⟨n14, hy, h⟩ := h
  refine sumK.q rfl rfl (r86_eq hy) rfl rfl rfl ?_
  conv => whnf
  replace h := oreq.elim h; obtain ⟨hb, h⟩ := h
  first | (refine req.intro hb ?_; conv => whnf) | skip
  let t4 : List UInt8 := ((((n9 ++ n10) ++ n11) ++ n12) ++ n13) ++ n14
  replace h := obind.elim h; obtain ⟨n15, hy, h⟩ := h
  refine sumK.q rfl rfl (r86_eq hy) rfl rfl rfl ?_
  conv => whnf
  replace h := oreq.elim h; obtain ⟨hb, h⟩ := h
  first | (refine req.intro hb ?_; conv => whnf) | skip
  replace h := obind.elim h; obtain ⟨n16, hy, h⟩ := h
  refine sumK.q rfl rfl (r86_eq hy) rfl rfl rfl ?_
  conv => whnf
  replace h := oreq.elim h; obtain ⟨hb, h⟩ := h
  first | (refine req.intro hb ?_; conv => whnf) | skip
  replace h := obind.elim h; obtain ⟨n17, hy, h⟩ := h
  refine sumK.q rfl rfl (r86_eq hy) rfl rfl rfl ?_
  conv => whnf
  replace h := oreq.elim h; obtain ⟨hb, h⟩ := h
  first | (refine req.intro hb ?_; conv => whnf) | skip
  replace h := obind.elim h; obtain ⟨p2, hy, h⟩ := h
  refine sumK.q rfl rfl (r85_eq hy) rfl rfl rfl ?_
  conv => whnf
  replace h := oreq.elim h; obtain ⟨hb, h⟩ := h
  first | (refine req.intro hb ?_; conv => whnf) | skip
  replace h := obind.elim h; obtain ⟨p3, hy, h⟩ := h
  refine sumK.q rfl rfl (r85_eq hy) rfl rfl rfl ?_
  conv => whnf
  replace h := oreq.elim h; obtain ⟨hb, h⟩ := h
  first | (refine req.intro hb ?_; conv => whnf) | skip
  let t5 : List UInt8 := ((((t4 ++ n15) ++ n16) ++ n17) ++ p2) ++ p3
  replace h := oreq.elim h; obtain ⟨hb, h⟩ := h
  first | (refine req.intro hb ?_; conv => whnf) | skip
  replace h := obind.elim h; obtain ⟨xo1, hy, h⟩ := h
  refine sumK.q rfl rfl (r10_eq hy) rfl rfl rfl ?_
  conv => whnf
  replace h := obind.elim h; obtain ⟨s1, hy, h⟩ := h
  refine sumK.q rfl rfl (r9_eq hy) rfl rfl rfl ?_
  conv => whnf
  replace h := oreq.elim h; obtain ⟨hb, h⟩ := h
  first | (refine req.intro hb ?_; conv => whnf) | skip
  all_goals (cases h; exact Res.z rfl rfl rfl)
theorem ok63 (R03_Of : (List UInt8) → Option Int) (R03_Set : (List UInt8) → Int → Int → Int → Option (List UInt8)) (R04_Put : api_Addr → Option (List UInt8)) (R05_Right : ipfour_Head → Option Bool) (R05_num : Int → Int → Option (List UInt8)) (hS : SumsOK Try.prog (aget (sums63 R03_Of R03_Set R04_Put R05_Right R05_num))) : SumOK Try.prog 63 (s63 (R05_PutF R03_Of R03_Set R04_Put R05_Right R05_num)) := by
  refine SumOK.of_leads tab_ok (fun ar os r ha hr => ?_) ⟨Try.f63, rfl, by decide, rfl⟩
  replace hr : r63 (R05_PutF R03_Of R03_Set R04_Put R05_Right R05_num) ar (conts os) = some r := hr
  unfold r63 at hr
  generalize hc : conts os = C at hr
  replace hr := dV.elim hr; obtain ⟨v0, l1, y0, rfl, e0, hr⟩ := hr; obtain rfl := uvipfour_Head_eq _ _ e0
  replace hr := dV.elim hr; obtain ⟨v1, l2, y1, rfl, e1, hr⟩ := hr; obtain rfl := asS_eq _ _ e1
  replace hr := dFin hr; obtain ⟨rfl, rfl, x, h, rfl⟩ := hr
  obtain rfl := kinds_nil hc
  exact ⟨_, rfl, leads63 R03_Of R03_Set R04_Put R05_Right R05_num hS _ _ x h⟩
def R05_Put : ipfour_Head → (List UInt8) → Option ((List UInt8) × Int) := R05_PutF R03_Of R03_Set R04_Put R05_Right R05_num
theorem lift63 : SumOK Try.prog 63 (s63 R05_Put) := ok63 R03_Of R03_Set R04_Put R05_Right R05_num (SumsOK.of_tab ⟨lift10, lift9, lift85, lift90, lift86, trivial⟩)
def R11_PutF (R04_Right : api_Addr → Option Bool) (R05_Put : ipfour_Head → (List UInt8) → Option ((List UInt8) × Int)) (R06_Put : ipsix_Head → (List UInt8) → Option ((List UInt8) × Int)) (t : api_Tuple) (body : List UInt8) : Option ((List UInt8) × Int) :=
  cond (!(t.Src.V6 == t.Dst.V6))
    (
    some (([], 1)))
    (
    (R04_Right t.Src).bind fun xr =>
    cond (!xr)
      (
      some (([], 1)))
      (
      (R04_Right t.Dst).bind fun xr1 =>
      cond (!xr1)
        (
        some (([], 1)))
        (
        cond (t.Proto != 6)
          (
          cond (t.Proto != 17)
            (
            some (([], 1)))
            (
            (R06_Put (ipsix_Head.mk 0 0 t.Proto 64 t.Src t.Dst) body).bind fun p =>
            cond (!t.Src.V6)
              (
              (R05_Put (ipfour_Head.mk 0 0 true 64 t.Proto t.Src t.Dst []) body).bind fun p1 =>
              cond (p1.2 == 0)
                (
                cond (decide ((p1.1.length : Int) > 9000))
                  (
                  some (([], 5)))
                  (
                  some ((p1.1, p1.2))))
                (
                some ((p1.1, p1.2))))
              (
              cond (p.2 == 0)
                (
                cond (decide ((p.1.length : Int) > 9000))
                  (
                  some (([], 5)))
                  (
                  some ((p.1, p.2))))
                (
                some ((p.1, p.2))))))
          (
          (R06_Put (ipsix_Head.mk 0 0 t.Proto 64 t.Src t.Dst) body).bind fun p2 =>
          cond (!t.Src.V6)
            (
            (R05_Put (ipfour_Head.mk 0 0 true 64 t.Proto t.Src t.Dst []) body).bind fun p3 =>
            cond (p3.2 == 0)
              (
              cond (decide ((p3.1.length : Int) > 9000))
                (
                some (([], 5)))
                (
                some ((p3.1, p3.2))))
              (
              some ((p3.1, p3.2))))
            (
            cond (p2.2 == 0)
              (
              cond (decide ((p2.1.length : Int) > 9000))
                (
                some (([], 5)))
                (
                some ((p2.1, p2.2))))
              (
              some ((p2.1, p2.2))))))))
def rx37 (x : (List UInt8) × Int) : SRes := ⟨.tuple ⟨[.string ⟨⟨x.1⟩⟩, .int .i64 x.2]⟩, [], []⟩
def r37 (g : api_Tuple → (List UInt8) → Option ((List UInt8) × Int)) : Dec := dV uvapi_Tuple fun (y0 : api_Tuple) => dV asS fun (y1 : List UInt8) => dEnd (ofG (g y0 y1) rx37)
theorem r37_c {g : api_Tuple → (List UInt8) → Option ((List UInt8) × Int)} {y0 : api_Tuple} {y1 : List UInt8} {x : (List UInt8) × Int} (hx : g y0 y1 = some x) : r37 g [.agg ⟨[.int .i64 y0.Proto, .bool y0.Src.V6, .int .u64 y0.Src.Hi, .int .u64 y0.Src.Lo, .bool y0.Dst.V6, .int .u64 y0.Dst.Hi, .int .u64 y0.Dst.Lo, .int .i64 y0.SPort, .int .i64 y0.DPort]⟩, .string ⟨⟨y1⟩⟩] [] = some (rx37 x) := (dV_eq (uvapi_Tuple_c _)).trans ((dV_eq (asS_c)).trans (ofG_eq hx))
def s37 (g : api_Tuple → (List UInt8) → Option ((List UInt8) × Int)) : Summ := ⟨[.v, .v], r37 g⟩
theorem r37_eq {g : api_Tuple → (List UInt8) → Option ((List UInt8) × Int)} {y0 : api_Tuple} {y1 : List UInt8} {x : (List UInt8) × Int} (hx : g y0 y1 = some x) : (s37 g).run [.agg ⟨[.int .i64 y0.Proto, .bool y0.Src.V6, .int .u64 y0.Src.Hi, .int .u64 y0.Src.Lo, .bool y0.Dst.V6, .int .u64 y0.Dst.Hi, .int .u64 y0.Dst.Lo, .int .i64 y0.SPort, .int .i64 y0.DPort]⟩, .string ⟨⟨y1⟩⟩] [] = some (rx37 x) := r37_c hx
abbrev sums37 (R04_Right : api_Addr → Option Bool) (R05_Put : ipfour_Head → (List UInt8) → Option ((List UInt8) × Int)) (R06_Put : ipsix_Head → (List UInt8) → Option ((List UInt8) × Int)) : List (Nat × Summ) := [(61, s61 R04_Right), (63, s63 R05_Put), (62, s62 R06_Put)]
theorem leads37 (R04_Right : api_Addr → Option Bool) (R05_Put : ipfour_Head → (List UInt8) → Option ((List UInt8) × Int)) (R06_Put : ipsix_Head → (List UInt8) → Option ((List UInt8) × Int)) (hS : SumsOK Try.prog (aget (sums37 R04_Right R05_Put R06_Put))) (t : api_Tuple) (body : List UInt8) (res : (List UInt8) × Int) (h : R11_PutF R04_Right R05_Put R06_Put t body = some res) :
    Leads Try.prog 37 0 ⟨⟨37, 74, [(0, .agg ⟨[.int .i64 t.Proto, .bool t.Src.V6, .int .u64 t.Src.Hi, .int .u64 t.Src.Lo, .bool t.Dst.V6, .int .u64 t.Dst.Hi, .int .u64 t.Dst.Lo, .int .i64 t.SPort, .int .i64 t.DPort]⟩), (1, .string ⟨⟨body⟩⟩)], [.code k37_22], [], false, none⟩, [], [], 0⟩ (fun v H _ => Res 0 (rx37 res) v H) := by
  unfold R11_PutF at h
  refine ev_ok tab_ok hS true 3000 ?_
  conv => whnf
  refine br.h h ?_ ?_ ?_
  · rfl
  · clear h; intro hb h; conv => whnf
    all_goals (cases h; exact Res.z rfl rfl rfl)
  clear h; intro hb h; conv => whnf
  replace h := obind.elim h; obtain ⟨xr, hy, h⟩ := h
  refine sumK.q rfl rfl (r61_eq hy) rfl rfl rfl ?_
  conv => whnf
  refine br.h h ?_ ?_ ?_
  · rfl
  · clear h; intro hb h; conv => whnf
    all_goals (cases h; exact Res.z rfl rfl rfl)
  clear h; intro hb h; conv => whnf
  replace h := obind.elim h; obtain ⟨xr1, hy, h⟩ := h
  refine sumK.q rfl rfl (r61_eq hy) rfl rfl rfl ?_
  conv => whnf
  refine br.h h ?_ ?_ ?_
  · rfl
  · clear h; intro hb h; conv => whnf
    all_goals (cases h; exact Res.z rfl rfl rfl)
  clear h; intro hb h; conv => whnf
  refine br.h2 h ?_ ?_ ?_
  · rfl
  · clear h; intro hb h; conv => whnf
    replace h := obind.elim h; obtain ⟨p2, hy, h⟩ := h
    refine sumK.q rfl rfl (r62_eq hy) rfl rfl rfl ?_
    conv => whnf
    refine br.h2 h ?_ ?_ ?_
    · rfl
    · clear h; intro hb h; conv => whnf
      refine br.h2 h ?_ ?_ ?_
      · rfl
      · clear h; intro hb h; conv => whnf
        all_goals (cases h; exact Res.z rfl rfl rfl)
      clear h; intro hb h; conv => whnf
      refine br.h h ?_ ?_ ?_
      · rfl
      · clear h; intro hb h; conv => whnf
        all_goals (cases h; exact Res.z rfl rfl rfl)
      clear h; intro hb h; conv => whnf
      all_goals (cases h; exact Res.z rfl rfl rfl)
    clear h; intro hb h; conv => whnf
    replace h := obind.elim h; obtain ⟨p3, hy, h⟩ := h
    refine sumK.q rfl rfl (r63_eq hy) rfl rfl rfl ?_
    conv => whnf
    refine br.h2 h ?_ ?_ ?_
    · rfl
    · clear h; intro hb h; conv => whnf
      all_goals (cases h; exact Res.z rfl rfl rfl)
    clear h; intro hb h; conv => whnf
    refine br.h h ?_ ?_ ?_
    · rfl
    · clear h; intro hb h; conv => whnf
      all_goals (cases h; exact Res.z rfl rfl rfl)
    clear h; intro hb h; conv => whnf
    all_goals (cases h; exact Res.z rfl rfl rfl)
  clear h; intro hb h; conv => whnf
  refine br.h h ?_ ?_ ?_
  · rfl
  · clear h; intro hb h; conv => whnf
    all_goals (cases h; exact Res.z rfl rfl rfl)
  clear h; intro hb h; conv => whnf
  replace h := obind.elim h; obtain ⟨p, hy, h⟩ := h
  refine sumK.q rfl rfl (r62_eq hy) rfl rfl rfl ?_
  conv => whnf
  refine br.h2 h ?_ ?_ ?_
  · rfl
  · clear h; intro hb h; conv => whnf
    refine br.h2 h ?_ ?_ ?_
    · rfl
    · clear h; intro hb h; conv => whnf
      all_goals (cases h; exact Res.z rfl rfl rfl)
    clear h; intro hb h; conv => whnf
    refine br.h h ?_ ?_ ?_
    · rfl
    · clear h; intro hb h; conv => whnf
      all_goals (cases h; exact Res.z rfl rfl rfl)
    clear h; intro hb h; conv => whnf
    all_goals (cases h; exact Res.z rfl rfl rfl)
  clear h; intro hb h; conv => whnf
  replace h := obind.elim h; obtain ⟨p1, hy, h⟩ := h
  refine sumK.q rfl rfl (r63_eq hy) rfl rfl rfl ?_
  conv => whnf
  refine br.h2 h ?_ ?_ ?_
  · rfl
  · clear h; intro hb h; conv => whnf
    all_goals (cases h; exact Res.z rfl rfl rfl)
  clear h; intro hb h; conv => whnf
  refine br.h h ?_ ?_ ?_
  · rfl
  · clear h; intro hb h; conv => whnf
    all_goals (cases h; exact Res.z rfl rfl rfl)
  clear h; intro hb h; conv => whnf
  all_goals (cases h; exact Res.z rfl rfl rfl)
theorem ok37 (R04_Right : api_Addr → Option Bool) (R05_Put : ipfour_Head → (List UInt8) → Option ((List UInt8) × Int)) (R06_Put : ipsix_Head → (List UInt8) → Option ((List UInt8) × Int)) (hS : SumsOK Try.prog (aget (sums37 R04_Right R05_Put R06_Put))) : SumOK Try.prog 37 (s37 (R11_PutF R04_Right R05_Put R06_Put)) := by
  refine SumOK.of_leads tab_ok (fun ar os r ha hr => ?_) ⟨Try.f37, rfl, by decide, rfl⟩
  replace hr : r37 (R11_PutF R04_Right R05_Put R06_Put) ar (conts os) = some r := hr
  unfold r37 at hr
  generalize hc : conts os = C at hr
  replace hr := dV.elim hr; obtain ⟨v0, l1, y0, rfl, e0, hr⟩ := hr; obtain rfl := uvapi_Tuple_eq _ _ e0
  replace hr := dV.elim hr; obtain ⟨v1, l2, y1, rfl, e1, hr⟩ := hr; obtain rfl := asS_eq _ _ e1
  replace hr := dFin hr; obtain ⟨rfl, rfl, x, h, rfl⟩ := hr
  obtain rfl := kinds_nil hc
  exact ⟨_, rfl, leads37 R04_Right R05_Put R06_Put hS _ _ x h⟩
def R11_Put : api_Tuple → (List UInt8) → Option ((List UInt8) × Int) := R11_PutF R04_Right R05_Put R06_Put
theorem lift37 : SumOK Try.prog 37 (s37 R11_Put) := ok37 R04_Right R05_Put R06_Put (SumsOK.of_tab ⟨lift61, lift63, lift62, trivial⟩)
def R11_SegmentF (R07_Put : tcp_Head → api_Addr → api_Addr → (List UInt8) → Option ((List UInt8) × Int)) (R11_Put : api_Tuple → (List UInt8) → Option ((List UInt8) × Int)) (t : api_Tuple) (flags : Int) (options : List UInt8) (payload : List UInt8) : Option ((List UInt8) × Int) :=
  cond (t.Proto != 6)
    (
    some (([], 1)))
    (
    (R07_Put (tcp_Head.mk t.SPort t.DPort 0 0 flags 65535 0 options) t.Src t.Dst payload).bind fun p =>
    cond (p.2 != 0)
      (
      some (([], p.2)))
      (
      (R11_Put t p.1).bind fun p1 =>
      some ((p1.1, p1.2))))
def rx20 (x : (List UInt8) × Int) : SRes := ⟨.tuple ⟨[.string ⟨⟨x.1⟩⟩, .int .i64 x.2]⟩, [], []⟩
def r20 (g : api_Tuple → Int → (List UInt8) → (List UInt8) → Option ((List UInt8) × Int)) : Dec := dV uvapi_Tuple fun (y0 : api_Tuple) => dV (asI .i64) fun (y1 : Int) => dV asS fun (y2 : List UInt8) => dV asS fun (y3 : List UInt8) => dEnd (ofG (g y0 y1 y2 y3) rx20)
theorem r20_c {g : api_Tuple → Int → (List UInt8) → (List UInt8) → Option ((List UInt8) × Int)} {y0 : api_Tuple} {y1 : Int} {y2 : List UInt8} {y3 : List UInt8} {x : (List UInt8) × Int} (hx : g y0 y1 y2 y3 = some x) : r20 g [.agg ⟨[.int .i64 y0.Proto, .bool y0.Src.V6, .int .u64 y0.Src.Hi, .int .u64 y0.Src.Lo, .bool y0.Dst.V6, .int .u64 y0.Dst.Hi, .int .u64 y0.Dst.Lo, .int .i64 y0.SPort, .int .i64 y0.DPort]⟩, .int .i64 y1, .string ⟨⟨y2⟩⟩, .string ⟨⟨y3⟩⟩] [] = some (rx20 x) := (dV_eq (uvapi_Tuple_c _)).trans ((dV_eq (asI_c _)).trans ((dV_eq (asS_c)).trans ((dV_eq (asS_c)).trans (ofG_eq hx))))
def s20 (g : api_Tuple → Int → (List UInt8) → (List UInt8) → Option ((List UInt8) × Int)) : Summ := ⟨[.v, .v, .v, .v], r20 g⟩
theorem r20_eq {g : api_Tuple → Int → (List UInt8) → (List UInt8) → Option ((List UInt8) × Int)} {y0 : api_Tuple} {y1 : Int} {y2 : List UInt8} {y3 : List UInt8} {x : (List UInt8) × Int} (hx : g y0 y1 y2 y3 = some x) : (s20 g).run [.agg ⟨[.int .i64 y0.Proto, .bool y0.Src.V6, .int .u64 y0.Src.Hi, .int .u64 y0.Src.Lo, .bool y0.Dst.V6, .int .u64 y0.Dst.Hi, .int .u64 y0.Dst.Lo, .int .i64 y0.SPort, .int .i64 y0.DPort]⟩, .int .i64 y1, .string ⟨⟨y2⟩⟩, .string ⟨⟨y3⟩⟩] [] = some (rx20 x) := r20_c hx
abbrev sums20 (R07_Put : tcp_Head → api_Addr → api_Addr → (List UInt8) → Option ((List UInt8) × Int)) (R11_Put : api_Tuple → (List UInt8) → Option ((List UInt8) × Int)) : List (Nat × Summ) := [(36, s36 R07_Put), (37, s37 R11_Put)]
theorem leads20 (R07_Put : tcp_Head → api_Addr → api_Addr → (List UInt8) → Option ((List UInt8) × Int)) (R11_Put : api_Tuple → (List UInt8) → Option ((List UInt8) × Int)) (hS : SumsOK Try.prog (aget (sums20 R07_Put R11_Put))) (t : api_Tuple) (flags : Int) (options : List UInt8) (payload : List UInt8) (res : (List UInt8) × Int) (h : R11_SegmentF R07_Put R11_Put t flags options payload = some res) :
    Leads Try.prog 20 0 ⟨⟨20, 39, [(0, .agg ⟨[.int .i64 t.Proto, .bool t.Src.V6, .int .u64 t.Src.Hi, .int .u64 t.Src.Lo, .bool t.Dst.V6, .int .u64 t.Dst.Hi, .int .u64 t.Dst.Lo, .int .i64 t.SPort, .int .i64 t.DPort]⟩), (1, .int .i64 flags), (2, .string ⟨⟨options⟩⟩), (3, .string ⟨⟨payload⟩⟩)], [.code k20_17], [], false, none⟩, [], [], 0⟩ (fun v H _ => Res 0 (rx20 res) v H) := by
  unfold R11_SegmentF at h
  refine ev_ok tab_ok hS true 3000 ?_
  conv => whnf
  refine br.h h ?_ ?_ ?_
  · rfl
  · clear h; intro hb h; conv => whnf
    all_goals (cases h; exact Res.z rfl rfl rfl)
  clear h; intro hb h; conv => whnf
  replace h := obind.elim h; obtain ⟨p, hy, h⟩ := h
  refine sumK.q rfl rfl (r36_eq hy) rfl rfl rfl ?_
  conv => whnf
  refine br.h h ?_ ?_ ?_
  · rfl
  · clear h; intro hb h; conv => whnf
    all_goals (cases h; exact Res.z rfl rfl rfl)
  clear h; intro hb h; conv => whnf
  replace h := obind.elim h; obtain ⟨p1, hy, h⟩ := h
  refine sumK.q rfl rfl (r37_eq hy) rfl rfl rfl ?_
  conv => whnf
  all_goals (cases h; exact Res.z rfl rfl rfl)
theorem ok20 (R07_Put : tcp_Head → api_Addr → api_Addr → (List UInt8) → Option ((List UInt8) × Int)) (R11_Put : api_Tuple → (List UInt8) → Option ((List UInt8) × Int)) (hS : SumsOK Try.prog (aget (sums20 R07_Put R11_Put))) : SumOK Try.prog 20 (s20 (R11_SegmentF R07_Put R11_Put)) := by
  refine SumOK.of_leads tab_ok (fun ar os r ha hr => ?_) ⟨Try.f20, rfl, by decide, rfl⟩
  replace hr : r20 (R11_SegmentF R07_Put R11_Put) ar (conts os) = some r := hr
  unfold r20 at hr
  generalize hc : conts os = C at hr
  replace hr := dV.elim hr; obtain ⟨v0, l1, y0, rfl, e0, hr⟩ := hr; obtain rfl := uvapi_Tuple_eq _ _ e0
  replace hr := dV.elim hr; obtain ⟨v1, l2, y1, rfl, e1, hr⟩ := hr; obtain rfl := asI_eq _ _ _ e1
  replace hr := dV.elim hr; obtain ⟨v2, l3, y2, rfl, e2, hr⟩ := hr; obtain rfl := asS_eq _ _ e2
  replace hr := dV.elim hr; obtain ⟨v3, l4, y3, rfl, e3, hr⟩ := hr; obtain rfl := asS_eq _ _ e3
  replace hr := dFin hr; obtain ⟨rfl, rfl, x, h, rfl⟩ := hr
  obtain rfl := kinds_nil hc
  exact ⟨_, rfl, leads20 R07_Put R11_Put hS _ _ _ _ x h⟩
def R11_Segment : api_Tuple → Int → (List UInt8) → (List UInt8) → Option ((List UInt8) × Int) := R11_SegmentF R07_Put R11_Put
theorem lift20 : SumOK Try.prog 20 (s20 R11_Segment) := ok20 R07_Put R11_Put (SumsOK.of_tab ⟨lift36, lift37, trivial⟩)
def addr_GetF (octet_Get : (List UInt8) → Int → Int → Option (Int × Bool)) (s : List UInt8) : Option (api_Addr × Bool) :=
  cond ((s.length : Int) == 4)
    (
    (octet_Get s 0 4).bind fun xg =>
    some ((api_Addr.mk false 0 xg.1, true)))
    (
    cond ((s.length : Int) == 16)
      (
      (octet_Get s 0 8).bind fun xg1 =>
      (octet_Get s 8 8).bind fun xg2 =>
      some ((api_Addr.mk true xg1.1 xg2.1, true)))
      (
      some ((api_Addr.mk false 0 0, false))))
def rx117 (x : api_Addr × Bool) : SRes := ⟨.tuple ⟨[.agg ⟨[.bool x.1.V6, .int .u64 x.1.Hi, .int .u64 x.1.Lo]⟩, .bool x.2]⟩, [], []⟩
def r117 (g : (List UInt8) → Option (api_Addr × Bool)) : Dec := dV asS fun (y0 : List UInt8) => dEnd (ofG (g y0) rx117)
theorem r117_c {g : (List UInt8) → Option (api_Addr × Bool)} {y0 : List UInt8} {x : api_Addr × Bool} (hx : g y0 = some x) : r117 g [.string ⟨⟨y0⟩⟩] [] = some (rx117 x) := (dV_eq (asS_c)).trans (ofG_eq hx)
def s117 (g : (List UInt8) → Option (api_Addr × Bool)) : Summ := ⟨[.v], r117 g⟩
theorem r117_eq {g : (List UInt8) → Option (api_Addr × Bool)} {y0 : List UInt8} {x : api_Addr × Bool} (hx : g y0 = some x) : (s117 g).run [.string ⟨⟨y0⟩⟩] [] = some (rx117 x) := r117_c hx
abbrev sums117 (octet_Get : (List UInt8) → Int → Int → Option (Int × Bool)) : List (Nat × Summ) := [(25, s25 octet_Get)]
theorem leads117 (octet_Get : (List UInt8) → Int → Int → Option (Int × Bool)) (hS : SumsOK Try.prog (aget (sums117 octet_Get))) (s : List UInt8) (res : api_Addr × Bool) (h : addr_GetF octet_Get s = some res) :
    Leads Try.prog 117 0 ⟨⟨117, 35, [(0, .string ⟨⟨s⟩⟩)], [.code k117_25], [], false, none⟩, [], [], 0⟩ (fun v H _ => Res 0 (rx117 res) v H) := by
  unfold addr_GetF at h
  refine ev_ok tab_ok hS true 3000 ?_
  conv => whnf
  refine br.h h ?_ ?_ ?_
  · rfl
  · clear h; intro hb h; conv => whnf
    replace h := obind.elim h; obtain ⟨xg, hy, h⟩ := h
    refine sumK.q rfl rfl (r25_eq hy) rfl rfl rfl ?_
    conv => whnf
    all_goals (cases h; exact Res.z rfl rfl rfl)
  clear h; intro hb h; conv => whnf
  refine br.h2 h ?_ ?_ ?_
  · rfl
  · clear h; intro hb h; conv => whnf
    all_goals (cases h; exact Res.z rfl rfl rfl)
  clear h; intro hb h; conv => whnf
  replace h := obind.elim h; obtain ⟨xg1, hy, h⟩ := h
  refine sumK.q rfl rfl (r25_eq hy) rfl rfl rfl ?_
  conv => whnf
  replace h := obind.elim h; obtain ⟨xg2, hy, h⟩ := h
  refine sumK.q rfl rfl (r25_eq hy) rfl rfl rfl ?_
  conv => whnf
  all_goals (cases h; exact Res.z rfl rfl rfl)
theorem ok117 (octet_Get : (List UInt8) → Int → Int → Option (Int × Bool)) (hS : SumsOK Try.prog (aget (sums117 octet_Get))) : SumOK Try.prog 117 (s117 (addr_GetF octet_Get)) := by
  refine SumOK.of_leads tab_ok (fun ar os r ha hr => ?_) ⟨Try.f117, rfl, by decide, rfl⟩
  replace hr : r117 (addr_GetF octet_Get) ar (conts os) = some r := hr
  unfold r117 at hr
  generalize hc : conts os = C at hr
  replace hr := dV.elim hr; obtain ⟨v0, l1, y0, rfl, e0, hr⟩ := hr; obtain rfl := asS_eq _ _ e0
  replace hr := dFin hr; obtain ⟨rfl, rfl, x, h, rfl⟩ := hr
  obtain rfl := kinds_nil hc
  exact ⟨_, rfl, leads117 octet_Get hS _ x h⟩
def addr_Get : (List UInt8) → Option (api_Addr × Bool) := addr_GetF octet_Get
theorem lift117 : SumOK Try.prog 117 (s117 addr_Get) := ok117 octet_Get (SumsOK.of_tab ⟨lift25, trivial⟩)
def ipfour_fields_addressF (addr_Get : (List UInt8) → Option (api_Addr × Bool)) (octet_Reader_Text : octet_Reader → Int → Option ((List UInt8) × octet_Reader)) (f : ipfour_fields) : Option (api_Addr × octet_Reader) :=
  (octet_Reader_Text f.Reader 4).bind fun t =>
  (addr_Get t.1).bind fun xg =>
  some ((xg.1, t.2))
def rx116 (x : api_Addr × octet_Reader) : SRes := ⟨.agg ⟨[.bool x.1.V6, .int .u64 x.1.Hi, .int .u64 x.1.Lo]⟩, [], [some [.string ⟨⟨x.2.s⟩⟩, .bool x.2.made, .bool x.2.bad]]⟩
def r116 (g : ipfour_fields → Option (api_Addr × octet_Reader)) : Dec := dTr 1 (utipfour_fields 0) fun (y0 : ipfour_fields) => dEnd (ofG (g y0) rx116)
theorem r116_c {g : ipfour_fields → Option (api_Addr × octet_Reader)} {y0 : ipfour_fields} {x : api_Addr × octet_Reader} (hx : g y0 = some x) : r116 g [.agg ⟨[.pointer (some ⟨0, 0, none⟩)]⟩] [some [.string ⟨⟨y0.Reader.s⟩⟩, .bool y0.Reader.made, .bool y0.Reader.bad]] = some (rx116 x) := (dTr_eq rfl rfl (utipfour_fields_c 0 _)).trans (ofG_eq hx)
def s116 (g : ipfour_fields → Option (api_Addr × octet_Reader)) : Summ := ⟨[.tr [⟨none, 0, 0, 1, none⟩]], r116 g⟩
theorem r116_eq {g : ipfour_fields → Option (api_Addr × octet_Reader)} {y0 : ipfour_fields} {x : api_Addr × octet_Reader} (hx : g y0 = some x) : (s116 g).run [.agg ⟨[.pointer (some ⟨0, 0, none⟩)]⟩] [some [.string ⟨⟨y0.Reader.s⟩⟩, .bool y0.Reader.made, .bool y0.Reader.bad]] = some (rx116 x) := r116_c hx
abbrev sums116 (addr_Get : (List UInt8) → Option (api_Addr × Bool)) (octet_Reader_Text : octet_Reader → Int → Option ((List UInt8) × octet_Reader)) : List (Nat × Summ) := [(117, s117 addr_Get), (106, s106 octet_Reader_Text)]
theorem leads116 (addr_Get : (List UInt8) → Option (api_Addr × Bool)) (octet_Reader_Text : octet_Reader → Int → Option ((List UInt8) × octet_Reader)) (hS : SumsOK Try.prog (aget (sums116 addr_Get octet_Reader_Text))) (f : ipfour_fields) (res : api_Addr × octet_Reader) (h : ipfour_fields_addressF addr_Get octet_Reader_Text f = some res) :
    Leads Try.prog 116 1 ⟨⟨116, 13, [(0, .agg ⟨[.pointer (some ⟨0, 0, none⟩)]⟩)], [.code k116_5], [], false, none⟩, [], [(0, .cells [.string ⟨⟨f.Reader.s⟩⟩, .bool f.Reader.made, .bool f.Reader.bad])], 1⟩ (fun v H _ => Res 1 (rx116 res) v H) := by
  unfold ipfour_fields_addressF at h
  refine ev_ok tab_ok hS true 3000 ?_
  conv => whnf
  replace h := obind.elim h; obtain ⟨t, hy, h⟩ := h
  refine sumK.introF [0] (sumRun_of (aqs := [.pointer (some ⟨0, 0, none⟩), .int .i64 4]) (ws := [.win 0 0 3 true]) (n := 0) (m := 0) (t' := 3) (ra_cons rfl rfl (ra_cons rfl rfl ra_nil)) rfl (by rfl) (r106_eq hy) rfl rfl rfl rfl (wb_win rfl rfl rfl ⟨rfl, Nat.le_of_ble_eq_true rfl⟩ rfl rfl wb_nil) an_nil rfl) ?_
  conv => whnf
  replace h := obind.elim h; obtain ⟨xg, hy, h⟩ := h
  refine sumK.q rfl rfl (r117_eq hy) rfl rfl rfl ?_
  conv => whnf
  all_goals (cases h)
  all_goals exact Res.of [] rfl nw_0 (by decide) js_0 (wr_s (rfl) (hs_cells rfl) wr_0)
theorem ok116 (addr_Get : (List UInt8) → Option (api_Addr × Bool)) (octet_Reader_Text : octet_Reader → Int → Option ((List UInt8) × octet_Reader)) (hS : SumsOK Try.prog (aget (sums116 addr_Get octet_Reader_Text))) : SumOK Try.prog 116 (s116 (ipfour_fields_addressF addr_Get octet_Reader_Text)) := by
  refine SumOK.of_leads tab_ok (fun ar os r ha hr => ?_) ⟨Try.f116, rfl, by decide, rfl⟩
  replace hr : r116 (ipfour_fields_addressF addr_Get octet_Reader_Text) ar (conts os) = some r := hr
  unfold r116 at hr
  generalize hc : conts os = C at hr
  have hq := dTr.elim hr; clear hr; obtain ⟨v0, l1, c0, C, y0, rfl, rfl, e0, hr⟩ := hq; obtain ⟨rfl, rfl⟩ := utipfour_fields_eq e0; simp only [List.nil_append, List.cons_append] at hc
  replace hr := dFin hr; obtain ⟨rfl, rfl, x, h, rfl⟩ := hr
  obtain ⟨os, rfl, ha, hc⟩ := kinds_some ha hc
  obtain rfl := kinds_nil hc
  exact ⟨_, rfl, leads116 addr_Get octet_Reader_Text hS _ x h⟩
def ipfour_fields_address : ipfour_fields → Option (api_Addr × octet_Reader) := ipfour_fields_addressF addr_Get octet_Reader_Text
theorem lift116 : SumOK Try.prog 116 (s116 ipfour_fields_address) := ok116 addr_Get octet_Reader_Text (SumsOK.of_tab ⟨lift117, lift106, trivial⟩)
def ipfour_GetF (check_Right : (List UInt8) → Option Bool) (ipfour_fields_address : ipfour_fields → Option (api_Addr × octet_Reader)) (octet_New : (List UInt8) → Option octet_Reader) (octet_Reader_Num : octet_Reader → Int → Option (Int × octet_Reader)) (octet_Reader_Text : octet_Reader → Int → Option ((List UInt8) × octet_Reader)) (s : List UInt8) : Option (ipfour_Head × (List UInt8) × Int) :=
  cond (decide ((s.length : Int) < 20))
    (
    some ((ipfour_Head.mk 0 0 false 0 0 (api_Addr.mk false 0 0) (api_Addr.mk false 0 0) [], [], 2)))
    (
    (octet_New s).bind fun n =>
    (octet_Reader_Num n 1).bind fun n1 =>
    (octet_Reader_Num n1.2 1).bind fun n2 =>
    (octet_Reader_Num n2.2 2).bind fun n3 =>
    cond ((n1.1.fdiv (2 ^ 4)) != 4)
      (
      some ((ipfour_Head.mk 0 0 false 0 0 (api_Addr.mk false 0 0) (api_Addr.mk false 0 0) [], [], 3)))
      (
      let t := decide ((wI .i64 ((andI .i64 n1.1 15) * 4)) < 20)
      cond (t)
        (
        some ((ipfour_Head.mk 0 0 false 0 0 (api_Addr.mk false 0 0) (api_Addr.mk false 0 0) [], [], 3)))
        (
        let t1 := decide (n3.1 < (wI .i64 ((andI .i64 n1.1 15) * 4)))
        cond (t1)
          (
          some ((ipfour_Head.mk 0 0 false 0 0 (api_Addr.mk false 0 0) (api_Addr.mk false 0 0) [], [], 3)))
          (
          cond (decide (n3.1 > (s.length : Int)))
            (
            some ((ipfour_Head.mk 0 0 false 0 0 (api_Addr.mk false 0 0) (api_Addr.mk false 0 0) [], [], 2)))
            (
            oreq (decide ((0 : Int) ≤ (wI .i64 ((andI .i64 n1.1 15) * 4)) ∧ (wI .i64 ((andI .i64 n1.1 15) * 4)) ≤ (s.length : Int))) <|
            let t2 := s.take (wI .i64 ((andI .i64 n1.1 15) * 4)).toNat
            (check_Right t2).bind fun xr =>
            cond (!xr)
              (
              some ((ipfour_Head.mk 0 0 false 0 0 (api_Addr.mk false 0 0) (api_Addr.mk false 0 0) [], [], 4)))
              (
              (octet_Reader_Num n3.2 2).bind fun n4 =>
              (octet_Reader_Num n4.2 2).bind fun n5 =>
              cond ((andnI .i64 n5.1 16384) != 0)
                (
                some ((ipfour_Head.mk 0 0 false 0 0 (api_Addr.mk false 0 0) (api_Addr.mk false 0 0) [], [], 7)))
                (
                (octet_Reader_Num n5.2 1).bind fun n6 =>
                (octet_Reader_Num n6.2 1).bind fun n7 =>
                (octet_Reader_Num n7.2 2).bind fun n8 =>
                (ipfour_fields_address (ipfour_fields.mk n8.2)).bind fun a =>
                (ipfour_fields_address (ipfour_fields.mk a.2)).bind fun a1 =>
                let t3 := wI .i64 ((wI .i64 ((andI .i64 n1.1 15) * 4)) - 20)
                (octet_Reader_Text a1.2 t3).bind fun t4 =>
                let t5 := wI .i64 (n3.1 - (wI .i64 ((andI .i64 n1.1 15) * 4)))
                (octet_Reader_Text t4.2 t5).bind fun t6 =>
                some ((ipfour_Head.mk n2.1 n4.1 (n5.1 != 0) n6.1 n7.1 a.1 a1.1 t4.1, t6.1, 0)))))))))
def rx99 (x : ipfour_Head × (List UInt8) × Int) : SRes := ⟨.tuple ⟨[.agg ⟨[.int .i64 x.1.Class, .int .i64 x.1.Mark, .bool x.1.Whole, .int .i64 x.1.TTL, .int .i64 x.1.Proto, .bool x.1.Src.V6, .int .u64 x.1.Src.Hi, .int .u64 x.1.Src.Lo, .bool x.1.Dst.V6, .int .u64 x.1.Dst.Hi, .int .u64 x.1.Dst.Lo, .string ⟨⟨x.1.Options⟩⟩]⟩, .string ⟨⟨x.2.1⟩⟩, .int .i64 x.2.2]⟩, [], []⟩
def r99 (g : (List UInt8) → Option (ipfour_Head × (List UInt8) × Int)) : Dec := dV asS fun (y0 : List UInt8) => dEnd (ofG (g y0) rx99)
theorem r99_c {g : (List UInt8) → Option (ipfour_Head × (List UInt8) × Int)} {y0 : List UInt8} {x : ipfour_Head × (List UInt8) × Int} (hx : g y0 = some x) : r99 g [.string ⟨⟨y0⟩⟩] [] = some (rx99 x) := (dV_eq (asS_c)).trans (ofG_eq hx)
def s99 (g : (List UInt8) → Option (ipfour_Head × (List UInt8) × Int)) : Summ := ⟨[.v], r99 g⟩
theorem r99_eq {g : (List UInt8) → Option (ipfour_Head × (List UInt8) × Int)} {y0 : List UInt8} {x : ipfour_Head × (List UInt8) × Int} (hx : g y0 = some x) : (s99 g).run [.string ⟨⟨y0⟩⟩] [] = some (rx99 x) := r99_c hx
abbrev sums99 (check_Right : (List UInt8) → Option Bool) (ipfour_fields_address : ipfour_fields → Option (api_Addr × octet_Reader)) (octet_New : (List UInt8) → Option octet_Reader) (octet_Reader_Num : octet_Reader → Int → Option (Int × octet_Reader)) (octet_Reader_Text : octet_Reader → Int → Option ((List UInt8) × octet_Reader)) : List (Nat × Summ) := [(101, s101 check_Right), (116, s116 ipfour_fields_address), (103, s103 octet_New), (104, s104 octet_Reader_Num), (106, s106 octet_Reader_Text)]
theorem leads99 (check_Right : (List UInt8) → Option Bool) (ipfour_fields_address : ipfour_fields → Option (api_Addr × octet_Reader)) (octet_New : (List UInt8) → Option octet_Reader) (octet_Reader_Num : octet_Reader → Int → Option (Int × octet_Reader)) (octet_Reader_Text : octet_Reader → Int → Option ((List UInt8) × octet_Reader)) (hS : SumsOK Try.prog (aget (sums99 check_Right ipfour_fields_address octet_New octet_Reader_Num octet_Reader_Text))) (s : List UInt8) (res : ipfour_Head × (List UInt8) × Int) (h : ipfour_GetF check_Right ipfour_fields_address octet_New octet_Reader_Num octet_Reader_Text s = some res) :
    Leads Try.prog 99 0 ⟨⟨99, 102, [(0, .string ⟨⟨s⟩⟩)], [.code k99_54], [], false, none⟩, [], [], 0⟩ (fun v H _ => Res 0 (rx99 res) v H) := by
  unfold ipfour_GetF at h
  refine ev_ok tab_ok hS true 3000 ?_
  conv => whnf
  refine br.h h ?_ ?_ ?_
  · rfl
  · clear h; intro hb h; conv => whnf
    all_goals (cases h; exact Res.z rfl rfl rfl)
  clear h; intro hb h; conv => whnf
  replace h := obind.elim h; obtain ⟨n, hy, h⟩ := h
  refine sumK.introF [1] (sumRun_of (aqs := [.string ⟨⟨s⟩⟩]) (ws := []) (n := 1) (m := 0) (t' := 2) (ra_cons rfl rfl ra_nil) rfl (by rfl) (r103_eq hy) rfl rfl rfl rfl wb_nil (an_cons (rfl) an_nil) rfl) ?_
  conv => whnf
  replace h := obind.elim h; obtain ⟨n1, hy, h⟩ := h
  refine sumK.introF [1] (sumRun_of (aqs := [.pointer (some ⟨0, 0, none⟩), .int .i64 1]) (ws := [.win 1 0 3 true]) (n := 0) (m := 0) (t' := 3) (ra_cons rfl rfl (ra_cons rfl rfl ra_nil)) rfl (by rfl) (r104_eq hy) rfl rfl rfl rfl (wb_win rfl rfl rfl ⟨rfl, Nat.le_of_ble_eq_true rfl⟩ rfl rfl wb_nil) an_nil rfl) ?_
  conv => whnf
  replace h := obind.elim h; obtain ⟨n2, hy, h⟩ := h
  refine sumK.introF [1] (sumRun_of (aqs := [.pointer (some ⟨0, 0, none⟩), .int .i64 1]) (ws := [.win 1 0 3 true]) (n := 0) (m := 0) (t' := 3) (ra_cons rfl rfl (ra_cons rfl rfl ra_nil)) rfl (by rfl) (r104_eq hy) rfl rfl rfl rfl (wb_win rfl rfl rfl ⟨rfl, Nat.le_of_ble_eq_true rfl⟩ rfl rfl wb_nil) an_nil rfl) ?_
  conv => whnf
  replace h := obind.elim h; obtain ⟨n3, hy, h⟩ := h
  refine sumK.introF [1] (sumRun_of (aqs := [.pointer (some ⟨0, 0, none⟩), .int .i64 2]) (ws := [.win 1 0 3 true]) (n := 0) (m := 0) (t' := 4) (ra_cons rfl rfl (ra_cons rfl rfl ra_nil)) rfl (by rfl) (r104_eq hy) rfl rfl rfl rfl (wb_win rfl rfl rfl ⟨rfl, Nat.le_of_ble_eq_true rfl⟩ rfl rfl wb_nil) an_nil rfl) ?_
  conv => whnf
  refine br.h h ?_ ?_ ?_
  · rfl
  · clear h; intro hb h; conv => whnf
    all_goals (cases h; exact Res.z rfl rfl rfl)
  clear h; intro hb h; conv => whnf
  let t : Bool := decide ((wI .i64 ((andI .i64 n1.1 15) * 4)) < 20)
  refine br.h h ?_ ?_ ?_
  · rfl
  · clear h; intro hb h; conv => whnf
    all_goals (cases h; exact Res.z rfl rfl rfl)
  clear h; intro hb h; conv => whnf
  let t1 : Bool := decide (n3.1 < (wI .i64 ((andI .i64 n1.1 15) * 4)))
  refine br.h h ?_ ?_ ?_
  · rfl
  · clear h; intro hb h; conv => whnf
    all_goals (cases h; exact Res.z rfl rfl rfl)
  clear h; intro hb h; conv => whnf
  refine br.h h ?_ ?_ ?_
  · rfl
  · clear h; intro hb h; conv => whnf
    all_goals (cases h; exact Res.z rfl rfl rfl)
  clear h; intro hb h; conv => whnf
  replace h := oreq.elim h; obtain ⟨hb, h⟩ := h
  first | (refine req.intro hb ?_; conv => whnf) | skip
  let t2 : List UInt8 := s.take (wI .i64 ((andI .i64 n1.1 15) * 4)).toNat
  replace h := obind.elim h; obtain ⟨xr, hy, h⟩ := h
  refine sumK.q rfl rfl (r101_eq hy) rfl rfl rfl ?_
  conv => whnf
  refine br.h h ?_ ?_ ?_
  · rfl
  · clear h; intro hb h; conv => whnf
    all_goals (cases h; exact Res.z rfl rfl rfl)
  clear h; intro hb h; conv => whnf
  replace h := obind.elim h; obtain ⟨n4, hy, h⟩ := h
  refine sumK.introF [1] (sumRun_of (aqs := [.pointer (some ⟨0, 0, none⟩), .int .i64 2]) (ws := [.win 1 0 3 true]) (n := 0) (m := 0) (t' := 4) (ra_cons rfl rfl (ra_cons rfl rfl ra_nil)) rfl (by rfl) (r104_eq hy) rfl rfl rfl rfl (wb_win rfl rfl rfl ⟨rfl, Nat.le_of_ble_eq_true rfl⟩ rfl rfl wb_nil) an_nil rfl) ?_
  conv => whnf
  replace h := obind.elim h; obtain ⟨n5, hy, h⟩ := h
  refine sumK.introF [1] (sumRun_of (aqs := [.pointer (some ⟨0, 0, none⟩), .int .i64 2]) (ws := [.win 1 0 3 true]) (n := 0) (m := 0) (t' := 4) (ra_cons rfl rfl (ra_cons rfl rfl ra_nil)) rfl (by rfl) (r104_eq hy) rfl rfl rfl rfl (wb_win rfl rfl rfl ⟨rfl, Nat.le_of_ble_eq_true rfl⟩ rfl rfl wb_nil) an_nil rfl) ?_
  conv => whnf
  refine br.h h ?_ ?_ ?_
  · rfl
  · clear h; intro hb h; conv => whnf
    all_goals (cases h; exact Res.z rfl rfl rfl)
  clear h; intro hb h; conv => whnf
  replace h := obind.elim h; obtain ⟨n6, hy, h⟩ := h
  refine sumK.introF [1] (sumRun_of (aqs := [.pointer (some ⟨0, 0, none⟩), .int .i64 1]) (ws := [.win 1 0 3 true]) (n := 0) (m := 0) (t' := 6) (ra_cons rfl rfl (ra_cons rfl rfl ra_nil)) rfl (by rfl) (r104_eq hy) rfl rfl rfl rfl (wb_win rfl rfl rfl ⟨rfl, Nat.le_of_ble_eq_true rfl⟩ rfl rfl wb_nil) an_nil rfl) ?_
  conv => whnf
  replace h := obind.elim h; obtain ⟨n7, hy, h⟩ := h
  refine sumK.introF [1] (sumRun_of (aqs := [.pointer (some ⟨0, 0, none⟩), .int .i64 1]) (ws := [.win 1 0 3 true]) (n := 0) (m := 0) (t' := 9) (ra_cons rfl rfl (ra_cons rfl rfl ra_nil)) rfl (by rfl) (r104_eq hy) rfl rfl rfl rfl (wb_win rfl rfl rfl ⟨rfl, Nat.le_of_ble_eq_true rfl⟩ rfl rfl wb_nil) an_nil rfl) ?_
  conv => whnf
  replace h := obind.elim h; obtain ⟨n8, hy, h⟩ := h
  refine sumK.introF [1] (sumRun_of (aqs := [.pointer (some ⟨0, 0, none⟩), .int .i64 2]) (ws := [.win 1 0 3 true]) (n := 0) (m := 0) (t' := 11) (ra_cons rfl rfl (ra_cons rfl rfl ra_nil)) rfl (by rfl) (r104_eq hy) rfl rfl rfl rfl (wb_win rfl rfl rfl ⟨rfl, Nat.le_of_ble_eq_true rfl⟩ rfl rfl wb_nil) an_nil rfl) ?_
  conv => whnf
  replace h := obind.elim h; obtain ⟨a, hy, h⟩ := h
  refine sumK.introF [1] (sumRun_of (aqs := [.agg ⟨[.pointer (some ⟨0, 0, none⟩)]⟩]) (ws := [.blk 1 true]) (n := 0) (m := 0) (t' := 12) (ra_cons (ra_tr rfl rfl (vp_at rfl rfl rfl rfl vp_nil) rfl) rfl ra_nil) rfl (by rfl) (r116_eq hy) rfl rfl rfl rfl (wb_blk rfl rfl rfl rfl wb_nil) an_nil rfl) ?_
  conv => whnf
  replace h := obind.elim h; obtain ⟨a1, hy, h⟩ := h
  refine sumK.introF [1] (sumRun_of (aqs := [.agg ⟨[.pointer (some ⟨0, 0, none⟩)]⟩]) (ws := [.blk 1 true]) (n := 0) (m := 0) (t' := 14) (ra_cons (ra_tr rfl rfl (vp_at rfl rfl rfl rfl vp_nil) rfl) rfl ra_nil) rfl (by rfl) (r116_eq hy) rfl rfl rfl rfl (wb_blk rfl rfl rfl rfl wb_nil) an_nil rfl) ?_
  conv => whnf
  let t3 : Int := wI .i64 ((wI .i64 ((andI .i64 n1.1 15) * 4)) - 20)
  replace h := obind.elim h; obtain ⟨t4, hy, h⟩ := h
  refine sumK.introF [1] (sumRun_of (aqs := [.pointer (some ⟨0, 0, none⟩), .int .i64 t3]) (ws := [.win 1 0 3 true]) (n := 0) (m := 0) (t' := 16) (ra_cons rfl rfl (ra_cons rfl rfl ra_nil)) rfl (by rfl) (r106_eq hy) rfl rfl rfl rfl (wb_win rfl rfl rfl ⟨rfl, Nat.le_of_ble_eq_true rfl⟩ rfl rfl wb_nil) an_nil rfl) ?_
  conv => whnf
  let t5 : Int := wI .i64 (n3.1 - (wI .i64 ((andI .i64 n1.1 15) * 4)))
  replace h := obind.elim h; obtain ⟨t6, hy, h⟩ := h
  refine sumK.introF [1] (sumRun_of (aqs := [.pointer (some ⟨0, 0, none⟩), .int .i64 t5]) (ws := [.win 1 0 3 true]) (n := 0) (m := 0) (t' := 22) (ra_cons rfl rfl (ra_cons rfl rfl ra_nil)) rfl (by rfl) (r106_eq hy) rfl rfl rfl rfl (wb_win rfl rfl rfl ⟨rfl, Nat.le_of_ble_eq_true rfl⟩ rfl rfl wb_nil) an_nil rfl) ?_
  conv => whnf
  all_goals (cases h; exact Res.z rfl rfl rfl)
theorem ok99 (check_Right : (List UInt8) → Option Bool) (ipfour_fields_address : ipfour_fields → Option (api_Addr × octet_Reader)) (octet_New : (List UInt8) → Option octet_Reader) (octet_Reader_Num : octet_Reader → Int → Option (Int × octet_Reader)) (octet_Reader_Text : octet_Reader → Int → Option ((List UInt8) × octet_Reader)) (hS : SumsOK Try.prog (aget (sums99 check_Right ipfour_fields_address octet_New octet_Reader_Num octet_Reader_Text))) : SumOK Try.prog 99 (s99 (ipfour_GetF check_Right ipfour_fields_address octet_New octet_Reader_Num octet_Reader_Text)) := by
  refine SumOK.of_leads tab_ok (fun ar os r ha hr => ?_) ⟨Try.f99, rfl, by decide, rfl⟩
  replace hr : r99 (ipfour_GetF check_Right ipfour_fields_address octet_New octet_Reader_Num octet_Reader_Text) ar (conts os) = some r := hr
  unfold r99 at hr
  generalize hc : conts os = C at hr
  replace hr := dV.elim hr; obtain ⟨v0, l1, y0, rfl, e0, hr⟩ := hr; obtain rfl := asS_eq _ _ e0
  replace hr := dFin hr; obtain ⟨rfl, rfl, x, h, rfl⟩ := hr
  obtain rfl := kinds_nil hc
  exact ⟨_, rfl, leads99 check_Right ipfour_fields_address octet_New octet_Reader_Num octet_Reader_Text hS _ x h⟩
def ipfour_Get : (List UInt8) → Option (ipfour_Head × (List UInt8) × Int) := ipfour_GetF check_Right ipfour_fields_address octet_New octet_Reader_Num octet_Reader_Text
theorem lift99 : SumOK Try.prog 99 (s99 ipfour_Get) := ok99 check_Right ipfour_fields_address octet_New octet_Reader_Num octet_Reader_Text (SumsOK.of_tab ⟨lift101, lift116, lift103, lift104, lift106, trivial⟩)
def ipsix_GetF (addr_Get : (List UInt8) → Option (api_Addr × Bool)) (octet_New : (List UInt8) → Option octet_Reader) (octet_Reader_Bad : octet_Reader → Option (Bool × octet_Reader)) (octet_Reader_Num : octet_Reader → Int → Option (Int × octet_Reader)) (octet_Reader_Text : octet_Reader → Int → Option ((List UInt8) × octet_Reader)) (s : List UInt8) : Option (ipsix_Head × (List UInt8) × Int) :=
  (octet_New s).bind fun n =>
  (octet_Reader_Num n 4).bind fun n1 =>
  (octet_Reader_Num n1.2 2).bind fun n2 =>
  (octet_Reader_Num n2.2 1).bind fun n3 =>
  (octet_Reader_Num n3.2 1).bind fun n4 =>
  (octet_Reader_Text n4.2 16).bind fun t =>
  (octet_Reader_Text t.2 16).bind fun t1 =>
  (octet_Reader_Bad t1.2).bind fun b =>
  cond (b.1)
    (
    some ((ipsix_Head.mk 0 0 0 0 (api_Addr.mk false 0 0) (api_Addr.mk false 0 0), [], 2)))
    (
    cond ((n1.1.fdiv (2 ^ 28)) != 6)
      (
      some ((ipsix_Head.mk 0 0 0 0 (api_Addr.mk false 0 0) (api_Addr.mk false 0 0), [], 3)))
      (
      (addr_Get t.1).bind fun xg =>
      (addr_Get t1.1).bind fun xg1 =>
      (octet_Reader_Text b.2 n2.1).bind fun t2 =>
      (octet_Reader_Bad t2.2).bind fun b1 =>
      cond (b1.1)
        (
        some ((ipsix_Head.mk 0 0 0 0 (api_Addr.mk false 0 0) (api_Addr.mk false 0 0), [], 2)))
        (
        some ((ipsix_Head.mk (andI .i64 (n1.1.fdiv (2 ^ 20)) 255) (andI .i64 n1.1 1048575) n3.1 n4.1 xg.1 xg1.1, t2.1, 0)))))
def rx100 (x : ipsix_Head × (List UInt8) × Int) : SRes := ⟨.tuple ⟨[.agg ⟨[.int .i64 x.1.Class, .int .i64 x.1.Label, .int .i64 x.1.Next, .int .i64 x.1.Hop, .bool x.1.Src.V6, .int .u64 x.1.Src.Hi, .int .u64 x.1.Src.Lo, .bool x.1.Dst.V6, .int .u64 x.1.Dst.Hi, .int .u64 x.1.Dst.Lo]⟩, .string ⟨⟨x.2.1⟩⟩, .int .i64 x.2.2]⟩, [], []⟩
def r100 (g : (List UInt8) → Option (ipsix_Head × (List UInt8) × Int)) : Dec := dV asS fun (y0 : List UInt8) => dEnd (ofG (g y0) rx100)
theorem r100_c {g : (List UInt8) → Option (ipsix_Head × (List UInt8) × Int)} {y0 : List UInt8} {x : ipsix_Head × (List UInt8) × Int} (hx : g y0 = some x) : r100 g [.string ⟨⟨y0⟩⟩] [] = some (rx100 x) := (dV_eq (asS_c)).trans (ofG_eq hx)
def s100 (g : (List UInt8) → Option (ipsix_Head × (List UInt8) × Int)) : Summ := ⟨[.v], r100 g⟩
theorem r100_eq {g : (List UInt8) → Option (ipsix_Head × (List UInt8) × Int)} {y0 : List UInt8} {x : ipsix_Head × (List UInt8) × Int} (hx : g y0 = some x) : (s100 g).run [.string ⟨⟨y0⟩⟩] [] = some (rx100 x) := r100_c hx
abbrev sums100 (addr_Get : (List UInt8) → Option (api_Addr × Bool)) (octet_New : (List UInt8) → Option octet_Reader) (octet_Reader_Bad : octet_Reader → Option (Bool × octet_Reader)) (octet_Reader_Num : octet_Reader → Int → Option (Int × octet_Reader)) (octet_Reader_Text : octet_Reader → Int → Option ((List UInt8) × octet_Reader)) : List (Nat × Summ) := [(117, s117 addr_Get), (103, s103 octet_New), (105, s105 octet_Reader_Bad), (104, s104 octet_Reader_Num), (106, s106 octet_Reader_Text)]
theorem leads100 (addr_Get : (List UInt8) → Option (api_Addr × Bool)) (octet_New : (List UInt8) → Option octet_Reader) (octet_Reader_Bad : octet_Reader → Option (Bool × octet_Reader)) (octet_Reader_Num : octet_Reader → Int → Option (Int × octet_Reader)) (octet_Reader_Text : octet_Reader → Int → Option ((List UInt8) × octet_Reader)) (hS : SumsOK Try.prog (aget (sums100 addr_Get octet_New octet_Reader_Bad octet_Reader_Num octet_Reader_Text))) (s : List UInt8) (res : ipsix_Head × (List UInt8) × Int) (h : ipsix_GetF addr_Get octet_New octet_Reader_Bad octet_Reader_Num octet_Reader_Text s = some res) :
    Leads Try.prog 100 0 ⟨⟨100, 59, [(0, .string ⟨⟨s⟩⟩)], [.code k100_35], [], false, none⟩, [], [], 0⟩ (fun v H _ => Res 0 (rx100 res) v H) := by
  unfold ipsix_GetF at h
  refine ev_ok tab_ok hS true 3000 ?_
  conv => whnf
  replace h := obind.elim h; obtain ⟨n, hy, h⟩ := h
  refine sumK.introF [1] (sumRun_of (aqs := [.string ⟨⟨s⟩⟩]) (ws := []) (n := 1) (m := 0) (t' := 2) (ra_cons rfl rfl ra_nil) rfl (by rfl) (r103_eq hy) rfl rfl rfl rfl wb_nil (an_cons (rfl) an_nil) rfl) ?_
  conv => whnf
  replace h := obind.elim h; obtain ⟨n1, hy, h⟩ := h
  refine sumK.introF [1] (sumRun_of (aqs := [.pointer (some ⟨0, 0, none⟩), .int .i64 4]) (ws := [.win 1 0 3 true]) (n := 0) (m := 0) (t' := 2) (ra_cons rfl rfl (ra_cons rfl rfl ra_nil)) rfl (by rfl) (r104_eq hy) rfl rfl rfl rfl (wb_win rfl rfl rfl ⟨rfl, Nat.le_of_ble_eq_true rfl⟩ rfl rfl wb_nil) an_nil rfl) ?_
  conv => whnf
  replace h := obind.elim h; obtain ⟨n2, hy, h⟩ := h
  refine sumK.introF [1] (sumRun_of (aqs := [.pointer (some ⟨0, 0, none⟩), .int .i64 2]) (ws := [.win 1 0 3 true]) (n := 0) (m := 0) (t' := 2) (ra_cons rfl rfl (ra_cons rfl rfl ra_nil)) rfl (by rfl) (r104_eq hy) rfl rfl rfl rfl (wb_win rfl rfl rfl ⟨rfl, Nat.le_of_ble_eq_true rfl⟩ rfl rfl wb_nil) an_nil rfl) ?_
  conv => whnf
  replace h := obind.elim h; obtain ⟨n3, hy, h⟩ := h
  refine sumK.introF [1] (sumRun_of (aqs := [.pointer (some ⟨0, 0, none⟩), .int .i64 1]) (ws := [.win 1 0 3 true]) (n := 0) (m := 0) (t' := 2) (ra_cons rfl rfl (ra_cons rfl rfl ra_nil)) rfl (by rfl) (r104_eq hy) rfl rfl rfl rfl (wb_win rfl rfl rfl ⟨rfl, Nat.le_of_ble_eq_true rfl⟩ rfl rfl wb_nil) an_nil rfl) ?_
  conv => whnf
  replace h := obind.elim h; obtain ⟨n4, hy, h⟩ := h
  refine sumK.introF [1] (sumRun_of (aqs := [.pointer (some ⟨0, 0, none⟩), .int .i64 1]) (ws := [.win 1 0 3 true]) (n := 0) (m := 0) (t' := 2) (ra_cons rfl rfl (ra_cons rfl rfl ra_nil)) rfl (by rfl) (r104_eq hy) rfl rfl rfl rfl (wb_win rfl rfl rfl ⟨rfl, Nat.le_of_ble_eq_true rfl⟩ rfl rfl wb_nil) an_nil rfl) ?_
  conv => whnf
  replace h := obind.elim h; obtain ⟨t, hy, h⟩ := h
  refine sumK.introF [1] (sumRun_of (aqs := [.pointer (some ⟨0, 0, none⟩), .int .i64 16]) (ws := [.win 1 0 3 true]) (n := 0) (m := 0) (t' := 3) (ra_cons rfl rfl (ra_cons rfl rfl ra_nil)) rfl (by rfl) (r106_eq hy) rfl rfl rfl rfl (wb_win rfl rfl rfl ⟨rfl, Nat.le_of_ble_eq_true rfl⟩ rfl rfl wb_nil) an_nil rfl) ?_
  conv => whnf
  replace h := obind.elim h; obtain ⟨t1, hy, h⟩ := h
  refine sumK.introF [1] (sumRun_of (aqs := [.pointer (some ⟨0, 0, none⟩), .int .i64 16]) (ws := [.win 1 0 3 true]) (n := 0) (m := 0) (t' := 3) (ra_cons rfl rfl (ra_cons rfl rfl ra_nil)) rfl (by rfl) (r106_eq hy) rfl rfl rfl rfl (wb_win rfl rfl rfl ⟨rfl, Nat.le_of_ble_eq_true rfl⟩ rfl rfl wb_nil) an_nil rfl) ?_
  conv => whnf
  replace h := obind.elim h; obtain ⟨b, hy, h⟩ := h
  refine sumK.introF [1] (sumRun_of (aqs := [.pointer (some ⟨0, 0, none⟩)]) (ws := [.win 1 0 3 true]) (n := 0) (m := 0) (t' := 3) (ra_cons rfl rfl ra_nil) rfl (by rfl) (r105_eq hy) rfl rfl rfl rfl (wb_win rfl rfl rfl ⟨rfl, Nat.le_of_ble_eq_true rfl⟩ rfl rfl wb_nil) an_nil rfl) ?_
  conv => whnf
  refine br.h h ?_ ?_ ?_
  · rfl
  · clear h; intro hb h; conv => whnf
    all_goals (cases h; exact Res.z rfl rfl rfl)
  clear h; intro hb h; conv => whnf
  refine br.h h ?_ ?_ ?_
  · rfl
  · clear h; intro hb h; conv => whnf
    all_goals (cases h; exact Res.z rfl rfl rfl)
  clear h; intro hb h; conv => whnf
  replace h := obind.elim h; obtain ⟨xg, hy, h⟩ := h
  refine sumK.q rfl rfl (r117_eq hy) rfl rfl rfl ?_
  conv => whnf
  replace h := obind.elim h; obtain ⟨xg1, hy, h⟩ := h
  refine sumK.q rfl rfl (r117_eq hy) rfl rfl rfl ?_
  conv => whnf
  replace h := obind.elim h; obtain ⟨t2, hy, h⟩ := h
  refine sumK.introF [1] (sumRun_of (aqs := [.pointer (some ⟨0, 0, none⟩), .int .i64 n2.1]) (ws := [.win 1 0 3 true]) (n := 0) (m := 0) (t' := 3) (ra_cons rfl rfl (ra_cons rfl rfl ra_nil)) rfl (by rfl) (r106_eq hy) rfl rfl rfl rfl (wb_win rfl rfl rfl ⟨rfl, Nat.le_of_ble_eq_true rfl⟩ rfl rfl wb_nil) an_nil rfl) ?_
  conv => whnf
  replace h := obind.elim h; obtain ⟨b1, hy, h⟩ := h
  refine sumK.introF [1] (sumRun_of (aqs := [.pointer (some ⟨0, 0, none⟩)]) (ws := [.win 1 0 3 true]) (n := 0) (m := 0) (t' := 3) (ra_cons rfl rfl ra_nil) rfl (by rfl) (r105_eq hy) rfl rfl rfl rfl (wb_win rfl rfl rfl ⟨rfl, Nat.le_of_ble_eq_true rfl⟩ rfl rfl wb_nil) an_nil rfl) ?_
  conv => whnf
  refine br.h h ?_ ?_ ?_
  · rfl
  · clear h; intro hb h; conv => whnf
    all_goals (cases h; exact Res.z rfl rfl rfl)
  clear h; intro hb h; conv => whnf
  all_goals (cases h; exact Res.z rfl rfl rfl)
theorem ok100 (addr_Get : (List UInt8) → Option (api_Addr × Bool)) (octet_New : (List UInt8) → Option octet_Reader) (octet_Reader_Bad : octet_Reader → Option (Bool × octet_Reader)) (octet_Reader_Num : octet_Reader → Int → Option (Int × octet_Reader)) (octet_Reader_Text : octet_Reader → Int → Option ((List UInt8) × octet_Reader)) (hS : SumsOK Try.prog (aget (sums100 addr_Get octet_New octet_Reader_Bad octet_Reader_Num octet_Reader_Text))) : SumOK Try.prog 100 (s100 (ipsix_GetF addr_Get octet_New octet_Reader_Bad octet_Reader_Num octet_Reader_Text)) := by
  refine SumOK.of_leads tab_ok (fun ar os r ha hr => ?_) ⟨Try.f100, rfl, by decide, rfl⟩
  replace hr : r100 (ipsix_GetF addr_Get octet_New octet_Reader_Bad octet_Reader_Num octet_Reader_Text) ar (conts os) = some r := hr
  unfold r100 at hr
  generalize hc : conts os = C at hr
  replace hr := dV.elim hr; obtain ⟨v0, l1, y0, rfl, e0, hr⟩ := hr; obtain rfl := asS_eq _ _ e0
  replace hr := dFin hr; obtain ⟨rfl, rfl, x, h, rfl⟩ := hr
  obtain rfl := kinds_nil hc
  exact ⟨_, rfl, leads100 addr_Get octet_New octet_Reader_Bad octet_Reader_Num octet_Reader_Text hS _ x h⟩
def ipsix_Get : (List UInt8) → Option (ipsix_Head × (List UInt8) × Int) := ipsix_GetF addr_Get octet_New octet_Reader_Bad octet_Reader_Num octet_Reader_Text
theorem lift100 : SumOK Try.prog 100 (s100 ipsix_Get) := ok100 addr_Get octet_New octet_Reader_Bad octet_Reader_Num octet_Reader_Text (SumsOK.of_tab ⟨lift117, lift103, lift105, lift104, lift106, trivial⟩)
def packet_openedF (ipfour_Get : (List UInt8) → Option (ipfour_Head × (List UInt8) × Int)) (ipsix_Get : (List UInt8) → Option (ipsix_Head × (List UInt8) × Int)) (s : List UInt8) : Option (packet_outer × Int) :=
  (s[0]?).bind fun (b : UInt8) =>
  cond (((b.toNat : Int).fdiv (2 ^ 4)) == 4)
    (
    (ipfour_Get s).bind fun xg =>
    cond (xg.2.2 != 0)
      (
      some ((packet_outer.mk (api_Addr.mk false 0 0) (api_Addr.mk false 0 0) 0 [], xg.2.2)))
      (
      let t := wI .i64 (20 + (xg.1.Options.length : Int))
      let t1 := (s.length : Int) != (wI .i64 (t + (xg.2.1.length : Int)))
      cond (t1)
        (
        some ((packet_outer.mk (api_Addr.mk false 0 0) (api_Addr.mk false 0 0) 0 [], 5)))
        (
        some ((packet_outer.mk xg.1.Src xg.1.Dst xg.1.Proto xg.2.1, 0)))))
    (
    cond (((b.toNat : Int).fdiv (2 ^ 4)) == 6)
      (
      (ipsix_Get s).bind fun xg1 =>
      cond (xg1.2.2 != 0)
        (
        some ((packet_outer.mk (api_Addr.mk false 0 0) (api_Addr.mk false 0 0) 0 [], xg1.2.2)))
        (
        let t2 := (s.length : Int) != (wI .i64 (40 + (xg1.2.1.length : Int)))
        cond (t2)
          (
          some ((packet_outer.mk (api_Addr.mk false 0 0) (api_Addr.mk false 0 0) 0 [], 5)))
          (
          some ((packet_outer.mk xg1.1.Src xg1.1.Dst xg1.1.Next xg1.2.1, 0)))))
      (
      some ((packet_outer.mk (api_Addr.mk false 0 0) (api_Addr.mk false 0 0) 0 [], 3))))
def rx53 (x : packet_outer × Int) : SRes := ⟨.tuple ⟨[.agg ⟨[.bool x.1.src.V6, .int .u64 x.1.src.Hi, .int .u64 x.1.src.Lo, .bool x.1.dst.V6, .int .u64 x.1.dst.Hi, .int .u64 x.1.dst.Lo, .int .i64 x.1.proto, .string ⟨⟨x.1.body⟩⟩]⟩, .int .i64 x.2]⟩, [], []⟩
def r53 (g : (List UInt8) → Option (packet_outer × Int)) : Dec := dV asS fun (y0 : List UInt8) => dEnd (ofG (g y0) rx53)
theorem r53_c {g : (List UInt8) → Option (packet_outer × Int)} {y0 : List UInt8} {x : packet_outer × Int} (hx : g y0 = some x) : r53 g [.string ⟨⟨y0⟩⟩] [] = some (rx53 x) := (dV_eq (asS_c)).trans (ofG_eq hx)
def s53 (g : (List UInt8) → Option (packet_outer × Int)) : Summ := ⟨[.v], r53 g⟩
theorem r53_eq {g : (List UInt8) → Option (packet_outer × Int)} {y0 : List UInt8} {x : packet_outer × Int} (hx : g y0 = some x) : (s53 g).run [.string ⟨⟨y0⟩⟩] [] = some (rx53 x) := r53_c hx
abbrev sums53 (ipfour_Get : (List UInt8) → Option (ipfour_Head × (List UInt8) × Int)) (ipsix_Get : (List UInt8) → Option (ipsix_Head × (List UInt8) × Int)) : List (Nat × Summ) := [(99, s99 ipfour_Get), (100, s100 ipsix_Get)]
theorem leads53 (ipfour_Get : (List UInt8) → Option (ipfour_Head × (List UInt8) × Int)) (ipsix_Get : (List UInt8) → Option (ipsix_Head × (List UInt8) × Int)) (hS : SumsOK Try.prog (aget (sums53 ipfour_Get ipsix_Get))) (s : List UInt8) (res : packet_outer × Int) (h : packet_openedF ipfour_Get ipsix_Get s = some res) :
    Leads Try.prog 53 0 ⟨⟨53, 61, [(0, .string ⟨⟨s⟩⟩)], [.code k53_41], [], false, none⟩, [], [], 0⟩ (fun v H _ => Res 0 (rx53 res) v H) := by
  unfold packet_openedF at h
  refine ev_ok tab_ok hS true 3000 ?_
  conv => whnf
  replace h := obind.elim h; obtain ⟨b, hy, h⟩ := h
  refine rdS.intro hy ?_
  conv => whnf
  refine br.h h ?_ ?_ ?_
  · rfl
  · clear h; intro hb h; conv => whnf
    replace h := obind.elim h; obtain ⟨xg, hy, h⟩ := h
    refine sumK.q rfl rfl (r99_eq hy) rfl rfl rfl ?_
    conv => whnf
    refine br.h h ?_ ?_ ?_
    · rfl
    · clear h; intro hb h; conv => whnf
      all_goals (cases h; exact Res.z rfl rfl rfl)
    clear h; intro hb h; conv => whnf
    let t : Int := wI .i64 (20 + (xg.1.Options.length : Int))
    let t1 : Bool := (s.length : Int) != (wI .i64 (t + (xg.2.1.length : Int)))
    refine br.h h ?_ ?_ ?_
    · rfl
    · clear h; intro hb h; conv => whnf
      all_goals (cases h; exact Res.z rfl rfl rfl)
    clear h; intro hb h; conv => whnf
    all_goals (cases h; exact Res.z rfl rfl rfl)
  clear h; intro hb h; conv => whnf
  refine br.h2 h ?_ ?_ ?_
  · rfl
  · clear h; intro hb h; conv => whnf
    all_goals (cases h; exact Res.z rfl rfl rfl)
  clear h; intro hb h; conv => whnf
  replace h := obind.elim h; obtain ⟨xg1, hy, h⟩ := h
  refine sumK.q rfl rfl (r100_eq hy) rfl rfl rfl ?_
  conv => whnf
  refine br.h h ?_ ?_ ?_
  · rfl
  · clear h; intro hb h; conv => whnf
    all_goals (cases h; exact Res.z rfl rfl rfl)
  clear h; intro hb h; conv => whnf
  let t2 : Bool := (s.length : Int) != (wI .i64 (40 + (xg1.2.1.length : Int)))
  refine br.h h ?_ ?_ ?_
  · rfl
  · clear h; intro hb h; conv => whnf
    all_goals (cases h; exact Res.z rfl rfl rfl)
  clear h; intro hb h; conv => whnf
  all_goals (cases h; exact Res.z rfl rfl rfl)
theorem ok53 (ipfour_Get : (List UInt8) → Option (ipfour_Head × (List UInt8) × Int)) (ipsix_Get : (List UInt8) → Option (ipsix_Head × (List UInt8) × Int)) (hS : SumsOK Try.prog (aget (sums53 ipfour_Get ipsix_Get))) : SumOK Try.prog 53 (s53 (packet_openedF ipfour_Get ipsix_Get)) := by
  refine SumOK.of_leads tab_ok (fun ar os r ha hr => ?_) ⟨Try.f53, rfl, by decide, rfl⟩
  replace hr : r53 (packet_openedF ipfour_Get ipsix_Get) ar (conts os) = some r := hr
  unfold r53 at hr
  generalize hc : conts os = C at hr
  replace hr := dV.elim hr; obtain ⟨v0, l1, y0, rfl, e0, hr⟩ := hr; obtain rfl := asS_eq _ _ e0
  replace hr := dFin hr; obtain ⟨rfl, rfl, x, h, rfl⟩ := hr
  obtain rfl := kinds_nil hc
  exact ⟨_, rfl, leads53 ipfour_Get ipsix_Get hS _ x h⟩
def packet_opened : (List UInt8) → Option (packet_outer × Int) := packet_openedF ipfour_Get ipsix_Get
theorem lift53 : SumOK Try.prog 53 (s53 packet_opened) := ok53 ipfour_Get ipsix_Get (SumsOK.of_tab ⟨lift99, lift100, trivial⟩)
def tcp_List_s1 (text : List UInt8) (i : Int) (c : List tcp_Opt) : Option (Sum (Int × (List tcp_Opt)) ((List tcp_Opt) × Int)) :=
  cond (decide (i < (text.length : Int)))
    (
    oreq (decide (0 ≤ i)) <|
    (text[i.toNat]?).bind fun (b : UInt8) =>
    cond ((b.toNat : Int) == 0)
      (
      some (.inr ((c, 0))))
      (
      cond ((b.toNat : Int) == 1)
        (
        some (.inl (wI .i64 (i + 1), c)))
        (
        let t := decide ((wI .i64 (i + 1)) < (text.length : Int))
        cond (t)
          (
          oreq (decide (0 ≤ (wI .i64 (i + 1)))) <|
          (text[(wI .i64 (i + 1)).toNat]?).bind fun (b1 : UInt8) =>
          cond (decide ((wI .i64 (b1.toNat : Int)) < 2))
            (
            some (.inr (([], 3))))
            (
            let t1 := decide ((wI .i64 (b1.toNat : Int)) > (wI .i64 ((text.length : Int) - i)))
            cond (t1)
              (
              some (.inr (([], 3))))
              (
              oreq (decide (0 ≤ i)) <|
              (text[i.toNat]?).bind fun (b2 : UInt8) =>
              oreq (decide ((0 : Int) ≤ (wI .i64 (i + (wI .i64 (b1.toNat : Int)))) ∧ (wI .i64 (i + (wI .i64 (b1.toNat : Int)))) ≤ (text.length : Int) ∧ (0 : Int) ≤ (wI .i64 (i + 2)) ∧ (wI .i64 (i + 2)) ≤ ((wI .i64 (i + (wI .i64 (b1.toNat : Int)))).toNat : Int))) <|
              let t2 := (text.drop (wI .i64 (i + 2)).toNat).take ((wI .i64 (i + (wI .i64 (b1.toNat : Int)))).toNat - (wI .i64 (i + 2)).toNat)
              cond (decide ((wI .i64 (i + 2)) < 0))
                (
                some (.inr (([], 3))))
                (
                oreq (decide ((c.length + 1) * 24 ≤ 2 ^ 47)) <|
                let row := c ++ [tcp_Opt.mk (wI .i64 (b2.toNat : Int)) t2]
                some (.inl (wI .i64 (i + (wI .i64 (b1.toNat : Int))), row))))))
          (
          some (.inr (([], 3)))))))
    (
    some (.inr ((c, 0))))
def tcp_ListF (text : List UInt8) : Option ((List tcp_Opt) × Int) :=
  iter (fun st => tcp_List_s1 text st.1 st.2) FUEL (0, [])
def rx91 (x : (List tcp_Opt) × Int) : SRes := ⟨.tuple ⟨[.slice (some ⟨0, 0, none⟩) x.1.length 2, .int .i64 x.2]⟩, [(vT ctcp_Opt x.1)], []⟩
def r91 (g : (List UInt8) → Option ((List tcp_Opt) × Int)) : Dec := dV asS fun (y0 : List UInt8) => dEnd (ofG (g y0) rx91)
theorem r91_c {g : (List UInt8) → Option ((List tcp_Opt) × Int)} {y0 : List UInt8} {x : (List tcp_Opt) × Int} (hx : g y0 = some x) : r91 g [.string ⟨⟨y0⟩⟩] [] = some (rx91 x) := (dV_eq (asS_c)).trans (ofG_eq hx)
def s91 (g : (List UInt8) → Option ((List tcp_Opt) × Int)) : Summ := ⟨[.v], r91 g⟩
theorem r91_eq {g : (List UInt8) → Option ((List tcp_Opt) × Int)} {y0 : List UInt8} {x : (List tcp_Opt) × Int} (hx : g y0 = some x) : (s91 g).run [.string ⟨⟨y0⟩⟩] [] = some (rx91 x) := r91_c hx
abbrev sums91 : List (Nat × Summ) := []
def head91_1 (text : List UInt8) (i : Int) (c : List tcp_Opt) : VM :=
  ⟨⟨114, 62, [(0, .func (.yield 5) #[] #[]), (1, .pointer (some ⟨3, 0, none⟩)), (3, .int .i64 i)], [.code k114_35, .inLoop k114_35, .inBlock 0], [], false, none⟩, [⟨91, 18, [(2, .pointer (some ⟨0, 0, none⟩)), (3, .pointer (some ⟨1, 0, none⟩)), (4, .pointer (some ⟨2, 0, none⟩))], [.inRangeFunc 5, .inBlock 0, .code k91_16], [4], false, none⟩], [(0, .cells [.slice none 0 0]), (1, .cells [.int .i64 0]), (2, .cells [.slice (some ⟨6, 0, none⟩) c.length 2]), (3, .cells [.string ⟨⟨text⟩⟩]), (4, .marks), (5, .loop ⟨.ready, none, 91, 18, [(2, .pointer (some ⟨0, 0, none⟩)), (3, .pointer (some ⟨1, 0, none⟩)), (4, .pointer (some ⟨2, 0, none⟩))], [8], k91_3, k91_11, 4⟩), (6, .row true (vT ctcp_Opt c))], 7⟩
theorem loop91_1 (hS : SumsOK Try.prog (aget (sums91))) (text : List UInt8) (res : (List tcp_Opt) × Int) : ∀ fuel (st : Int × (List tcp_Opt)) (o : (List tcp_Opt) × Int), iter (fun st => tcp_List_s1 text st.1 st.2) fuel st = some o → (o = res) →
    Leads Try.prog 91 0 (head91_1 text st.1 st.2) (fun v H t => ∃ v' H' t', NilW v H t v' H' t' ∧ Res 0 (rx91 res) v' H') := by
  intro fuel st o h hc
  refine iter_leads (head := fun st => head91_1 text st.1 st.2) (C := fun o => (o = res)) ?_ fuel st o h hc
  clear h hc o st fuel
  intro st o h hc
  obtain ⟨i, c⟩ := st
  replace h : tcp_List_s1 text i c = some o := h
  show Leads Try.prog 91 0 (head91_1 text i c) (fun v H t => ∃ v' H' t', NilW v H t v' H' t' ∧ Res 0 (rx91 res) v' H')
  unfold tcp_List_s1 at h
  refine ev_ok tab_ok hS true 3000 ?_
  conv => whnf
  refine br.h2 h ?_ ?_ ?_
  · rfl
  · clear h; intro hb h; conv => whnf
    all_goals (cases h; cases hc)
    all_goals exact ⟨_, _, _, (.refl _ _ _), Res.of [6] rfl (nw_s (rn_T ctcp_Opt_flat) (hs_row rfl) nw_0) (by decide) (js_l (by decide) js_0) wr_0⟩
  clear h; intro hb h; conv => whnf
  replace h := oreq.elim h; obtain ⟨hb, h⟩ := h
  first | (refine req.intro hb ?_; conv => whnf) | skip
  replace h := obind.elim h; obtain ⟨b, hy, h⟩ := h
  refine rdS.intro hy ?_
  conv => whnf
  refine br.h h ?_ ?_ ?_
  · rfl
  · clear h; intro hb h; conv => whnf
    all_goals (cases h; cases hc)
    all_goals exact ⟨_, _, _, (.refl _ _ _), Res.of [6] rfl (nw_s (rn_T ctcp_Opt_flat) (hs_row rfl) nw_0) (by decide) (js_l (by decide) js_0) wr_0⟩
  clear h; intro hb h; conv => whnf
  refine br.h h ?_ ?_ ?_
  · rfl
  · clear h; intro hb h; conv => whnf
    cases h; simp only [Sum.elim_inl, head91_1] at hc
    exact lrA1 hc [(0, 0), (1, 1), (2, 2), (3, 3), (4, 4), (5, 5), (6, 6)] rfl
  clear h; intro hb h; conv => whnf
  let t : Bool := decide ((wI .i64 (i + 1)) < (text.length : Int))
  refine br.h2 h ?_ ?_ ?_
  · rfl
  · clear h; intro hb h; conv => whnf
    all_goals (cases h; cases hc)
    all_goals exact ⟨_, _, _, (.val (.tup (.cons (.nil _ _) (.cons (.same _) .nil))) (.refl _ _ _)), Res.of [8] rfl (nw_s (rn_T ctcp_Opt_flat) (hs_row rfl) nw_0) (by decide) (js_l (by decide) js_0) wr_0⟩
  clear h; intro hb h; conv => whnf
  replace h := oreq.elim h; obtain ⟨hb, h⟩ := h
  first | (refine req.intro hb ?_; conv => whnf) | skip
  replace h := obind.elim h; obtain ⟨b1, hy, h⟩ := h
  refine rdS.intro hy ?_
  conv => whnf
  refine br.h h ?_ ?_ ?_
  · rfl
  · clear h; intro hb h; conv => whnf
    all_goals (cases h; cases hc)
    all_goals exact ⟨_, _, _, (.val (.tup (.cons (.nil _ _) (.cons (.same _) .nil))) (.refl _ _ _)), Res.of [8] rfl (nw_s (rn_T ctcp_Opt_flat) (hs_row rfl) nw_0) (by decide) (js_l (by decide) js_0) wr_0⟩
  clear h; intro hb h; conv => whnf
  let t1 : Bool := decide ((wI .i64 (b1.toNat : Int)) > (wI .i64 ((text.length : Int) - i)))
  refine br.h h ?_ ?_ ?_
  · rfl
  · clear h; intro hb h; conv => whnf
    all_goals (cases h; cases hc)
    all_goals exact ⟨_, _, _, (.val (.tup (.cons (.nil _ _) (.cons (.same _) .nil))) (.refl _ _ _)), Res.of [8] rfl (nw_s (rn_T ctcp_Opt_flat) (hs_row rfl) nw_0) (by decide) (js_l (by decide) js_0) wr_0⟩
  clear h; intro hb h; conv => whnf
  replace h := oreq.elim h; obtain ⟨hb, h⟩ := h
  first | (refine req.intro hb ?_; conv => whnf) | skip
  replace h := obind.elim h; obtain ⟨b2, hy, h⟩ := h
  refine rdS.intro hy ?_
  conv => whnf
  replace h := oreq.elim h; obtain ⟨hb, h⟩ := h
  first | (refine req.intro hb ?_; conv => whnf) | skip
  let t2 : List UInt8 := (text.drop (wI .i64 (i + 2)).toNat).take ((wI .i64 (i + (wI .i64 (b1.toNat : Int)))).toNat - (wI .i64 (i + 2)).toNat)
  refine br.h h ?_ ?_ ?_
  · rfl
  · clear h; intro hb h; conv => whnf
    all_goals (cases h; cases hc)
    all_goals exact ⟨_, _, _, (.val (.tup (.cons (.nil _ _) (.cons (.same _) .nil))) (.refl _ _ _)), Res.of [24] rfl (nw_s (rn_T ctcp_Opt_flat) (hs_row rfl) nw_0) (by decide) (js_l (by decide) js_0) wr_0⟩
  clear h; intro hb h; conv => whnf
  replace h := oreq.elim h; obtain ⟨hb, h⟩ := h
  refine req.intro (ap_req (of_decide_eq_true hb) (by first | rfl | omega | (simp; done) | (simp; omega) | (simp at *; omega)) rfl (by first | rfl | omega | (simp; done) | (simp; omega) | (simp at *; omega)) (by first | rfl | exact vI_one _ _ | exact vS_one _ | exact vB_one _ | exact vT_one (by first | exact capi_Addr_one | exact capi_Tuple_one | exact ctcp_Head_one | exact cipsix_Head_one | exact cipfour_Head_one | exact capi_Packet_one | exact cpacket_outer_one | exact coctet_Reader_one | exact ctcp_Opt_one | exact cudp_Head_one | exact cquic_Head_one | exact cR11_head_one | exact cR07_Opt_one) _ | (rw [ofBytes_vI]; exact vI_one _ _) | simp [vI_one, vS_one, vB_one, vI_drop, vI_take, vS_drop, vS_take]) rfl) ?_
  conv => whnf
  let row : List tcp_Opt := c ++ [tcp_Opt.mk (wI .i64 (b2.toNat : Int)) t2]
  refine pk_apT ctcp_Opt_len (xs := c) (ys := [tcp_Opt.mk (wI .i64 (b2.toNat : Int)) t2]) rfl (by first | rfl | omega) (by first | (simp; done) | (simp; omega)) (by first | (simp; done) | (simp; omega)) ?_
  conv => whnf
  cases h; simp only [Sum.elim_inl, head91_1] at hc
  exact lrA1 hc [(0, 0), (1, 1), (2, 2), (3, 3), (4, 4), (5, 5), (6, 25)] rfl
theorem leads91 (hS : SumsOK Try.prog (aget (sums91))) (text : List UInt8) (res : (List tcp_Opt) × Int) (h : tcp_ListF text = some res) :
    Leads Try.prog 91 0 ⟨⟨91, 18, [(0, .string ⟨⟨text⟩⟩)], [.code k91_19], [], false, none⟩, [], [], 0⟩ (fun v H _ => Res 0 (rx91 res) v H) := by
  refine Leads.nilW (R := fun v' H' => Res 0 (rx91 res) v' H') ?_
  unfold tcp_ListF at h
  refine ev_ok tab_ok hS true 3000 ?_
  conv => whnf
  have hl := loop91_1 hS _ res _ _ _ h rfl; simp only [head91_1] at hl
  refine Leads.nilC 2 0 2 ?_
  exact lrA1 hl [(0, 0), (1, 1), (2, 2), (3, 3), (4, 4), (5, 5), (6, 6)] rfl
theorem ok91 (hS : SumsOK Try.prog (aget (sums91))) : SumOK Try.prog 91 (s91 (tcp_ListF)) := by
  refine SumOK.of_leads tab_ok (fun ar os r ha hr => ?_) ⟨Try.f91, rfl, by decide, rfl⟩
  replace hr : r91 (tcp_ListF) ar (conts os) = some r := hr
  unfold r91 at hr
  generalize hc : conts os = C at hr
  replace hr := dV.elim hr; obtain ⟨v0, l1, y0, rfl, e0, hr⟩ := hr; obtain rfl := asS_eq _ _ e0
  replace hr := dFin hr; obtain ⟨rfl, rfl, x, h, rfl⟩ := hr
  obtain rfl := kinds_nil hc
  exact ⟨_, rfl, leads91 hS _ x h⟩
def tcp_List : (List UInt8) → Option ((List tcp_Opt) × Int) := tcp_ListF
theorem lift91 : SumOK Try.prog 91 (s91 tcp_List) := ok91 (SumsOK.of_tab trivial)
def tcp_Stamp_s1 (octet_Get : (List UInt8) → Int → Int → Option (Int × Bool)) (text : List UInt8) (i : Int) : Option (Sum Int (Int × Int × Int)) :=
  cond (decide (i < (text.length : Int)))
    (
    oreq (decide (0 ≤ i)) <|
    (text[i.toNat]?).bind fun (b : UInt8) =>
    cond ((b.toNat : Int) == 0)
      (
      some (.inr ((0, 0, (-1)))))
      (
      cond ((b.toNat : Int) == 1)
        (
        some (.inl (wI .i64 (i + 1))))
        (
        let t := decide ((wI .i64 (i + 1)) < (text.length : Int))
        cond (t)
          (
          oreq (decide (0 ≤ (wI .i64 (i + 1)))) <|
          (text[(wI .i64 (i + 1)).toNat]?).bind fun (b1 : UInt8) =>
          cond (decide ((wI .i64 (b1.toNat : Int)) < 2))
            (
            some (.inr ((0, 0, (-1)))))
            (
            let t1 := decide ((wI .i64 (b1.toNat : Int)) > (wI .i64 ((text.length : Int) - i)))
            cond (t1)
              (
              some (.inr ((0, 0, (-1)))))
              (
              oreq (decide (0 ≤ i)) <|
              (text[i.toNat]?).bind fun (b2 : UInt8) =>
              oreq (decide ((0 : Int) ≤ (wI .i64 (i + (wI .i64 (b1.toNat : Int)))) ∧ (wI .i64 (i + (wI .i64 (b1.toNat : Int)))) ≤ (text.length : Int) ∧ (0 : Int) ≤ (wI .i64 (i + 2)) ∧ (wI .i64 (i + 2)) ≤ ((wI .i64 (i + (wI .i64 (b1.toNat : Int)))).toNat : Int))) <|
              let t2 := (text.drop (wI .i64 (i + 2)).toNat).take ((wI .i64 (i + (wI .i64 (b1.toNat : Int)))).toNat - (wI .i64 (i + 2)).toNat)
              cond ((wI .i64 (b2.toNat : Int)) != 8)
                (
                some (.inl (wI .i64 (i + (wI .i64 (b1.toNat : Int))))))
                (
                (octet_Get t2 0 8).bind fun xg =>
                cond (xg.2)
                  (
                  cond ((t2.length : Int) == 8)
                    (
                    some (.inr ((wI .u32 (xg.1.fdiv (2 ^ 32)), wI .u32 xg.1, wI .i64 (i + 2)))))
                    (
                    some (.inr ((0, 0, (-1))))))
                  (
                  some (.inr ((0, 0, (-1)))))))))
          (
          some (.inr ((0, 0, (-1))))))))
    (
    some (.inr ((0, 0, (-1)))))
def tcp_StampF (octet_Get : (List UInt8) → Int → Int → Option (Int × Bool)) (tcp_List : (List UInt8) → Option ((List tcp_Opt) × Int)) (text : List UInt8) : Option (Int × Int × Int) :=
  (tcp_List text).bind fun l =>
  cond (l.2 != 0)
    (
    some ((0, 0, (-1))))
    (
    iter (fun st => tcp_Stamp_s1 octet_Get text st) FUEL 0)
def rx64 (x : Int × Int × Int) : SRes := ⟨.tuple ⟨[.int .u32 x.1, .int .u32 x.2.1, .int .i64 x.2.2]⟩, [], []⟩
def r64 (g : (List UInt8) → Option (Int × Int × Int)) : Dec := dV asS fun (y0 : List UInt8) => dEnd (ofG (g y0) rx64)
theorem r64_c {g : (List UInt8) → Option (Int × Int × Int)} {y0 : List UInt8} {x : Int × Int × Int} (hx : g y0 = some x) : r64 g [.string ⟨⟨y0⟩⟩] [] = some (rx64 x) := (dV_eq (asS_c)).trans (ofG_eq hx)
def s64 (g : (List UInt8) → Option (Int × Int × Int)) : Summ := ⟨[.v], r64 g⟩
theorem r64_eq {g : (List UInt8) → Option (Int × Int × Int)} {y0 : List UInt8} {x : Int × Int × Int} (hx : g y0 = some x) : (s64 g).run [.string ⟨⟨y0⟩⟩] [] = some (rx64 x) := r64_c hx
abbrev sums64 (octet_Get : (List UInt8) → Int → Int → Option (Int × Bool)) (tcp_List : (List UInt8) → Option ((List tcp_Opt) × Int)) : List (Nat × Summ) := [(25, s25 octet_Get), (91, s91 tcp_List)]
def head64_1 (text : List UInt8) (i : Int) : VM :=
  ⟨⟨114, 62, [(0, .func (.yield 6) #[] #[]), (1, .pointer (some ⟨4, 0, none⟩)), (3, .int .i64 i)], [.code k114_35, .inLoop k114_35, .inBlock 0], [], false, none⟩, [⟨64, 46, [(2, .pointer (some ⟨0, 0, none⟩)), (3, .pointer (some ⟨1, 0, none⟩)), (4, .pointer (some ⟨2, 0, none⟩))], [.inRangeFunc 6, .inBlock 0, .code k64_27], [5], false, none⟩], [(0, .cells [.int .u32 0]), (1, .cells [.int .u32 0]), (2, .cells [.int .i64 0]), (4, .cells [.string ⟨⟨text⟩⟩]), (5, .marks), (6, .loop ⟨.ready, none, 64, 46, [(2, .pointer (some ⟨0, 0, none⟩)), (3, .pointer (some ⟨1, 0, none⟩)), (4, .pointer (some ⟨2, 0, none⟩))], [19], k64_9, k64_22, 5⟩)], 7⟩
theorem loop64_1 (octet_Get : (List UInt8) → Int → Int → Option (Int × Bool)) (tcp_List : (List UInt8) → Option ((List tcp_Opt) × Int)) (hS : SumsOK Try.prog (aget (sums64 octet_Get tcp_List))) (text : List UInt8) (res : Int × Int × Int) : ∀ fuel (st : Int) (o : Int × Int × Int), iter (fun st => tcp_Stamp_s1 octet_Get text st) fuel st = some o → (o = res) →
    Leads Try.prog 64 0 (head64_1 text st) (fun v H _ => Res 0 (rx64 res) v H) := by
  intro fuel st o h hc
  refine iter_leads (head := fun st => head64_1 text st) (C := fun o => (o = res)) ?_ fuel st o h hc
  clear h hc o st fuel
  intro i o h hc
  replace h : tcp_Stamp_s1 octet_Get text i = some o := h
  show Leads Try.prog 64 0 (head64_1 text i) (fun v H _ => Res 0 (rx64 res) v H)
  unfold tcp_Stamp_s1 at h
  refine ev_ok tab_ok hS true 3000 ?_
  conv => whnf
  refine br.h2 h ?_ ?_ ?_
  · rfl
  · clear h; intro hb h; conv => whnf
    all_goals (cases h; cases hc; exact Res.z rfl rfl rfl)
  clear h; intro hb h; conv => whnf
  replace h := oreq.elim h; obtain ⟨hb, h⟩ := h
  first | (refine req.intro hb ?_; conv => whnf) | skip
  replace h := obind.elim h; obtain ⟨b, hy, h⟩ := h
  refine rdS.intro hy ?_
  conv => whnf
  refine br.h h ?_ ?_ ?_
  · rfl
  · clear h; intro hb h; conv => whnf
    all_goals (cases h; cases hc; exact Res.z rfl rfl rfl)
  clear h; intro hb h; conv => whnf
  refine br.h h ?_ ?_ ?_
  · rfl
  · clear h; intro hb h; conv => whnf
    cases h; simp only [Sum.elim_inl, head64_1] at hc
    exact lrA1 hc [(0, 0), (1, 1), (2, 2), (4, 4), (5, 5), (6, 6)] rfl
  clear h; intro hb h; conv => whnf
  let t : Bool := decide ((wI .i64 (i + 1)) < (text.length : Int))
  refine br.h2 h ?_ ?_ ?_
  · rfl
  · clear h; intro hb h; conv => whnf
    all_goals (cases h; cases hc; exact Res.z rfl rfl rfl)
  clear h; intro hb h; conv => whnf
  replace h := oreq.elim h; obtain ⟨hb, h⟩ := h
  first | (refine req.intro hb ?_; conv => whnf) | skip
  replace h := obind.elim h; obtain ⟨b1, hy, h⟩ := h
  refine rdS.intro hy ?_
  conv => whnf
  refine br.h h ?_ ?_ ?_
  · rfl
  · clear h; intro hb h; conv => whnf
    all_goals (cases h; cases hc; exact Res.z rfl rfl rfl)
  clear h; intro hb h; conv => whnf
  let t1 : Bool := decide ((wI .i64 (b1.toNat : Int)) > (wI .i64 ((text.length : Int) - i)))
  refine br.h h ?_ ?_ ?_
  · rfl
  · clear h; intro hb h; conv => whnf
    all_goals (cases h; cases hc; exact Res.z rfl rfl rfl)
  clear h; intro hb h; conv => whnf
  replace h := oreq.elim h; obtain ⟨hb, h⟩ := h
  first | (refine req.intro hb ?_; conv => whnf) | skip
  replace h := obind.elim h; obtain ⟨b2, hy, h⟩ := h
  refine rdS.intro hy ?_
  conv => whnf
  replace h := oreq.elim h; obtain ⟨hb, h⟩ := h
  first | (refine req.intro hb ?_; conv => whnf) | skip
  let t2 : List UInt8 := (text.drop (wI .i64 (i + 2)).toNat).take ((wI .i64 (i + (wI .i64 (b1.toNat : Int)))).toNat - (wI .i64 (i + 2)).toNat)
  refine br.h h ?_ ?_ ?_
  · rfl
  · clear h; intro hb h; conv => whnf
    cases h; simp only [Sum.elim_inl, head64_1] at hc
    exact lrA1 hc [(0, 0), (1, 1), (2, 2), (4, 4), (5, 5), (6, 6)] rfl
  clear h; intro hb h; conv => whnf
  replace h := obind.elim h; obtain ⟨xg, hy, h⟩ := h
  refine sumK.q rfl rfl (r25_eq hy) rfl rfl rfl ?_
  conv => whnf
  refine br.h2 h ?_ ?_ ?_
  · rfl
  · clear h; intro hb h; conv => whnf
    all_goals (cases h; cases hc; exact Res.z rfl rfl rfl)
  clear h; intro hb h; conv => whnf
  refine br.h h ?_ ?_ ?_
  · rfl
  · clear h; intro hb h; conv => whnf
    all_goals (cases h; cases hc; exact Res.z rfl rfl rfl)
  clear h; intro hb h; conv => whnf
  all_goals (cases h; cases hc; exact Res.z rfl rfl rfl)
theorem leads64 (octet_Get : (List UInt8) → Int → Int → Option (Int × Bool)) (tcp_List : (List UInt8) → Option ((List tcp_Opt) × Int)) (hS : SumsOK Try.prog (aget (sums64 octet_Get tcp_List))) (text : List UInt8) (res : Int × Int × Int) (h : tcp_StampF octet_Get tcp_List text = some res) :
    Leads Try.prog 64 0 ⟨⟨64, 46, [(0, .string ⟨⟨text⟩⟩)], [.code k64_30], [], false, none⟩, [], [], 0⟩ (fun v H _ => Res 0 (rx64 res) v H) := by
  unfold tcp_StampF at h
  refine ev_ok tab_ok hS true 3000 ?_
  conv => whnf
  replace h := obind.elim h; obtain ⟨l, hy, h⟩ := h
  refine sumK.introF [] (sumRun_of (aqs := [.string ⟨⟨text⟩⟩]) (ws := []) (n := 1) (m := 0) (t' := 4) (ra_cons rfl rfl ra_nil) rfl (by rfl) (r91_eq hy) rfl rfl rfl rfl wb_nil (an_cons (rn_T ctcp_Opt_flat) an_nil) rfl) ?_
  conv => whnf
  refine br.h h ?_ ?_ ?_
  · rfl
  · clear h; intro hb h; conv => whnf
    all_goals (cases h; exact Res.z rfl rfl rfl)
  clear h; intro hb h; conv => whnf
  have hl := loop64_1 octet_Get tcp_List hS _ res _ _ _ h rfl; simp only [head64_1] at hl
  exact lrA1 hl [(0, 0), (1, 1), (2, 2), (4, 4), (5, 5), (6, 6)] rfl
theorem ok64 (octet_Get : (List UInt8) → Int → Int → Option (Int × Bool)) (tcp_List : (List UInt8) → Option ((List tcp_Opt) × Int)) (hS : SumsOK Try.prog (aget (sums64 octet_Get tcp_List))) : SumOK Try.prog 64 (s64 (tcp_StampF octet_Get tcp_List)) := by
  refine SumOK.of_leads tab_ok (fun ar os r ha hr => ?_) ⟨Try.f64, rfl, by decide, rfl⟩
  replace hr : r64 (tcp_StampF octet_Get tcp_List) ar (conts os) = some r := hr
  unfold r64 at hr
  generalize hc : conts os = C at hr
  replace hr := dV.elim hr; obtain ⟨v0, l1, y0, rfl, e0, hr⟩ := hr; obtain rfl := asS_eq _ _ e0
  replace hr := dFin hr; obtain ⟨rfl, rfl, x, h, rfl⟩ := hr
  obtain rfl := kinds_nil hc
  exact ⟨_, rfl, leads64 octet_Get tcp_List hS _ x h⟩
def tcp_Stamp : (List UInt8) → Option (Int × Int × Int) := tcp_StampF octet_Get tcp_List
theorem lift64 : SumOK Try.prog 64 (s64 tcp_Stamp) := ok64 octet_Get tcp_List (SumsOK.of_tab ⟨lift25, lift91, trivial⟩)
def addr_RightF (a : api_Addr) : Option Bool :=
  cond (a.V6)
    (
    some (true))
    (
    cond (a.Hi == 0)
      (
      some (decide (a.Lo < 4294967296)))
      (
      some (false)))
def rx50 (x : Bool) : SRes := ⟨.bool x, [], []⟩
def r50 (g : api_Addr → Option Bool) : Dec := dV uvapi_Addr fun (y0 : api_Addr) => dEnd (ofG (g y0) rx50)
theorem r50_c {g : api_Addr → Option Bool} {y0 : api_Addr} {x : Bool} (hx : g y0 = some x) : r50 g [.agg ⟨[.bool y0.V6, .int .u64 y0.Hi, .int .u64 y0.Lo]⟩] [] = some (rx50 x) := (dV_eq (uvapi_Addr_c _)).trans (ofG_eq hx)
def s50 (g : api_Addr → Option Bool) : Summ := ⟨[.v], r50 g⟩
theorem r50_eq {g : api_Addr → Option Bool} {y0 : api_Addr} {x : Bool} (hx : g y0 = some x) : (s50 g).run [.agg ⟨[.bool y0.V6, .int .u64 y0.Hi, .int .u64 y0.Lo]⟩] [] = some (rx50 x) := r50_c hx
abbrev sums50 : List (Nat × Summ) := []
theorem leads50 (hS : SumsOK Try.prog (aget (sums50))) (a : api_Addr) (res : Bool) (h : addr_RightF a = some res) :
    Leads Try.prog 50 0 ⟨⟨50, 15, [(0, .agg ⟨[.bool a.V6, .int .u64 a.Hi, .int .u64 a.Lo]⟩)], [.code k50_3], [], false, none⟩, [], [], 0⟩ (fun v H _ => Res 0 (rx50 res) v H) := by
  unfold addr_RightF at h
  refine ev_ok tab_ok hS true 3000 ?_
  conv => whnf
  refine br.h h ?_ ?_ ?_
  · rfl
  · clear h; intro hb h; conv => whnf
    all_goals (cases h; exact Res.z rfl rfl rfl)
  clear h; intro hb h; conv => whnf
  refine br.h h ?_ ?_ ?_
  · rfl
  · clear h; intro hb h; conv => whnf
    all_goals (cases h; exact Res.z rfl rfl rfl)
  clear h; intro hb h; conv => whnf
  all_goals (cases h; exact Res.z rfl rfl rfl)
theorem ok50 (hS : SumsOK Try.prog (aget (sums50))) : SumOK Try.prog 50 (s50 (addr_RightF)) := by
  refine SumOK.of_leads tab_ok (fun ar os r ha hr => ?_) ⟨Try.f50, rfl, by decide, rfl⟩
  replace hr : r50 (addr_RightF) ar (conts os) = some r := hr
  unfold r50 at hr
  generalize hc : conts os = C at hr
  replace hr := dV.elim hr; obtain ⟨v0, l1, y0, rfl, e0, hr⟩ := hr; obtain rfl := uvapi_Addr_eq _ _ e0
  replace hr := dFin hr; obtain ⟨rfl, rfl, x, h, rfl⟩ := hr
  obtain rfl := kinds_nil hc
  exact ⟨_, rfl, leads50 hS _ x h⟩
def addr_Right : api_Addr → Option Bool := addr_RightF
theorem lift50 : SumOK Try.prog 50 (s50 addr_Right) := ok50 (SumsOK.of_tab trivial)
def addr_PutF (addr_Right : api_Addr → Option Bool) (octet_Put : Int → Int → Option (List UInt8)) (a : api_Addr) : Option (List UInt8) :=
  (addr_Right a).bind fun xr =>
  cond (!xr)
    (
    some ([]))
    (
    cond (a.V6)
      (
      (octet_Put a.Hi 8).bind fun p =>
      (octet_Put a.Lo 8).bind fun p1 =>
      oreq (decide (p.length + p1.length < 2 ^ 63)) <|
      some (p ++ p1))
      (
      (octet_Put a.Lo 4).bind fun p2 =>
      some (p2)))
def rx74 (x : List UInt8) : SRes := ⟨.string ⟨⟨x⟩⟩, [], []⟩
def r74 (g : api_Addr → Option (List UInt8)) : Dec := dV uvapi_Addr fun (y0 : api_Addr) => dEnd (ofG (g y0) rx74)
theorem r74_c {g : api_Addr → Option (List UInt8)} {y0 : api_Addr} {x : List UInt8} (hx : g y0 = some x) : r74 g [.agg ⟨[.bool y0.V6, .int .u64 y0.Hi, .int .u64 y0.Lo]⟩] [] = some (rx74 x) := (dV_eq (uvapi_Addr_c _)).trans (ofG_eq hx)
def s74 (g : api_Addr → Option (List UInt8)) : Summ := ⟨[.v], r74 g⟩
theorem r74_eq {g : api_Addr → Option (List UInt8)} {y0 : api_Addr} {x : List UInt8} (hx : g y0 = some x) : (s74 g).run [.agg ⟨[.bool y0.V6, .int .u64 y0.Hi, .int .u64 y0.Lo]⟩] [] = some (rx74 x) := r74_c hx
abbrev sums74 (addr_Right : api_Addr → Option Bool) (octet_Put : Int → Int → Option (List UInt8)) : List (Nat × Summ) := [(50, s50 addr_Right), (44, s44 octet_Put)]
theorem leads74 (addr_Right : api_Addr → Option Bool) (octet_Put : Int → Int → Option (List UInt8)) (hS : SumsOK Try.prog (aget (sums74 addr_Right octet_Put))) (a : api_Addr) (res : List UInt8) (h : addr_PutF addr_Right octet_Put a = some res) :
    Leads Try.prog 74 0 ⟨⟨74, 20, [(0, .agg ⟨[.bool a.V6, .int .u64 a.Hi, .int .u64 a.Lo]⟩)], [.code k74_15], [], false, none⟩, [], [], 0⟩ (fun v H _ => Res 0 (rx74 res) v H) := by
  unfold addr_PutF at h
  refine ev_ok tab_ok hS true 3000 ?_
  conv => whnf
  replace h := obind.elim h; obtain ⟨xr, hy, h⟩ := h
  refine sumK.q rfl rfl (r50_eq hy) rfl rfl rfl ?_
  conv => whnf
  refine br.h h ?_ ?_ ?_
  · rfl
  · clear h; intro hb h; conv => whnf
    all_goals (cases h; exact Res.z rfl rfl rfl)
  clear h; intro hb h; conv => whnf
  refine br.h2 h ?_ ?_ ?_
  · rfl
  · clear h; intro hb h; conv => whnf
    replace h := obind.elim h; obtain ⟨p2, hy, h⟩ := h
    refine sumK.q rfl rfl (r44_eq hy) rfl rfl rfl ?_
    conv => whnf
    all_goals (cases h; exact Res.z rfl rfl rfl)
  clear h; intro hb h; conv => whnf
  replace h := obind.elim h; obtain ⟨p, hy, h⟩ := h
  refine sumK.q rfl rfl (r44_eq hy) rfl rfl rfl ?_
  conv => whnf
  replace h := obind.elim h; obtain ⟨p1, hy, h⟩ := h
  refine sumK.q rfl rfl (r44_eq hy) rfl rfl rfl ?_
  conv => whnf
  replace h := oreq.elim h; obtain ⟨hb, h⟩ := h
  first | (refine req.intro hb ?_; conv => whnf) | skip
  all_goals (cases h; exact Res.z rfl rfl rfl)
theorem ok74 (addr_Right : api_Addr → Option Bool) (octet_Put : Int → Int → Option (List UInt8)) (hS : SumsOK Try.prog (aget (sums74 addr_Right octet_Put))) : SumOK Try.prog 74 (s74 (addr_PutF addr_Right octet_Put)) := by
  refine SumOK.of_leads tab_ok (fun ar os r ha hr => ?_) ⟨Try.f74, rfl, by decide, rfl⟩
  replace hr : r74 (addr_PutF addr_Right octet_Put) ar (conts os) = some r := hr
  unfold r74 at hr
  generalize hc : conts os = C at hr
  replace hr := dV.elim hr; obtain ⟨v0, l1, y0, rfl, e0, hr⟩ := hr; obtain rfl := uvapi_Addr_eq _ _ e0
  replace hr := dFin hr; obtain ⟨rfl, rfl, x, h, rfl⟩ := hr
  obtain rfl := kinds_nil hc
  exact ⟨_, rfl, leads74 addr_Right octet_Put hS _ x h⟩
def addr_Put : api_Addr → Option (List UInt8) := addr_PutF addr_Right octet_Put
theorem lift74 : SumOK Try.prog 74 (s74 addr_Put) := ok74 addr_Right octet_Put (SumsOK.of_tab ⟨lift50, lift44, trivial⟩)
def ipfour_row_s1 (octet_Put : Int → Int → Option (List UInt8)) (l : List Int) (i : Int) (c : List Int) : Option (Sum (Int × (List Int)) (List UInt8)) :=
  let t := decide ((wI .i64 (i + 1)) < (l.length : Int))
  cond (t)
    (
    oreq (decide ((0 : Int) ≤ i ∧ i < (l.length : Int))) <|
    (l[i.toNat]?).bind fun (e2 : Int) =>
    oreq (decide ((0 : Int) ≤ (wI .i64 (i + 1)) ∧ (wI .i64 (i + 1)) < (l.length : Int))) <|
    (l[(wI .i64 (i + 1)).toNat]?).bind fun (e3 : Int) =>
    (octet_Put (wI .u64 e2) e3).bind fun p1 =>
    oreq (decide ((c.length + p1.length) * 1 ≤ 2 ^ 47)) <|
    let row := c ++ (bI p1)
    some (.inl (wI .i64 (i + 2), row)))
    (
    oreq (decide (c.length < 2 ^ 63)) <|
    some (.inr (iB c)))
def ipfour_rowF (octet_Put : Int → Int → Option (List UInt8)) (l : List Int) : Option (List UInt8) :=
  cond (decide (1 < (l.length : Int)))
    (
    oreq (decide ((0 : Int) ≤ (0 : Int) ∧ (0 : Int) < (l.length : Int))) <|
    (l[0]?).bind fun (e : Int) =>
    oreq (decide ((0 : Int) ≤ (1 : Int) ∧ (1 : Int) < (l.length : Int))) <|
    (l[1]?).bind fun (e1 : Int) =>
    (octet_Put (wI .u64 e) e1).bind fun p =>
    oreq (decide (p.length * 1 ≤ 2 ^ 47)) <|
    iter (fun st => ipfour_row_s1 octet_Put l st.1 st.2) FUEL (2, bI p))
    (
    some ([]))
def rx75 (x : List UInt8) : SRes := ⟨.string ⟨⟨x⟩⟩, [], [none]⟩
def r75 (g : (List Int) → Option (List UInt8)) : Dec := dSl 0 1 (unL (asI .i64)) fun (y0 : List Int) => dEnd (ofG (g y0) rx75)
theorem r75_c {g : (List Int) → Option (List UInt8)} {y0 : List Int} {x : List UInt8} (hx : g y0 = some x) : r75 g [.slice (some ⟨0, 0, none⟩) y0.length 1] [some (vI .i64 y0)] = some (rx75 x) := (dSl_eq (unI_vI _ _)).trans (ofG_eq hx)
def s75 (g : (List Int) → Option (List UInt8)) : Summ := ⟨[.sl 1], r75 g⟩
theorem r75_eq {g : (List Int) → Option (List UInt8)} {y0 : List Int} {x : List UInt8} (hx : g y0 = some x) : (s75 g).run [.slice (some ⟨0, 0, none⟩) y0.length 1] [some (vI .i64 y0)] = some (rx75 x) := r75_c hx
abbrev sums75 (octet_Put : Int → Int → Option (List UInt8)) : List (Nat × Summ) := [(44, s44 octet_Put)]
def head75_1 (l : List Int) (i : Int) (c : List Int) : VM :=
  ⟨⟨75, 25, [(0, .slice (some ⟨0, 0, none⟩) l.length 1), (3, .pointer (some ⟨1, 0, none⟩)), (4, .int .i64 i)], [.code k75_10, .inLoop k75_10, .inBlock 0, .code k75_15], [], false, none⟩, [], [(0, .row false (vI .i64 l)), (1, .ty 103 [.pointer (some ⟨1, 0, none⟩), .func (.method "") ⟨[.slice (some ⟨12, 0, none⟩) c.length 1]⟩ ⟨[]⟩]), (12, .ty 5 (vI .u8 c))], 13⟩
theorem loop75_1 (octet_Put : Int → Int → Option (List UInt8)) (hS : SumsOK Try.prog (aget (sums75 octet_Put))) (l : List Int) (res : List UInt8) : ∀ fuel (st : Int × (List Int)) (o : List UInt8), iter (fun st => ipfour_row_s1 octet_Put l st.1 st.2) fuel st = some o → (o = res) →
    Leads Try.prog 75 1 (head75_1 l st.1 st.2) (fun v H _ => Res 1 (rx75 res) v H) := by
  intro fuel st o h hc
  refine iter_leads (head := fun st => head75_1 l st.1 st.2) (C := fun o => (o = res)) ?_ fuel st o h hc
  clear h hc o st fuel
  intro st o h hc
  obtain ⟨i, c⟩ := st
  replace h : ipfour_row_s1 octet_Put l i c = some o := h
  show Leads Try.prog 75 1 (head75_1 l i c) (fun v H _ => Res 1 (rx75 res) v H)
  unfold ipfour_row_s1 at h
  refine ev_ok tab_ok hS true 3000 ?_
  conv => whnf
  let t : Bool := decide ((wI .i64 (i + 1)) < (l.length : Int))
  refine br.h2 h ?_ ?_ ?_
  · rfl
  · clear h; intro hb h; conv => whnf
    replace h := oreq.elim h; obtain ⟨hb, h⟩ := h
    refine req.intro (us_req rfl (by first | rfl | (simp; done)) (by first | rfl | omega | (simp; done) | (simp; omega) | (simp at *; omega)) (of_decide_eq_true hb)) ?_
    conv => whnf
    refine pk_us ?_
    conv => whnf
    all_goals (cases h; cases hc)
    all_goals exact Res.of [] rfl nw_0 (by decide) js_0 (wr_n wr_0)
  clear h; intro hb h; conv => whnf
  replace h := oreq.elim h; obtain ⟨hb, h⟩ := h
  first | (refine req.intro hb ?_; conv => whnf) | skip
  replace h := obind.elim h; obtain ⟨e2, hy, h⟩ := h
  refine rd.I hy (by first | rfl | (rw [Nat.zero_add, Nat.mul_one]; try rfl; done) | omega) ?_
  conv => whnf
  replace h := oreq.elim h; obtain ⟨hb, h⟩ := h
  first | (refine req.intro hb ?_; conv => whnf) | skip
  replace h := obind.elim h; obtain ⟨e3, hy, h⟩ := h
  refine rd.I hy (by first | rfl | (rw [Nat.zero_add, Nat.mul_one]; try rfl; done) | omega) ?_
  conv => whnf
  replace h := obind.elim h; obtain ⟨p1, hy, h⟩ := h
  refine sumK.q rfl rfl (r44_eq hy) rfl rfl rfl ?_
  conv => whnf
  replace h := oreq.elim h; obtain ⟨hb, h⟩ := h
  refine req.intro (apb_req (of_decide_eq_true hb) (by first | rfl | omega | (simp; done) | (simp; omega) | (simp at *; omega)) rfl rfl (by first | rfl | omega | (simp; done) | (simp; omega) | (simp at *; omega)) (by first | rfl | exact vI_one _ _ | exact vS_one _ | exact vB_one _ | exact vT_one (by first | exact capi_Addr_one | exact capi_Tuple_one | exact ctcp_Head_one | exact cipsix_Head_one | exact cipfour_Head_one | exact capi_Packet_one | exact cpacket_outer_one | exact coctet_Reader_one | exact ctcp_Opt_one | exact cudp_Head_one | exact cquic_Head_one | exact cR11_head_one | exact cR07_Opt_one) _ | (rw [ofBytes_vI]; exact vI_one _ _) | simp [vI_one, vS_one, vB_one, vI_drop, vI_take, vS_drop, vS_take]) rfl) ?_
  conv => whnf
  let row : List Int := c ++ (bI p1)
  refine pk_apW (xs := c) (ys := bI p1) (ofBytes_vI _) (by first | (simp; done) | (simp; omega)) (by first | (simp; done) | (simp; omega)) ?_
  conv => whnf
  cases h; simp only [Sum.elim_inl, head75_1] at hc
  exact lrA0 hc [(0, 0), (1, 1), (12, 23)] rfl
theorem leads75 (octet_Put : Int → Int → Option (List UInt8)) (hS : SumsOK Try.prog (aget (sums75 octet_Put))) (l : List Int) (res : List UInt8) (h : ipfour_rowF octet_Put l = some res) :
    Leads Try.prog 75 1 ⟨⟨75, 25, [(0, .slice (some ⟨0, 0, none⟩) l.length 1)], [.code k75_18], [], false, none⟩, [], [(0, .row false (vI .i64 l))], 1⟩ (fun v H _ => Res 1 (rx75 res) v H) := by
  unfold ipfour_rowF at h
  refine ev_ok tab_ok hS true 3000 ?_
  conv => whnf
  refine ev_ok tab_ok hS true 3000 ?_
  conv => whnf
  refine br.h2 h ?_ ?_ ?_
  · rfl
  · clear h; intro hb h; conv => whnf
    all_goals (cases h)
    all_goals exact Res.of [] rfl nw_0 (by decide) js_0 (wr_n wr_0)
  clear h; intro hb h; conv => whnf
  replace h := oreq.elim h; obtain ⟨hb, h⟩ := h
  first | (refine req.intro hb ?_; conv => whnf) | skip
  replace h := obind.elim h; obtain ⟨e, hy, h⟩ := h
  refine rd.I hy (by first | rfl | (rw [Nat.zero_add, Nat.mul_one]; try rfl; done) | omega) ?_
  conv => whnf
  replace h := oreq.elim h; obtain ⟨hb, h⟩ := h
  first | (refine req.intro hb ?_; conv => whnf) | skip
  replace h := obind.elim h; obtain ⟨e1, hy, h⟩ := h
  refine rd.I hy (by first | rfl | (rw [Nat.zero_add, Nat.mul_one]; try rfl; done) | omega) ?_
  conv => whnf
  replace h := obind.elim h; obtain ⟨p, hy, h⟩ := h
  refine sumK.q rfl rfl (r44_eq hy) rfl rfl rfl ?_
  conv => whnf
  replace h := oreq.elim h; obtain ⟨hb, h⟩ := h
  refine req.intro (ap0b_req (of_decide_eq_true hb) (by first | rfl | omega | (simp; done) | (simp; omega) | (simp at *; omega)) rfl rfl) ?_
  conv => whnf
  refine pk_ap0I (ys := bI p) (ofBytes_vI _) (by first | rfl | (simp; done) | (simp; omega)) ?_
  conv => whnf
  have hl := loop75_1 octet_Put hS _ res _ _ _ h rfl; simp only [head75_1] at hl
  exact lrA0 hl [(0, 0), (1, 1), (12, 12)] rfl
theorem ok75 (octet_Put : Int → Int → Option (List UInt8)) (hS : SumsOK Try.prog (aget (sums75 octet_Put))) : SumOK Try.prog 75 (s75 (ipfour_rowF octet_Put)) := by
  refine SumOK.of_leads tab_ok (fun ar os r ha hr => ?_) ⟨Try.f75, rfl, by decide, rfl⟩
  replace hr : r75 (ipfour_rowF octet_Put) ar (conts os) = some r := hr
  unfold r75 at hr
  generalize hc : conts os = C at hr
  have hq := dSl.elim hr; clear hr; obtain ⟨c0, l1, C, y0, rfl, rfl, e0, hr⟩ := hq; obtain rfl := unI_eq e0
  replace hr := dFin hr; obtain ⟨rfl, rfl, x, h, rfl⟩ := hr
  obtain ⟨os, rfl, ha, hc⟩ := kinds_some ha hc
  obtain rfl := kinds_nil hc
  exact ⟨_, rfl, leads75 octet_Put hS _ x h⟩
def ipfour_row : (List Int) → Option (List UInt8) := ipfour_rowF octet_Put
theorem lift75 : SumOK Try.prog 75 (s75 ipfour_row) := ok75 octet_Put (SumsOK.of_tab ⟨lift44, trivial⟩)
def ipfour_PseudoF (addr_Put : api_Addr → Option (List UInt8)) (addr_Right : api_Addr → Option Bool) (ipfour_row : (List Int) → Option (List UInt8)) (src : api_Addr) (dst : api_Addr) (proto : Int) (n : Int) : Option (List UInt8) :=
  (addr_Right src).bind fun xr =>
  cond (!xr)
    (
    some ([]))
    (
    (addr_Right dst).bind fun xr1 =>
    cond (!xr1)
      (
      some ([]))
      (
      cond (!(src.V6 == dst.V6))
        (
        some ([]))
        (
        (addr_Put src).bind fun p =>
        (addr_Put dst).bind fun p1 =>
        oreq (decide (p.length + p1.length < 2 ^ 63)) <|
        cond (src.V6)
          (
          (ipfour_row [n, 4, 0, 3, proto, 1]).bind fun xr2 =>
          oreq (decide ((p ++ p1).length + xr2.length < 2 ^ 63)) <|
          some ((p ++ p1) ++ xr2))
          (
          (ipfour_row [0, 1, proto, 1, n, 2]).bind fun xr3 =>
          oreq (decide ((p ++ p1).length + xr3.length < 2 ^ 63)) <|
          some ((p ++ p1) ++ xr3)))))
def rx46 (x : List UInt8) : SRes := ⟨.string ⟨⟨x⟩⟩, [], []⟩
def r46 (g : api_Addr → api_Addr → Int → Int → Option (List UInt8)) : Dec := dV uvapi_Addr fun (y0 : api_Addr) => dV uvapi_Addr fun (y1 : api_Addr) => dV (asI .i64) fun (y2 : Int) => dV (asI .i64) fun (y3 : Int) => dEnd (ofG (g y0 y1 y2 y3) rx46)
theorem r46_c {g : api_Addr → api_Addr → Int → Int → Option (List UInt8)} {y0 : api_Addr} {y1 : api_Addr} {y2 : Int} {y3 : Int} {x : List UInt8} (hx : g y0 y1 y2 y3 = some x) : r46 g [.agg ⟨[.bool y0.V6, .int .u64 y0.Hi, .int .u64 y0.Lo]⟩, .agg ⟨[.bool y1.V6, .int .u64 y1.Hi, .int .u64 y1.Lo]⟩, .int .i64 y2, .int .i64 y3] [] = some (rx46 x) := (dV_eq (uvapi_Addr_c _)).trans ((dV_eq (uvapi_Addr_c _)).trans ((dV_eq (asI_c _)).trans ((dV_eq (asI_c _)).trans (ofG_eq hx))))
def s46 (g : api_Addr → api_Addr → Int → Int → Option (List UInt8)) : Summ := ⟨[.v, .v, .v, .v], r46 g⟩
theorem r46_eq {g : api_Addr → api_Addr → Int → Int → Option (List UInt8)} {y0 : api_Addr} {y1 : api_Addr} {y2 : Int} {y3 : Int} {x : List UInt8} (hx : g y0 y1 y2 y3 = some x) : (s46 g).run [.agg ⟨[.bool y0.V6, .int .u64 y0.Hi, .int .u64 y0.Lo]⟩, .agg ⟨[.bool y1.V6, .int .u64 y1.Hi, .int .u64 y1.Lo]⟩, .int .i64 y2, .int .i64 y3] [] = some (rx46 x) := r46_c hx
abbrev sums46 (addr_Put : api_Addr → Option (List UInt8)) (addr_Right : api_Addr → Option Bool) (ipfour_row : (List Int) → Option (List UInt8)) : List (Nat × Summ) := [(74, s74 addr_Put), (50, s50 addr_Right), (75, s75 ipfour_row)]
theorem leads46 (addr_Put : api_Addr → Option (List UInt8)) (addr_Right : api_Addr → Option Bool) (ipfour_row : (List Int) → Option (List UInt8)) (hS : SumsOK Try.prog (aget (sums46 addr_Put addr_Right ipfour_row))) (src : api_Addr) (dst : api_Addr) (proto : Int) (n : Int) (res : List UInt8) (h : ipfour_PseudoF addr_Put addr_Right ipfour_row src dst proto n = some res) :
    Leads Try.prog 46 0 ⟨⟨46, 44, [(0, .agg ⟨[.bool src.V6, .int .u64 src.Hi, .int .u64 src.Lo]⟩), (1, .agg ⟨[.bool dst.V6, .int .u64 dst.Hi, .int .u64 dst.Lo]⟩), (2, .int .i64 proto), (3, .int .i64 n)], [.code k46_17], [], false, none⟩, [], [], 0⟩ (fun v H _ => Res 0 (rx46 res) v H) := by
  unfold ipfour_PseudoF at h
  refine ev_ok tab_ok hS true 3000 ?_
  conv => whnf
  replace h := obind.elim h; obtain ⟨xr, hy, h⟩ := h
  refine sumK.q rfl rfl (r50_eq hy) rfl rfl rfl ?_
  conv => whnf
  refine br.h h ?_ ?_ ?_
  · rfl
  · clear h; intro hb h; conv => whnf
    all_goals (cases h; exact Res.z rfl rfl rfl)
  clear h; intro hb h; conv => whnf
  replace h := obind.elim h; obtain ⟨xr1, hy, h⟩ := h
  refine sumK.q rfl rfl (r50_eq hy) rfl rfl rfl ?_
  conv => whnf
  refine br.h h ?_ ?_ ?_
  · rfl
  · clear h; intro hb h; conv => whnf
    all_goals (cases h; exact Res.z rfl rfl rfl)
  clear h; intro hb h; conv => whnf
  refine br.h h ?_ ?_ ?_
  · rfl
  · clear h; intro hb h; conv => whnf
    all_goals (cases h; exact Res.z rfl rfl rfl)
  clear h; intro hb h; conv => whnf
  replace h := obind.elim h; obtain ⟨p, hy, h⟩ := h
  refine sumK.q rfl rfl (r74_eq hy) rfl rfl rfl ?_
  conv => whnf
  replace h := obind.elim h; obtain ⟨p1, hy, h⟩ := h
  refine sumK.q rfl rfl (r74_eq hy) rfl rfl rfl ?_
  conv => whnf
  replace h := oreq.elim h; obtain ⟨hb, h⟩ := h
  first | (refine req.intro hb ?_; conv => whnf) | skip
  refine br.h h ?_ ?_ ?_
  · rfl
  · clear h; intro hb h; conv => whnf
    replace h := obind.elim h; obtain ⟨xr2, hy, h⟩ := h
    refine sumK.introF [] (sumRun_of (aqs := [.slice (some ⟨0, 0, none⟩) ([n, 4, 0, 3, proto, 1] : List Int).length 1]) (ws := [.win 5 0 (6 * 1) false]) (n := 0) (m := 0) (t' := 6) (ra_cons (by first | rfl | exact ra_allI rfl rfl (by first | rfl | omega) (by first | rfl | (simp; done)) | exact ra_slI rfl rfl (by first | rfl | omega) (by first | rfl | omega) (by first | omega | (simp at *; omega))) rfl ra_nil) rfl (by rfl) (r75_eq hy) rfl rfl rfl rfl (wb_skip rfl wb_nil) an_nil rfl) ?_
    conv => whnf
    replace h := oreq.elim h; obtain ⟨hb, h⟩ := h
    first | (refine req.intro hb ?_; conv => whnf) | skip
    all_goals (cases h; exact Res.z rfl rfl rfl)
  clear h; intro hb h; conv => whnf
  replace h := obind.elim h; obtain ⟨xr3, hy, h⟩ := h
  refine sumK.introF [] (sumRun_of (aqs := [.slice (some ⟨0, 0, none⟩) ([0, 1, proto, 1, n, 2] : List Int).length 1]) (ws := [.win 5 0 (6 * 1) false]) (n := 0) (m := 0) (t' := 6) (ra_cons (by first | rfl | exact ra_allI rfl rfl (by first | rfl | omega) (by first | rfl | (simp; done)) | exact ra_slI rfl rfl (by first | rfl | omega) (by first | rfl | omega) (by first | omega | (simp at *; omega))) rfl ra_nil) rfl (by rfl) (r75_eq hy) rfl rfl rfl rfl (wb_skip rfl wb_nil) an_nil rfl) ?_
  conv => whnf
  replace h := oreq.elim h; obtain ⟨hb, h⟩ := h
  first | (refine req.intro hb ?_; conv => whnf) | skip
  all_goals (cases h; exact Res.z rfl rfl rfl)
theorem ok46 (addr_Put : api_Addr → Option (List UInt8)) (addr_Right : api_Addr → Option Bool) (ipfour_row : (List Int) → Option (List UInt8)) (hS : SumsOK Try.prog (aget (sums46 addr_Put addr_Right ipfour_row))) : SumOK Try.prog 46 (s46 (ipfour_PseudoF addr_Put addr_Right ipfour_row)) := by
  refine SumOK.of_leads tab_ok (fun ar os r ha hr => ?_) ⟨Try.f46, rfl, by decide, rfl⟩
  replace hr : r46 (ipfour_PseudoF addr_Put addr_Right ipfour_row) ar (conts os) = some r := hr
  unfold r46 at hr
  generalize hc : conts os = C at hr
  replace hr := dV.elim hr; obtain ⟨v0, l1, y0, rfl, e0, hr⟩ := hr; obtain rfl := uvapi_Addr_eq _ _ e0
  replace hr := dV.elim hr; obtain ⟨v1, l2, y1, rfl, e1, hr⟩ := hr; obtain rfl := uvapi_Addr_eq _ _ e1
  replace hr := dV.elim hr; obtain ⟨v2, l3, y2, rfl, e2, hr⟩ := hr; obtain rfl := asI_eq _ _ _ e2
  replace hr := dV.elim hr; obtain ⟨v3, l4, y3, rfl, e3, hr⟩ := hr; obtain rfl := asI_eq _ _ _ e3
  replace hr := dFin hr; obtain ⟨rfl, rfl, x, h, rfl⟩ := hr
  obtain rfl := kinds_nil hc
  exact ⟨_, rfl, leads46 addr_Put addr_Right ipfour_row hS _ _ _ _ x h⟩
def ipfour_Pseudo : api_Addr → api_Addr → Int → Int → Option (List UInt8) := ipfour_PseudoF addr_Put addr_Right ipfour_row
theorem lift46 : SumOK Try.prog 46 (s46 ipfour_Pseudo) := ok46 addr_Put addr_Right ipfour_row (SumsOK.of_tab ⟨lift74, lift50, lift75, trivial⟩)
def tcp_parsedF (octet_New : (List UInt8) → Option octet_Reader) (octet_Reader_Num : octet_Reader → Int → Option (Int × octet_Reader)) (octet_Reader_Text : octet_Reader → Int → Option ((List UInt8) × octet_Reader)) (s : List UInt8) (size : Int) : Option tcp_Head :=
  (octet_New s).bind fun n =>
  (octet_Reader_Num n 2).bind fun n1 =>
  (octet_Reader_Num n1.2 2).bind fun n2 =>
  (octet_Reader_Num n2.2 4).bind fun n3 =>
  (octet_Reader_Num n3.2 4).bind fun n4 =>
  (octet_Reader_Num n4.2 2).bind fun n5 =>
  (octet_Reader_Num n5.2 2).bind fun n6 =>
  (octet_Reader_Num n6.2 2).bind fun n7 =>
  (octet_Reader_Num n7.2 2).bind fun n8 =>
  (octet_Reader_Text n8.2 (wI .i64 (size - 20))).bind fun t =>
  some (tcp_Head.mk n1.1 n2.1 (wI .u32 n3.1) (wI .u32 n4.1) (andI .i64 n5.1 255) n6.1 n8.1 t.1)
def rx102 (x : tcp_Head) : SRes := ⟨.agg ⟨[.int .i64 x.SPort, .int .i64 x.DPort, .int .u32 x.Seq, .int .u32 x.Ack, .int .i64 x.Flags, .int .i64 x.Window, .int .i64 x.Urgent, .string ⟨⟨x.Options⟩⟩]⟩, [], []⟩
def r102 (g : (List UInt8) → Int → Option tcp_Head) : Dec := dV asS fun (y0 : List UInt8) => dV (asI .i64) fun (y1 : Int) => dEnd (ofG (g y0 y1) rx102)
theorem r102_c {g : (List UInt8) → Int → Option tcp_Head} {y0 : List UInt8} {y1 : Int} {x : tcp_Head} (hx : g y0 y1 = some x) : r102 g [.string ⟨⟨y0⟩⟩, .int .i64 y1] [] = some (rx102 x) := (dV_eq (asS_c)).trans ((dV_eq (asI_c _)).trans (ofG_eq hx))
def s102 (g : (List UInt8) → Int → Option tcp_Head) : Summ := ⟨[.v, .v], r102 g⟩
theorem r102_eq {g : (List UInt8) → Int → Option tcp_Head} {y0 : List UInt8} {y1 : Int} {x : tcp_Head} (hx : g y0 y1 = some x) : (s102 g).run [.string ⟨⟨y0⟩⟩, .int .i64 y1] [] = some (rx102 x) := r102_c hx
abbrev sums102 (octet_New : (List UInt8) → Option octet_Reader) (octet_Reader_Num : octet_Reader → Int → Option (Int × octet_Reader)) (octet_Reader_Text : octet_Reader → Int → Option ((List UInt8) × octet_Reader)) : List (Nat × Summ) := [(103, s103 octet_New), (104, s104 octet_Reader_Num), (106, s106 octet_Reader_Text)]
theorem leads102 (octet_New : (List UInt8) → Option octet_Reader) (octet_Reader_Num : octet_Reader → Int → Option (Int × octet_Reader)) (octet_Reader_Text : octet_Reader → Int → Option ((List UInt8) × octet_Reader)) (hS : SumsOK Try.prog (aget (sums102 octet_New octet_Reader_Num octet_Reader_Text))) (s : List UInt8) (size : Int) (res : tcp_Head) (h : tcp_parsedF octet_New octet_Reader_Num octet_Reader_Text s size = some res) :
    Leads Try.prog 102 0 ⟨⟨102, 38, [(0, .string ⟨⟨s⟩⟩), (1, .int .i64 size)], [.code k102_17], [], false, none⟩, [], [], 0⟩ (fun v H _ => Res 0 (rx102 res) v H) := by
  unfold tcp_parsedF at h
  refine ev_ok tab_ok hS true 3000 ?_
  conv => whnf
  replace h := obind.elim h; obtain ⟨n, hy, h⟩ := h
  refine sumK.introF [1] (sumRun_of (aqs := [.string ⟨⟨s⟩⟩]) (ws := []) (n := 1) (m := 0) (t' := 2) (ra_cons rfl rfl ra_nil) rfl (by rfl) (r103_eq hy) rfl rfl rfl rfl wb_nil (an_cons (rfl) an_nil) rfl) ?_
  conv => whnf
  replace h := obind.elim h; obtain ⟨n1, hy, h⟩ := h
  refine sumK.introF [1] (sumRun_of (aqs := [.pointer (some ⟨0, 0, none⟩), .int .i64 2]) (ws := [.win 1 0 3 true]) (n := 0) (m := 0) (t' := 2) (ra_cons rfl rfl (ra_cons rfl rfl ra_nil)) rfl (by rfl) (r104_eq hy) rfl rfl rfl rfl (wb_win rfl rfl rfl ⟨rfl, Nat.le_of_ble_eq_true rfl⟩ rfl rfl wb_nil) an_nil rfl) ?_
  conv => whnf
  replace h := obind.elim h; obtain ⟨n2, hy, h⟩ := h
  refine sumK.introF [1] (sumRun_of (aqs := [.pointer (some ⟨0, 0, none⟩), .int .i64 2]) (ws := [.win 1 0 3 true]) (n := 0) (m := 0) (t' := 2) (ra_cons rfl rfl (ra_cons rfl rfl ra_nil)) rfl (by rfl) (r104_eq hy) rfl rfl rfl rfl (wb_win rfl rfl rfl ⟨rfl, Nat.le_of_ble_eq_true rfl⟩ rfl rfl wb_nil) an_nil rfl) ?_
  conv => whnf
  replace h := obind.elim h; obtain ⟨n3, hy, h⟩ := h
  refine sumK.introF [1] (sumRun_of (aqs := [.pointer (some ⟨0, 0, none⟩), .int .i64 4]) (ws := [.win 1 0 3 true]) (n := 0) (m := 0) (t' := 2) (ra_cons rfl rfl (ra_cons rfl rfl ra_nil)) rfl (by rfl) (r104_eq hy) rfl rfl rfl rfl (wb_win rfl rfl rfl ⟨rfl, Nat.le_of_ble_eq_true rfl⟩ rfl rfl wb_nil) an_nil rfl) ?_
  conv => whnf
  replace h := obind.elim h; obtain ⟨n4, hy, h⟩ := h
  refine sumK.introF [1] (sumRun_of (aqs := [.pointer (some ⟨0, 0, none⟩), .int .i64 4]) (ws := [.win 1 0 3 true]) (n := 0) (m := 0) (t' := 2) (ra_cons rfl rfl (ra_cons rfl rfl ra_nil)) rfl (by rfl) (r104_eq hy) rfl rfl rfl rfl (wb_win rfl rfl rfl ⟨rfl, Nat.le_of_ble_eq_true rfl⟩ rfl rfl wb_nil) an_nil rfl) ?_
  conv => whnf
  replace h := obind.elim h; obtain ⟨n5, hy, h⟩ := h
  refine sumK.introF [1] (sumRun_of (aqs := [.pointer (some ⟨0, 0, none⟩), .int .i64 2]) (ws := [.win 1 0 3 true]) (n := 0) (m := 0) (t' := 3) (ra_cons rfl rfl (ra_cons rfl rfl ra_nil)) rfl (by rfl) (r104_eq hy) rfl rfl rfl rfl (wb_win rfl rfl rfl ⟨rfl, Nat.le_of_ble_eq_true rfl⟩ rfl rfl wb_nil) an_nil rfl) ?_
  conv => whnf
  replace h := obind.elim h; obtain ⟨n6, hy, h⟩ := h
  refine sumK.introF [1] (sumRun_of (aqs := [.pointer (some ⟨0, 0, none⟩), .int .i64 2]) (ws := [.win 1 0 3 true]) (n := 0) (m := 0) (t' := 3) (ra_cons rfl rfl (ra_cons rfl rfl ra_nil)) rfl (by rfl) (r104_eq hy) rfl rfl rfl rfl (wb_win rfl rfl rfl ⟨rfl, Nat.le_of_ble_eq_true rfl⟩ rfl rfl wb_nil) an_nil rfl) ?_
  conv => whnf
  replace h := obind.elim h; obtain ⟨n7, hy, h⟩ := h
  refine sumK.introF [1] (sumRun_of (aqs := [.pointer (some ⟨0, 0, none⟩), .int .i64 2]) (ws := [.win 1 0 3 true]) (n := 0) (m := 0) (t' := 3) (ra_cons rfl rfl (ra_cons rfl rfl ra_nil)) rfl (by rfl) (r104_eq hy) rfl rfl rfl rfl (wb_win rfl rfl rfl ⟨rfl, Nat.le_of_ble_eq_true rfl⟩ rfl rfl wb_nil) an_nil rfl) ?_
  conv => whnf
  replace h := obind.elim h; obtain ⟨n8, hy, h⟩ := h
  refine sumK.introF [1] (sumRun_of (aqs := [.pointer (some ⟨0, 0, none⟩), .int .i64 2]) (ws := [.win 1 0 3 true]) (n := 0) (m := 0) (t' := 3) (ra_cons rfl rfl (ra_cons rfl rfl ra_nil)) rfl (by rfl) (r104_eq hy) rfl rfl rfl rfl (wb_win rfl rfl rfl ⟨rfl, Nat.le_of_ble_eq_true rfl⟩ rfl rfl wb_nil) an_nil rfl) ?_
  conv => whnf
  replace h := obind.elim h; obtain ⟨t, hy, h⟩ := h
  refine sumK.introF [1] (sumRun_of (aqs := [.pointer (some ⟨0, 0, none⟩), .int .i64 (wI .i64 (size - 20))]) (ws := [.win 1 0 3 true]) (n := 0) (m := 0) (t' := 3) (ra_cons rfl rfl (ra_cons rfl rfl ra_nil)) rfl (by rfl) (r106_eq hy) rfl rfl rfl rfl (wb_win rfl rfl rfl ⟨rfl, Nat.le_of_ble_eq_true rfl⟩ rfl rfl wb_nil) an_nil rfl) ?_
  conv => whnf
  all_goals (cases h; exact Res.z rfl rfl rfl)
theorem ok102 (octet_New : (List UInt8) → Option octet_Reader) (octet_Reader_Num : octet_Reader → Int → Option (Int × octet_Reader)) (octet_Reader_Text : octet_Reader → Int → Option ((List UInt8) × octet_Reader)) (hS : SumsOK Try.prog (aget (sums102 octet_New octet_Reader_Num octet_Reader_Text))) : SumOK Try.prog 102 (s102 (tcp_parsedF octet_New octet_Reader_Num octet_Reader_Text)) := by
  refine SumOK.of_leads tab_ok (fun ar os r ha hr => ?_) ⟨Try.f102, rfl, by decide, rfl⟩
  replace hr : r102 (tcp_parsedF octet_New octet_Reader_Num octet_Reader_Text) ar (conts os) = some r := hr
  unfold r102 at hr
  generalize hc : conts os = C at hr
  replace hr := dV.elim hr; obtain ⟨v0, l1, y0, rfl, e0, hr⟩ := hr; obtain rfl := asS_eq _ _ e0
  replace hr := dV.elim hr; obtain ⟨v1, l2, y1, rfl, e1, hr⟩ := hr; obtain rfl := asI_eq _ _ _ e1
  replace hr := dFin hr; obtain ⟨rfl, rfl, x, h, rfl⟩ := hr
  obtain rfl := kinds_nil hc
  exact ⟨_, rfl, leads102 octet_New octet_Reader_Num octet_Reader_Text hS _ _ x h⟩
def tcp_parsed : (List UInt8) → Int → Option tcp_Head := tcp_parsedF octet_New octet_Reader_Num octet_Reader_Text
theorem lift102 : SumOK Try.prog 102 (s102 tcp_parsed) := ok102 octet_New octet_Reader_Num octet_Reader_Text (SumsOK.of_tab ⟨lift103, lift104, lift106, trivial⟩)
def tcp_GetF (check_Right : (List UInt8) → Option Bool) (ipfour_Pseudo : api_Addr → api_Addr → Int → Int → Option (List UInt8)) (tcp_List : (List UInt8) → Option ((List tcp_Opt) × Int)) (tcp_parsed : (List UInt8) → Int → Option tcp_Head) (s : List UInt8) (src : api_Addr) (dst : api_Addr) : Option (tcp_Head × (List UInt8) × Int) :=
  cond (decide ((s.length : Int) < 20))
    (
    some ((tcp_Head.mk 0 0 0 0 0 0 0 [], [], 2)))
    (
    (s[12]?).bind fun (b : UInt8) =>
    (s[12]?).bind fun (b1 : UInt8) =>
    let t := wI .i64 (4 * (wI .i64 ((b.toNat : Int).fdiv (2 ^ 4))))
    cond (decide (t < 20))
      (
      some ((tcp_Head.mk 0 0 0 0 0 0 0 [], [], 3)))
      (
      cond ((andI .u8 (b1.toNat : Int) 15) != 0)
        (
        some ((tcp_Head.mk 0 0 0 0 0 0 0 [], [], 3)))
        (
        cond (decide (t > (s.length : Int)))
          (
          some ((tcp_Head.mk 0 0 0 0 0 0 0 [], [], 2)))
          (
          (ipfour_Pseudo src dst 6 (s.length : Int)).bind fun p =>
          cond (p == [])
            (
            some ((tcp_Head.mk 0 0 0 0 0 0 0 [], [], 1)))
            (
            oreq (decide (p.length + s.length < 2 ^ 63)) <|
            (check_Right (p ++ s)).bind fun xr =>
            cond (!xr)
              (
              some ((tcp_Head.mk 0 0 0 0 0 0 0 [], [], 4)))
              (
              (tcp_parsed s t).bind fun p1 =>
              (tcp_List p1.Options).bind fun l =>
              cond (l.2 != 0)
                (
                some ((tcp_Head.mk 0 0 0 0 0 0 0 [], [], l.2)))
                (
                oreq (decide ((0 : Int) ≤ t ∧ t ≤ (s.length : Int))) <|
                let t1 := (s.drop t.toNat).take (s.length - t.toNat)
                some ((p1, t1, 0)))))))))
def rx81 (x : tcp_Head × (List UInt8) × Int) : SRes := ⟨.tuple ⟨[.agg ⟨[.int .i64 x.1.SPort, .int .i64 x.1.DPort, .int .u32 x.1.Seq, .int .u32 x.1.Ack, .int .i64 x.1.Flags, .int .i64 x.1.Window, .int .i64 x.1.Urgent, .string ⟨⟨x.1.Options⟩⟩]⟩, .string ⟨⟨x.2.1⟩⟩, .int .i64 x.2.2]⟩, [], []⟩
def r81 (g : (List UInt8) → api_Addr → api_Addr → Option (tcp_Head × (List UInt8) × Int)) : Dec := dV asS fun (y0 : List UInt8) => dV uvapi_Addr fun (y1 : api_Addr) => dV uvapi_Addr fun (y2 : api_Addr) => dEnd (ofG (g y0 y1 y2) rx81)
theorem r81_c {g : (List UInt8) → api_Addr → api_Addr → Option (tcp_Head × (List UInt8) × Int)} {y0 : List UInt8} {y1 : api_Addr} {y2 : api_Addr} {x : tcp_Head × (List UInt8) × Int} (hx : g y0 y1 y2 = some x) : r81 g [.string ⟨⟨y0⟩⟩, .agg ⟨[.bool y1.V6, .int .u64 y1.Hi, .int .u64 y1.Lo]⟩, .agg ⟨[.bool y2.V6, .int .u64 y2.Hi, .int .u64 y2.Lo]⟩] [] = some (rx81 x) := (dV_eq (asS_c)).trans ((dV_eq (uvapi_Addr_c _)).trans ((dV_eq (uvapi_Addr_c _)).trans (ofG_eq hx)))
def s81 (g : (List UInt8) → api_Addr → api_Addr → Option (tcp_Head × (List UInt8) × Int)) : Summ := ⟨[.v, .v, .v], r81 g⟩
theorem r81_eq {g : (List UInt8) → api_Addr → api_Addr → Option (tcp_Head × (List UInt8) × Int)} {y0 : List UInt8} {y1 : api_Addr} {y2 : api_Addr} {x : tcp_Head × (List UInt8) × Int} (hx : g y0 y1 y2 = some x) : (s81 g).run [.string ⟨⟨y0⟩⟩, .agg ⟨[.bool y1.V6, .int .u64 y1.Hi, .int .u64 y1.Lo]⟩, .agg ⟨[.bool y2.V6, .int .u64 y2.Hi, .int .u64 y2.Lo]⟩] [] = some (rx81 x) := r81_c hx
abbrev sums81 (check_Right : (List UInt8) → Option Bool) (ipfour_Pseudo : api_Addr → api_Addr → Int → Int → Option (List UInt8)) (tcp_List : (List UInt8) → Option ((List tcp_Opt) × Int)) (tcp_parsed : (List UInt8) → Int → Option tcp_Head) : List (Nat × Summ) := [(101, s101 check_Right), (46, s46 ipfour_Pseudo), (91, s91 tcp_List), (102, s102 tcp_parsed)]
theorem leads81 (check_Right : (List UInt8) → Option Bool) (ipfour_Pseudo : api_Addr → api_Addr → Int → Int → Option (List UInt8)) (tcp_List : (List UInt8) → Option ((List tcp_Opt) × Int)) (tcp_parsed : (List UInt8) → Int → Option tcp_Head) (hS : SumsOK Try.prog (aget (sums81 check_Right ipfour_Pseudo tcp_List tcp_parsed))) (s : List UInt8) (src : api_Addr) (dst : api_Addr) (res : tcp_Head × (List UInt8) × Int) (h : tcp_GetF check_Right ipfour_Pseudo tcp_List tcp_parsed s src dst = some res) :
    Leads Try.prog 81 0 ⟨⟨81, 76, [(0, .string ⟨⟨s⟩⟩), (1, .agg ⟨[.bool src.V6, .int .u64 src.Hi, .int .u64 src.Lo]⟩), (2, .agg ⟨[.bool dst.V6, .int .u64 dst.Hi, .int .u64 dst.Lo]⟩)], [.code k81_49], [], false, none⟩, [], [], 0⟩ (fun v H _ => Res 0 (rx81 res) v H) := by
  unfold tcp_GetF at h
  refine ev_ok tab_ok hS true 3000 ?_
  conv => whnf
  refine br.h h ?_ ?_ ?_
  · rfl
  · clear h; intro hb h; conv => whnf
    all_goals (cases h; exact Res.z rfl rfl rfl)
  clear h; intro hb h; conv => whnf
  replace h := obind.elim h; obtain ⟨b, hy, h⟩ := h
  refine rdS.intro hy ?_
  conv => whnf
  replace h := obind.elim h; obtain ⟨b1, hy, h⟩ := h
  refine rdS.intro hy ?_
  conv => whnf
  let t : Int := wI .i64 (4 * (wI .i64 ((b.toNat : Int).fdiv (2 ^ 4))))
  refine br.h h ?_ ?_ ?_
  · rfl
  · clear h; intro hb h; conv => whnf
    all_goals (cases h; exact Res.z rfl rfl rfl)
  clear h; intro hb h; conv => whnf
  refine br.h h ?_ ?_ ?_
  · rfl
  · clear h; intro hb h; conv => whnf
    all_goals (cases h; exact Res.z rfl rfl rfl)
  clear h; intro hb h; conv => whnf
  refine br.h h ?_ ?_ ?_
  · rfl
  · clear h; intro hb h; conv => whnf
    all_goals (cases h; exact Res.z rfl rfl rfl)
  clear h; intro hb h; conv => whnf
  replace h := obind.elim h; obtain ⟨p, hy, h⟩ := h
  refine sumK.q rfl rfl (r46_eq hy) rfl rfl rfl ?_
  conv => whnf
  refine br.h h ?_ ?_ ?_
  · rfl
  · clear h; intro hb h; conv => whnf
    all_goals (cases h; exact Res.z rfl rfl rfl)
  clear h; intro hb h; conv => whnf
  replace h := oreq.elim h; obtain ⟨hb, h⟩ := h
  first | (refine req.intro hb ?_; conv => whnf) | skip
  replace h := obind.elim h; obtain ⟨xr, hy, h⟩ := h
  refine sumK.q rfl rfl (r101_eq hy) rfl rfl rfl ?_
  conv => whnf
  refine br.h h ?_ ?_ ?_
  · rfl
  · clear h; intro hb h; conv => whnf
    all_goals (cases h; exact Res.z rfl rfl rfl)
  clear h; intro hb h; conv => whnf
  replace h := obind.elim h; obtain ⟨p1, hy, h⟩ := h
  refine sumK.q rfl rfl (r102_eq hy) rfl rfl rfl ?_
  conv => whnf
  replace h := obind.elim h; obtain ⟨l, hy, h⟩ := h
  refine sumK.introF [] (sumRun_of (aqs := [.string ⟨⟨p1.Options⟩⟩]) (ws := []) (n := 1) (m := 0) (t' := 13) (ra_cons rfl rfl ra_nil) rfl (by rfl) (r91_eq hy) rfl rfl rfl rfl wb_nil (an_cons (rn_T ctcp_Opt_flat) an_nil) rfl) ?_
  conv => whnf
  refine br.h h ?_ ?_ ?_
  · rfl
  · clear h; intro hb h; conv => whnf
    all_goals (cases h; exact Res.z rfl rfl rfl)
  clear h; intro hb h; conv => whnf
  replace h := oreq.elim h; obtain ⟨hb, h⟩ := h
  first | (refine req.intro hb ?_; conv => whnf) | skip
  let t1 : List UInt8 := (s.drop t.toNat).take (s.length - t.toNat)
  all_goals (cases h; exact Res.z rfl rfl rfl)
theorem ok81 (check_Right : (List UInt8) → Option Bool) (ipfour_Pseudo : api_Addr → api_Addr → Int → Int → Option (List UInt8)) (tcp_List : (List UInt8) → Option ((List tcp_Opt) × Int)) (tcp_parsed : (List UInt8) → Int → Option tcp_Head) (hS : SumsOK Try.prog (aget (sums81 check_Right ipfour_Pseudo tcp_List tcp_parsed))) : SumOK Try.prog 81 (s81 (tcp_GetF check_Right ipfour_Pseudo tcp_List tcp_parsed)) := by
  refine SumOK.of_leads tab_ok (fun ar os r ha hr => ?_) ⟨Try.f81, rfl, by decide, rfl⟩
  replace hr : r81 (tcp_GetF check_Right ipfour_Pseudo tcp_List tcp_parsed) ar (conts os) = some r := hr
  unfold r81 at hr
  generalize hc : conts os = C at hr
  replace hr := dV.elim hr; obtain ⟨v0, l1, y0, rfl, e0, hr⟩ := hr; obtain rfl := asS_eq _ _ e0
  replace hr := dV.elim hr; obtain ⟨v1, l2, y1, rfl, e1, hr⟩ := hr; obtain rfl := uvapi_Addr_eq _ _ e1
  replace hr := dV.elim hr; obtain ⟨v2, l3, y2, rfl, e2, hr⟩ := hr; obtain rfl := uvapi_Addr_eq _ _ e2
  replace hr := dFin hr; obtain ⟨rfl, rfl, x, h, rfl⟩ := hr
  obtain rfl := kinds_nil hc
  exact ⟨_, rfl, leads81 check_Right ipfour_Pseudo tcp_List tcp_parsed hS _ _ _ x h⟩
def tcp_Get : (List UInt8) → api_Addr → api_Addr → Option (tcp_Head × (List UInt8) × Int) := tcp_GetF check_Right ipfour_Pseudo tcp_List tcp_parsed
theorem lift81 : SumOK Try.prog 81 (s81 tcp_Get) := ok81 check_Right ipfour_Pseudo tcp_List tcp_parsed (SumsOK.of_tab ⟨lift101, lift46, lift91, lift102, trivial⟩)
def packet_outer_segmentF (tcp_Get : (List UInt8) → api_Addr → api_Addr → Option (tcp_Head × (List UInt8) × Int)) (tcp_Stamp : (List UInt8) → Option (Int × Int × Int)) (oa0 : packet_outer) (p : api_Packet) : Option (Int × Int × api_Packet) :=
  (tcp_Get oa0.body oa0.src oa0.dst).bind fun xg =>
  cond (xg.2.2 != 0)
    (
    some ((0, xg.2.2, p)))
    (
    (tcp_Stamp xg.1.Options).bind fun s =>
    cond (decide (s.2.2 ≥ 0))
      (
      some (((xg.2.1.length : Int), 0, api_Packet.mk (api_Tuple.mk p.Tuple.Proto p.Tuple.Src p.Tuple.Dst xg.1.SPort xg.1.DPort) xg.1.Flags true s.1 s.2.1 p.Long p.CID p.Size)))
      (
      some (((xg.2.1.length : Int), 0, api_Packet.mk (api_Tuple.mk p.Tuple.Proto p.Tuple.Src p.Tuple.Dst xg.1.SPort xg.1.DPort) xg.1.Flags p.Stamped p.Val p.Echo p.Long p.CID p.Size))))
def rx54 (x : Int × Int × api_Packet) : SRes := ⟨.tuple ⟨[.int .i64 x.1, .int .i64 x.2.1]⟩, [], [some [.int .i64 x.2.2.Tuple.Proto, .bool x.2.2.Tuple.Src.V6, .int .u64 x.2.2.Tuple.Src.Hi, .int .u64 x.2.2.Tuple.Src.Lo, .bool x.2.2.Tuple.Dst.V6, .int .u64 x.2.2.Tuple.Dst.Hi, .int .u64 x.2.2.Tuple.Dst.Lo, .int .i64 x.2.2.Tuple.SPort, .int .i64 x.2.2.Tuple.DPort, .int .i64 x.2.2.Flags, .bool x.2.2.Stamped, .int .u32 x.2.2.Val, .int .u32 x.2.2.Echo, .bool x.2.2.Long, .string ⟨⟨x.2.2.CID⟩⟩, .int .i64 x.2.2.Size]]⟩
def r54 (g : packet_outer → api_Packet → Option (Int × Int × api_Packet)) : Dec := dV uvpacket_outer fun (y0 : packet_outer) => dPt 0 unapi_Packet fun (y1 : api_Packet) => dEnd (ofG (g y0 y1) rx54)
theorem r54_c {g : packet_outer → api_Packet → Option (Int × Int × api_Packet)} {y0 : packet_outer} {y1 : api_Packet} {x : Int × Int × api_Packet} (hx : g y0 y1 = some x) : r54 g [.agg ⟨[.bool y0.src.V6, .int .u64 y0.src.Hi, .int .u64 y0.src.Lo, .bool y0.dst.V6, .int .u64 y0.dst.Hi, .int .u64 y0.dst.Lo, .int .i64 y0.proto, .string ⟨⟨y0.body⟩⟩]⟩, .pointer (some ⟨0, 0, none⟩)] [some [.int .i64 y1.Tuple.Proto, .bool y1.Tuple.Src.V6, .int .u64 y1.Tuple.Src.Hi, .int .u64 y1.Tuple.Src.Lo, .bool y1.Tuple.Dst.V6, .int .u64 y1.Tuple.Dst.Hi, .int .u64 y1.Tuple.Dst.Lo, .int .i64 y1.Tuple.SPort, .int .i64 y1.Tuple.DPort, .int .i64 y1.Flags, .bool y1.Stamped, .int .u32 y1.Val, .int .u32 y1.Echo, .bool y1.Long, .string ⟨⟨y1.CID⟩⟩, .int .i64 y1.Size]] = some (rx54 x) := (dV_eq (uvpacket_outer_c _)).trans ((dPt_eq (unapi_Packet_c _)).trans (ofG_eq hx))
def s54 (g : packet_outer → api_Packet → Option (Int × Int × api_Packet)) : Summ := ⟨[.v, .pt 16], r54 g⟩
theorem r54_eq {g : packet_outer → api_Packet → Option (Int × Int × api_Packet)} {y0 : packet_outer} {y1 : api_Packet} {x : Int × Int × api_Packet} (hx : g y0 y1 = some x) : (s54 g).run [.agg ⟨[.bool y0.src.V6, .int .u64 y0.src.Hi, .int .u64 y0.src.Lo, .bool y0.dst.V6, .int .u64 y0.dst.Hi, .int .u64 y0.dst.Lo, .int .i64 y0.proto, .string ⟨⟨y0.body⟩⟩]⟩, .pointer (some ⟨0, 0, none⟩)] [some [.int .i64 y1.Tuple.Proto, .bool y1.Tuple.Src.V6, .int .u64 y1.Tuple.Src.Hi, .int .u64 y1.Tuple.Src.Lo, .bool y1.Tuple.Dst.V6, .int .u64 y1.Tuple.Dst.Hi, .int .u64 y1.Tuple.Dst.Lo, .int .i64 y1.Tuple.SPort, .int .i64 y1.Tuple.DPort, .int .i64 y1.Flags, .bool y1.Stamped, .int .u32 y1.Val, .int .u32 y1.Echo, .bool y1.Long, .string ⟨⟨y1.CID⟩⟩, .int .i64 y1.Size]] = some (rx54 x) := r54_c hx
abbrev sums54 (tcp_Get : (List UInt8) → api_Addr → api_Addr → Option (tcp_Head × (List UInt8) × Int)) (tcp_Stamp : (List UInt8) → Option (Int × Int × Int)) : List (Nat × Summ) := [(81, s81 tcp_Get), (64, s64 tcp_Stamp)]
theorem leads54 (tcp_Get : (List UInt8) → api_Addr → api_Addr → Option (tcp_Head × (List UInt8) × Int)) (tcp_Stamp : (List UInt8) → Option (Int × Int × Int)) (hS : SumsOK Try.prog (aget (sums54 tcp_Get tcp_Stamp))) (oa0 : packet_outer) (p : api_Packet) (res : Int × Int × api_Packet) (h : packet_outer_segmentF tcp_Get tcp_Stamp oa0 p = some res) :
    Leads Try.prog 54 1 ⟨⟨54, 65, [(0, .agg ⟨[.bool oa0.src.V6, .int .u64 oa0.src.Hi, .int .u64 oa0.src.Lo, .bool oa0.dst.V6, .int .u64 oa0.dst.Hi, .int .u64 oa0.dst.Lo, .int .i64 oa0.proto, .string ⟨⟨oa0.body⟩⟩]⟩), (1, .pointer (some ⟨0, 0, none⟩))], [.code k54_20], [], false, none⟩, [], [(0, .cells [.int .i64 p.Tuple.Proto, .bool p.Tuple.Src.V6, .int .u64 p.Tuple.Src.Hi, .int .u64 p.Tuple.Src.Lo, .bool p.Tuple.Dst.V6, .int .u64 p.Tuple.Dst.Hi, .int .u64 p.Tuple.Dst.Lo, .int .i64 p.Tuple.SPort, .int .i64 p.Tuple.DPort, .int .i64 p.Flags, .bool p.Stamped, .int .u32 p.Val, .int .u32 p.Echo, .bool p.Long, .string ⟨⟨p.CID⟩⟩, .int .i64 p.Size])], 1⟩ (fun v H _ => Res 1 (rx54 res) v H) := by
  unfold packet_outer_segmentF at h
  refine ev_ok tab_ok hS true 3000 ?_
  conv => whnf
  replace h := obind.elim h; obtain ⟨xg, hy, h⟩ := h
  refine sumK.q rfl rfl (r81_eq hy) rfl rfl rfl ?_
  conv => whnf
  refine br.h h ?_ ?_ ?_
  · rfl
  · clear h; intro hb h; conv => whnf
    all_goals (cases h)
    all_goals exact Res.of [] rfl nw_0 (by decide) js_0 (wr_s (rfl) (hs_cells rfl) wr_0)
  clear h; intro hb h; conv => whnf
  replace h := obind.elim h; obtain ⟨s, hy, h⟩ := h
  refine sumK.q rfl rfl (r64_eq hy) rfl rfl rfl ?_
  conv => whnf
  refine br.h h ?_ ?_ ?_
  · rfl
  · clear h; intro hb h; conv => whnf
    all_goals (cases h)
    all_goals exact Res.of [] rfl nw_0 (by decide) js_0 (wr_s (rfl) (hs_cells rfl) wr_0)
  clear h; intro hb h; conv => whnf
  all_goals (cases h)
  all_goals exact Res.of [] rfl nw_0 (by decide) js_0 (wr_s (rfl) (hs_cells rfl) wr_0)
theorem ok54 (tcp_Get : (List UInt8) → api_Addr → api_Addr → Option (tcp_Head × (List UInt8) × Int)) (tcp_Stamp : (List UInt8) → Option (Int × Int × Int)) (hS : SumsOK Try.prog (aget (sums54 tcp_Get tcp_Stamp))) : SumOK Try.prog 54 (s54 (packet_outer_segmentF tcp_Get tcp_Stamp)) := by
  refine SumOK.of_leads tab_ok (fun ar os r ha hr => ?_) ⟨Try.f54, rfl, by decide, rfl⟩
  replace hr : r54 (packet_outer_segmentF tcp_Get tcp_Stamp) ar (conts os) = some r := hr
  unfold r54 at hr
  generalize hc : conts os = C at hr
  replace hr := dV.elim hr; obtain ⟨v0, l1, y0, rfl, e0, hr⟩ := hr; obtain rfl := uvpacket_outer_eq _ _ e0
  have hq := dPt.elim hr; clear hr; obtain ⟨c1, l2, C, y1, rfl, rfl, e1, hr⟩ := hq; obtain rfl := unapi_Packet_eq _ _ e1
  replace hr := dFin hr; obtain ⟨rfl, rfl, x, h, rfl⟩ := hr
  obtain ⟨os, rfl, ha, hc⟩ := kinds_some ha hc
  obtain rfl := kinds_nil hc
  exact ⟨_, rfl, leads54 tcp_Get tcp_Stamp hS _ _ x h⟩
def packet_outer_segment : packet_outer → api_Packet → Option (Int × Int × api_Packet) := packet_outer_segmentF tcp_Get tcp_Stamp
theorem lift54 : SumOK Try.prog 54 (s54 packet_outer_segment) := ok54 tcp_Get tcp_Stamp (SumsOK.of_tab ⟨lift81, lift64, trivial⟩)
def udp_GetF (check_Right : (List UInt8) → Option Bool) (ipfour_Pseudo : api_Addr → api_Addr → Int → Int → Option (List UInt8)) (octet_New : (List UInt8) → Option octet_Reader) (octet_Reader_Bad : octet_Reader → Option (Bool × octet_Reader)) (octet_Reader_Num : octet_Reader → Int → Option (Int × octet_Reader)) (s : List UInt8) (src : api_Addr) (dst : api_Addr) : Option (udp_Head × (List UInt8) × Int) :=
  (octet_New s).bind fun n =>
  (octet_Reader_Num n 2).bind fun n1 =>
  (octet_Reader_Num n1.2 2).bind fun n2 =>
  (octet_Reader_Num n2.2 2).bind fun n3 =>
  (octet_Reader_Num n3.2 2).bind fun n4 =>
  (octet_Reader_Bad n4.2).bind fun b =>
  cond (b.1)
    (
    some ((udp_Head.mk 0 0, [], 2)))
    (
    cond (decide (n3.1 < 8))
      (
      some ((udp_Head.mk 0 0, [], 3)))
      (
      cond (decide (n3.1 > (s.length : Int)))
        (
        some ((udp_Head.mk 0 0, [], 2)))
        (
        (ipfour_Pseudo src dst 17 n3.1).bind fun p =>
        cond (p == [])
          (
          some ((udp_Head.mk 0 0, [], 1)))
          (
          cond (n4.1 == 0)
            (
            cond (src.V6)
              (
              some ((udp_Head.mk 0 0, [], 4)))
              (
              cond (n4.1 != 0)
                (
                oreq (decide ((0 : Int) ≤ n3.1 ∧ n3.1 ≤ (s.length : Int))) <|
                oreq (decide (p.length + (s.take n3.1.toNat).length < 2 ^ 63)) <|
                (check_Right (p ++ (s.take n3.1.toNat))).bind fun xr =>
                cond (!xr)
                  (
                  some ((udp_Head.mk 0 0, [], 4)))
                  (
                  oreq (decide ((0 : Int) ≤ n3.1 ∧ n3.1 ≤ (s.length : Int) ∧ (0 : Int) ≤ (8 : Int) ∧ (8 : Int) ≤ (n3.1.toNat : Int))) <|
                  some ((udp_Head.mk n1.1 n2.1, (s.drop 8).take (n3.1.toNat - 8), 0))))
                (
                oreq (decide ((0 : Int) ≤ n3.1 ∧ n3.1 ≤ (s.length : Int) ∧ (0 : Int) ≤ (8 : Int) ∧ (8 : Int) ≤ (n3.1.toNat : Int))) <|
                some ((udp_Head.mk n1.1 n2.1, (s.drop 8).take (n3.1.toNat - 8), 0)))))
            (
            cond (n4.1 != 0)
              (
              oreq (decide ((0 : Int) ≤ n3.1 ∧ n3.1 ≤ (s.length : Int))) <|
              oreq (decide (p.length + (s.take n3.1.toNat).length < 2 ^ 63)) <|
              (check_Right (p ++ (s.take n3.1.toNat))).bind fun xr1 =>
              cond (!xr1)
                (
                some ((udp_Head.mk 0 0, [], 4)))
                (
                oreq (decide ((0 : Int) ≤ n3.1 ∧ n3.1 ≤ (s.length : Int) ∧ (0 : Int) ≤ (8 : Int) ∧ (8 : Int) ≤ (n3.1.toNat : Int))) <|
                some ((udp_Head.mk n1.1 n2.1, (s.drop 8).take (n3.1.toNat - 8), 0))))
              (
              oreq (decide ((0 : Int) ≤ n3.1 ∧ n3.1 ≤ (s.length : Int) ∧ (0 : Int) ≤ (8 : Int) ∧ (8 : Int) ≤ (n3.1.toNat : Int))) <|
              some ((udp_Head.mk n1.1 n2.1, (s.drop 8).take (n3.1.toNat - 8), 0))))))))
def rx82 (x : udp_Head × (List UInt8) × Int) : SRes := ⟨.tuple ⟨[.agg ⟨[.int .i64 x.1.SPort, .int .i64 x.1.DPort]⟩, .string ⟨⟨x.2.1⟩⟩, .int .i64 x.2.2]⟩, [], []⟩
def r82 (g : (List UInt8) → api_Addr → api_Addr → Option (udp_Head × (List UInt8) × Int)) : Dec := dV asS fun (y0 : List UInt8) => dV uvapi_Addr fun (y1 : api_Addr) => dV uvapi_Addr fun (y2 : api_Addr) => dEnd (ofG (g y0 y1 y2) rx82)
theorem r82_c {g : (List UInt8) → api_Addr → api_Addr → Option (udp_Head × (List UInt8) × Int)} {y0 : List UInt8} {y1 : api_Addr} {y2 : api_Addr} {x : udp_Head × (List UInt8) × Int} (hx : g y0 y1 y2 = some x) : r82 g [.string ⟨⟨y0⟩⟩, .agg ⟨[.bool y1.V6, .int .u64 y1.Hi, .int .u64 y1.Lo]⟩, .agg ⟨[.bool y2.V6, .int .u64 y2.Hi, .int .u64 y2.Lo]⟩] [] = some (rx82 x) := (dV_eq (asS_c)).trans ((dV_eq (uvapi_Addr_c _)).trans ((dV_eq (uvapi_Addr_c _)).trans (ofG_eq hx)))
def s82 (g : (List UInt8) → api_Addr → api_Addr → Option (udp_Head × (List UInt8) × Int)) : Summ := ⟨[.v, .v, .v], r82 g⟩
theorem r82_eq {g : (List UInt8) → api_Addr → api_Addr → Option (udp_Head × (List UInt8) × Int)} {y0 : List UInt8} {y1 : api_Addr} {y2 : api_Addr} {x : udp_Head × (List UInt8) × Int} (hx : g y0 y1 y2 = some x) : (s82 g).run [.string ⟨⟨y0⟩⟩, .agg ⟨[.bool y1.V6, .int .u64 y1.Hi, .int .u64 y1.Lo]⟩, .agg ⟨[.bool y2.V6, .int .u64 y2.Hi, .int .u64 y2.Lo]⟩] [] = some (rx82 x) := r82_c hx
abbrev sums82 (check_Right : (List UInt8) → Option Bool) (ipfour_Pseudo : api_Addr → api_Addr → Int → Int → Option (List UInt8)) (octet_New : (List UInt8) → Option octet_Reader) (octet_Reader_Bad : octet_Reader → Option (Bool × octet_Reader)) (octet_Reader_Num : octet_Reader → Int → Option (Int × octet_Reader)) : List (Nat × Summ) := [(101, s101 check_Right), (46, s46 ipfour_Pseudo), (103, s103 octet_New), (105, s105 octet_Reader_Bad), (104, s104 octet_Reader_Num)]
theorem leads82 (check_Right : (List UInt8) → Option Bool) (ipfour_Pseudo : api_Addr → api_Addr → Int → Int → Option (List UInt8)) (octet_New : (List UInt8) → Option octet_Reader) (octet_Reader_Bad : octet_Reader → Option (Bool × octet_Reader)) (octet_Reader_Num : octet_Reader → Int → Option (Int × octet_Reader)) (hS : SumsOK Try.prog (aget (sums82 check_Right ipfour_Pseudo octet_New octet_Reader_Bad octet_Reader_Num))) (s : List UInt8) (src : api_Addr) (dst : api_Addr) (res : udp_Head × (List UInt8) × Int) (h : udp_GetF check_Right ipfour_Pseudo octet_New octet_Reader_Bad octet_Reader_Num s src dst = some res) :
    Leads Try.prog 82 0 ⟨⟨82, 70, [(0, .string ⟨⟨s⟩⟩), (1, .agg ⟨[.bool src.V6, .int .u64 src.Hi, .int .u64 src.Lo]⟩), (2, .agg ⟨[.bool dst.V6, .int .u64 dst.Hi, .int .u64 dst.Lo]⟩)], [.code k82_43], [], false, none⟩, [], [], 0⟩ (fun v H _ => Res 0 (rx82 res) v H) := by
  unfold udp_GetF at h
  refine ev_ok tab_ok hS true 3000 ?_
  conv => whnf
  replace h := obind.elim h; obtain ⟨n, hy, h⟩ := h
  refine sumK.introF [3] (sumRun_of (aqs := [.string ⟨⟨s⟩⟩]) (ws := []) (n := 1) (m := 0) (t' := 4) (ra_cons rfl rfl ra_nil) rfl (by rfl) (r103_eq hy) rfl rfl rfl rfl wb_nil (an_cons (rfl) an_nil) rfl) ?_
  conv => whnf
  replace h := obind.elim h; obtain ⟨n1, hy, h⟩ := h
  refine sumK.introF [3] (sumRun_of (aqs := [.pointer (some ⟨0, 0, none⟩), .int .i64 2]) (ws := [.win 3 0 3 true]) (n := 0) (m := 0) (t' := 4) (ra_cons rfl rfl (ra_cons rfl rfl ra_nil)) rfl (by rfl) (r104_eq hy) rfl rfl rfl rfl (wb_win rfl rfl rfl ⟨rfl, Nat.le_of_ble_eq_true rfl⟩ rfl rfl wb_nil) an_nil rfl) ?_
  conv => whnf
  replace h := obind.elim h; obtain ⟨n2, hy, h⟩ := h
  refine sumK.introF [3] (sumRun_of (aqs := [.pointer (some ⟨0, 0, none⟩), .int .i64 2]) (ws := [.win 3 0 3 true]) (n := 0) (m := 0) (t' := 4) (ra_cons rfl rfl (ra_cons rfl rfl ra_nil)) rfl (by rfl) (r104_eq hy) rfl rfl rfl rfl (wb_win rfl rfl rfl ⟨rfl, Nat.le_of_ble_eq_true rfl⟩ rfl rfl wb_nil) an_nil rfl) ?_
  conv => whnf
  replace h := obind.elim h; obtain ⟨n3, hy, h⟩ := h
  refine sumK.introF [3] (sumRun_of (aqs := [.pointer (some ⟨0, 0, none⟩), .int .i64 2]) (ws := [.win 3 0 3 true]) (n := 0) (m := 0) (t' := 5) (ra_cons rfl rfl (ra_cons rfl rfl ra_nil)) rfl (by rfl) (r104_eq hy) rfl rfl rfl rfl (wb_win rfl rfl rfl ⟨rfl, Nat.le_of_ble_eq_true rfl⟩ rfl rfl wb_nil) an_nil rfl) ?_
  conv => whnf
  replace h := obind.elim h; obtain ⟨n4, hy, h⟩ := h
  refine sumK.introF [3] (sumRun_of (aqs := [.pointer (some ⟨0, 0, none⟩), .int .i64 2]) (ws := [.win 3 0 3 true]) (n := 0) (m := 0) (t' := 5) (ra_cons rfl rfl (ra_cons rfl rfl ra_nil)) rfl (by rfl) (r104_eq hy) rfl rfl rfl rfl (wb_win rfl rfl rfl ⟨rfl, Nat.le_of_ble_eq_true rfl⟩ rfl rfl wb_nil) an_nil rfl) ?_
  conv => whnf
  replace h := obind.elim h; obtain ⟨b, hy, h⟩ := h
  refine sumK.introF [3] (sumRun_of (aqs := [.pointer (some ⟨0, 0, none⟩)]) (ws := [.win 3 0 3 true]) (n := 0) (m := 0) (t' := 5) (ra_cons rfl rfl ra_nil) rfl (by rfl) (r105_eq hy) rfl rfl rfl rfl (wb_win rfl rfl rfl ⟨rfl, Nat.le_of_ble_eq_true rfl⟩ rfl rfl wb_nil) an_nil rfl) ?_
  conv => whnf
  refine br.h h ?_ ?_ ?_
  · rfl
  · clear h; intro hb h; conv => whnf
    all_goals (cases h; exact Res.z rfl rfl rfl)
  clear h; intro hb h; conv => whnf
  refine br.h h ?_ ?_ ?_
  · rfl
  · clear h; intro hb h; conv => whnf
    all_goals (cases h; exact Res.z rfl rfl rfl)
  clear h; intro hb h; conv => whnf
  refine br.h h ?_ ?_ ?_
  · rfl
  · clear h; intro hb h; conv => whnf
    all_goals (cases h; exact Res.z rfl rfl rfl)
  clear h; intro hb h; conv => whnf
  replace h := obind.elim h; obtain ⟨p, hy, h⟩ := h
  refine sumK.q rfl rfl (r46_eq hy) rfl rfl rfl ?_
  conv => whnf
  refine br.h h ?_ ?_ ?_
  · rfl
  · clear h; intro hb h; conv => whnf
    all_goals (cases h; exact Res.z rfl rfl rfl)
  clear h; intro hb h; conv => whnf
  refine br.h2 h ?_ ?_ ?_
  · rfl
  · clear h; intro hb h; conv => whnf
    refine br.h2 h ?_ ?_ ?_
    · rfl
    · clear h; intro hb h; conv => whnf
      replace h := oreq.elim h; obtain ⟨hb, h⟩ := h
      first | (refine req.intro hb ?_; conv => whnf) | skip
      all_goals (cases h; exact Res.z rfl rfl rfl)
    clear h; intro hb h; conv => whnf
    replace h := oreq.elim h; obtain ⟨hb, h⟩ := h
    first | (refine req.intro hb ?_; conv => whnf) | skip
    replace h := oreq.elim h; obtain ⟨hb, h⟩ := h
    first | (refine req.intro hb ?_; conv => whnf) | skip
    replace h := obind.elim h; obtain ⟨xr1, hy, h⟩ := h
    refine sumK.q rfl rfl (r101_eq hy) rfl rfl rfl ?_
    conv => whnf
    refine br.h h ?_ ?_ ?_
    · rfl
    · clear h; intro hb h; conv => whnf
      all_goals (cases h; exact Res.z rfl rfl rfl)
    clear h; intro hb h; conv => whnf
    replace h := oreq.elim h; obtain ⟨hb, h⟩ := h
    first | (refine req.intro hb ?_; conv => whnf) | skip
    all_goals (cases h; exact Res.z rfl rfl rfl)
  clear h; intro hb h; conv => whnf
  refine br.h h ?_ ?_ ?_
  · rfl
  · clear h; intro hb h; conv => whnf
    refine br.pos ?_ ?_; (focus (clear h; first | assumption | (simp_all; done)))
    conv => whnf
    all_goals (cases h; exact Res.z rfl rfl rfl)
  clear h; intro hb h; conv => whnf
  refine br.h2 h ?_ ?_ ?_
  · rfl
  · clear h; intro hb h; conv => whnf
    replace h := oreq.elim h; obtain ⟨hb, h⟩ := h
    first | (refine req.intro hb ?_; conv => whnf) | skip
    all_goals (cases h; exact Res.z rfl rfl rfl)
  clear h; intro hb h; conv => whnf
  replace h := oreq.elim h; obtain ⟨hb, h⟩ := h
  first | (refine req.intro hb ?_; conv => whnf) | skip
  replace h := oreq.elim h; obtain ⟨hb, h⟩ := h
  first | (refine req.intro hb ?_; conv => whnf) | skip
  replace h := obind.elim h; obtain ⟨xr, hy, h⟩ := h
  refine sumK.q rfl rfl (r101_eq hy) rfl rfl rfl ?_
  conv => whnf
  refine br.h h ?_ ?_ ?_
  · rfl
  · clear h; intro hb h; conv => whnf
    all_goals (cases h; exact Res.z rfl rfl rfl)
  clear h; intro hb h; conv => whnf
  replace h := oreq.elim h; obtain ⟨hb, h⟩ := h
  first | (refine req.intro hb ?_; conv => whnf) | skip
  all_goals (cases h; exact Res.z rfl rfl rfl)
theorem ok82 (check_Right : (List UInt8) → Option Bool) (ipfour_Pseudo : api_Addr → api_Addr → Int → Int → Option (List UInt8)) (octet_New : (List UInt8) → Option octet_Reader) (octet_Reader_Bad : octet_Reader → Option (Bool × octet_Reader)) (octet_Reader_Num : octet_Reader → Int → Option (Int × octet_Reader)) (hS : SumsOK Try.prog (aget (sums82 check_Right ipfour_Pseudo octet_New octet_Reader_Bad octet_Reader_Num))) : SumOK Try.prog 82 (s82 (udp_GetF check_Right ipfour_Pseudo octet_New octet_Reader_Bad octet_Reader_Num)) := by
  refine SumOK.of_leads tab_ok (fun ar os r ha hr => ?_) ⟨Try.f82, rfl, by decide, rfl⟩
  replace hr : r82 (udp_GetF check_Right ipfour_Pseudo octet_New octet_Reader_Bad octet_Reader_Num) ar (conts os) = some r := hr
  unfold r82 at hr
  generalize hc : conts os = C at hr
  replace hr := dV.elim hr; obtain ⟨v0, l1, y0, rfl, e0, hr⟩ := hr; obtain rfl := asS_eq _ _ e0
  replace hr := dV.elim hr; obtain ⟨v1, l2, y1, rfl, e1, hr⟩ := hr; obtain rfl := uvapi_Addr_eq _ _ e1
  replace hr := dV.elim hr; obtain ⟨v2, l3, y2, rfl, e2, hr⟩ := hr; obtain rfl := uvapi_Addr_eq _ _ e2
  replace hr := dFin hr; obtain ⟨rfl, rfl, x, h, rfl⟩ := hr
  obtain rfl := kinds_nil hc
  exact ⟨_, rfl, leads82 check_Right ipfour_Pseudo octet_New octet_Reader_Bad octet_Reader_Num hS _ _ _ x h⟩
def udp_Get : (List UInt8) → api_Addr → api_Addr → Option (udp_Head × (List UInt8) × Int) := udp_GetF check_Right ipfour_Pseudo octet_New octet_Reader_Bad octet_Reader_Num
theorem lift82 : SumOK Try.prog 82 (s82 udp_Get) := ok82 check_Right ipfour_Pseudo octet_New octet_Reader_Bad octet_Reader_Num (SumsOK.of_tab ⟨lift101, lift46, lift103, lift105, lift104, trivial⟩)
def octet_Reader_RestF (octet_Reader_Bad : octet_Reader → Option (Bool × octet_Reader)) (octet_Reader_Text : octet_Reader → Int → Option ((List UInt8) × octet_Reader)) (ra0 : octet_Reader) : Option ((List UInt8) × octet_Reader) :=
  (octet_Reader_Bad ra0).bind fun b =>
  cond (b.1)
    (
    some (([], b.2)))
    (
    (octet_Reader_Text b.2 (b.2.s.length : Int)).bind fun t =>
    some ((t.1, t.2)))
def rx107 (x : (List UInt8) × octet_Reader) : SRes := ⟨.string ⟨⟨x.1⟩⟩, [], [some [.string ⟨⟨x.2.s⟩⟩, .bool x.2.made, .bool x.2.bad]]⟩
def r107 (g : octet_Reader → Option ((List UInt8) × octet_Reader)) : Dec := dPt 0 unoctet_Reader fun (y0 : octet_Reader) => dEnd (ofG (g y0) rx107)
theorem r107_c {g : octet_Reader → Option ((List UInt8) × octet_Reader)} {y0 : octet_Reader} {x : (List UInt8) × octet_Reader} (hx : g y0 = some x) : r107 g [.pointer (some ⟨0, 0, none⟩)] [some [.string ⟨⟨y0.s⟩⟩, .bool y0.made, .bool y0.bad]] = some (rx107 x) := (dPt_eq (unoctet_Reader_c _)).trans (ofG_eq hx)
def s107 (g : octet_Reader → Option ((List UInt8) × octet_Reader)) : Summ := ⟨[.pt 3], r107 g⟩
theorem r107_eq {g : octet_Reader → Option ((List UInt8) × octet_Reader)} {y0 : octet_Reader} {x : (List UInt8) × octet_Reader} (hx : g y0 = some x) : (s107 g).run [.pointer (some ⟨0, 0, none⟩)] [some [.string ⟨⟨y0.s⟩⟩, .bool y0.made, .bool y0.bad]] = some (rx107 x) := r107_c hx
abbrev sums107 (octet_Reader_Bad : octet_Reader → Option (Bool × octet_Reader)) (octet_Reader_Text : octet_Reader → Int → Option ((List UInt8) × octet_Reader)) : List (Nat × Summ) := [(105, s105 octet_Reader_Bad), (106, s106 octet_Reader_Text)]
theorem leads107 (octet_Reader_Bad : octet_Reader → Option (Bool × octet_Reader)) (octet_Reader_Text : octet_Reader → Int → Option ((List UInt8) × octet_Reader)) (hS : SumsOK Try.prog (aget (sums107 octet_Reader_Bad octet_Reader_Text))) (ra0 : octet_Reader) (res : (List UInt8) × octet_Reader) (h : octet_Reader_RestF octet_Reader_Bad octet_Reader_Text ra0 = some res) :
    Leads Try.prog 107 1 ⟨⟨107, 12, [(0, .pointer (some ⟨0, 0, none⟩))], [.code k107_9], [], false, none⟩, [], [(0, .cells [.string ⟨⟨ra0.s⟩⟩, .bool ra0.made, .bool ra0.bad])], 1⟩ (fun v H _ => Res 1 (rx107 res) v H) := by
  unfold octet_Reader_RestF at h
  refine ev_ok tab_ok hS true 3000 ?_
  conv => whnf
  replace h := obind.elim h; obtain ⟨b, hy, h⟩ := h
  refine sumK.introF [0] (sumRun_of (aqs := [.pointer (some ⟨0, 0, none⟩)]) (ws := [.win 0 0 3 true]) (n := 0) (m := 0) (t' := 1) (ra_cons rfl rfl ra_nil) rfl (by rfl) (r105_eq hy) rfl rfl rfl rfl (wb_win rfl rfl rfl ⟨rfl, Nat.le_of_ble_eq_true rfl⟩ rfl rfl wb_nil) an_nil rfl) ?_
  conv => whnf
  refine br.h h ?_ ?_ ?_
  · rfl
  · clear h; intro hb h; conv => whnf
    all_goals (cases h)
    all_goals exact Res.of [] rfl nw_0 (by decide) js_0 (wr_s (rfl) (hs_cells rfl) wr_0)
  clear h; intro hb h; conv => whnf
  replace h := obind.elim h; obtain ⟨t, hy, h⟩ := h
  refine sumK.introF [0] (sumRun_of (aqs := [.pointer (some ⟨0, 0, none⟩), .int .i64 (b.2.s.length : Int)]) (ws := [.win 0 0 3 true]) (n := 0) (m := 0) (t' := 1) (ra_cons rfl rfl (ra_cons rfl rfl ra_nil)) rfl (by rfl) (r106_eq hy) rfl rfl rfl rfl (wb_win rfl rfl rfl ⟨rfl, Nat.le_of_ble_eq_true rfl⟩ rfl rfl wb_nil) an_nil rfl) ?_
  conv => whnf
  all_goals (cases h)
  all_goals exact Res.of [] rfl nw_0 (by decide) js_0 (wr_s (rfl) (hs_cells rfl) wr_0)
theorem ok107 (octet_Reader_Bad : octet_Reader → Option (Bool × octet_Reader)) (octet_Reader_Text : octet_Reader → Int → Option ((List UInt8) × octet_Reader)) (hS : SumsOK Try.prog (aget (sums107 octet_Reader_Bad octet_Reader_Text))) : SumOK Try.prog 107 (s107 (octet_Reader_RestF octet_Reader_Bad octet_Reader_Text)) := by
  refine SumOK.of_leads tab_ok (fun ar os r ha hr => ?_) ⟨Try.f107, rfl, by decide, rfl⟩
  replace hr : r107 (octet_Reader_RestF octet_Reader_Bad octet_Reader_Text) ar (conts os) = some r := hr
  unfold r107 at hr
  generalize hc : conts os = C at hr
  have hq := dPt.elim hr; clear hr; obtain ⟨c0, l1, C, y0, rfl, rfl, e0, hr⟩ := hq; obtain rfl := unoctet_Reader_eq _ _ e0
  replace hr := dFin hr; obtain ⟨rfl, rfl, x, h, rfl⟩ := hr
  obtain ⟨os, rfl, ha, hc⟩ := kinds_some ha hc
  obtain rfl := kinds_nil hc
  exact ⟨_, rfl, leads107 octet_Reader_Bad octet_Reader_Text hS _ x h⟩
def octet_Reader_Rest : octet_Reader → Option ((List UInt8) × octet_Reader) := octet_Reader_RestF octet_Reader_Bad octet_Reader_Text
theorem lift107 : SumOK Try.prog 107 (s107 octet_Reader_Rest) := ok107 octet_Reader_Bad octet_Reader_Text (SumsOK.of_tab ⟨lift105, lift106, trivial⟩)
def quic_idF (octet_Reader_Bad : octet_Reader → Option (Bool × octet_Reader)) (octet_Reader_Num : octet_Reader → Int → Option (Int × octet_Reader)) (octet_Reader_Text : octet_Reader → Int → Option ((List UInt8) × octet_Reader)) (ra0 : octet_Reader) : Option ((List UInt8) × Int × octet_Reader) :=
  (octet_Reader_Num ra0 1).bind fun n =>
  (octet_Reader_Bad n.2).bind fun b =>
  cond (!b.1)
    (
    cond (decide (n.1 > 20))
      (
      some (([], 3, b.2)))
      (
      (octet_Reader_Text b.2 n.1).bind fun t =>
      (octet_Reader_Bad t.2).bind fun b1 =>
      cond (b1.1)
        (
        some (([], 2, b1.2)))
        (
        some ((t.1, 0, b1.2)))))
    (
    (octet_Reader_Text b.2 n.1).bind fun t1 =>
    (octet_Reader_Bad t1.2).bind fun b2 =>
    cond (b2.1)
      (
      some (([], 2, b2.2)))
      (
      some ((t1.1, 0, b2.2))))
def rx109 (x : (List UInt8) × Int × octet_Reader) : SRes := ⟨.tuple ⟨[.string ⟨⟨x.1⟩⟩, .int .i64 x.2.1]⟩, [], [some [.string ⟨⟨x.2.2.s⟩⟩, .bool x.2.2.made, .bool x.2.2.bad]]⟩
def r109 (g : octet_Reader → Option ((List UInt8) × Int × octet_Reader)) : Dec := dPt 0 unoctet_Reader fun (y0 : octet_Reader) => dEnd (ofG (g y0) rx109)
theorem r109_c {g : octet_Reader → Option ((List UInt8) × Int × octet_Reader)} {y0 : octet_Reader} {x : (List UInt8) × Int × octet_Reader} (hx : g y0 = some x) : r109 g [.pointer (some ⟨0, 0, none⟩)] [some [.string ⟨⟨y0.s⟩⟩, .bool y0.made, .bool y0.bad]] = some (rx109 x) := (dPt_eq (unoctet_Reader_c _)).trans (ofG_eq hx)
def s109 (g : octet_Reader → Option ((List UInt8) × Int × octet_Reader)) : Summ := ⟨[.pt 3], r109 g⟩
theorem r109_eq {g : octet_Reader → Option ((List UInt8) × Int × octet_Reader)} {y0 : octet_Reader} {x : (List UInt8) × Int × octet_Reader} (hx : g y0 = some x) : (s109 g).run [.pointer (some ⟨0, 0, none⟩)] [some [.string ⟨⟨y0.s⟩⟩, .bool y0.made, .bool y0.bad]] = some (rx109 x) := r109_c hx
abbrev sums109 (octet_Reader_Bad : octet_Reader → Option (Bool × octet_Reader)) (octet_Reader_Num : octet_Reader → Int → Option (Int × octet_Reader)) (octet_Reader_Text : octet_Reader → Int → Option ((List UInt8) × octet_Reader)) : List (Nat × Summ) := [(105, s105 octet_Reader_Bad), (104, s104 octet_Reader_Num), (106, s106 octet_Reader_Text)]
theorem leads109 (octet_Reader_Bad : octet_Reader → Option (Bool × octet_Reader)) (octet_Reader_Num : octet_Reader → Int → Option (Int × octet_Reader)) (octet_Reader_Text : octet_Reader → Int → Option ((List UInt8) × octet_Reader)) (hS : SumsOK Try.prog (aget (sums109 octet_Reader_Bad octet_Reader_Num octet_Reader_Text))) (ra0 : octet_Reader) (res : (List UInt8) × Int × octet_Reader) (h : quic_idF octet_Reader_Bad octet_Reader_Num octet_Reader_Text ra0 = some res) :
    Leads Try.prog 109 1 ⟨⟨109, 21, [(0, .pointer (some ⟨0, 0, none⟩))], [.code k109_19], [], false, none⟩, [], [(0, .cells [.string ⟨⟨ra0.s⟩⟩, .bool ra0.made, .bool ra0.bad])], 1⟩ (fun v H _ => Res 1 (rx109 res) v H) := by
  unfold quic_idF at h
  refine ev_ok tab_ok hS true 3000 ?_
  conv => whnf
  replace h := obind.elim h; obtain ⟨n, hy, h⟩ := h
  refine sumK.introF [0] (sumRun_of (aqs := [.pointer (some ⟨0, 0, none⟩), .int .i64 1]) (ws := [.win 0 0 3 true]) (n := 0) (m := 0) (t' := 1) (ra_cons rfl rfl (ra_cons rfl rfl ra_nil)) rfl (by rfl) (r104_eq hy) rfl rfl rfl rfl (wb_win rfl rfl rfl ⟨rfl, Nat.le_of_ble_eq_true rfl⟩ rfl rfl wb_nil) an_nil rfl) ?_
  conv => whnf
  replace h := obind.elim h; obtain ⟨b, hy, h⟩ := h
  refine sumK.introF [0] (sumRun_of (aqs := [.pointer (some ⟨0, 0, none⟩)]) (ws := [.win 0 0 3 true]) (n := 0) (m := 0) (t' := 1) (ra_cons rfl rfl ra_nil) rfl (by rfl) (r105_eq hy) rfl rfl rfl rfl (wb_win rfl rfl rfl ⟨rfl, Nat.le_of_ble_eq_true rfl⟩ rfl rfl wb_nil) an_nil rfl) ?_
  conv => whnf
  refine br.h2 h ?_ ?_ ?_
  · rfl
  · clear h; intro hb h; conv => whnf
    replace h := obind.elim h; obtain ⟨t1, hy, h⟩ := h
    refine sumK.introF [0] (sumRun_of (aqs := [.pointer (some ⟨0, 0, none⟩), .int .i64 n.1]) (ws := [.win 0 0 3 true]) (n := 0) (m := 0) (t' := 1) (ra_cons rfl rfl (ra_cons rfl rfl ra_nil)) rfl (by rfl) (r106_eq hy) rfl rfl rfl rfl (wb_win rfl rfl rfl ⟨rfl, Nat.le_of_ble_eq_true rfl⟩ rfl rfl wb_nil) an_nil rfl) ?_
    conv => whnf
    replace h := obind.elim h; obtain ⟨b2, hy, h⟩ := h
    refine sumK.introF [0] (sumRun_of (aqs := [.pointer (some ⟨0, 0, none⟩)]) (ws := [.win 0 0 3 true]) (n := 0) (m := 0) (t' := 1) (ra_cons rfl rfl ra_nil) rfl (by rfl) (r105_eq hy) rfl rfl rfl rfl (wb_win rfl rfl rfl ⟨rfl, Nat.le_of_ble_eq_true rfl⟩ rfl rfl wb_nil) an_nil rfl) ?_
    conv => whnf
    refine br.h h ?_ ?_ ?_
    · rfl
    · clear h; intro hb h; conv => whnf
      all_goals (cases h)
      all_goals exact Res.of [] rfl nw_0 (by decide) js_0 (wr_s (rfl) (hs_cells rfl) wr_0)
    clear h; intro hb h; conv => whnf
    all_goals (cases h)
    all_goals exact Res.of [] rfl nw_0 (by decide) js_0 (wr_s (rfl) (hs_cells rfl) wr_0)
  clear h; intro hb h; conv => whnf
  refine br.h h ?_ ?_ ?_
  · rfl
  · clear h; intro hb h; conv => whnf
    all_goals (cases h)
    all_goals exact Res.of [] rfl nw_0 (by decide) js_0 (wr_s (rfl) (hs_cells rfl) wr_0)
  clear h; intro hb h; conv => whnf
  replace h := obind.elim h; obtain ⟨t, hy, h⟩ := h
  refine sumK.introF [0] (sumRun_of (aqs := [.pointer (some ⟨0, 0, none⟩), .int .i64 n.1]) (ws := [.win 0 0 3 true]) (n := 0) (m := 0) (t' := 1) (ra_cons rfl rfl (ra_cons rfl rfl ra_nil)) rfl (by rfl) (r106_eq hy) rfl rfl rfl rfl (wb_win rfl rfl rfl ⟨rfl, Nat.le_of_ble_eq_true rfl⟩ rfl rfl wb_nil) an_nil rfl) ?_
  conv => whnf
  replace h := obind.elim h; obtain ⟨b1, hy, h⟩ := h
  refine sumK.introF [0] (sumRun_of (aqs := [.pointer (some ⟨0, 0, none⟩)]) (ws := [.win 0 0 3 true]) (n := 0) (m := 0) (t' := 1) (ra_cons rfl rfl ra_nil) rfl (by rfl) (r105_eq hy) rfl rfl rfl rfl (wb_win rfl rfl rfl ⟨rfl, Nat.le_of_ble_eq_true rfl⟩ rfl rfl wb_nil) an_nil rfl) ?_
  conv => whnf
  refine br.h h ?_ ?_ ?_
  · rfl
  · clear h; intro hb h; conv => whnf
    all_goals (cases h)
    all_goals exact Res.of [] rfl nw_0 (by decide) js_0 (wr_s (rfl) (hs_cells rfl) wr_0)
  clear h; intro hb h; conv => whnf
  all_goals (cases h)
  all_goals exact Res.of [] rfl nw_0 (by decide) js_0 (wr_s (rfl) (hs_cells rfl) wr_0)
theorem ok109 (octet_Reader_Bad : octet_Reader → Option (Bool × octet_Reader)) (octet_Reader_Num : octet_Reader → Int → Option (Int × octet_Reader)) (octet_Reader_Text : octet_Reader → Int → Option ((List UInt8) × octet_Reader)) (hS : SumsOK Try.prog (aget (sums109 octet_Reader_Bad octet_Reader_Num octet_Reader_Text))) : SumOK Try.prog 109 (s109 (quic_idF octet_Reader_Bad octet_Reader_Num octet_Reader_Text)) := by
  refine SumOK.of_leads tab_ok (fun ar os r ha hr => ?_) ⟨Try.f109, rfl, by decide, rfl⟩
  replace hr : r109 (quic_idF octet_Reader_Bad octet_Reader_Num octet_Reader_Text) ar (conts os) = some r := hr
  unfold r109 at hr
  generalize hc : conts os = C at hr
  have hq := dPt.elim hr; clear hr; obtain ⟨c0, l1, C, y0, rfl, rfl, e0, hr⟩ := hq; obtain rfl := unoctet_Reader_eq _ _ e0
  replace hr := dFin hr; obtain ⟨rfl, rfl, x, h, rfl⟩ := hr
  obtain ⟨os, rfl, ha, hc⟩ := kinds_some ha hc
  obtain rfl := kinds_nil hc
  exact ⟨_, rfl, leads109 octet_Reader_Bad octet_Reader_Num octet_Reader_Text hS _ x h⟩
def quic_id : octet_Reader → Option ((List UInt8) × Int × octet_Reader) := quic_idF octet_Reader_Bad octet_Reader_Num octet_Reader_Text
theorem lift109 : SumOK Try.prog 109 (s109 quic_id) := ok109 octet_Reader_Bad octet_Reader_Num octet_Reader_Text (SumsOK.of_tab ⟨lift105, lift104, lift106, trivial⟩)
def quic_GetF (octet_New : (List UInt8) → Option octet_Reader) (octet_Reader_Bad : octet_Reader → Option (Bool × octet_Reader)) (octet_Reader_Num : octet_Reader → Int → Option (Int × octet_Reader)) (octet_Reader_Rest : octet_Reader → Option ((List UInt8) × octet_Reader)) (octet_Reader_Text : octet_Reader → Int → Option ((List UInt8) × octet_Reader)) (quic_id : octet_Reader → Option ((List UInt8) × Int × octet_Reader)) (s : List UInt8) : Option (quic_Head × Int) :=
  (octet_New s).bind fun n =>
  (octet_Reader_Num n 1).bind fun n1 =>
  (octet_Reader_Bad n1.2).bind fun b =>
  cond (b.1)
    (
    some ((quic_Head.mk false 0 0 [] [] [], 2)))
    (
    cond ((andI .i64 n1.1 64) == 0)
      (
      some ((quic_Head.mk false 0 0 [] [] [], 3)))
      (
      cond (!((andI .i64 n1.1 128) != 0))
        (
        (octet_Reader_Text b.2 8).bind fun t =>
        (octet_Reader_Bad t.2).bind fun b1 =>
        cond (b1.1)
          (
          some ((quic_Head.mk false 0 0 [] [] [], 2)))
          (
          (octet_Reader_Rest b1.2).bind fun xr =>
          some ((quic_Head.mk ((andI .i64 n1.1 128) != 0) (andI .i64 n1.1 63) 0 t.1 [] xr.1, 0))))
        (
        (octet_Reader_Num b.2 4).bind fun n2 =>
        (quic_id n2.2).bind fun i =>
        cond (i.2.1 != 0)
          (
          some ((quic_Head.mk false 0 0 [] [] [], i.2.1)))
          (
          (quic_id i.2.2).bind fun i1 =>
          cond (i1.2.1 != 0)
            (
            some ((quic_Head.mk false 0 0 [] [] [], i1.2.1)))
            (
            (octet_Reader_Rest i1.2.2).bind fun xr1 =>
            some ((quic_Head.mk ((andI .i64 n1.1 128) != 0) (andI .i64 n1.1 63) (wI .u32 n2.1) i.1 i1.1 xr1.1, 0)))))))
def rx83 (x : quic_Head × Int) : SRes := ⟨.tuple ⟨[.agg ⟨[.bool x.1.Long, .int .i64 x.1.Bits, .int .u32 x.1.Version, .string ⟨⟨x.1.DCID⟩⟩, .string ⟨⟨x.1.SCID⟩⟩, .string ⟨⟨x.1.Rest⟩⟩]⟩, .int .i64 x.2]⟩, [], []⟩
def r83 (g : (List UInt8) → Option (quic_Head × Int)) : Dec := dV asS fun (y0 : List UInt8) => dEnd (ofG (g y0) rx83)
theorem r83_c {g : (List UInt8) → Option (quic_Head × Int)} {y0 : List UInt8} {x : quic_Head × Int} (hx : g y0 = some x) : r83 g [.string ⟨⟨y0⟩⟩] [] = some (rx83 x) := (dV_eq (asS_c)).trans (ofG_eq hx)
def s83 (g : (List UInt8) → Option (quic_Head × Int)) : Summ := ⟨[.v], r83 g⟩
theorem r83_eq {g : (List UInt8) → Option (quic_Head × Int)} {y0 : List UInt8} {x : quic_Head × Int} (hx : g y0 = some x) : (s83 g).run [.string ⟨⟨y0⟩⟩] [] = some (rx83 x) := r83_c hx
abbrev sums83 (octet_New : (List UInt8) → Option octet_Reader) (octet_Reader_Bad : octet_Reader → Option (Bool × octet_Reader)) (octet_Reader_Num : octet_Reader → Int → Option (Int × octet_Reader)) (octet_Reader_Rest : octet_Reader → Option ((List UInt8) × octet_Reader)) (octet_Reader_Text : octet_Reader → Int → Option ((List UInt8) × octet_Reader)) (quic_id : octet_Reader → Option ((List UInt8) × Int × octet_Reader)) : List (Nat × Summ) := [(103, s103 octet_New), (105, s105 octet_Reader_Bad), (104, s104 octet_Reader_Num), (107, s107 octet_Reader_Rest), (106, s106 octet_Reader_Text), (109, s109 quic_id)]
theorem leads83 (octet_New : (List UInt8) → Option octet_Reader) (octet_Reader_Bad : octet_Reader → Option (Bool × octet_Reader)) (octet_Reader_Num : octet_Reader → Int → Option (Int × octet_Reader)) (octet_Reader_Rest : octet_Reader → Option ((List UInt8) × octet_Reader)) (octet_Reader_Text : octet_Reader → Int → Option ((List UInt8) × octet_Reader)) (quic_id : octet_Reader → Option ((List UInt8) × Int × octet_Reader)) (hS : SumsOK Try.prog (aget (sums83 octet_New octet_Reader_Bad octet_Reader_Num octet_Reader_Rest octet_Reader_Text quic_id))) (s : List UInt8) (res : quic_Head × Int) (h : quic_GetF octet_New octet_Reader_Bad octet_Reader_Num octet_Reader_Rest octet_Reader_Text quic_id s = some res) :
    Leads Try.prog 83 0 ⟨⟨83, 60, [(0, .string ⟨⟨s⟩⟩)], [.code k83_51], [], false, none⟩, [], [], 0⟩ (fun v H _ => Res 0 (rx83 res) v H) := by
  unfold quic_GetF at h
  refine ev_ok tab_ok hS true 3000 ?_
  conv => whnf
  replace h := obind.elim h; obtain ⟨n, hy, h⟩ := h
  refine sumK.introF [1] (sumRun_of (aqs := [.string ⟨⟨s⟩⟩]) (ws := []) (n := 1) (m := 0) (t' := 2) (ra_cons rfl rfl ra_nil) rfl (by rfl) (r103_eq hy) rfl rfl rfl rfl wb_nil (an_cons (rfl) an_nil) rfl) ?_
  conv => whnf
  replace h := obind.elim h; obtain ⟨n1, hy, h⟩ := h
  refine sumK.introF [1] (sumRun_of (aqs := [.pointer (some ⟨0, 0, none⟩), .int .i64 1]) (ws := [.win 1 0 3 true]) (n := 0) (m := 0) (t' := 2) (ra_cons rfl rfl (ra_cons rfl rfl ra_nil)) rfl (by rfl) (r104_eq hy) rfl rfl rfl rfl (wb_win rfl rfl rfl ⟨rfl, Nat.le_of_ble_eq_true rfl⟩ rfl rfl wb_nil) an_nil rfl) ?_
  conv => whnf
  replace h := obind.elim h; obtain ⟨b, hy, h⟩ := h
  refine sumK.introF [1] (sumRun_of (aqs := [.pointer (some ⟨0, 0, none⟩)]) (ws := [.win 1 0 3 true]) (n := 0) (m := 0) (t' := 2) (ra_cons rfl rfl ra_nil) rfl (by rfl) (r105_eq hy) rfl rfl rfl rfl (wb_win rfl rfl rfl ⟨rfl, Nat.le_of_ble_eq_true rfl⟩ rfl rfl wb_nil) an_nil rfl) ?_
  conv => whnf
  refine br.h h ?_ ?_ ?_
  · rfl
  · clear h; intro hb h; conv => whnf
    all_goals (cases h; exact Res.z rfl rfl rfl)
  clear h; intro hb h; conv => whnf
  refine br.h h ?_ ?_ ?_
  · rfl
  · clear h; intro hb h; conv => whnf
    all_goals (cases h; exact Res.z rfl rfl rfl)
  clear h; intro hb h; conv => whnf
  refine br.h h ?_ ?_ ?_
  · rfl
  · clear h; intro hb h; conv => whnf
    replace h := obind.elim h; obtain ⟨t, hy, h⟩ := h
    refine sumK.introF [1] (sumRun_of (aqs := [.pointer (some ⟨0, 0, none⟩), .int .i64 8]) (ws := [.win 1 0 3 true]) (n := 0) (m := 0) (t' := 3) (ra_cons rfl rfl (ra_cons rfl rfl ra_nil)) rfl (by rfl) (r106_eq hy) rfl rfl rfl rfl (wb_win rfl rfl rfl ⟨rfl, Nat.le_of_ble_eq_true rfl⟩ rfl rfl wb_nil) an_nil rfl) ?_
    conv => whnf
    replace h := obind.elim h; obtain ⟨b1, hy, h⟩ := h
    refine sumK.introF [1] (sumRun_of (aqs := [.pointer (some ⟨0, 0, none⟩)]) (ws := [.win 1 0 3 true]) (n := 0) (m := 0) (t' := 3) (ra_cons rfl rfl ra_nil) rfl (by rfl) (r105_eq hy) rfl rfl rfl rfl (wb_win rfl rfl rfl ⟨rfl, Nat.le_of_ble_eq_true rfl⟩ rfl rfl wb_nil) an_nil rfl) ?_
    conv => whnf
    refine br.h h ?_ ?_ ?_
    · rfl
    · clear h; intro hb h; conv => whnf
      all_goals (cases h; exact Res.z rfl rfl rfl)
    clear h; intro hb h; conv => whnf
    replace h := obind.elim h; obtain ⟨xr, hy, h⟩ := h
    refine sumK.introF [1] (sumRun_of (aqs := [.pointer (some ⟨0, 0, none⟩)]) (ws := [.win 1 0 3 true]) (n := 0) (m := 0) (t' := 3) (ra_cons rfl rfl ra_nil) rfl (by rfl) (r107_eq hy) rfl rfl rfl rfl (wb_win rfl rfl rfl ⟨rfl, Nat.le_of_ble_eq_true rfl⟩ rfl rfl wb_nil) an_nil rfl) ?_
    conv => whnf
    all_goals (cases h; exact Res.z rfl rfl rfl)
  clear h; intro hb h; conv => whnf
  replace h := obind.elim h; obtain ⟨n2, hy, h⟩ := h
  refine sumK.introF [1] (sumRun_of (aqs := [.pointer (some ⟨0, 0, none⟩), .int .i64 4]) (ws := [.win 1 0 3 true]) (n := 0) (m := 0) (t' := 3) (ra_cons rfl rfl (ra_cons rfl rfl ra_nil)) rfl (by rfl) (r104_eq hy) rfl rfl rfl rfl (wb_win rfl rfl rfl ⟨rfl, Nat.le_of_ble_eq_true rfl⟩ rfl rfl wb_nil) an_nil rfl) ?_
  conv => whnf
  refine ev_ok tab_ok hS true 3000 ?_
  conv => whnf
  replace h := obind.elim h; obtain ⟨i, hy, h⟩ := h
  refine sumK.introF [1] (sumRun_of (aqs := [.pointer (some ⟨0, 0, none⟩)]) (ws := [.win 1 0 3 true]) (n := 0) (m := 0) (t' := 4) (ra_cons rfl rfl ra_nil) rfl (by rfl) (r109_eq hy) rfl rfl rfl rfl (wb_win rfl rfl rfl ⟨rfl, Nat.le_of_ble_eq_true rfl⟩ rfl rfl wb_nil) an_nil rfl) ?_
  conv => whnf
  refine br.h h ?_ ?_ ?_
  · rfl
  · clear h; intro hb h; conv => whnf
    refine br.pos ?_ ?_; (focus (clear h; first | assumption | (simp_all; done)))
    conv => whnf
    all_goals (cases h; exact Res.z rfl rfl rfl)
  clear h; intro hb h; conv => whnf
  refine ev_ok tab_ok hS true 3000 ?_
  conv => whnf
  replace h := obind.elim h; obtain ⟨i1, hy, h⟩ := h
  refine sumK.introF [1] (sumRun_of (aqs := [.pointer (some ⟨0, 0, none⟩)]) (ws := [.win 1 0 3 true]) (n := 0) (m := 0) (t' := 4) (ra_cons rfl rfl ra_nil) rfl (by rfl) (r109_eq hy) rfl rfl rfl rfl (wb_win rfl rfl rfl ⟨rfl, Nat.le_of_ble_eq_true rfl⟩ rfl rfl wb_nil) an_nil rfl) ?_
  conv => whnf
  refine br.h h ?_ ?_ ?_
  · rfl
  · clear h; intro hb h; conv => whnf
    refine br.pos ?_ ?_; (focus (clear h; first | assumption | (simp_all; done)))
    conv => whnf
    all_goals (cases h; exact Res.z rfl rfl rfl)
  clear h; intro hb h; conv => whnf
  refine ev_ok tab_ok hS true 3000 ?_
  conv => whnf
  replace h := obind.elim h; obtain ⟨xr1, hy, h⟩ := h
  refine sumK.introF [1] (sumRun_of (aqs := [.pointer (some ⟨0, 0, none⟩)]) (ws := [.win 1 0 3 true]) (n := 0) (m := 0) (t' := 4) (ra_cons rfl rfl ra_nil) rfl (by rfl) (r107_eq hy) rfl rfl rfl rfl (wb_win rfl rfl rfl ⟨rfl, Nat.le_of_ble_eq_true rfl⟩ rfl rfl wb_nil) an_nil rfl) ?_
  conv => whnf
  all_goals (cases h; exact Res.z rfl rfl rfl)
theorem ok83 (octet_New : (List UInt8) → Option octet_Reader) (octet_Reader_Bad : octet_Reader → Option (Bool × octet_Reader)) (octet_Reader_Num : octet_Reader → Int → Option (Int × octet_Reader)) (octet_Reader_Rest : octet_Reader → Option ((List UInt8) × octet_Reader)) (octet_Reader_Text : octet_Reader → Int → Option ((List UInt8) × octet_Reader)) (quic_id : octet_Reader → Option ((List UInt8) × Int × octet_Reader)) (hS : SumsOK Try.prog (aget (sums83 octet_New octet_Reader_Bad octet_Reader_Num octet_Reader_Rest octet_Reader_Text quic_id))) : SumOK Try.prog 83 (s83 (quic_GetF octet_New octet_Reader_Bad octet_Reader_Num octet_Reader_Rest octet_Reader_Text quic_id)) := by
  refine SumOK.of_leads tab_ok (fun ar os r ha hr => ?_) ⟨Try.f83, rfl, by decide, rfl⟩
  replace hr : r83 (quic_GetF octet_New octet_Reader_Bad octet_Reader_Num octet_Reader_Rest octet_Reader_Text quic_id) ar (conts os) = some r := hr
  unfold r83 at hr
  generalize hc : conts os = C at hr
  replace hr := dV.elim hr; obtain ⟨v0, l1, y0, rfl, e0, hr⟩ := hr; obtain rfl := asS_eq _ _ e0
  replace hr := dFin hr; obtain ⟨rfl, rfl, x, h, rfl⟩ := hr
  obtain rfl := kinds_nil hc
  exact ⟨_, rfl, leads83 octet_New octet_Reader_Bad octet_Reader_Num octet_Reader_Rest octet_Reader_Text quic_id hS _ x h⟩
def quic_Get : (List UInt8) → Option (quic_Head × Int) := quic_GetF octet_New octet_Reader_Bad octet_Reader_Num octet_Reader_Rest octet_Reader_Text quic_id
theorem lift83 : SumOK Try.prog 83 (s83 quic_Get) := ok83 octet_New octet_Reader_Bad octet_Reader_Num octet_Reader_Rest octet_Reader_Text quic_id (SumsOK.of_tab ⟨lift103, lift105, lift104, lift107, lift106, lift109, trivial⟩)
def packet_outer_datagramF (quic_Get : (List UInt8) → Option (quic_Head × Int)) (udp_Get : (List UInt8) → api_Addr → api_Addr → Option (udp_Head × (List UInt8) × Int)) (oa0 : packet_outer) (p : api_Packet) : Option (Int × Int × api_Packet) :=
  (udp_Get oa0.body oa0.src oa0.dst).bind fun xg =>
  cond (xg.2.2 != 0)
    (
    some ((0, xg.2.2, p)))
    (
    let t := (xg.2.1.length : Int) != (wI .i64 ((oa0.body.length : Int) - 8))
    cond (t)
      (
      some ((0, 5, p)))
      (
      (quic_Get xg.2.1).bind fun xg1 =>
      cond (xg1.2 == 0)
        (
        some (((xg.2.1.length : Int), 0, api_Packet.mk (api_Tuple.mk p.Tuple.Proto p.Tuple.Src p.Tuple.Dst xg.1.SPort xg.1.DPort) p.Flags p.Stamped p.Val p.Echo xg1.1.Long xg1.1.DCID p.Size)))
        (
        some (((xg.2.1.length : Int), 0, api_Packet.mk (api_Tuple.mk p.Tuple.Proto p.Tuple.Src p.Tuple.Dst xg.1.SPort xg.1.DPort) p.Flags p.Stamped p.Val p.Echo p.Long p.CID p.Size)))))
def rx55 (x : Int × Int × api_Packet) : SRes := ⟨.tuple ⟨[.int .i64 x.1, .int .i64 x.2.1]⟩, [], [some [.int .i64 x.2.2.Tuple.Proto, .bool x.2.2.Tuple.Src.V6, .int .u64 x.2.2.Tuple.Src.Hi, .int .u64 x.2.2.Tuple.Src.Lo, .bool x.2.2.Tuple.Dst.V6, .int .u64 x.2.2.Tuple.Dst.Hi, .int .u64 x.2.2.Tuple.Dst.Lo, .int .i64 x.2.2.Tuple.SPort, .int .i64 x.2.2.Tuple.DPort, .int .i64 x.2.2.Flags, .bool x.2.2.Stamped, .int .u32 x.2.2.Val, .int .u32 x.2.2.Echo, .bool x.2.2.Long, .string ⟨⟨x.2.2.CID⟩⟩, .int .i64 x.2.2.Size]]⟩
def r55 (g : packet_outer → api_Packet → Option (Int × Int × api_Packet)) : Dec := dV uvpacket_outer fun (y0 : packet_outer) => dPt 0 unapi_Packet fun (y1 : api_Packet) => dEnd (ofG (g y0 y1) rx55)
theorem r55_c {g : packet_outer → api_Packet → Option (Int × Int × api_Packet)} {y0 : packet_outer} {y1 : api_Packet} {x : Int × Int × api_Packet} (hx : g y0 y1 = some x) : r55 g [.agg ⟨[.bool y0.src.V6, .int .u64 y0.src.Hi, .int .u64 y0.src.Lo, .bool y0.dst.V6, .int .u64 y0.dst.Hi, .int .u64 y0.dst.Lo, .int .i64 y0.proto, .string ⟨⟨y0.body⟩⟩]⟩, .pointer (some ⟨0, 0, none⟩)] [some [.int .i64 y1.Tuple.Proto, .bool y1.Tuple.Src.V6, .int .u64 y1.Tuple.Src.Hi, .int .u64 y1.Tuple.Src.Lo, .bool y1.Tuple.Dst.V6, .int .u64 y1.Tuple.Dst.Hi, .int .u64 y1.Tuple.Dst.Lo, .int .i64 y1.Tuple.SPort, .int .i64 y1.Tuple.DPort, .int .i64 y1.Flags, .bool y1.Stamped, .int .u32 y1.Val, .int .u32 y1.Echo, .bool y1.Long, .string ⟨⟨y1.CID⟩⟩, .int .i64 y1.Size]] = some (rx55 x) := (dV_eq (uvpacket_outer_c _)).trans ((dPt_eq (unapi_Packet_c _)).trans (ofG_eq hx))
def s55 (g : packet_outer → api_Packet → Option (Int × Int × api_Packet)) : Summ := ⟨[.v, .pt 16], r55 g⟩
theorem r55_eq {g : packet_outer → api_Packet → Option (Int × Int × api_Packet)} {y0 : packet_outer} {y1 : api_Packet} {x : Int × Int × api_Packet} (hx : g y0 y1 = some x) : (s55 g).run [.agg ⟨[.bool y0.src.V6, .int .u64 y0.src.Hi, .int .u64 y0.src.Lo, .bool y0.dst.V6, .int .u64 y0.dst.Hi, .int .u64 y0.dst.Lo, .int .i64 y0.proto, .string ⟨⟨y0.body⟩⟩]⟩, .pointer (some ⟨0, 0, none⟩)] [some [.int .i64 y1.Tuple.Proto, .bool y1.Tuple.Src.V6, .int .u64 y1.Tuple.Src.Hi, .int .u64 y1.Tuple.Src.Lo, .bool y1.Tuple.Dst.V6, .int .u64 y1.Tuple.Dst.Hi, .int .u64 y1.Tuple.Dst.Lo, .int .i64 y1.Tuple.SPort, .int .i64 y1.Tuple.DPort, .int .i64 y1.Flags, .bool y1.Stamped, .int .u32 y1.Val, .int .u32 y1.Echo, .bool y1.Long, .string ⟨⟨y1.CID⟩⟩, .int .i64 y1.Size]] = some (rx55 x) := r55_c hx
abbrev sums55 (quic_Get : (List UInt8) → Option (quic_Head × Int)) (udp_Get : (List UInt8) → api_Addr → api_Addr → Option (udp_Head × (List UInt8) × Int)) : List (Nat × Summ) := [(83, s83 quic_Get), (82, s82 udp_Get)]
theorem leads55 (quic_Get : (List UInt8) → Option (quic_Head × Int)) (udp_Get : (List UInt8) → api_Addr → api_Addr → Option (udp_Head × (List UInt8) × Int)) (hS : SumsOK Try.prog (aget (sums55 quic_Get udp_Get))) (oa0 : packet_outer) (p : api_Packet) (res : Int × Int × api_Packet) (h : packet_outer_datagramF quic_Get udp_Get oa0 p = some res) :
    Leads Try.prog 55 1 ⟨⟨55, 65, [(0, .agg ⟨[.bool oa0.src.V6, .int .u64 oa0.src.Hi, .int .u64 oa0.src.Lo, .bool oa0.dst.V6, .int .u64 oa0.dst.Hi, .int .u64 oa0.dst.Lo, .int .i64 oa0.proto, .string ⟨⟨oa0.body⟩⟩]⟩), (1, .pointer (some ⟨0, 0, none⟩))], [.code k55_26], [], false, none⟩, [], [(0, .cells [.int .i64 p.Tuple.Proto, .bool p.Tuple.Src.V6, .int .u64 p.Tuple.Src.Hi, .int .u64 p.Tuple.Src.Lo, .bool p.Tuple.Dst.V6, .int .u64 p.Tuple.Dst.Hi, .int .u64 p.Tuple.Dst.Lo, .int .i64 p.Tuple.SPort, .int .i64 p.Tuple.DPort, .int .i64 p.Flags, .bool p.Stamped, .int .u32 p.Val, .int .u32 p.Echo, .bool p.Long, .string ⟨⟨p.CID⟩⟩, .int .i64 p.Size])], 1⟩ (fun v H _ => Res 1 (rx55 res) v H) := by
  unfold packet_outer_datagramF at h
  refine ev_ok tab_ok hS true 3000 ?_
  conv => whnf
  replace h := obind.elim h; obtain ⟨xg, hy, h⟩ := h
  refine sumK.q rfl rfl (r82_eq hy) rfl rfl rfl ?_
  conv => whnf
  refine br.h h ?_ ?_ ?_
  · rfl
  · clear h; intro hb h; conv => whnf
    all_goals (cases h)
    all_goals exact Res.of [] rfl nw_0 (by decide) js_0 (wr_s (rfl) (hs_cells rfl) wr_0)
  clear h; intro hb h; conv => whnf
  let t : Bool := (xg.2.1.length : Int) != (wI .i64 ((oa0.body.length : Int) - 8))
  refine br.h h ?_ ?_ ?_
  · rfl
  · clear h; intro hb h; conv => whnf
    all_goals (cases h)
    all_goals exact Res.of [] rfl nw_0 (by decide) js_0 (wr_s (rfl) (hs_cells rfl) wr_0)
  clear h; intro hb h; conv => whnf
  replace h := obind.elim h; obtain ⟨xg1, hy, h⟩ := h
  refine sumK.q rfl rfl (r83_eq hy) rfl rfl rfl ?_
  conv => whnf
  refine br.h h ?_ ?_ ?_
  · rfl
  · clear h; intro hb h; conv => whnf
    all_goals (cases h)
    all_goals exact Res.of [] rfl nw_0 (by decide) js_0 (wr_s (rfl) (hs_cells rfl) wr_0)
  clear h; intro hb h; conv => whnf
  all_goals (cases h)
  all_goals exact Res.of [] rfl nw_0 (by decide) js_0 (wr_s (rfl) (hs_cells rfl) wr_0)
theorem ok55 (quic_Get : (List UInt8) → Option (quic_Head × Int)) (udp_Get : (List UInt8) → api_Addr → api_Addr → Option (udp_Head × (List UInt8) × Int)) (hS : SumsOK Try.prog (aget (sums55 quic_Get udp_Get))) : SumOK Try.prog 55 (s55 (packet_outer_datagramF quic_Get udp_Get)) := by
  refine SumOK.of_leads tab_ok (fun ar os r ha hr => ?_) ⟨Try.f55, rfl, by decide, rfl⟩
  replace hr : r55 (packet_outer_datagramF quic_Get udp_Get) ar (conts os) = some r := hr
  unfold r55 at hr
  generalize hc : conts os = C at hr
  replace hr := dV.elim hr; obtain ⟨v0, l1, y0, rfl, e0, hr⟩ := hr; obtain rfl := uvpacket_outer_eq _ _ e0
  have hq := dPt.elim hr; clear hr; obtain ⟨c1, l2, C, y1, rfl, rfl, e1, hr⟩ := hq; obtain rfl := unapi_Packet_eq _ _ e1
  replace hr := dFin hr; obtain ⟨rfl, rfl, x, h, rfl⟩ := hr
  obtain ⟨os, rfl, ha, hc⟩ := kinds_some ha hc
  obtain rfl := kinds_nil hc
  exact ⟨_, rfl, leads55 quic_Get udp_Get hS _ _ x h⟩
def packet_outer_datagram : packet_outer → api_Packet → Option (Int × Int × api_Packet) := packet_outer_datagramF quic_Get udp_Get
theorem lift55 : SumOK Try.prog 55 (s55 packet_outer_datagram) := ok55 quic_Get udp_Get (SumsOK.of_tab ⟨lift83, lift82, trivial⟩)
def packet_toldF (packet_opened : (List UInt8) → Option (packet_outer × Int)) (packet_outer_datagram : packet_outer → api_Packet → Option (Int × Int × api_Packet)) (packet_outer_segment : packet_outer → api_Packet → Option (Int × Int × api_Packet)) (s : List UInt8) : Option (api_Packet × Int × Int × Int) :=
  cond (decide ((s.length : Int) > 9000))
    (
    some ((api_Packet.mk (api_Tuple.mk 0 (api_Addr.mk false 0 0) (api_Addr.mk false 0 0) 0 0) 0 false 0 0 false [] 0, 0, 0, 5)))
    (
    cond (s == [])
      (
      some ((api_Packet.mk (api_Tuple.mk 0 (api_Addr.mk false 0 0) (api_Addr.mk false 0 0) 0 0) 0 false 0 0 false [] 0, 0, 0, 2)))
      (
      (packet_opened s).bind fun xo =>
      cond (xo.2 != 0)
        (
        some ((api_Packet.mk (api_Tuple.mk 0 (api_Addr.mk false 0 0) (api_Addr.mk false 0 0) 0 0) 0 false 0 0 false [] 0, 0, 0, xo.2)))
        (
        cond (xo.1.proto == 6)
          (
          (packet_outer_segment xo.1 (api_Packet.mk (api_Tuple.mk xo.1.proto xo.1.src xo.1.dst 0 0) 0 false 0 0 false [] (s.length : Int))).bind fun s1 =>
          cond (s1.2.1 != 0)
            (
            some ((api_Packet.mk (api_Tuple.mk 0 (api_Addr.mk false 0 0) (api_Addr.mk false 0 0) 0 0) 0 false 0 0 false [] 0, 0, 0, s1.2.1)))
            (
            some ((s1.2.2, (xo.1.body.length : Int), s1.1, 0))))
          (
          cond (xo.1.proto == 17)
            (
            (packet_outer_datagram xo.1 (api_Packet.mk (api_Tuple.mk xo.1.proto xo.1.src xo.1.dst 0 0) 0 false 0 0 false [] (s.length : Int))).bind fun d =>
            cond (d.2.1 != 0)
              (
              some ((api_Packet.mk (api_Tuple.mk 0 (api_Addr.mk false 0 0) (api_Addr.mk false 0 0) 0 0) 0 false 0 0 false [] 0, 0, 0, d.2.1)))
              (
              some ((d.2.2, (xo.1.body.length : Int), d.1, 0))))
            (
            some ((api_Packet.mk (api_Tuple.mk 0 (api_Addr.mk false 0 0) (api_Addr.mk false 0 0) 0 0) 0 false 0 0 false [] 0, 0, 0, 6)))))))
def rx34 (x : api_Packet × Int × Int × Int) : SRes := ⟨.tuple ⟨[.agg ⟨[.int .i64 x.1.Tuple.Proto, .bool x.1.Tuple.Src.V6, .int .u64 x.1.Tuple.Src.Hi, .int .u64 x.1.Tuple.Src.Lo, .bool x.1.Tuple.Dst.V6, .int .u64 x.1.Tuple.Dst.Hi, .int .u64 x.1.Tuple.Dst.Lo, .int .i64 x.1.Tuple.SPort, .int .i64 x.1.Tuple.DPort, .int .i64 x.1.Flags, .bool x.1.Stamped, .int .u32 x.1.Val, .int .u32 x.1.Echo, .bool x.1.Long, .string ⟨⟨x.1.CID⟩⟩, .int .i64 x.1.Size]⟩, .int .i64 x.2.1, .int .i64 x.2.2.1, .int .i64 x.2.2.2]⟩, [], []⟩
def r34 (g : (List UInt8) → Option (api_Packet × Int × Int × Int)) : Dec := dV asS fun (y0 : List UInt8) => dEnd (ofG (g y0) rx34)
theorem r34_c {g : (List UInt8) → Option (api_Packet × Int × Int × Int)} {y0 : List UInt8} {x : api_Packet × Int × Int × Int} (hx : g y0 = some x) : r34 g [.string ⟨⟨y0⟩⟩] [] = some (rx34 x) := (dV_eq (asS_c)).trans (ofG_eq hx)
def s34 (g : (List UInt8) → Option (api_Packet × Int × Int × Int)) : Summ := ⟨[.v], r34 g⟩
theorem r34_eq {g : (List UInt8) → Option (api_Packet × Int × Int × Int)} {y0 : List UInt8} {x : api_Packet × Int × Int × Int} (hx : g y0 = some x) : (s34 g).run [.string ⟨⟨y0⟩⟩] [] = some (rx34 x) := r34_c hx
abbrev sums34 (packet_opened : (List UInt8) → Option (packet_outer × Int)) (packet_outer_datagram : packet_outer → api_Packet → Option (Int × Int × api_Packet)) (packet_outer_segment : packet_outer → api_Packet → Option (Int × Int × api_Packet)) : List (Nat × Summ) := [(53, s53 packet_opened), (55, s55 packet_outer_datagram), (54, s54 packet_outer_segment)]
theorem leads34 (packet_opened : (List UInt8) → Option (packet_outer × Int)) (packet_outer_datagram : packet_outer → api_Packet → Option (Int × Int × api_Packet)) (packet_outer_segment : packet_outer → api_Packet → Option (Int × Int × api_Packet)) (hS : SumsOK Try.prog (aget (sums34 packet_opened packet_outer_datagram packet_outer_segment))) (s : List UInt8) (res : api_Packet × Int × Int × Int) (h : packet_toldF packet_opened packet_outer_datagram packet_outer_segment s = some res) :
    Leads Try.prog 34 0 ⟨⟨34, 63, [(0, .string ⟨⟨s⟩⟩)], [.code k34_46], [], false, none⟩, [], [], 0⟩ (fun v H _ => Res 0 (rx34 res) v H) := by
  unfold packet_toldF at h
  refine ev_ok tab_ok hS true 3000 ?_
  conv => whnf
  refine br.h h ?_ ?_ ?_
  · rfl
  · clear h; intro hb h; conv => whnf
    all_goals (cases h; exact Res.z rfl rfl rfl)
  clear h; intro hb h; conv => whnf
  refine br.h h ?_ ?_ ?_
  · rfl
  · clear h; intro hb h; conv => whnf
    all_goals (cases h; exact Res.z rfl rfl rfl)
  clear h; intro hb h; conv => whnf
  replace h := obind.elim h; obtain ⟨xo, hy, h⟩ := h
  refine sumK.q rfl rfl (r53_eq hy) rfl rfl rfl ?_
  conv => whnf
  refine br.h h ?_ ?_ ?_
  · rfl
  · clear h; intro hb h; conv => whnf
    all_goals (cases h; exact Res.z rfl rfl rfl)
  clear h; intro hb h; conv => whnf
  refine br.h h ?_ ?_ ?_
  · rfl
  · clear h; intro hb h; conv => whnf
    replace h := obind.elim h; obtain ⟨s1, hy, h⟩ := h
    refine sumK.introF [2] (sumRun_of (aqs := [.agg ⟨[.bool xo.1.src.V6, .int .u64 xo.1.src.Hi, .int .u64 xo.1.src.Lo, .bool xo.1.dst.V6, .int .u64 xo.1.dst.Hi, .int .u64 xo.1.dst.Lo, .int .i64 xo.1.proto, .string ⟨⟨xo.1.body⟩⟩]⟩, .pointer (some ⟨0, 0, none⟩)]) (ws := [.win 2 0 16 true]) (n := 0) (m := 0) (t' := 3) (ra_cons rfl rfl (ra_cons rfl rfl ra_nil)) rfl (by rfl) (r54_eq hy) rfl rfl rfl rfl (wb_win rfl rfl rfl ⟨rfl, Nat.le_of_ble_eq_true rfl⟩ rfl rfl wb_nil) an_nil rfl) ?_
    conv => whnf
    refine br.h h ?_ ?_ ?_
    · rfl
    · clear h; intro hb h; conv => whnf
      all_goals (cases h; exact Res.z rfl rfl rfl)
    clear h; intro hb h; conv => whnf
    all_goals (cases h; exact Res.z rfl rfl rfl)
  clear h; intro hb h; conv => whnf
  refine br.h2 h ?_ ?_ ?_
  · rfl
  · clear h; intro hb h; conv => whnf
    all_goals (cases h; exact Res.z rfl rfl rfl)
  clear h; intro hb h; conv => whnf
  replace h := obind.elim h; obtain ⟨d, hy, h⟩ := h
  refine sumK.introF [2] (sumRun_of (aqs := [.agg ⟨[.bool xo.1.src.V6, .int .u64 xo.1.src.Hi, .int .u64 xo.1.src.Lo, .bool xo.1.dst.V6, .int .u64 xo.1.dst.Hi, .int .u64 xo.1.dst.Lo, .int .i64 xo.1.proto, .string ⟨⟨xo.1.body⟩⟩]⟩, .pointer (some ⟨0, 0, none⟩)]) (ws := [.win 2 0 16 true]) (n := 0) (m := 0) (t' := 3) (ra_cons rfl rfl (ra_cons rfl rfl ra_nil)) rfl (by rfl) (r55_eq hy) rfl rfl rfl rfl (wb_win rfl rfl rfl ⟨rfl, Nat.le_of_ble_eq_true rfl⟩ rfl rfl wb_nil) an_nil rfl) ?_
  conv => whnf
  refine br.h h ?_ ?_ ?_
  · rfl
  · clear h; intro hb h; conv => whnf
    all_goals (cases h; exact Res.z rfl rfl rfl)
  clear h; intro hb h; conv => whnf
  all_goals (cases h; exact Res.z rfl rfl rfl)
theorem ok34 (packet_opened : (List UInt8) → Option (packet_outer × Int)) (packet_outer_datagram : packet_outer → api_Packet → Option (Int × Int × api_Packet)) (packet_outer_segment : packet_outer → api_Packet → Option (Int × Int × api_Packet)) (hS : SumsOK Try.prog (aget (sums34 packet_opened packet_outer_datagram packet_outer_segment))) : SumOK Try.prog 34 (s34 (packet_toldF packet_opened packet_outer_datagram packet_outer_segment)) := by
  refine SumOK.of_leads tab_ok (fun ar os r ha hr => ?_) ⟨Try.f34, rfl, by decide, rfl⟩
  replace hr : r34 (packet_toldF packet_opened packet_outer_datagram packet_outer_segment) ar (conts os) = some r := hr
  unfold r34 at hr
  generalize hc : conts os = C at hr
  replace hr := dV.elim hr; obtain ⟨v0, l1, y0, rfl, e0, hr⟩ := hr; obtain rfl := asS_eq _ _ e0
  replace hr := dFin hr; obtain ⟨rfl, rfl, x, h, rfl⟩ := hr
  obtain rfl := kinds_nil hc
  exact ⟨_, rfl, leads34 packet_opened packet_outer_datagram packet_outer_segment hS _ x h⟩
def packet_told : (List UInt8) → Option (api_Packet × Int × Int × Int) := packet_toldF packet_opened packet_outer_datagram packet_outer_segment
theorem lift34 : SumOK Try.prog 34 (s34 packet_told) := ok34 packet_opened packet_outer_datagram packet_outer_segment (SumsOK.of_tab ⟨lift53, lift55, lift54, trivial⟩)
def packet_ParseF (packet_told : (List UInt8) → Option (api_Packet × Int × Int × Int)) (s : List UInt8) : Option (api_Packet × Int) :=
  (packet_told s).bind fun t =>
  some ((t.1, t.2.2.2))
def rx16 (x : api_Packet × Int) : SRes := ⟨.tuple ⟨[.agg ⟨[.int .i64 x.1.Tuple.Proto, .bool x.1.Tuple.Src.V6, .int .u64 x.1.Tuple.Src.Hi, .int .u64 x.1.Tuple.Src.Lo, .bool x.1.Tuple.Dst.V6, .int .u64 x.1.Tuple.Dst.Hi, .int .u64 x.1.Tuple.Dst.Lo, .int .i64 x.1.Tuple.SPort, .int .i64 x.1.Tuple.DPort, .int .i64 x.1.Flags, .bool x.1.Stamped, .int .u32 x.1.Val, .int .u32 x.1.Echo, .bool x.1.Long, .string ⟨⟨x.1.CID⟩⟩, .int .i64 x.1.Size]⟩, .int .i64 x.2]⟩, [], []⟩
def r16 (g : (List UInt8) → Option (api_Packet × Int)) : Dec := dV asS fun (y0 : List UInt8) => dEnd (ofG (g y0) rx16)
theorem r16_c {g : (List UInt8) → Option (api_Packet × Int)} {y0 : List UInt8} {x : api_Packet × Int} (hx : g y0 = some x) : r16 g [.string ⟨⟨y0⟩⟩] [] = some (rx16 x) := (dV_eq (asS_c)).trans (ofG_eq hx)
def s16 (g : (List UInt8) → Option (api_Packet × Int)) : Summ := ⟨[.v], r16 g⟩
theorem r16_eq {g : (List UInt8) → Option (api_Packet × Int)} {y0 : List UInt8} {x : api_Packet × Int} (hx : g y0 = some x) : (s16 g).run [.string ⟨⟨y0⟩⟩] [] = some (rx16 x) := r16_c hx
abbrev sums16 (packet_told : (List UInt8) → Option (api_Packet × Int × Int × Int)) : List (Nat × Summ) := [(34, s34 packet_told)]
theorem leads16 (packet_told : (List UInt8) → Option (api_Packet × Int × Int × Int)) (hS : SumsOK Try.prog (aget (sums16 packet_told))) (s : List UInt8) (res : api_Packet × Int) (h : packet_ParseF packet_told s = some res) :
    Leads Try.prog 16 0 ⟨⟨16, 17, [(0, .string ⟨⟨s⟩⟩)], [.code k16_5], [], false, none⟩, [], [], 0⟩ (fun v H _ => Res 0 (rx16 res) v H) := by
  unfold packet_ParseF at h
  refine ev_ok tab_ok hS true 3000 ?_
  conv => whnf
  replace h := obind.elim h; obtain ⟨t, hy, h⟩ := h
  refine sumK.q rfl rfl (r34_eq hy) rfl rfl rfl ?_
  conv => whnf
  all_goals (cases h; exact Res.z rfl rfl rfl)
theorem ok16 (packet_told : (List UInt8) → Option (api_Packet × Int × Int × Int)) (hS : SumsOK Try.prog (aget (sums16 packet_told))) : SumOK Try.prog 16 (s16 (packet_ParseF packet_told)) := by
  refine SumOK.of_leads tab_ok (fun ar os r ha hr => ?_) ⟨Try.f16, rfl, by decide, rfl⟩
  replace hr : r16 (packet_ParseF packet_told) ar (conts os) = some r := hr
  unfold r16 at hr
  generalize hc : conts os = C at hr
  replace hr := dV.elim hr; obtain ⟨v0, l1, y0, rfl, e0, hr⟩ := hr; obtain rfl := asS_eq _ _ e0
  replace hr := dFin hr; obtain ⟨rfl, rfl, x, h, rfl⟩ := hr
  obtain rfl := kinds_nil hc
  exact ⟨_, rfl, leads16 packet_told hS _ x h⟩
def packet_Parse : (List UInt8) → Option (api_Packet × Int) := packet_ParseF packet_told
theorem lift16 : SumOK Try.prog 16 (s16 packet_Parse) := ok16 packet_told (SumsOK.of_tab ⟨lift34, trivial⟩)
def packet_WhereF (packet_told : (List UInt8) → Option (api_Packet × Int × Int × Int)) (s : List UInt8) : Option (Int × Int × Int) :=
  (packet_told s).bind fun t =>
  cond (t.2.2.2 != 0)
    (
    some ((0, 0, t.2.2.2)))
    (
    some ((wI .i64 ((s.length : Int) - t.2.1), wI .i64 ((s.length : Int) - t.2.2.1), 0)))
def rx18 (x : Int × Int × Int) : SRes := ⟨.tuple ⟨[.int .i64 x.1, .int .i64 x.2.1, .int .i64 x.2.2]⟩, [], []⟩
def r18 (g : (List UInt8) → Option (Int × Int × Int)) : Dec := dV asS fun (y0 : List UInt8) => dEnd (ofG (g y0) rx18)
theorem r18_c {g : (List UInt8) → Option (Int × Int × Int)} {y0 : List UInt8} {x : Int × Int × Int} (hx : g y0 = some x) : r18 g [.string ⟨⟨y0⟩⟩] [] = some (rx18 x) := (dV_eq (asS_c)).trans (ofG_eq hx)
def s18 (g : (List UInt8) → Option (Int × Int × Int)) : Summ := ⟨[.v], r18 g⟩
theorem r18_eq {g : (List UInt8) → Option (Int × Int × Int)} {y0 : List UInt8} {x : Int × Int × Int} (hx : g y0 = some x) : (s18 g).run [.string ⟨⟨y0⟩⟩] [] = some (rx18 x) := r18_c hx
abbrev sums18 (packet_told : (List UInt8) → Option (api_Packet × Int × Int × Int)) : List (Nat × Summ) := [(34, s34 packet_told)]
theorem leads18 (packet_told : (List UInt8) → Option (api_Packet × Int × Int × Int)) (hS : SumsOK Try.prog (aget (sums18 packet_told))) (s : List UInt8) (res : Int × Int × Int) (h : packet_WhereF packet_told s = some res) :
    Leads Try.prog 18 0 ⟨⟨18, 27, [(0, .string ⟨⟨s⟩⟩)], [.code k18_11], [], false, none⟩, [], [], 0⟩ (fun v H _ => Res 0 (rx18 res) v H) := by
  unfold packet_WhereF at h
  refine ev_ok tab_ok hS true 3000 ?_
  conv => whnf
  replace h := obind.elim h; obtain ⟨t, hy, h⟩ := h
  refine sumK.q rfl rfl (r34_eq hy) rfl rfl rfl ?_
  conv => whnf
  refine br.h h ?_ ?_ ?_
  · rfl
  · clear h; intro hb h; conv => whnf
    all_goals (cases h; exact Res.z rfl rfl rfl)
  clear h; intro hb h; conv => whnf
  all_goals (cases h; exact Res.z rfl rfl rfl)
theorem ok18 (packet_told : (List UInt8) → Option (api_Packet × Int × Int × Int)) (hS : SumsOK Try.prog (aget (sums18 packet_told))) : SumOK Try.prog 18 (s18 (packet_WhereF packet_told)) := by
  refine SumOK.of_leads tab_ok (fun ar os r ha hr => ?_) ⟨Try.f18, rfl, by decide, rfl⟩
  replace hr : r18 (packet_WhereF packet_told) ar (conts os) = some r := hr
  unfold r18 at hr
  generalize hc : conts os = C at hr
  replace hr := dV.elim hr; obtain ⟨v0, l1, y0, rfl, e0, hr⟩ := hr; obtain rfl := asS_eq _ _ e0
  replace hr := dFin hr; obtain ⟨rfl, rfl, x, h, rfl⟩ := hr
  obtain rfl := kinds_nil hc
  exact ⟨_, rfl, leads18 packet_told hS _ x h⟩
def packet_Where : (List UInt8) → Option (Int × Int × Int) := packet_WhereF packet_told
theorem lift18 : SumOK Try.prog 18 (s18 packet_Where) := ok18 packet_told (SumsOK.of_tab ⟨lift34, trivial⟩)
def clock_LowF (stamp : Int) : Option Int :=
  some (wI .u16 stamp)
def rx65 (x : Int) : SRes := ⟨.int .u16 x, [], []⟩
def r65 (g : Int → Option Int) : Dec := dV (asI .u32) fun (y0 : Int) => dEnd (ofG (g y0) rx65)
theorem r65_c {g : Int → Option Int} {y0 : Int} {x : Int} (hx : g y0 = some x) : r65 g [.int .u32 y0] [] = some (rx65 x) := (dV_eq (asI_c _)).trans (ofG_eq hx)
def s65 (g : Int → Option Int) : Summ := ⟨[.v], r65 g⟩
theorem r65_eq {g : Int → Option Int} {y0 : Int} {x : Int} (hx : g y0 = some x) : (s65 g).run [.int .u32 y0] [] = some (rx65 x) := r65_c hx
abbrev sums65 : List (Nat × Summ) := []
theorem leads65 (hS : SumsOK Try.prog (aget (sums65))) (stamp : Int) (res : Int) (h : clock_LowF stamp = some res) :
    Leads Try.prog 65 0 ⟨⟨65, 5, [(0, .int .u32 stamp)], [.code k65_3], [], false, none⟩, [], [], 0⟩ (fun v H _ => Res 0 (rx65 res) v H) := by
  unfold clock_LowF at h
  refine ev_ok tab_ok hS true 3000 ?_
  conv => whnf
  all_goals (cases h; exact Res.z rfl rfl rfl)
theorem ok65 (hS : SumsOK Try.prog (aget (sums65))) : SumOK Try.prog 65 (s65 (clock_LowF)) := by
  refine SumOK.of_leads tab_ok (fun ar os r ha hr => ?_) ⟨Try.f65, rfl, by decide, rfl⟩
  replace hr : r65 (clock_LowF) ar (conts os) = some r := hr
  unfold r65 at hr
  generalize hc : conts os = C at hr
  replace hr := dV.elim hr; obtain ⟨v0, l1, y0, rfl, e0, hr⟩ := hr; obtain rfl := asI_eq _ _ _ e0
  replace hr := dFin hr; obtain ⟨rfl, rfl, x, h, rfl⟩ := hr
  obtain rfl := kinds_nil hc
  exact ⟨_, rfl, leads65 hS _ x h⟩
def clock_Low : Int → Option Int := clock_LowF
theorem lift65 : SumOK Try.prog 65 (s65 clock_Low) := ok65 (SumsOK.of_tab trivial)
def clock_LendF (clock_Low : Int → Option Int) (stamp : Int) (cookie : Int) : Option Int :=
  (clock_Low stamp).bind fun l =>
  let t := iorI .u32 (wI .u32 ((wI .u32 cookie) * 2 ^ 16)) (wI .u32 l)
  some (t)
def rx40 (x : Int) : SRes := ⟨.int .u32 x, [], []⟩
def r40 (g : Int → Int → Option Int) : Dec := dV (asI .u32) fun (y0 : Int) => dV (asI .u16) fun (y1 : Int) => dEnd (ofG (g y0 y1) rx40)
theorem r40_c {g : Int → Int → Option Int} {y0 : Int} {y1 : Int} {x : Int} (hx : g y0 y1 = some x) : r40 g [.int .u32 y0, .int .u16 y1] [] = some (rx40 x) := (dV_eq (asI_c _)).trans ((dV_eq (asI_c _)).trans (ofG_eq hx))
def s40 (g : Int → Int → Option Int) : Summ := ⟨[.v, .v], r40 g⟩
theorem r40_eq {g : Int → Int → Option Int} {y0 : Int} {y1 : Int} {x : Int} (hx : g y0 y1 = some x) : (s40 g).run [.int .u32 y0, .int .u16 y1] [] = some (rx40 x) := r40_c hx
abbrev sums40 (clock_Low : Int → Option Int) : List (Nat × Summ) := [(65, s65 clock_Low)]
theorem leads40 (clock_Low : Int → Option Int) (hS : SumsOK Try.prog (aget (sums40 clock_Low))) (stamp : Int) (cookie : Int) (res : Int) (h : clock_LendF clock_Low stamp cookie = some res) :
    Leads Try.prog 40 0 ⟨⟨40, 12, [(0, .int .u32 stamp), (1, .int .u16 cookie)], [.code k40_3], [], false, none⟩, [], [], 0⟩ (fun v H _ => Res 0 (rx40 res) v H) := by
  unfold clock_LendF at h
  refine ev_ok tab_ok hS true 3000 ?_
  conv => whnf
  replace h := obind.elim h; obtain ⟨l, hy, h⟩ := h
  refine sumK.q rfl rfl (r65_eq hy) rfl rfl rfl ?_
  conv => whnf
  let t : Int := iorI .u32 (wI .u32 ((wI .u32 cookie) * 2 ^ 16)) (wI .u32 l)
  all_goals (cases h; exact Res.z rfl rfl rfl)
theorem ok40 (clock_Low : Int → Option Int) (hS : SumsOK Try.prog (aget (sums40 clock_Low))) : SumOK Try.prog 40 (s40 (clock_LendF clock_Low)) := by
  refine SumOK.of_leads tab_ok (fun ar os r ha hr => ?_) ⟨Try.f40, rfl, by decide, rfl⟩
  replace hr : r40 (clock_LendF clock_Low) ar (conts os) = some r := hr
  unfold r40 at hr
  generalize hc : conts os = C at hr
  replace hr := dV.elim hr; obtain ⟨v0, l1, y0, rfl, e0, hr⟩ := hr; obtain rfl := asI_eq _ _ _ e0
  replace hr := dV.elim hr; obtain ⟨v1, l2, y1, rfl, e1, hr⟩ := hr; obtain rfl := asI_eq _ _ _ e1
  replace hr := dFin hr; obtain ⟨rfl, rfl, x, h, rfl⟩ := hr
  obtain rfl := kinds_nil hc
  exact ⟨_, rfl, leads40 clock_Low hS _ _ x h⟩
def clock_Lend : Int → Int → Option Int := clock_LendF clock_Low
theorem lift40 : SumOK Try.prog 40 (s40 clock_Lend) := ok40 clock_Low (SumsOK.of_tab ⟨lift65, trivial⟩)
def stamp_Out_1F (clock_Lend : Int → Int → Option Int) (p : api_Packet) (a1 : Int) : Option (Int × Int) :=
  (clock_Lend p.Val a1).bind fun l =>
  some ((l, a1))
def rx39 (x : Int × Int) : SRes := ⟨.int .u32 x.1, [], [some [.int .u16 x.2]]⟩
def r39 (g : api_Packet → Int → Option (Int × Int)) : Dec := dV uvapi_Packet fun (y0 : api_Packet) => dPt 0 (un1 (asI .u16)) fun (y1 : Int) => dEnd (ofG (g y0 y1) rx39)
theorem r39_c {g : api_Packet → Int → Option (Int × Int)} {y0 : api_Packet} {y1 : Int} {x : Int × Int} (hx : g y0 y1 = some x) : r39 g [.agg ⟨[.int .i64 y0.Tuple.Proto, .bool y0.Tuple.Src.V6, .int .u64 y0.Tuple.Src.Hi, .int .u64 y0.Tuple.Src.Lo, .bool y0.Tuple.Dst.V6, .int .u64 y0.Tuple.Dst.Hi, .int .u64 y0.Tuple.Dst.Lo, .int .i64 y0.Tuple.SPort, .int .i64 y0.Tuple.DPort, .int .i64 y0.Flags, .bool y0.Stamped, .int .u32 y0.Val, .int .u32 y0.Echo, .bool y0.Long, .string ⟨⟨y0.CID⟩⟩, .int .i64 y0.Size]⟩, .pointer (some ⟨0, 0, none⟩)] [some [.int .u16 y1]] = some (rx39 x) := (dV_eq (uvapi_Packet_c _)).trans ((dPt_eq (un1_c (asI_c _))).trans (ofG_eq hx))
def s39 (g : api_Packet → Int → Option (Int × Int)) : Summ := ⟨[.v, .pt 1], r39 g⟩
theorem r39_eq {g : api_Packet → Int → Option (Int × Int)} {y0 : api_Packet} {y1 : Int} {x : Int × Int} (hx : g y0 y1 = some x) : (s39 g).run [.agg ⟨[.int .i64 y0.Tuple.Proto, .bool y0.Tuple.Src.V6, .int .u64 y0.Tuple.Src.Hi, .int .u64 y0.Tuple.Src.Lo, .bool y0.Tuple.Dst.V6, .int .u64 y0.Tuple.Dst.Hi, .int .u64 y0.Tuple.Dst.Lo, .int .i64 y0.Tuple.SPort, .int .i64 y0.Tuple.DPort, .int .i64 y0.Flags, .bool y0.Stamped, .int .u32 y0.Val, .int .u32 y0.Echo, .bool y0.Long, .string ⟨⟨y0.CID⟩⟩, .int .i64 y0.Size]⟩, .pointer (some ⟨0, 0, none⟩)] [some [.int .u16 y1]] = some (rx39 x) := r39_c hx
abbrev sums39 (clock_Lend : Int → Int → Option Int) : List (Nat × Summ) := [(40, s40 clock_Lend)]
theorem leads39 (clock_Lend : Int → Int → Option Int) (hS : SumsOK Try.prog (aget (sums39 clock_Lend))) (p : api_Packet) (a1 : Int) (res : Int × Int) (h : stamp_Out_1F clock_Lend p a1 = some res) :
    Leads Try.prog 39 1 ⟨⟨39, 8, [(0, .agg ⟨[.int .i64 p.Tuple.Proto, .bool p.Tuple.Src.V6, .int .u64 p.Tuple.Src.Hi, .int .u64 p.Tuple.Src.Lo, .bool p.Tuple.Dst.V6, .int .u64 p.Tuple.Dst.Hi, .int .u64 p.Tuple.Dst.Lo, .int .i64 p.Tuple.SPort, .int .i64 p.Tuple.DPort, .int .i64 p.Flags, .bool p.Stamped, .int .u32 p.Val, .int .u32 p.Echo, .bool p.Long, .string ⟨⟨p.CID⟩⟩, .int .i64 p.Size]⟩), (1, .pointer (some ⟨0, 0, none⟩))], [.code k39_3], [], false, none⟩, [], [(0, .cells [.int .u16 a1])], 1⟩ (fun v H _ => Res 1 (rx39 res) v H) := by
  unfold stamp_Out_1F at h
  refine ev_ok tab_ok hS true 3000 ?_
  conv => whnf
  replace h := obind.elim h; obtain ⟨l, hy, h⟩ := h
  refine sumK.q rfl rfl (r40_eq hy) rfl rfl rfl ?_
  conv => whnf
  all_goals (cases h)
  all_goals exact Res.of [] rfl nw_0 (by decide) js_0 (wr_s (rfl) (hs_cells rfl) wr_0)
theorem ok39 (clock_Lend : Int → Int → Option Int) (hS : SumsOK Try.prog (aget (sums39 clock_Lend))) : SumOK Try.prog 39 (s39 (stamp_Out_1F clock_Lend)) := by
  refine SumOK.of_leads tab_ok (fun ar os r ha hr => ?_) ⟨Try.f39, rfl, by decide, rfl⟩
  replace hr : r39 (stamp_Out_1F clock_Lend) ar (conts os) = some r := hr
  unfold r39 at hr
  generalize hc : conts os = C at hr
  replace hr := dV.elim hr; obtain ⟨v0, l1, y0, rfl, e0, hr⟩ := hr; obtain rfl := uvapi_Packet_eq _ _ e0
  have hq := dPt.elim hr; clear hr; obtain ⟨c1, l2, C, y1, rfl, rfl, e1, hr⟩ := hq; obtain rfl := un1_eq (asI_eq _) e1
  replace hr := dFin hr; obtain ⟨rfl, rfl, x, h, rfl⟩ := hr
  obtain ⟨os, rfl, ha, hc⟩ := kinds_some ha hc
  obtain rfl := kinds_nil hc
  exact ⟨_, rfl, leads39 clock_Lend hS _ _ x h⟩
def stamp_Out_1 : api_Packet → Int → Option (Int × Int) := stamp_Out_1F clock_Lend
theorem lift39 : SumOK Try.prog 39 (s39 stamp_Out_1) := ok39 clock_Lend (SumsOK.of_tab ⟨lift40, trivial⟩)
def stamp_OutF (octet_Put : Int → Int → Option (List UInt8)) (packet_Parse : (List UInt8) → Option (api_Packet × Int)) (packet_Where : (List UInt8) → Option (Int × Int × Int)) (stamp_Out_1 : api_Packet → Int → Option (Int × Int)) (stamp_Patch : (List UInt8) → Int → (List UInt8) → Int → Option ((List UInt8) × Bool)) (tcp_Stamp : (List UInt8) → Option (Int × Int × Int)) (s : List UInt8) (cookie : Int) : Option ((List UInt8) × Int) :=
  (packet_Parse s).bind fun p =>
  cond (p.2 != 0)
    (
    some (([], p.2)))
    (
    cond (!p.1.Stamped)
      (
      some (([], 6)))
      (
      (packet_Where s).bind fun w =>
      oreq (decide ((0 : Int) ≤ w.2.1 ∧ w.2.1 ≤ (s.length : Int) ∧ (0 : Int) ≤ (wI .i64 (w.1 + 20)) ∧ (wI .i64 (w.1 + 20)) ≤ (w.2.1.toNat : Int))) <|
      let t := (s.drop (wI .i64 (w.1 + 20)).toNat).take (w.2.1.toNat - (wI .i64 (w.1 + 20)).toNat)
      (tcp_Stamp t).bind fun s1 =>
      oreq (decide ((0 : Int) ≤ w.1 ∧ w.1 ≤ (s.length : Int))) <|
      let t1 := (s.drop w.1.toNat).take (s.length - w.1.toNat)
      (stamp_Out_1 p.1 cookie).bind fun x1 =>
      (octet_Put (wI .u64 x1.1) 4).bind fun p1 =>
      (stamp_Patch t1 (wI .i64 ((wI .i64 (20 + s1.2.2)) + 0)) p1 16).bind fun p2 =>
      cond (!p2.2)
        (
        some (([], 3)))
        (
        oreq (decide ((0 : Int) ≤ w.1 ∧ w.1 ≤ (s.length : Int))) <|
        oreq (decide ((s.take w.1.toNat).length + p2.1.length < 2 ^ 63)) <|
        some (((s.take w.1.toNat) ++ p2.1, 0)))))
def rx21 (x : (List UInt8) × Int) : SRes := ⟨.tuple ⟨[.string ⟨⟨x.1⟩⟩, .int .i64 x.2]⟩, [], []⟩
def r21 (g : (List UInt8) → Int → Option ((List UInt8) × Int)) : Dec := dV asS fun (y0 : List UInt8) => dV (asI .u16) fun (y1 : Int) => dEnd (ofG (g y0 y1) rx21)
theorem r21_c {g : (List UInt8) → Int → Option ((List UInt8) × Int)} {y0 : List UInt8} {y1 : Int} {x : (List UInt8) × Int} (hx : g y0 y1 = some x) : r21 g [.string ⟨⟨y0⟩⟩, .int .u16 y1] [] = some (rx21 x) := (dV_eq (asS_c)).trans ((dV_eq (asI_c _)).trans (ofG_eq hx))
def s21 (g : (List UInt8) → Int → Option ((List UInt8) × Int)) : Summ := ⟨[.v, .v], r21 g⟩
theorem r21_eq {g : (List UInt8) → Int → Option ((List UInt8) × Int)} {y0 : List UInt8} {y1 : Int} {x : (List UInt8) × Int} (hx : g y0 y1 = some x) : (s21 g).run [.string ⟨⟨y0⟩⟩, .int .u16 y1] [] = some (rx21 x) := r21_c hx
abbrev sums21 (octet_Put : Int → Int → Option (List UInt8)) (packet_Parse : (List UInt8) → Option (api_Packet × Int)) (packet_Where : (List UInt8) → Option (Int × Int × Int)) (stamp_Out_1 : api_Packet → Int → Option (Int × Int)) (stamp_Patch : (List UInt8) → Int → (List UInt8) → Int → Option ((List UInt8) × Bool)) (tcp_Stamp : (List UInt8) → Option (Int × Int × Int)) : List (Nat × Summ) := [(44, s44 octet_Put), (16, s16 packet_Parse), (18, s18 packet_Where), (39, s39 stamp_Out_1), (11, s11 stamp_Patch), (64, s64 tcp_Stamp)]
theorem leads21 (octet_Put : Int → Int → Option (List UInt8)) (packet_Parse : (List UInt8) → Option (api_Packet × Int)) (packet_Where : (List UInt8) → Option (Int × Int × Int)) (stamp_Out_1 : api_Packet → Int → Option (Int × Int)) (stamp_Patch : (List UInt8) → Int → (List UInt8) → Int → Option ((List UInt8) × Bool)) (tcp_Stamp : (List UInt8) → Option (Int × Int × Int)) (hS : SumsOK Try.prog (aget (sums21 octet_Put packet_Parse packet_Where stamp_Out_1 stamp_Patch tcp_Stamp))) (s : List UInt8) (cookie : Int) (res : (List UInt8) × Int) (h : stamp_OutF octet_Put packet_Parse packet_Where stamp_Out_1 stamp_Patch tcp_Stamp s cookie = some res) :
    Leads Try.prog 21 0 ⟨⟨21, 11, [(0, .string ⟨⟨s⟩⟩), (1, .int .u16 cookie)], [.code k21_3], [], false, none⟩, [], [], 0⟩ (fun v H _ => Res 0 (rx21 res) v H) := by
  unfold stamp_OutF at h
  refine ev_ok tab_ok hS true 3000 ?_
  conv => whnf
  replace h := obind.elim h; obtain ⟨p, hy, h⟩ := h
  refine sumK.q rfl rfl (r16_eq hy) rfl rfl rfl ?_
  conv => whnf
  refine br.h h ?_ ?_ ?_
  · rfl
  · clear h; intro hb h; conv => whnf
    all_goals (cases h; exact Res.z rfl rfl rfl)
  clear h; intro hb h; conv => whnf
  refine br.h h ?_ ?_ ?_
  · rfl
  · clear h; intro hb h; conv => whnf
    all_goals (cases h; exact Res.z rfl rfl rfl)
  clear h; intro hb h; conv => whnf
  replace h := obind.elim h; obtain ⟨w, hy, h⟩ := h
  refine sumK.q rfl rfl (r18_eq hy) rfl rfl rfl ?_
  conv => whnf
  replace h := oreq.elim h; obtain ⟨hb, h⟩ := h
  first | (refine req.intro hb ?_; conv => whnf) | skip
  let t : List UInt8 := (s.drop (wI .i64 (w.1 + 20)).toNat).take (w.2.1.toNat - (wI .i64 (w.1 + 20)).toNat)
  replace h := obind.elim h; obtain ⟨s1, hy, h⟩ := h
  refine sumK.q rfl rfl (r64_eq hy) rfl rfl rfl ?_
  conv => whnf
  replace h := oreq.elim h; obtain ⟨hb, h⟩ := h
  first | (refine req.intro hb ?_; conv => whnf) | skip
  let t1 : List UInt8 := (s.drop w.1.toNat).take (s.length - w.1.toNat)
  replace h := obind.elim h; obtain ⟨x1, hy, h⟩ := h
  refine sumK.introF [0] (sumRun_of (aqs := [.agg ⟨[.int .i64 p.1.Tuple.Proto, .bool p.1.Tuple.Src.V6, .int .u64 p.1.Tuple.Src.Hi, .int .u64 p.1.Tuple.Src.Lo, .bool p.1.Tuple.Dst.V6, .int .u64 p.1.Tuple.Dst.Hi, .int .u64 p.1.Tuple.Dst.Lo, .int .i64 p.1.Tuple.SPort, .int .i64 p.1.Tuple.DPort, .int .i64 p.1.Flags, .bool p.1.Stamped, .int .u32 p.1.Val, .int .u32 p.1.Echo, .bool p.1.Long, .string ⟨⟨p.1.CID⟩⟩, .int .i64 p.1.Size]⟩, .pointer (some ⟨0, 0, none⟩)]) (ws := [.win 0 0 1 true]) (n := 0) (m := 0) (t' := 11) (ra_cons rfl rfl (ra_cons rfl rfl ra_nil)) rfl (by rfl) (r39_eq hy) rfl rfl rfl rfl (wb_win rfl rfl rfl ⟨rfl, Nat.le_of_ble_eq_true rfl⟩ rfl rfl wb_nil) an_nil rfl) ?_
  conv => whnf
  replace h := obind.elim h; obtain ⟨p1, hy, h⟩ := h
  refine sumK.q rfl rfl (r44_eq hy) rfl rfl rfl ?_
  conv => whnf
  replace h := obind.elim h; obtain ⟨p2, hy, h⟩ := h
  refine sumK.q rfl rfl (r11_eq hy) rfl rfl rfl ?_
  conv => whnf
  refine br.h h ?_ ?_ ?_
  · rfl
  · clear h; intro hb h; conv => whnf
    all_goals (cases h; exact Res.z rfl rfl rfl)
  clear h; intro hb h; conv => whnf
  replace h := oreq.elim h; obtain ⟨hb, h⟩ := h
  first | (refine req.intro hb ?_; conv => whnf) | skip
  replace h := oreq.elim h; obtain ⟨hb, h⟩ := h
  first | (refine req.intro hb ?_; conv => whnf) | skip
  all_goals (cases h; exact Res.z rfl rfl rfl)
theorem ok21 (octet_Put : Int → Int → Option (List UInt8)) (packet_Parse : (List UInt8) → Option (api_Packet × Int)) (packet_Where : (List UInt8) → Option (Int × Int × Int)) (stamp_Out_1 : api_Packet → Int → Option (Int × Int)) (stamp_Patch : (List UInt8) → Int → (List UInt8) → Int → Option ((List UInt8) × Bool)) (tcp_Stamp : (List UInt8) → Option (Int × Int × Int)) (hS : SumsOK Try.prog (aget (sums21 octet_Put packet_Parse packet_Where stamp_Out_1 stamp_Patch tcp_Stamp))) : SumOK Try.prog 21 (s21 (stamp_OutF octet_Put packet_Parse packet_Where stamp_Out_1 stamp_Patch tcp_Stamp)) := by
  refine SumOK.of_leads tab_ok (fun ar os r ha hr => ?_) ⟨Try.f21, rfl, by decide, rfl⟩
  replace hr : r21 (stamp_OutF octet_Put packet_Parse packet_Where stamp_Out_1 stamp_Patch tcp_Stamp) ar (conts os) = some r := hr
  unfold r21 at hr
  generalize hc : conts os = C at hr
  replace hr := dV.elim hr; obtain ⟨v0, l1, y0, rfl, e0, hr⟩ := hr; obtain rfl := asS_eq _ _ e0
  replace hr := dV.elim hr; obtain ⟨v1, l2, y1, rfl, e1, hr⟩ := hr; obtain rfl := asI_eq _ _ _ e1
  replace hr := dFin hr; obtain ⟨rfl, rfl, x, h, rfl⟩ := hr
  obtain rfl := kinds_nil hc
  exact ⟨_, rfl, leads21 octet_Put packet_Parse packet_Where stamp_Out_1 stamp_Patch tcp_Stamp hS _ _ x h⟩
def stamp_Out : (List UInt8) → Int → Option ((List UInt8) × Int) := stamp_OutF octet_Put packet_Parse packet_Where stamp_Out_1 stamp_Patch tcp_Stamp
theorem lift21 : SumOK Try.prog 21 (s21 stamp_Out) := ok21 octet_Put packet_Parse packet_Where stamp_Out_1 stamp_Patch tcp_Stamp (SumsOK.of_tab ⟨lift44, lift16, lift18, lift39, lift11, lift64, trivial⟩)
def R04_GetF (R02_Get : (List UInt8) → Int → Int → Option (Int × Bool)) (s : List UInt8) : Option (api_Addr × Bool) :=
  cond ((s.length : Int) == 4)
    (
    (R02_Get s 0 4).bind fun xg =>
    some ((api_Addr.mk false 0 xg.1, true)))
    (
    cond ((s.length : Int) == 16)
      (
      (R02_Get s 0 8).bind fun xg1 =>
      (R02_Get s 8 8).bind fun xg2 =>
      some ((api_Addr.mk true xg1.1 xg2.1, true)))
      (
      some ((api_Addr.mk false 0 0, false))))
def rx115 (x : api_Addr × Bool) : SRes := ⟨.tuple ⟨[.agg ⟨[.bool x.1.V6, .int .u64 x.1.Hi, .int .u64 x.1.Lo]⟩, .bool x.2]⟩, [], []⟩
def r115 (g : (List UInt8) → Option (api_Addr × Bool)) : Dec := dV asS fun (y0 : List UInt8) => dEnd (ofG (g y0) rx115)
theorem r115_c {g : (List UInt8) → Option (api_Addr × Bool)} {y0 : List UInt8} {x : api_Addr × Bool} (hx : g y0 = some x) : r115 g [.string ⟨⟨y0⟩⟩] [] = some (rx115 x) := (dV_eq (asS_c)).trans (ofG_eq hx)
def s115 (g : (List UInt8) → Option (api_Addr × Bool)) : Summ := ⟨[.v], r115 g⟩
theorem r115_eq {g : (List UInt8) → Option (api_Addr × Bool)} {y0 : List UInt8} {x : api_Addr × Bool} (hx : g y0 = some x) : (s115 g).run [.string ⟨⟨y0⟩⟩] [] = some (rx115 x) := r115_c hx
abbrev sums115 (R02_Get : (List UInt8) → Int → Int → Option (Int × Bool)) : List (Nat × Summ) := [(23, s23 R02_Get)]
theorem leads115 (R02_Get : (List UInt8) → Int → Int → Option (Int × Bool)) (hS : SumsOK Try.prog (aget (sums115 R02_Get))) (s : List UInt8) (res : api_Addr × Bool) (h : R04_GetF R02_Get s = some res) :
    Leads Try.prog 115 0 ⟨⟨115, 37, [(0, .string ⟨⟨s⟩⟩)], [.code k115_21], [], false, none⟩, [], [], 0⟩ (fun v H _ => Res 0 (rx115 res) v H) := by
  unfold R04_GetF at h
  refine ev_ok tab_ok hS true 3000 ?_
  conv => whnf
  refine br.h h ?_ ?_ ?_
  · rfl
  · clear h; intro hb h; conv => whnf
    replace h := obind.elim h; obtain ⟨xg, hy, h⟩ := h
    refine sumK.q rfl rfl (r23_eq hy) rfl rfl rfl ?_
    conv => whnf
    all_goals (cases h; exact Res.z rfl rfl rfl)
  clear h; intro hb h; conv => whnf
  refine br.h2 h ?_ ?_ ?_
  · rfl
  · clear h; intro hb h; conv => whnf
    all_goals (cases h; exact Res.z rfl rfl rfl)
  clear h; intro hb h; conv => whnf
  replace h := obind.elim h; obtain ⟨xg1, hy, h⟩ := h
  refine sumK.q rfl rfl (r23_eq hy) rfl rfl rfl ?_
  conv => whnf
  replace h := obind.elim h; obtain ⟨xg2, hy, h⟩ := h
  refine sumK.q rfl rfl (r23_eq hy) rfl rfl rfl ?_
  conv => whnf
  all_goals (cases h; exact Res.z rfl rfl rfl)
theorem ok115 (R02_Get : (List UInt8) → Int → Int → Option (Int × Bool)) (hS : SumsOK Try.prog (aget (sums115 R02_Get))) : SumOK Try.prog 115 (s115 (R04_GetF R02_Get)) := by
  refine SumOK.of_leads tab_ok (fun ar os r ha hr => ?_) ⟨Try.f115, rfl, by decide, rfl⟩
  replace hr : r115 (R04_GetF R02_Get) ar (conts os) = some r := hr
  unfold r115 at hr
  generalize hc : conts os = C at hr
  replace hr := dV.elim hr; obtain ⟨v0, l1, y0, rfl, e0, hr⟩ := hr; obtain rfl := asS_eq _ _ e0
  replace hr := dFin hr; obtain ⟨rfl, rfl, x, h, rfl⟩ := hr
  obtain rfl := kinds_nil hc
  exact ⟨_, rfl, leads115 R02_Get hS _ x h⟩
def R04_Get : (List UInt8) → Option (api_Addr × Bool) := R04_GetF R02_Get
theorem lift115 : SumOK Try.prog 115 (s115 R04_Get) := ok115 R02_Get (SumsOK.of_tab ⟨lift23, trivial⟩)
def R05_GetF (R02_Must : (List UInt8) → Int → Int → Option Int) (R03_Sum : (List UInt8) → Option Int) (R04_Get : (List UInt8) → Option (api_Addr × Bool)) (s : List UInt8) : Option (ipfour_Head × (List UInt8) × Int) :=
  cond (decide ((s.length : Int) < 20))
    (
    some ((ipfour_Head.mk 0 0 false 0 0 (api_Addr.mk false 0 0) (api_Addr.mk false 0 0) [], [], 2)))
    (
    (s[0]?).bind fun (b : UInt8) =>
    let t := wI .i64 (4 * (wI .i64 ((b.toNat : Int).tmod 16)))
    (R02_Must s 2 2).bind fun m =>
    (s[0]?).bind fun (b1 : UInt8) =>
    cond ((wI .u8 ((b1.toNat : Int).tdiv 16)) != 4)
      (
      some ((ipfour_Head.mk 0 0 false 0 0 (api_Addr.mk false 0 0) (api_Addr.mk false 0 0) [], [], 3)))
      (
      cond (decide (t < 20))
        (
        some ((ipfour_Head.mk 0 0 false 0 0 (api_Addr.mk false 0 0) (api_Addr.mk false 0 0) [], [], 3)))
        (
        cond (decide (m < t))
          (
          some ((ipfour_Head.mk 0 0 false 0 0 (api_Addr.mk false 0 0) (api_Addr.mk false 0 0) [], [], 3)))
          (
          cond (decide ((s.length : Int) < m))
            (
            some ((ipfour_Head.mk 0 0 false 0 0 (api_Addr.mk false 0 0) (api_Addr.mk false 0 0) [], [], 2)))
            (
            oreq (decide ((0 : Int) ≤ t ∧ t ≤ (s.length : Int))) <|
            (R03_Sum (s.take t.toNat)).bind fun s1 =>
            cond (s1 != 65535)
              (
              some ((ipfour_Head.mk 0 0 false 0 0 (api_Addr.mk false 0 0) (api_Addr.mk false 0 0) [], [], 4)))
              (
              (s[6]?).bind fun (b2 : UInt8) =>
              cond ((b2.toNat : Int) != 0)
                (
                (s[6]?).bind fun (b3 : UInt8) =>
                cond ((b3.toNat : Int) != 64)
                  (
                  some ((ipfour_Head.mk 0 0 false 0 0 (api_Addr.mk false 0 0) (api_Addr.mk false 0 0) [], [], 7)))
                  (
                  (s[7]?).bind fun (b4 : UInt8) =>
                  cond ((b4.toNat : Int) != 0)
                    (
                    some ((ipfour_Head.mk 0 0 false 0 0 (api_Addr.mk false 0 0) (api_Addr.mk false 0 0) [], [], 7)))
                    (
                    oreq (decide ((0 : Int) ≤ (16 : Int) ∧ (16 : Int) ≤ (s.length : Int) ∧ (0 : Int) ≤ (12 : Int) ∧ (12 : Int) ≤ (16 : Int))) <|
                    (R04_Get ((s.drop 12).take 4)).bind fun xg =>
                    oreq (decide ((0 : Int) ≤ (20 : Int) ∧ (20 : Int) ≤ (s.length : Int) ∧ (0 : Int) ≤ (16 : Int) ∧ (16 : Int) ≤ (20 : Int))) <|
                    (R04_Get ((s.drop 16).take 4)).bind fun xg1 =>
                    (s[1]?).bind fun (b5 : UInt8) =>
                    (R02_Must s 4 2).bind fun m1 =>
                    (s[6]?).bind fun (b6 : UInt8) =>
                    (s[8]?).bind fun (b7 : UInt8) =>
                    (s[9]?).bind fun (b8 : UInt8) =>
                    oreq (decide ((0 : Int) ≤ t ∧ t ≤ (s.length : Int) ∧ (0 : Int) ≤ (20 : Int) ∧ (20 : Int) ≤ (t.toNat : Int))) <|
                    oreq (decide ((0 : Int) ≤ m ∧ m ≤ (s.length : Int) ∧ (0 : Int) ≤ t ∧ t ≤ (m.toNat : Int))) <|
                    let t1 := (s.drop t.toNat).take (m.toNat - t.toNat)
                    some ((ipfour_Head.mk (wI .i64 (b5.toNat : Int)) m1 ((b6.toNat : Int) == 64) (wI .i64 (b7.toNat : Int)) (wI .i64 (b8.toNat : Int)) xg.1 xg1.1 ((s.drop 20).take (t.toNat - 20)), t1, 0)))))
                (
                (s[7]?).bind fun (b9 : UInt8) =>
                cond ((b9.toNat : Int) != 0)
                  (
                  some ((ipfour_Head.mk 0 0 false 0 0 (api_Addr.mk false 0 0) (api_Addr.mk false 0 0) [], [], 7)))
                  (
                  oreq (decide ((0 : Int) ≤ (16 : Int) ∧ (16 : Int) ≤ (s.length : Int) ∧ (0 : Int) ≤ (12 : Int) ∧ (12 : Int) ≤ (16 : Int))) <|
                  (R04_Get ((s.drop 12).take 4)).bind fun xg2 =>
                  oreq (decide ((0 : Int) ≤ (20 : Int) ∧ (20 : Int) ≤ (s.length : Int) ∧ (0 : Int) ≤ (16 : Int) ∧ (16 : Int) ≤ (20 : Int))) <|
                  (R04_Get ((s.drop 16).take 4)).bind fun xg3 =>
                  (s[1]?).bind fun (b10 : UInt8) =>
                  (R02_Must s 4 2).bind fun m2 =>
                  (s[6]?).bind fun (b11 : UInt8) =>
                  (s[8]?).bind fun (b12 : UInt8) =>
                  (s[9]?).bind fun (b13 : UInt8) =>
                  oreq (decide ((0 : Int) ≤ t ∧ t ≤ (s.length : Int) ∧ (0 : Int) ≤ (20 : Int) ∧ (20 : Int) ≤ (t.toNat : Int))) <|
                  oreq (decide ((0 : Int) ≤ m ∧ m ≤ (s.length : Int) ∧ (0 : Int) ≤ t ∧ t ≤ (m.toNat : Int))) <|
                  let t2 := (s.drop t.toNat).take (m.toNat - t.toNat)
                  some ((ipfour_Head.mk (wI .i64 (b10.toNat : Int)) m2 ((b11.toNat : Int) == 64) (wI .i64 (b12.toNat : Int)) (wI .i64 (b13.toNat : Int)) xg2.1 xg3.1 ((s.drop 20).take (t.toNat - 20)), t2, 0))))))))))
def rx93 (x : ipfour_Head × (List UInt8) × Int) : SRes := ⟨.tuple ⟨[.agg ⟨[.int .i64 x.1.Class, .int .i64 x.1.Mark, .bool x.1.Whole, .int .i64 x.1.TTL, .int .i64 x.1.Proto, .bool x.1.Src.V6, .int .u64 x.1.Src.Hi, .int .u64 x.1.Src.Lo, .bool x.1.Dst.V6, .int .u64 x.1.Dst.Hi, .int .u64 x.1.Dst.Lo, .string ⟨⟨x.1.Options⟩⟩]⟩, .string ⟨⟨x.2.1⟩⟩, .int .i64 x.2.2]⟩, [], []⟩
def r93 (g : (List UInt8) → Option (ipfour_Head × (List UInt8) × Int)) : Dec := dV asS fun (y0 : List UInt8) => dEnd (ofG (g y0) rx93)
theorem r93_c {g : (List UInt8) → Option (ipfour_Head × (List UInt8) × Int)} {y0 : List UInt8} {x : ipfour_Head × (List UInt8) × Int} (hx : g y0 = some x) : r93 g [.string ⟨⟨y0⟩⟩] [] = some (rx93 x) := (dV_eq (asS_c)).trans (ofG_eq hx)
def s93 (g : (List UInt8) → Option (ipfour_Head × (List UInt8) × Int)) : Summ := ⟨[.v], r93 g⟩
theorem r93_eq {g : (List UInt8) → Option (ipfour_Head × (List UInt8) × Int)} {y0 : List UInt8} {x : ipfour_Head × (List UInt8) × Int} (hx : g y0 = some x) : (s93 g).run [.string ⟨⟨y0⟩⟩] [] = some (rx93 x) := r93_c hx
abbrev sums93 (R02_Must : (List UInt8) → Int → Int → Option Int) (R03_Sum : (List UInt8) → Option Int) (R04_Get : (List UInt8) → Option (api_Addr × Bool)) : List (Nat × Summ) := [(45, s45 R02_Must), (12, s12 R03_Sum), (115, s115 R04_Get)]
theorem leads93 (R02_Must : (List UInt8) → Int → Int → Option Int) (R03_Sum : (List UInt8) → Option Int) (R04_Get : (List UInt8) → Option (api_Addr × Bool)) (hS : SumsOK Try.prog (aget (sums93 R02_Must R03_Sum R04_Get))) (s : List UInt8) (res : ipfour_Head × (List UInt8) × Int) (h : R05_GetF R02_Must R03_Sum R04_Get s = some res) :
    Leads Try.prog 93 0 ⟨⟨93, 97, [(0, .string ⟨⟨s⟩⟩)], [.code k93_39], [], false, none⟩, [], [], 0⟩ (fun v H _ => Res 0 (rx93 res) v H) := by
  unfold R05_GetF at h
  refine ev_ok tab_ok hS true 3000 ?_
  conv => whnf
  refine br.h h ?_ ?_ ?_
  · rfl
  · clear h; intro hb h; conv => whnf
    all_goals (cases h; exact Res.z rfl rfl rfl)
  clear h; intro hb h; conv => whnf
  replace h := obind.elim h; obtain ⟨b, hy, h⟩ := h
  refine rdS.intro hy ?_
  conv => whnf
  let t : Int := wI .i64 (4 * (wI .i64 ((b.toNat : Int).tmod 16)))
  replace h := obind.elim h; obtain ⟨m, hy, h⟩ := h
  refine sumK.q rfl rfl (r45_eq hy) rfl rfl rfl ?_
  conv => whnf
  replace h := obind.elim h; obtain ⟨b1, hy, h⟩ := h
  refine rdS.intro hy ?_
  conv => whnf
  refine br.h h ?_ ?_ ?_
  · rfl
  · clear h; intro hb h; conv => whnf
    all_goals (cases h; exact Res.z rfl rfl rfl)
  clear h; intro hb h; conv => whnf
  refine br.h h ?_ ?_ ?_
  · rfl
  · clear h; intro hb h; conv => whnf
    all_goals (cases h; exact Res.z rfl rfl rfl)
  clear h; intro hb h; conv => whnf
  refine br.h h ?_ ?_ ?_
  · rfl
  · clear h; intro hb h; conv => whnf
    all_goals (cases h; exact Res.z rfl rfl rfl)
  clear h; intro hb h; conv => whnf
  refine br.h h ?_ ?_ ?_
  · rfl
  · clear h; intro hb h; conv => whnf
    all_goals (cases h; exact Res.z rfl rfl rfl)
  clear h; intro hb h; conv => whnf
  replace h := oreq.elim h; obtain ⟨hb, h⟩ := h
  first | (refine req.intro hb ?_; conv => whnf) | skip
  replace h := obind.elim h; obtain ⟨s1, hy, h⟩ := h
  refine sumK.q rfl rfl (r12_eq hy) rfl rfl rfl ?_
  conv => whnf
  refine br.h h ?_ ?_ ?_
  · rfl
  · clear h; intro hb h; conv => whnf
    all_goals (cases h; exact Res.z rfl rfl rfl)
  clear h; intro hb h; conv => whnf
  replace h := obind.elim h; obtain ⟨b2, hy, h⟩ := h
  refine rdS.intro hy ?_
  conv => whnf
  refine br.h2 h ?_ ?_ ?_
  · rfl
  · clear h; intro hb h; conv => whnf
    replace h := obind.elim h; obtain ⟨b9, hy, h⟩ := h
    refine rdS.intro hy ?_
    conv => whnf
    refine br.h h ?_ ?_ ?_
    · rfl
    · clear h; intro hb h; conv => whnf
      all_goals (cases h; exact Res.z rfl rfl rfl)
    clear h; intro hb h; conv => whnf
    replace h := oreq.elim h; obtain ⟨hb, h⟩ := h
    first | (refine req.intro hb ?_; conv => whnf) | skip
    replace h := obind.elim h; obtain ⟨xg2, hy, h⟩ := h
    refine sumK.q rfl rfl (r115_eq hy) rfl rfl rfl ?_
    conv => whnf
    replace h := oreq.elim h; obtain ⟨hb, h⟩ := h
    first | (refine req.intro hb ?_; conv => whnf) | skip
    replace h := obind.elim h; obtain ⟨xg3, hy, h⟩ := h
    refine sumK.q rfl rfl (r115_eq hy) rfl rfl rfl ?_
    conv => whnf
    replace h := obind.elim h; obtain ⟨b10, hy, h⟩ := h
    refine rdS.intro hy ?_
    conv => whnf
    replace h := obind.elim h; obtain ⟨m2, hy, h⟩ := h
    refine sumK.q rfl rfl (r45_eq hy) rfl rfl rfl ?_
    conv => whnf
    replace h := obind.elim h; obtain ⟨b11, hy, h⟩ := h
    refine rdS.intro hy ?_
    conv => whnf
    replace h := obind.elim h; obtain ⟨b12, hy, h⟩ := h
    refine rdS.intro hy ?_
    conv => whnf
    replace h := obind.elim h; obtain ⟨b13, hy, h⟩ := h
    refine rdS.intro hy ?_
    conv => whnf
    replace h := oreq.elim h; obtain ⟨hb, h⟩ := h
    first | (refine req.intro hb ?_; conv => whnf) | skip
    replace h := oreq.elim h; obtain ⟨hb, h⟩ := h
    first | (refine req.intro hb ?_; conv => whnf) | skip
    let t2 : List UInt8 := (s.drop t.toNat).take (m.toNat - t.toNat)
    all_goals (cases h; exact Res.z rfl rfl rfl)
  clear h; intro hb h; conv => whnf
  replace h := obind.elim h; obtain ⟨b3, hy, h⟩ := h
  refine rdS.intro hy ?_
  conv => whnf
  refine br.h h ?_ ?_ ?_
  · rfl
  · clear h; intro hb h; conv => whnf
    all_goals (cases h; exact Res.z rfl rfl rfl)
  clear h; intro hb h; conv => whnf
  replace h := obind.elim h; obtain ⟨b4, hy, h⟩ := h
  refine rdS.intro hy ?_
  conv => whnf
  refine br.h h ?_ ?_ ?_
  · rfl
  · clear h; intro hb h; conv => whnf
    all_goals (cases h; exact Res.z rfl rfl rfl)
  clear h; intro hb h; conv => whnf
  replace h := oreq.elim h; obtain ⟨hb, h⟩ := h
  first | (refine req.intro hb ?_; conv => whnf) | skip
  replace h := obind.elim h; obtain ⟨xg, hy, h⟩ := h
  refine sumK.q rfl rfl (r115_eq hy) rfl rfl rfl ?_
  conv => whnf
  replace h := oreq.elim h; obtain ⟨hb, h⟩ := h
  first | (refine req.intro hb ?_; conv => whnf) | skip
  replace h := obind.elim h; obtain ⟨xg1, hy, h⟩ := h
  refine sumK.q rfl rfl (r115_eq hy) rfl rfl rfl ?_
  conv => whnf
  replace h := obind.elim h; obtain ⟨b5, hy, h⟩ := h
  refine rdS.intro hy ?_
  conv => whnf
  replace h := obind.elim h; obtain ⟨m1, hy, h⟩ := h
  refine sumK.q rfl rfl (r45_eq hy) rfl rfl rfl ?_
  conv => whnf
  replace h := obind.elim h; obtain ⟨b6, hy, h⟩ := h
  refine rdS.intro hy ?_
  conv => whnf
  replace h := obind.elim h; obtain ⟨b7, hy, h⟩ := h
  refine rdS.intro hy ?_
  conv => whnf
  replace h := obind.elim h; obtain ⟨b8, hy, h⟩ := h
  refine rdS.intro hy ?_
  conv => whnf
  replace h := oreq.elim h; obtain ⟨hb, h⟩ := h
  first | (refine req.intro hb ?_; conv => whnf) | skip
  replace h := oreq.elim h; obtain ⟨hb, h⟩ := h
  first | (refine req.intro hb ?_; conv => whnf) | skip
  let t1 : List UInt8 := (s.drop t.toNat).take (m.toNat - t.toNat)
  all_goals (cases h; exact Res.z rfl rfl rfl)
theorem ok93 (R02_Must : (List UInt8) → Int → Int → Option Int) (R03_Sum : (List UInt8) → Option Int) (R04_Get : (List UInt8) → Option (api_Addr × Bool)) (hS : SumsOK Try.prog (aget (sums93 R02_Must R03_Sum R04_Get))) : SumOK Try.prog 93 (s93 (R05_GetF R02_Must R03_Sum R04_Get)) := by
  refine SumOK.of_leads tab_ok (fun ar os r ha hr => ?_) ⟨Try.f93, rfl, by decide, rfl⟩
  replace hr : r93 (R05_GetF R02_Must R03_Sum R04_Get) ar (conts os) = some r := hr
  unfold r93 at hr
  generalize hc : conts os = C at hr
  replace hr := dV.elim hr; obtain ⟨v0, l1, y0, rfl, e0, hr⟩ := hr; obtain rfl := asS_eq _ _ e0
  replace hr := dFin hr; obtain ⟨rfl, rfl, x, h, rfl⟩ := hr
  obtain rfl := kinds_nil hc
  exact ⟨_, rfl, leads93 R02_Must R03_Sum R04_Get hS _ x h⟩
def R05_Get : (List UInt8) → Option (ipfour_Head × (List UInt8) × Int) := R05_GetF R02_Must R03_Sum R04_Get
theorem lift93 : SumOK Try.prog 93 (s93 R05_Get) := ok93 R02_Must R03_Sum R04_Get (SumsOK.of_tab ⟨lift45, lift12, lift115, trivial⟩)
def R06_GetF (R02_Must : (List UInt8) → Int → Int → Option Int) (R04_Get : (List UInt8) → Option (api_Addr × Bool)) (s : List UInt8) : Option (ipsix_Head × (List UInt8) × Int) :=
  cond (decide ((s.length : Int) < 40))
    (
    some ((ipsix_Head.mk 0 0 0 0 (api_Addr.mk false 0 0) (api_Addr.mk false 0 0), [], 2)))
    (
    (R02_Must s 0 4).bind fun m =>
    (R02_Must s 4 2).bind fun m1 =>
    cond ((wI .i64 (m.tdiv 268435456)) != 6)
      (
      some ((ipsix_Head.mk 0 0 0 0 (api_Addr.mk false 0 0) (api_Addr.mk false 0 0), [], 3)))
      (
      let t := decide ((wI .i64 ((s.length : Int) - 40)) < m1)
      cond (t)
        (
        some ((ipsix_Head.mk 0 0 0 0 (api_Addr.mk false 0 0) (api_Addr.mk false 0 0), [], 2)))
        (
        oreq (decide ((0 : Int) ≤ (24 : Int) ∧ (24 : Int) ≤ (s.length : Int) ∧ (0 : Int) ≤ (8 : Int) ∧ (8 : Int) ≤ (24 : Int))) <|
        (R04_Get ((s.drop 8).take 16)).bind fun xg =>
        oreq (decide ((0 : Int) ≤ (40 : Int) ∧ (40 : Int) ≤ (s.length : Int) ∧ (0 : Int) ≤ (24 : Int) ∧ (24 : Int) ≤ (40 : Int))) <|
        (R04_Get ((s.drop 24).take 16)).bind fun xg1 =>
        (s[6]?).bind fun (b : UInt8) =>
        (s[7]?).bind fun (b1 : UInt8) =>
        oreq (decide ((0 : Int) ≤ (wI .i64 (40 + m1)) ∧ (wI .i64 (40 + m1)) ≤ (s.length : Int) ∧ (0 : Int) ≤ (40 : Int) ∧ (40 : Int) ≤ ((wI .i64 (40 + m1)).toNat : Int))) <|
        let t1 := (s.drop 40).take ((wI .i64 (40 + m1)).toNat - 40)
        some ((ipsix_Head.mk ((wI .i64 (m.tdiv 1048576)).tmod 256) (m.tmod 1048576) (wI .i64 (b.toNat : Int)) (wI .i64 (b1.toNat : Int)) xg.1 xg1.1, t1, 0)))))
def rx94 (x : ipsix_Head × (List UInt8) × Int) : SRes := ⟨.tuple ⟨[.agg ⟨[.int .i64 x.1.Class, .int .i64 x.1.Label, .int .i64 x.1.Next, .int .i64 x.1.Hop, .bool x.1.Src.V6, .int .u64 x.1.Src.Hi, .int .u64 x.1.Src.Lo, .bool x.1.Dst.V6, .int .u64 x.1.Dst.Hi, .int .u64 x.1.Dst.Lo]⟩, .string ⟨⟨x.2.1⟩⟩, .int .i64 x.2.2]⟩, [], []⟩
def r94 (g : (List UInt8) → Option (ipsix_Head × (List UInt8) × Int)) : Dec := dV asS fun (y0 : List UInt8) => dEnd (ofG (g y0) rx94)
theorem r94_c {g : (List UInt8) → Option (ipsix_Head × (List UInt8) × Int)} {y0 : List UInt8} {x : ipsix_Head × (List UInt8) × Int} (hx : g y0 = some x) : r94 g [.string ⟨⟨y0⟩⟩] [] = some (rx94 x) := (dV_eq (asS_c)).trans (ofG_eq hx)
def s94 (g : (List UInt8) → Option (ipsix_Head × (List UInt8) × Int)) : Summ := ⟨[.v], r94 g⟩
theorem r94_eq {g : (List UInt8) → Option (ipsix_Head × (List UInt8) × Int)} {y0 : List UInt8} {x : ipsix_Head × (List UInt8) × Int} (hx : g y0 = some x) : (s94 g).run [.string ⟨⟨y0⟩⟩] [] = some (rx94 x) := r94_c hx
abbrev sums94 (R02_Must : (List UInt8) → Int → Int → Option Int) (R04_Get : (List UInt8) → Option (api_Addr × Bool)) : List (Nat × Summ) := [(45, s45 R02_Must), (115, s115 R04_Get)]
theorem leads94 (R02_Must : (List UInt8) → Int → Int → Option Int) (R04_Get : (List UInt8) → Option (api_Addr × Bool)) (hS : SumsOK Try.prog (aget (sums94 R02_Must R04_Get))) (s : List UInt8) (res : ipsix_Head × (List UInt8) × Int) (h : R06_GetF R02_Must R04_Get s = some res) :
    Leads Try.prog 94 0 ⟨⟨94, 59, [(0, .string ⟨⟨s⟩⟩)], [.code k94_27], [], false, none⟩, [], [], 0⟩ (fun v H _ => Res 0 (rx94 res) v H) := by
  unfold R06_GetF at h
  refine ev_ok tab_ok hS true 3000 ?_
  conv => whnf
  refine br.h h ?_ ?_ ?_
  · rfl
  · clear h; intro hb h; conv => whnf
    all_goals (cases h; exact Res.z rfl rfl rfl)
  clear h; intro hb h; conv => whnf
  replace h := obind.elim h; obtain ⟨m, hy, h⟩ := h
  refine sumK.q rfl rfl (r45_eq hy) rfl rfl rfl ?_
  conv => whnf
  replace h := obind.elim h; obtain ⟨m1, hy, h⟩ := h
  refine sumK.q rfl rfl (r45_eq hy) rfl rfl rfl ?_
  conv => whnf
  refine br.h h ?_ ?_ ?_
  · rfl
  · clear h; intro hb h; conv => whnf
    all_goals (cases h; exact Res.z rfl rfl rfl)
  clear h; intro hb h; conv => whnf
  let t : Bool := decide ((wI .i64 ((s.length : Int) - 40)) < m1)
  refine br.h h ?_ ?_ ?_
  · rfl
  · clear h; intro hb h; conv => whnf
    all_goals (cases h; exact Res.z rfl rfl rfl)
  clear h; intro hb h; conv => whnf
  replace h := oreq.elim h; obtain ⟨hb, h⟩ := h
  first | (refine req.intro hb ?_; conv => whnf) | skip
  replace h := obind.elim h; obtain ⟨xg, hy, h⟩ := h
  refine sumK.q rfl rfl (r115_eq hy) rfl rfl rfl ?_
  conv => whnf
  replace h := oreq.elim h; obtain ⟨hb, h⟩ := h
  first | (refine req.intro hb ?_; conv => whnf) | skip
  replace h := obind.elim h; obtain ⟨xg1, hy, h⟩ := h
  refine sumK.q rfl rfl (r115_eq hy) rfl rfl rfl ?_
  conv => whnf
  replace h := obind.elim h; obtain ⟨b, hy, h⟩ := h
  refine rdS.intro hy ?_
  conv => whnf
  replace h := obind.elim h; obtain ⟨b1, hy, h⟩ := h
  refine rdS.intro hy ?_
  conv => whnf
  replace h := oreq.elim h; obtain ⟨hb, h⟩ := h
  first | (refine req.intro hb ?_; conv => whnf) | skip
  let t1 : List UInt8 := (s.drop 40).take ((wI .i64 (40 + m1)).toNat - 40)
  all_goals (cases h; exact Res.z rfl rfl rfl)
theorem ok94 (R02_Must : (List UInt8) → Int → Int → Option Int) (R04_Get : (List UInt8) → Option (api_Addr × Bool)) (hS : SumsOK Try.prog (aget (sums94 R02_Must R04_Get))) : SumOK Try.prog 94 (s94 (R06_GetF R02_Must R04_Get)) := by
  refine SumOK.of_leads tab_ok (fun ar os r ha hr => ?_) ⟨Try.f94, rfl, by decide, rfl⟩
  replace hr : r94 (R06_GetF R02_Must R04_Get) ar (conts os) = some r := hr
  unfold r94 at hr
  generalize hc : conts os = C at hr
  replace hr := dV.elim hr; obtain ⟨v0, l1, y0, rfl, e0, hr⟩ := hr; obtain rfl := asS_eq _ _ e0
  replace hr := dFin hr; obtain ⟨rfl, rfl, x, h, rfl⟩ := hr
  obtain rfl := kinds_nil hc
  exact ⟨_, rfl, leads94 R02_Must R04_Get hS _ x h⟩
def R06_Get : (List UInt8) → Option (ipsix_Head × (List UInt8) × Int) := R06_GetF R02_Must R04_Get
theorem lift94 : SumOK Try.prog 94 (s94 R06_Get) := ok94 R02_Must R04_Get (SumsOK.of_tab ⟨lift45, lift115, trivial⟩)
def R11_readF (R05_Get : (List UInt8) → Option (ipfour_Head × (List UInt8) × Int)) (R06_Get : (List UInt8) → Option (ipsix_Head × (List UInt8) × Int)) (s : List UInt8) : Option (R11_head × Int) :=
  (s[0]?).bind fun (b : UInt8) =>
  cond ((wI .u8 ((b.toNat : Int).tdiv 16)) == 4)
    (
    (R05_Get s).bind fun xg =>
    let t := wI .i64 (20 + (xg.1.Options.length : Int))
    some ((R11_head.mk xg.1.Src xg.1.Dst xg.1.Proto t xg.2.1, xg.2.2)))
    (
    (s[0]?).bind fun (b1 : UInt8) =>
    cond ((wI .u8 ((b1.toNat : Int).tdiv 16)) == 6)
      (
      (R06_Get s).bind fun xg1 =>
      some ((R11_head.mk xg1.1.Src xg1.1.Dst xg1.1.Next 40 xg1.2.1, xg1.2.2)))
      (
      some ((R11_head.mk (api_Addr.mk false 0 0) (api_Addr.mk false 0 0) 0 0 [], 3))))
def rx66 (x : R11_head × Int) : SRes := ⟨.tuple ⟨[.agg ⟨[.bool x.1.src.V6, .int .u64 x.1.src.Hi, .int .u64 x.1.src.Lo, .bool x.1.dst.V6, .int .u64 x.1.dst.Hi, .int .u64 x.1.dst.Lo, .int .i64 x.1.proto, .int .i64 x.1.size, .string ⟨⟨x.1.body⟩⟩]⟩, .int .i64 x.2]⟩, [], []⟩
def r66 (g : (List UInt8) → Option (R11_head × Int)) : Dec := dV asS fun (y0 : List UInt8) => dEnd (ofG (g y0) rx66)
theorem r66_c {g : (List UInt8) → Option (R11_head × Int)} {y0 : List UInt8} {x : R11_head × Int} (hx : g y0 = some x) : r66 g [.string ⟨⟨y0⟩⟩] [] = some (rx66 x) := (dV_eq (asS_c)).trans (ofG_eq hx)
def s66 (g : (List UInt8) → Option (R11_head × Int)) : Summ := ⟨[.v], r66 g⟩
theorem r66_eq {g : (List UInt8) → Option (R11_head × Int)} {y0 : List UInt8} {x : R11_head × Int} (hx : g y0 = some x) : (s66 g).run [.string ⟨⟨y0⟩⟩] [] = some (rx66 x) := r66_c hx
abbrev sums66 (R05_Get : (List UInt8) → Option (ipfour_Head × (List UInt8) × Int)) (R06_Get : (List UInt8) → Option (ipsix_Head × (List UInt8) × Int)) : List (Nat × Summ) := [(93, s93 R05_Get), (94, s94 R06_Get)]
theorem leads66 (R05_Get : (List UInt8) → Option (ipfour_Head × (List UInt8) × Int)) (R06_Get : (List UInt8) → Option (ipsix_Head × (List UInt8) × Int)) (hS : SumsOK Try.prog (aget (sums66 R05_Get R06_Get))) (s : List UInt8) (res : R11_head × Int) (h : R11_readF R05_Get R06_Get s = some res) :
    Leads Try.prog 66 0 ⟨⟨66, 53, [(0, .string ⟨⟨s⟩⟩)], [.code k66_19], [], false, none⟩, [], [], 0⟩ (fun v H _ => Res 0 (rx66 res) v H) := by
  unfold R11_readF at h
  refine ev_ok tab_ok hS true 3000 ?_
  conv => whnf
  replace h := obind.elim h; obtain ⟨b, hy, h⟩ := h
  refine rdS.intro hy ?_
  conv => whnf
  refine br.h h ?_ ?_ ?_
  · rfl
  · clear h; intro hb h; conv => whnf
    replace h := obind.elim h; obtain ⟨xg, hy, h⟩ := h
    refine sumK.q rfl rfl (r93_eq hy) rfl rfl rfl ?_
    conv => whnf
    let t : Int := wI .i64 (20 + (xg.1.Options.length : Int))
    all_goals (cases h; exact Res.z rfl rfl rfl)
  clear h; intro hb h; conv => whnf
  replace h := obind.elim h; obtain ⟨b1, hy, h⟩ := h
  refine rdS.intro hy ?_
  conv => whnf
  refine br.h2 h ?_ ?_ ?_
  · rfl
  · clear h; intro hb h; conv => whnf
    all_goals (cases h; exact Res.z rfl rfl rfl)
  clear h; intro hb h; conv => whnf
  replace h := obind.elim h; obtain ⟨xg1, hy, h⟩ := h
  refine sumK.q rfl rfl (r94_eq hy) rfl rfl rfl ?_
  conv => whnf
  all_goals (cases h; exact Res.z rfl rfl rfl)
theorem ok66 (R05_Get : (List UInt8) → Option (ipfour_Head × (List UInt8) × Int)) (R06_Get : (List UInt8) → Option (ipsix_Head × (List UInt8) × Int)) (hS : SumsOK Try.prog (aget (sums66 R05_Get R06_Get))) : SumOK Try.prog 66 (s66 (R11_readF R05_Get R06_Get)) := by
  refine SumOK.of_leads tab_ok (fun ar os r ha hr => ?_) ⟨Try.f66, rfl, by decide, rfl⟩
  replace hr : r66 (R11_readF R05_Get R06_Get) ar (conts os) = some r := hr
  unfold r66 at hr
  generalize hc : conts os = C at hr
  replace hr := dV.elim hr; obtain ⟨v0, l1, y0, rfl, e0, hr⟩ := hr; obtain rfl := asS_eq _ _ e0
  replace hr := dFin hr; obtain ⟨rfl, rfl, x, h, rfl⟩ := hr
  obtain rfl := kinds_nil hc
  exact ⟨_, rfl, leads66 R05_Get R06_Get hS _ x h⟩
def R11_read : (List UInt8) → Option (R11_head × Int) := R11_readF R05_Get R06_Get
theorem lift66 : SumOK Try.prog 66 (s66 R11_read) := ok66 R05_Get R06_Get (SumsOK.of_tab ⟨lift93, lift94, trivial⟩)
end Go.Vm.Code
