import Derived.Test.YtdnhoocoofnibaaMUdpTellsa
namespace Go.Vm.Code
open Go Go.Vm Go.Proofs
set_option maxRecDepth 100000
set_option maxHeartbeats 4000000
set_option linter.unusedVariables false

/-! cloakroom/cloakroomref08.Put -/
def R08_PutF (R02_Put : Int → Int → Option (List UInt8)) (R03_Of : (List UInt8) → Option Int) (R03_Set : (List UInt8) → Int → Int → Int → Option (List UInt8)) (R05_Pseudo : api_Addr → api_Addr → Int → Int → Option (List UInt8)) (R08_in : Int → Option Bool) (ha0 : udp_Head) (src : api_Addr) (dst : api_Addr) (payload : List UInt8) : Option ((List UInt8) × Int) :=
  (R05_Pseudo src dst 17 (wI .i64 (8 + (payload.length : Int)))).bind fun p =>
  (R08_in ha0.SPort).bind fun i =>
  cond (!i)
    (
    some (([], 1)))
    (
    (R08_in ha0.DPort).bind fun i1 =>
    cond (!i1)
      (
      some (([], 1)))
      (
      cond (p == [])
        (
        some (([], 1)))
        (
        let t := decide ((wI .i64 (8 + (payload.length : Int))) > 65535)
        cond (t)
          (
          some (([], 5)))
          (
          (R02_Put (wI .u64 ha0.SPort) 2).bind fun p1 =>
          (R02_Put (wI .u64 ha0.DPort) 2).bind fun p2 =>
          oreq (decide (p1.length + p2.length < 2 ^ 63)) <|
          let t1 := wI .u64 (wI .i64 (8 + (payload.length : Int)))
          (R02_Put t1 2).bind fun p3 =>
          oreq (decide ((p1 ++ p2).length + p3.length < 2 ^ 63)) <|
          oreq (decide (((p1 ++ p2) ++ p3).length + 2 < 2 ^ 63)) <|
          oreq (decide ((((p1 ++ p2) ++ p3) ++ [0, 0]).length + payload.length < 2 ^ 63)) <|
          let t2 := (((p1 ++ p2) ++ p3) ++ [0, 0]) ++ payload
          oreq (decide (p.length + t2.length < 2 ^ 63)) <|
          (R03_Of (p ++ t2)).bind fun xo =>
          cond (xo == 0)
            (
            (R03_Set t2 6 2 65535).bind fun s =>
            some ((s, 0)))
            (
            (R03_Set t2 6 2 (wI .u64 xo)).bind fun s1 =>
            some ((s1, 0)))))))
def rx17 (x : (List UInt8) × Int) : SRes := ⟨.tuple ⟨[.string ⟨⟨x.1⟩⟩, .int .i64 x.2]⟩, [], []⟩
def r17 (g : udp_Head → api_Addr → api_Addr → (List UInt8) → Option ((List UInt8) × Int)) : Dec := dV uvudp_Head fun (y0 : udp_Head) => dV uvapi_Addr fun (y1 : api_Addr) => dV uvapi_Addr fun (y2 : api_Addr) => dV asS fun (y3 : List UInt8) => dEnd (ofG (g y0 y1 y2 y3) rx17)
theorem r17_c {g : udp_Head → api_Addr → api_Addr → (List UInt8) → Option ((List UInt8) × Int)} {y0 : udp_Head} {y1 : api_Addr} {y2 : api_Addr} {y3 : List UInt8} {x : (List UInt8) × Int} (hx : g y0 y1 y2 y3 = some x) : r17 g [.agg ⟨[.int .i64 y0.SPort, .int .i64 y0.DPort]⟩, .agg ⟨[.bool y1.V6, .int .u64 y1.Hi, .int .u64 y1.Lo]⟩, .agg ⟨[.bool y2.V6, .int .u64 y2.Hi, .int .u64 y2.Lo]⟩, .string ⟨⟨y3⟩⟩] [] = some (rx17 x) := (dV_eq (uvudp_Head_c _)).trans ((dV_eq (uvapi_Addr_c _)).trans ((dV_eq (uvapi_Addr_c _)).trans ((dV_eq (asS_c)).trans (ofG_eq hx))))
def s17 (g : udp_Head → api_Addr → api_Addr → (List UInt8) → Option ((List UInt8) × Int)) : Summ := ⟨[.v, .v, .v, .v], r17 g⟩
theorem r17_eq {g : udp_Head → api_Addr → api_Addr → (List UInt8) → Option ((List UInt8) × Int)} {y0 : udp_Head} {y1 : api_Addr} {y2 : api_Addr} {y3 : List UInt8} {x : (List UInt8) × Int} (hx : g y0 y1 y2 y3 = some x) : (s17 g).run [.agg ⟨[.int .i64 y0.SPort, .int .i64 y0.DPort]⟩, .agg ⟨[.bool y1.V6, .int .u64 y1.Hi, .int .u64 y1.Lo]⟩, .agg ⟨[.bool y2.V6, .int .u64 y2.Hi, .int .u64 y2.Lo]⟩, .string ⟨⟨y3⟩⟩] [] = some (rx17 x) := r17_c hx
abbrev sums17 (R02_Put : Int → Int → Option (List UInt8)) (R03_Of : (List UInt8) → Option Int) (R03_Set : (List UInt8) → Int → Int → Int → Option (List UInt8)) (R05_Pseudo : api_Addr → api_Addr → Int → Int → Option (List UInt8)) (R08_in : Int → Option Bool) : List (Nat × Summ) := [(67, s67 R02_Put), (68, s68 R03_Of), (69, s69 R03_Set), (28, s28 R05_Pseudo), (66, s66 R08_in)]
theorem leads17 (R02_Put : Int → Int → Option (List UInt8)) (R03_Of : (List UInt8) → Option Int) (R03_Set : (List UInt8) → Int → Int → Int → Option (List UInt8)) (R05_Pseudo : api_Addr → api_Addr → Int → Int → Option (List UInt8)) (R08_in : Int → Option Bool) (hS : SumsOK Try.prog (aget (sums17 R02_Put R03_Of R03_Set R05_Pseudo R08_in))) (ha0 : udp_Head) (src : api_Addr) (dst : api_Addr) (payload : List UInt8) (res : (List UInt8) × Int) (h : R08_PutF R02_Put R03_Of R03_Set R05_Pseudo R08_in ha0 src dst payload = some res) :
    Leads Try.prog 17 0 ⟨⟨17, 63, [(0, .agg ⟨[.int .i64 ha0.SPort, .int .i64 ha0.DPort]⟩), (1, .agg ⟨[.bool src.V6, .int .u64 src.Hi, .int .u64 src.Lo]⟩), (2, .agg ⟨[.bool dst.V6, .int .u64 dst.Hi, .int .u64 dst.Lo]⟩), (3, .string ⟨⟨payload⟩⟩)], [.code k17_28], [], false, none⟩, [], [], 0⟩ (fun v H _ => Res 0 (rx17 res) v H) := by
  unfold R08_PutF at h
  refine ev_ok tab_ok hS true 3000 ?_
  conv => whnf
  obtain ⟨p, hy, h2⟩ := obind.elim h; clear h; have h := h2; clear h2
  refine sumK.introF [] (sumRun_of (aqs := [.agg ⟨[.bool src.V6, .int .u64 src.Hi, .int .u64 src.Lo]⟩, .agg ⟨[.bool dst.V6, .int .u64 dst.Hi, .int .u64 dst.Lo]⟩, .int .i64 17, .int .i64 (wI .i64 (8 + (payload.length : Int)))]) (ws := []) (n := 0) (m := 0) (t' := 3) (ra_cons rfl rfl (ra_cons rfl rfl (ra_cons rfl rfl (ra_cons rfl rfl ra_nil)))) rfl (by rfl) (r28_eq hy) rfl rfl rfl rfl wb_nil an_nil rfl) ?_
  conv => whnf
  obtain ⟨i, hy, h2⟩ := obind.elim h; clear h; have h := h2; clear h2
  refine sumK.introF [] (sumRun_of (aqs := [.int .i64 ha0.SPort]) (ws := []) (n := 0) (m := 0) (t' := 3) (ra_cons rfl rfl ra_nil) rfl (by rfl) (r66_eq hy) rfl rfl rfl rfl wb_nil an_nil rfl) ?_
  conv => whnf
  refine br.h h ?_ ?_ ?_
  · rfl
  · clear h; intro hb h; conv => whnf
    all_goals (cases h)
    all_goals exact Res.of [] rfl nw_0 (by decide) js_0 wr_0
  clear h; intro hb h; conv => whnf
  obtain ⟨i1, hy, h2⟩ := obind.elim h; clear h; have h := h2; clear h2
  refine sumK.introF [] (sumRun_of (aqs := [.int .i64 ha0.DPort]) (ws := []) (n := 0) (m := 0) (t' := 3) (ra_cons rfl rfl ra_nil) rfl (by rfl) (r66_eq hy) rfl rfl rfl rfl wb_nil an_nil rfl) ?_
  conv => whnf
  refine br.h h ?_ ?_ ?_
  · rfl
  · clear h; intro hb h; conv => whnf
    all_goals (cases h)
    all_goals exact Res.of [] rfl nw_0 (by decide) js_0 wr_0
  clear h; intro hb h; conv => whnf
  refine br.h h ?_ ?_ ?_
  · rfl
  · clear h; intro hb h; conv => whnf
    all_goals (cases h)
    all_goals exact Res.of [] rfl nw_0 (by decide) js_0 wr_0
  clear h; intro hb h; conv => whnf
  let t : Bool := decide ((wI .i64 (8 + (payload.length : Int))) > 65535)
  refine br.h h ?_ ?_ ?_
  · rfl
  · clear h; intro hb h; conv => whnf
    all_goals (cases h)
    all_goals exact Res.of [] rfl nw_0 (by decide) js_0 wr_0
  clear h; intro hb h; conv => whnf
  obtain ⟨p1, hy, h2⟩ := obind.elim h; clear h; have h := h2; clear h2
  refine sumK.introF [] (sumRun_of (aqs := [.int .u64 (wI .u64 ha0.SPort), .int .i64 2]) (ws := []) (n := 0) (m := 0) (t' := 6) (ra_cons rfl rfl (ra_cons rfl rfl ra_nil)) rfl (by rfl) (r67_eq hy) rfl rfl rfl rfl wb_nil an_nil rfl) ?_
  conv => whnf
  obtain ⟨p2, hy, h2⟩ := obind.elim h; clear h; have h := h2; clear h2
  refine sumK.introF [] (sumRun_of (aqs := [.int .u64 (wI .u64 ha0.DPort), .int .i64 2]) (ws := []) (n := 0) (m := 0) (t' := 10) (ra_cons rfl rfl (ra_cons rfl rfl ra_nil)) rfl (by rfl) (r67_eq hy) rfl rfl rfl rfl wb_nil an_nil rfl) ?_
  conv => whnf
  replace h := oreq.elim h; have hb := h.1; replace h := h.2
  first | (refine req.intro hb ?_; conv => whnf) | skip
  let t1 : Int := wI .u64 (wI .i64 (8 + (payload.length : Int)))
  obtain ⟨p3, hy, h2⟩ := obind.elim h; clear h; have h := h2; clear h2
  refine sumK.introF [] (sumRun_of (aqs := [.int .u64 t1, .int .i64 2]) (ws := []) (n := 0) (m := 0) (t' := 14) (ra_cons rfl rfl (ra_cons rfl rfl ra_nil)) rfl (by rfl) (r67_eq hy) rfl rfl rfl rfl wb_nil an_nil rfl) ?_
  conv => whnf
  replace h := oreq.elim h; have hb := h.1; replace h := h.2
  first | (refine req.intro hb ?_; conv => whnf) | skip
  replace h := oreq.elim h; have hb := h.1; replace h := h.2
  first | (refine req.intro hb ?_; conv => whnf) | skip
  replace h := oreq.elim h; have hb := h.1; replace h := h.2
  first | (refine req.intro hb ?_; conv => whnf) | skip
  let t2 : List UInt8 := (((p1 ++ p2) ++ p3) ++ [0, 0]) ++ payload
  replace h := oreq.elim h; have hb := h.1; replace h := h.2
  first | (refine req.intro hb ?_; conv => whnf) | skip
  obtain ⟨xo, hy, h2⟩ := obind.elim h; clear h; have h := h2; clear h2
  refine sumK.introF [] (sumRun_of (aqs := [.string ⟨⟨p ++ t2⟩⟩]) (ws := []) (n := 0) (m := 0) (t' := 18) (ra_cons rfl rfl ra_nil) rfl (by rfl) (r68_eq hy) rfl rfl rfl rfl wb_nil an_nil rfl) ?_
  conv => whnf
  refine br.h h ?_ ?_ ?_
  · rfl
  · clear h; intro hb h; conv => whnf
    obtain ⟨s, hy, h2⟩ := obind.elim h; clear h; have h := h2; clear h2
    refine sumK.introF [] (sumRun_of (aqs := [.string ⟨⟨t2⟩⟩, .int .i64 6, .int .i64 2, .int .u64 65535]) (ws := []) (n := 0) (m := 0) (t' := 18) (ra_cons rfl rfl (ra_cons rfl rfl (ra_cons rfl rfl (ra_cons rfl rfl ra_nil)))) rfl (by rfl) (r69_eq hy) rfl rfl rfl rfl wb_nil an_nil rfl) ?_
    conv => whnf
    all_goals (cases h)
    all_goals exact Res.of [] rfl nw_0 (by decide) js_0 wr_0
  clear h; intro hb h; conv => whnf
  obtain ⟨s1, hy, h2⟩ := obind.elim h; clear h; have h := h2; clear h2
  refine sumK.introF [] (sumRun_of (aqs := [.string ⟨⟨t2⟩⟩, .int .i64 6, .int .i64 2, .int .u64 (wI .u64 xo)]) (ws := []) (n := 0) (m := 0) (t' := 18) (ra_cons rfl rfl (ra_cons rfl rfl (ra_cons rfl rfl (ra_cons rfl rfl ra_nil)))) rfl (by rfl) (r69_eq hy) rfl rfl rfl rfl wb_nil an_nil rfl) ?_
  conv => whnf
  all_goals (cases h)
  all_goals exact Res.of [] rfl nw_0 (by decide) js_0 wr_0
theorem ok17 (R02_Put : Int → Int → Option (List UInt8)) (R03_Of : (List UInt8) → Option Int) (R03_Set : (List UInt8) → Int → Int → Int → Option (List UInt8)) (R05_Pseudo : api_Addr → api_Addr → Int → Int → Option (List UInt8)) (R08_in : Int → Option Bool) (hS : SumsOK Try.prog (aget (sums17 R02_Put R03_Of R03_Set R05_Pseudo R08_in))) : SumOK Try.prog 17 (s17 (R08_PutF R02_Put R03_Of R03_Set R05_Pseudo R08_in)) := by
  refine SumOK.of_leads tab_ok (fun ar os r ha hr => ?_) ⟨Try.f17, rfl, by decide, rfl⟩
  replace hr : r17 (R08_PutF R02_Put R03_Of R03_Set R05_Pseudo R08_in) ar (conts os) = some r := hr
  unfold r17 at hr
  generalize hc : conts os = C at hr
  have hq := dV.elim hr; clear hr; obtain ⟨v0, l1, y0, rfl, e0, hr⟩ := hq; obtain rfl := uvudp_Head_eq _ _ e0
  have hq := dV.elim hr; clear hr; obtain ⟨v1, l2, y1, rfl, e1, hr⟩ := hq; obtain rfl := uvapi_Addr_eq _ _ e1
  have hq := dV.elim hr; clear hr; obtain ⟨v2, l3, y2, rfl, e2, hr⟩ := hq; obtain rfl := uvapi_Addr_eq _ _ e2
  have hq := dV.elim hr; clear hr; obtain ⟨v3, l4, y3, rfl, e3, hr⟩ := hq; obtain rfl := asS_eq _ _ e3
  have hq := dEnd.elim hr; clear hr; obtain ⟨rfl, rfl, hr⟩ := hq
  have hq := ofG.elim hr; clear hr; obtain ⟨x, h, rfl⟩ := hq
  obtain rfl := kinds_nil hc
  exact ⟨_, rfl, leads17 R02_Put R03_Of R03_Set R05_Pseudo R08_in hS _ _ _ _ x h⟩
def R08_Put : udp_Head → api_Addr → api_Addr → (List UInt8) → Option ((List UInt8) × Int) := R08_PutF R02_Put R03_Of R03_Set R05_Pseudo R08_in
theorem lift17 : SumOK Try.prog 17 (s17 R08_Put) := ok17 R02_Put R03_Of R03_Set R05_Pseudo R08_in (SumsOK.of_tab ⟨lift67, lift68, lift69, lift28, lift66, trivial⟩)
end Go.Vm.Code

namespace Go.Vm.Code
open Go Go.Vm Go.Proofs
set_option maxRecDepth 100000
set_option maxHeartbeats 4000000
set_option linter.unusedVariables false

/-! cloakroom/cloakroomref08.Get -/
def R08_GetF (R02_Must : (List UInt8) → Int → Int → Option Int) (R03_Sum : (List UInt8) → Option Int) (R05_Pseudo : api_Addr → api_Addr → Int → Int → Option (List UInt8)) (s : List UInt8) (src : api_Addr) (dst : api_Addr) : Option (udp_Head × (List UInt8) × Int) :=
  cond (decide ((s.length : Int) < 8))
    (
    some ((udp_Head.mk 0 0, [], 2)))
    (
    (R02_Must s 4 2).bind fun m =>
    cond (decide (m < 8))
      (
      some ((udp_Head.mk 0 0, [], 3)))
      (
      cond (decide ((s.length : Int) < m))
        (
        some ((udp_Head.mk 0 0, [], 2)))
        (
        (R05_Pseudo src dst 17 m).bind fun p =>
        cond (p == [])
          (
          some ((udp_Head.mk 0 0, [], 1)))
          (
          (R02_Must s 6 2).bind fun m1 =>
          cond (m1 == 0)
            (
            cond (src.V6)
              (
              some ((udp_Head.mk 0 0, [], 4)))
              (
              (R02_Must s 0 2).bind fun m2 =>
              (R02_Must s 2 2).bind fun m3 =>
              oreq (decide ((0 : Int) ≤ m ∧ m ≤ (s.length : Int) ∧ (0 : Int) ≤ (8 : Int) ∧ (8 : Int) ≤ (m.toNat : Int))) <|
              some ((udp_Head.mk m2 m3, (s.drop 8).take (m.toNat - 8), 0))))
            (
            oreq (decide ((0 : Int) ≤ m ∧ m ≤ (s.length : Int))) <|
            oreq (decide (p.length + (s.take m.toNat).length < 2 ^ 63)) <|
            (R03_Sum (p ++ (s.take m.toNat))).bind fun s1 =>
            cond (s1 != 65535)
              (
              some ((udp_Head.mk 0 0, [], 4)))
              (
              (R02_Must s 0 2).bind fun m4 =>
              (R02_Must s 2 2).bind fun m5 =>
              oreq (decide ((0 : Int) ≤ m ∧ m ≤ (s.length : Int) ∧ (0 : Int) ≤ (8 : Int) ∧ (8 : Int) ≤ (m.toNat : Int))) <|
              some ((udp_Head.mk m4 m5, (s.drop 8).take (m.toNat - 8), 0))))))))
def rx19 (x : udp_Head × (List UInt8) × Int) : SRes := ⟨.tuple ⟨[.agg ⟨[.int .i64 x.1.SPort, .int .i64 x.1.DPort]⟩, .string ⟨⟨x.2.1⟩⟩, .int .i64 x.2.2]⟩, [], []⟩
def r19 (g : (List UInt8) → api_Addr → api_Addr → Option (udp_Head × (List UInt8) × Int)) : Dec := dV asS fun (y0 : List UInt8) => dV uvapi_Addr fun (y1 : api_Addr) => dV uvapi_Addr fun (y2 : api_Addr) => dEnd (ofG (g y0 y1 y2) rx19)
theorem r19_c {g : (List UInt8) → api_Addr → api_Addr → Option (udp_Head × (List UInt8) × Int)} {y0 : List UInt8} {y1 : api_Addr} {y2 : api_Addr} {x : udp_Head × (List UInt8) × Int} (hx : g y0 y1 y2 = some x) : r19 g [.string ⟨⟨y0⟩⟩, .agg ⟨[.bool y1.V6, .int .u64 y1.Hi, .int .u64 y1.Lo]⟩, .agg ⟨[.bool y2.V6, .int .u64 y2.Hi, .int .u64 y2.Lo]⟩] [] = some (rx19 x) := (dV_eq (asS_c)).trans ((dV_eq (uvapi_Addr_c _)).trans ((dV_eq (uvapi_Addr_c _)).trans (ofG_eq hx)))
def s19 (g : (List UInt8) → api_Addr → api_Addr → Option (udp_Head × (List UInt8) × Int)) : Summ := ⟨[.v, .v, .v], r19 g⟩
theorem r19_eq {g : (List UInt8) → api_Addr → api_Addr → Option (udp_Head × (List UInt8) × Int)} {y0 : List UInt8} {y1 : api_Addr} {y2 : api_Addr} {x : udp_Head × (List UInt8) × Int} (hx : g y0 y1 y2 = some x) : (s19 g).run [.string ⟨⟨y0⟩⟩, .agg ⟨[.bool y1.V6, .int .u64 y1.Hi, .int .u64 y1.Lo]⟩, .agg ⟨[.bool y2.V6, .int .u64 y2.Hi, .int .u64 y2.Lo]⟩] [] = some (rx19 x) := r19_c hx
abbrev sums19 (R02_Must : (List UInt8) → Int → Int → Option Int) (R03_Sum : (List UInt8) → Option Int) (R05_Pseudo : api_Addr → api_Addr → Int → Int → Option (List UInt8)) : List (Nat × Summ) := [(74, s74 R02_Must), (75, s75 R03_Sum), (28, s28 R05_Pseudo)]
theorem leads19 (R02_Must : (List UInt8) → Int → Int → Option Int) (R03_Sum : (List UInt8) → Option Int) (R05_Pseudo : api_Addr → api_Addr → Int → Int → Option (List UInt8)) (hS : SumsOK Try.prog (aget (sums19 R02_Must R03_Sum R05_Pseudo))) (s : List UInt8) (src : api_Addr) (dst : api_Addr) (res : udp_Head × (List UInt8) × Int) (h : R08_GetF R02_Must R03_Sum R05_Pseudo s src dst = some res) :
    Leads Try.prog 19 0 ⟨⟨19, 54, [(0, .string ⟨⟨s⟩⟩), (1, .agg ⟨[.bool src.V6, .int .u64 src.Hi, .int .u64 src.Lo]⟩), (2, .agg ⟨[.bool dst.V6, .int .u64 dst.Hi, .int .u64 dst.Lo]⟩)], [.code k19_45], [], false, none⟩, [], [], 0⟩ (fun v H _ => Res 0 (rx19 res) v H) := by
  unfold R08_GetF at h
  refine ev_ok tab_ok hS true 3000 ?_
  conv => whnf
  refine br.h h ?_ ?_ ?_
  · rfl
  · clear h; intro hb h; conv => whnf
    all_goals (cases h)
    all_goals exact Res.of [] rfl nw_0 (by decide) js_0 wr_0
  clear h; intro hb h; conv => whnf
  obtain ⟨m, hy, h2⟩ := obind.elim h; clear h; have h := h2; clear h2
  refine sumK.introF [] (sumRun_of (aqs := [.string ⟨⟨s⟩⟩, .int .i64 4, .int .i64 2]) (ws := []) (n := 0) (m := 0) (t' := 3) (ra_cons rfl rfl (ra_cons rfl rfl (ra_cons rfl rfl ra_nil))) rfl (by rfl) (r74_eq hy) rfl rfl rfl rfl wb_nil an_nil rfl) ?_
  conv => whnf
  refine br.h h ?_ ?_ ?_
  · rfl
  · clear h; intro hb h; conv => whnf
    all_goals (cases h)
    all_goals exact Res.of [] rfl nw_0 (by decide) js_0 wr_0
  clear h; intro hb h; conv => whnf
  refine br.h h ?_ ?_ ?_
  · rfl
  · clear h; intro hb h; conv => whnf
    all_goals (cases h)
    all_goals exact Res.of [] rfl nw_0 (by decide) js_0 wr_0
  clear h; intro hb h; conv => whnf
  obtain ⟨p, hy, h2⟩ := obind.elim h; clear h; have h := h2; clear h2
  refine sumK.introF [] (sumRun_of (aqs := [.agg ⟨[.bool src.V6, .int .u64 src.Hi, .int .u64 src.Lo]⟩, .agg ⟨[.bool dst.V6, .int .u64 dst.Hi, .int .u64 dst.Lo]⟩, .int .i64 17, .int .i64 m]) (ws := []) (n := 0) (m := 0) (t' := 3) (ra_cons rfl rfl (ra_cons rfl rfl (ra_cons rfl rfl (ra_cons rfl rfl ra_nil)))) rfl (by rfl) (r28_eq hy) rfl rfl rfl rfl wb_nil an_nil rfl) ?_
  conv => whnf
  refine br.h h ?_ ?_ ?_
  · rfl
  · clear h; intro hb h; conv => whnf
    all_goals (cases h)
    all_goals exact Res.of [] rfl nw_0 (by decide) js_0 wr_0
  clear h; intro hb h; conv => whnf
  obtain ⟨m1, hy, h2⟩ := obind.elim h; clear h; have h := h2; clear h2
  refine sumK.introF [] (sumRun_of (aqs := [.string ⟨⟨s⟩⟩, .int .i64 6, .int .i64 2]) (ws := []) (n := 0) (m := 0) (t' := 3) (ra_cons rfl rfl (ra_cons rfl rfl (ra_cons rfl rfl ra_nil))) rfl (by rfl) (r74_eq hy) rfl rfl rfl rfl wb_nil an_nil rfl) ?_
  conv => whnf
  refine br.h h ?_ ?_ ?_
  · rfl
  · clear h; intro hb h; conv => whnf
    refine br.h h ?_ ?_ ?_
    · rfl
    · clear h; intro hb h; conv => whnf
      all_goals (cases h)
      all_goals exact Res.of [] rfl nw_0 (by decide) js_0 wr_0
    clear h; intro hb h; conv => whnf
    obtain ⟨m2, hy, h2⟩ := obind.elim h; clear h; have h := h2; clear h2
    refine sumK.introF [] (sumRun_of (aqs := [.string ⟨⟨s⟩⟩, .int .i64 0, .int .i64 2]) (ws := []) (n := 0) (m := 0) (t' := 4) (ra_cons rfl rfl (ra_cons rfl rfl (ra_cons rfl rfl ra_nil))) rfl (by rfl) (r74_eq hy) rfl rfl rfl rfl wb_nil an_nil rfl) ?_
    conv => whnf
    obtain ⟨m3, hy, h2⟩ := obind.elim h; clear h; have h := h2; clear h2
    refine sumK.introF [] (sumRun_of (aqs := [.string ⟨⟨s⟩⟩, .int .i64 2, .int .i64 2]) (ws := []) (n := 0) (m := 0) (t' := 6) (ra_cons rfl rfl (ra_cons rfl rfl (ra_cons rfl rfl ra_nil))) rfl (by rfl) (r74_eq hy) rfl rfl rfl rfl wb_nil an_nil rfl) ?_
    conv => whnf
    replace h := oreq.elim h; have hb := h.1; replace h := h.2
    first | (refine req.intro hb ?_; conv => whnf) | skip
    all_goals (cases h)
    all_goals exact Res.of [] rfl nw_0 (by decide) js_0 wr_0
  clear h; intro hb h; conv => whnf
  replace h := oreq.elim h; have hb := h.1; replace h := h.2
  first | (refine req.intro hb ?_; conv => whnf) | skip
  replace h := oreq.elim h; have hb := h.1; replace h := h.2
  first | (refine req.intro hb ?_; conv => whnf) | skip
  obtain ⟨s1, hy, h2⟩ := obind.elim h; clear h; have h := h2; clear h2
  refine sumK.introF [] (sumRun_of (aqs := [.string ⟨⟨p ++ (s.take m.toNat)⟩⟩]) (ws := []) (n := 0) (m := 0) (t' := 3) (ra_cons rfl rfl ra_nil) rfl (by rfl) (r75_eq hy) rfl rfl rfl rfl wb_nil an_nil rfl) ?_
  conv => whnf
  refine br.h h ?_ ?_ ?_
  · rfl
  · clear h; intro hb h; conv => whnf
    all_goals (cases h)
    all_goals exact Res.of [] rfl nw_0 (by decide) js_0 wr_0
  clear h; intro hb h; conv => whnf
  obtain ⟨m4, hy, h2⟩ := obind.elim h; clear h; have h := h2; clear h2
  refine sumK.introF [] (sumRun_of (aqs := [.string ⟨⟨s⟩⟩, .int .i64 0, .int .i64 2]) (ws := []) (n := 0) (m := 0) (t' := 4) (ra_cons rfl rfl (ra_cons rfl rfl (ra_cons rfl rfl ra_nil))) rfl (by rfl) (r74_eq hy) rfl rfl rfl rfl wb_nil an_nil rfl) ?_
  conv => whnf
  obtain ⟨m5, hy, h2⟩ := obind.elim h; clear h; have h := h2; clear h2
  refine sumK.introF [] (sumRun_of (aqs := [.string ⟨⟨s⟩⟩, .int .i64 2, .int .i64 2]) (ws := []) (n := 0) (m := 0) (t' := 6) (ra_cons rfl rfl (ra_cons rfl rfl (ra_cons rfl rfl ra_nil))) rfl (by rfl) (r74_eq hy) rfl rfl rfl rfl wb_nil an_nil rfl) ?_
  conv => whnf
  replace h := oreq.elim h; have hb := h.1; replace h := h.2
  first | (refine req.intro hb ?_; conv => whnf) | skip
  all_goals (cases h)
  all_goals exact Res.of [] rfl nw_0 (by decide) js_0 wr_0
theorem ok19 (R02_Must : (List UInt8) → Int → Int → Option Int) (R03_Sum : (List UInt8) → Option Int) (R05_Pseudo : api_Addr → api_Addr → Int → Int → Option (List UInt8)) (hS : SumsOK Try.prog (aget (sums19 R02_Must R03_Sum R05_Pseudo))) : SumOK Try.prog 19 (s19 (R08_GetF R02_Must R03_Sum R05_Pseudo)) := by
  refine SumOK.of_leads tab_ok (fun ar os r ha hr => ?_) ⟨Try.f19, rfl, by decide, rfl⟩
  replace hr : r19 (R08_GetF R02_Must R03_Sum R05_Pseudo) ar (conts os) = some r := hr
  unfold r19 at hr
  generalize hc : conts os = C at hr
  have hq := dV.elim hr; clear hr; obtain ⟨v0, l1, y0, rfl, e0, hr⟩ := hq; obtain rfl := asS_eq _ _ e0
  have hq := dV.elim hr; clear hr; obtain ⟨v1, l2, y1, rfl, e1, hr⟩ := hq; obtain rfl := uvapi_Addr_eq _ _ e1
  have hq := dV.elim hr; clear hr; obtain ⟨v2, l3, y2, rfl, e2, hr⟩ := hq; obtain rfl := uvapi_Addr_eq _ _ e2
  have hq := dEnd.elim hr; clear hr; obtain ⟨rfl, rfl, hr⟩ := hq
  have hq := ofG.elim hr; clear hr; obtain ⟨x, h, rfl⟩ := hq
  obtain rfl := kinds_nil hc
  exact ⟨_, rfl, leads19 R02_Must R03_Sum R05_Pseudo hS _ _ _ x h⟩
def R08_Get : (List UInt8) → api_Addr → api_Addr → Option (udp_Head × (List UInt8) × Int) := R08_GetF R02_Must R03_Sum R05_Pseudo
theorem lift19 : SumOK Try.prog 19 (s19 R08_Get) := ok19 R02_Must R03_Sum R05_Pseudo (SumsOK.of_tab ⟨lift74, lift75, lift28, trivial⟩)
end Go.Vm.Code

/- Chapter 8 in plain words. -/
namespace Go.Vm.Code
open Go Go.Vm

def port (n : Int) : Bool := decide (0 ≤ n ∧ n ≤ 65535)
theorem port_eq (n : Int) : udp_port n = some (port n) := by
  unfold udp_port udp_portF port
  by_cases h : 0 ≤ n
  · rw [cond_p h]; simp [h]
  · rw [cond_n h]; simp [h]
theorem in8_eq (n : Int) : R08_in n = some (port n) := by
  unfold R08_in R08_inF port
  by_cases h : 0 ≤ n
  · rw [cond_p (by omega)]; simp [h]
  · rw [cond_n (by omega)]; simp [h]
theorem port_iff {n : Int} : port n = true ↔ 0 ≤ n ∧ n ≤ 65535 := by unfold port; simp
/-- the datagram ahead of its check -/
def u8 (h : udp_Head) (l : List UInt8) : List UInt8 := putS h.SPort 2 ++ putS h.DPort 2 ++ putS (8 + l.length) 2 ++ [0, 0] ++ l
theorem u8_len {h : udp_Head} {l : List UInt8} : (u8 h l).length ≤ 26 + l.length := by
  have l1 := putS_len h.SPort 2
  have l2 := putS_len h.DPort 2
  have l3 := putS_len (8 + l.length) 2
  unfold u8; simp only [List.length_append, List.length_cons, List.length_nil]; omega
def ck8 (p t : List UInt8) : Int := if norm (wsum (p ++ t)) = 65535 then 65535 else 65535 - (norm (wsum (p ++ t)) : Nat)
theorem ck8_rng (p t : List UInt8) : 0 ≤ ck8 p t ∧ ck8 p t ≤ 65535 := by unfold ck8; have := norm_le (wsum (p ++ t)); split <;> omega
def put8 (h : udp_Head) (src dst : api_Addr) (l : List UInt8) : List UInt8 × Int :=
  if (port h.SPort && port h.DPort) = false then ([], 1) else if pseu src dst 17 (8 + l.length) = [] then ([], 1) else if 65535 < 8 + l.length then ([], 5) else
    (setS (u8 h l) 6 2 (ck8 (pseu src dst 17 (8 + l.length)) (u8 h l)), 0)
theorem ck8_set {p t : List UInt8} (hp : p.length ≤ 2 ^ 30) (ht : t.length ≤ 2 ^ 30) : ((check_Of (p ++ t)).bind fun xo => cond (xo == 0) ((check_Set t 6 2 65535).bind fun s => some (s, (0 : Int))) ((check_Set t 6 2 (wI .u64 xo)).bind fun s1 => some (s1, 0))) = some (setS t 6 2 (ck8 p t), 0) := by
  have := norm_le (wsum (p ++ t))
  rw [Of_eq (by simp only [List.length_append]; omega), Option.bind_some]
  unfold ck8
  by_cases h : norm (wsum (p ++ t)) = 65535
  · rw [if_pos h, h]
    show ((check_Set t 6 2 65535).bind _) = _
    rw [Set_eq (by omega) (by omega)]; rfl
  · rw [if_neg h, show ((65535 - ((norm (wsum (p ++ t)) : Nat) : Int)) == 0) = false by simp; omega, cond_false, wU64 (by omega) (by omega), Set_eq (by omega) (by omega)]; rfl
theorem ck8_rset {p t : List UInt8} (hp : p.length ≤ 2 ^ 30) (ht : t.length ≤ 2 ^ 30) : ((R03_Of (p ++ t)).bind fun xo => cond (xo == 0) ((R03_Set t 6 2 65535).bind fun s => some (s, (0 : Int))) ((R03_Set t 6 2 (wI .u64 xo)).bind fun s1 => some (s1, 0))) = some (setS t 6 2 (ck8 p t), 0) := by
  have := norm_le (wsum (p ++ t))
  rw [R03_Of_eq (by simp only [List.length_append]; omega), Option.bind_some]
  unfold ck8
  by_cases h : norm (wsum (p ++ t)) = 65535
  · rw [if_pos h, h]
    show ((R03_Set t 6 2 65535).bind _) = _
    rw [R03_Set_eq (by omega) (by omega) (by omega)]; rfl
  · rw [if_neg h, show ((65535 - ((norm (wsum (p ++ t)) : Nat) : Int)) == 0) = false by simp; omega, cond_false, wU64 (by omega) (by omega), R03_Set_eq (by omega) (by omega) (by omega)]; rfl
theorem uput_eq {h : udp_Head} {src dst : api_Addr} {l : List UInt8} (h1 : A4 src) (h2 : A4 dst) (hl : l.length < 2 ^ 20) : udp_Put h src dst l = some (put8 h src dst l) := by
  unfold udp_Put udp_PutF put8
  rw [wI64 (n := 8 + (l.length : Int)) (by omega) (by omega), pseudo_eq h1 h2 (by omega) (by omega), port_eq, port_eq]
  have hp := pseu_len src dst 17 (8 + (l.length : Int))
  generalize pseu src dst 17 (8 + (l.length : Int)) = p at *
  simp only [Option.bind_some]
  cases e1 : port h.SPort
  · rfl
  cases e2 : port h.DPort
  · rfl
  simp only [Bool.not_true, cond_false, Bool.and_self]
  by_cases e3 : p = []
  · subst e3; rfl
  rw [show (p == []) = false by simpa using e3, cond_false, if_neg (by decide), if_neg e3]
  by_cases e4 : 8 + (l.length : Int) > 65535
  · rw [cond_p e4, if_pos (by omega)]
  rw [cond_n e4, if_neg (by omega)]
  have p1 := port_iff.1 e1
  have p2 := port_iff.1 e2
  have l1 := putS_len h.SPort 2
  have l2 := putS_len h.DPort 2
  have l3 := putS_len (8 + (l.length : Int)) 2
  rw [wU64 p1.1 (by omega), octet_Put_eq p1.1, Option.bind_some, oreq_p (by omega)]
  obtain ⟨n, hn⟩ := FUEL_succ
  rw [hn]
  have s1 : udp_Put_s1 check_Of check_Set octet_Put h l p 1 (bI (putS h.SPort 2)) = some (.inl (2, bI (putS h.SPort 2 ++ putS h.DPort 2))) := by
    unfold udp_Put_s1
    rw [cond_p (by omega), oreq_p (by omega)]
    show ((some h.DPort).bind _) = _
    rw [Option.bind_some, wU64 p2.1 (by omega), octet_Put_eq p2.1, Option.bind_some, oreq_p (by simp; omega), bI_app]; rfl
  have s2 : udp_Put_s1 check_Of check_Set octet_Put h l p 2 (bI (putS h.SPort 2 ++ putS h.DPort 2)) = some (.inl (3, bI (putS h.SPort 2 ++ putS h.DPort 2 ++ putS (8 + (l.length : Int)) 2))) := by
    unfold udp_Put_s1
    rw [cond_p (by omega), oreq_p (by omega)]
    show ((some (wI .i64 (8 + (l.length : Int)))).bind _) = _
    rw [Option.bind_some, wI64 (n := 8 + (l.length : Int)) (by omega) (by omega), wU64 (by omega) (by omega), octet_Put_eq (by omega), Option.bind_some, oreq_p (by simp; omega), bI_app (putS h.SPort 2 ++ putS h.DPort 2)]; rfl
  have s3 : udp_Put_s1 check_Of check_Set octet_Put h l p 3 (bI (putS h.SPort 2 ++ putS h.DPort 2 ++ putS (8 + (l.length : Int)) 2)) = some (.inl (4, bI (putS h.SPort 2 ++ putS h.DPort 2 ++ putS (8 + (l.length : Int)) 2 ++ [0, 0]))) := by
    unfold udp_Put_s1
    rw [cond_p (by omega), oreq_p (by omega)]
    show ((some (0 : Int)).bind _) = _
    rw [Option.bind_some, wU64 (n := 0) (by omega) (by omega), octet_Put_eq (by omega), Option.bind_some, show putS 0 2 = [0, 0] from rfl, oreq_p (by simp; omega), bI_app (putS h.SPort 2 ++ putS h.DPort 2 ++ putS (8 + (l.length : Int)) 2)]; rfl
  have s4 : udp_Put_s1 check_Of check_Set octet_Put h l p 4 (bI (putS h.SPort 2 ++ putS h.DPort 2 ++ putS (8 + (l.length : Int)) 2 ++ [0, 0])) = some (.inr (setS (u8 h l) 6 2 (ck8 p (u8 h l)), 0)) := by
    unfold udp_Put_s1
    have hu := u8_len (h := h) (l := l)
    have e : iB (bI (putS h.SPort 2 ++ putS h.DPort 2 ++ putS (8 + (l.length : Int)) 2 ++ [0, 0]) ++ bI l) = u8 h l := by rw [← bI_app, iB_bI]; rfl
    rw [cond_n (by omega), oreq_p (by simp only [bI_len, List.length_append, List.length_cons, List.length_nil]; omega)]
    simp only [e]
    rw [oreq_p (by simp only [bI_len, List.length_append, List.length_cons, List.length_nil]; omega), oreq_p (by omega)]
    have := ck8_set (p := p) (t := u8 h l) (by omega) (by omega)
    rw [Of_eq (by simp only [List.length_append]; omega), Option.bind_some] at this ⊢
    cases hx : ((65535 - ((norm (wsum (p ++ u8 h l)) : Nat) : Int)) == 0) <;> rw [hx] at this
    · simp only [cond_false] at this ⊢
      obtain ⟨s, a, b⟩ := obind.elim this
      cases b
      rw [a, Option.bind_some]
    · simp only [cond_true] at this ⊢
      obtain ⟨s, a, b⟩ := obind.elim this
      cases b
      rw [a, Option.bind_some]
  rw [iter_inl (f := fun (st : Int × List Int) => udp_Put_s1 check_Of check_Set octet_Put h l p st.1 st.2) (n := n + 7) s1, iter_inl (n := n + 6) s2, iter_inl (n := n + 5) s3, iter_inr (n := n + 4) s4]
theorem u8put_eq {h : udp_Head} {src dst : api_Addr} {l : List UInt8} (h1 : A4 src) (h2 : A4 dst) (hl : l.length < 2 ^ 20) : R08_Put h src dst l = some (put8 h src dst l) := by
  unfold R08_Put R08_PutF put8
  rw [wI64 (n := 8 + (l.length : Int)) (by omega) (by omega), pseudo5_eq h1 h2 (by omega) (by omega), in8_eq, in8_eq]
  have hp := pseu_len src dst 17 (8 + (l.length : Int))
  generalize pseu src dst 17 (8 + (l.length : Int)) = p at *
  simp only [Option.bind_some]
  cases e1 : port h.SPort
  · rfl
  cases e2 : port h.DPort
  · rfl
  simp only [Bool.not_true, cond_false, Bool.and_self]
  by_cases e3 : p = []
  · subst e3; rfl
  rw [show (p == []) = false by simpa using e3, cond_false, if_neg (by decide), if_neg e3]
  by_cases e4 : 8 + (l.length : Int) > 65535
  · rw [cond_p e4, if_pos (by omega)]
  rw [cond_n e4, if_neg (by omega)]
  have p1 := port_iff.1 e1
  have p2 := port_iff.1 e2
  have l1 := putS_len h.SPort 2
  have l2 := putS_len h.DPort 2
  have l3 := putS_len (8 + (l.length : Int)) 2
  have hu := u8_len (h := h) (l := l)
  rw [wU64 p1.1 (by omega), wU64 p2.1 (by omega), wU64 (n := 8 + (l.length : Int)) (by omega) (by omega), R02_Put_eq p1.1 (by omega), R02_Put_eq p2.1 (by omega), R02_Put_eq (n := 8 + (l.length : Int)) (by omega) (by omega)]
  simp only [Option.bind_some]
  have e : putS h.SPort 2 ++ putS h.DPort 2 ++ putS (8 + (l.length : Int)) 2 ++ [0, 0] ++ l = u8 h l := rfl
  rw [oreq_p (by omega), oreq_p (by simp only [List.length_append]; omega), oreq_p (by simp only [List.length_append]; omega), oreq_p (by simp only [List.length_append, List.length_cons, List.length_nil]; omega), e, oreq_p (by omega)]
  exact ck8_rset (by omega) (by omega)

/-- two bytes' number -/
def v2 (s : List UInt8) (p : Nat) : Int := (valL ((s.drop p).take 2) : Nat)
theorem v2_rng (s : List UInt8) (p : Nat) : 0 ≤ v2 s p ∧ v2 s p < 65536 := by
  have := val_take_lt (l := s.drop p) (k := 2) 65536 (by decide)
  unfold v2; omega
theorem must2 {s : List UInt8} {p : Nat} (hs : s.length < 2 ^ 61) (h : p + 2 ≤ s.length) : R02_Must s (p : Int) 2 = some (v2 s p) := by
  rw [R02_Must_eq hs, getS_at (by omega) (by omega) (by omega) (by omega)]
  have := v2_rng s p
  show some (wI .i64 (v2 s p)) = _
  rw [wI64 (by omega) (by omega)]
theorem num2 {r : octet_Reader} (h : r.made = true) (hl : r.s.length < 2 ^ 61) : octet_Reader_Num r 2 = some (rdn r 2, rdr r 2) := by
  rw [rNum_eq h hl, if_neg (by omega)]
theorem num2_ok {s : List UInt8} (h : 2 ≤ s.length) (hl : s.length < 2 ^ 61) : octet_Reader_Num ⟨s, true, false⟩ 2 = some (v2 s 0, ⟨s.drop 2, true, false⟩) := by
  rw [num2 rfl hl, rdr_ok (by omega) (by omega)]
  unfold rdn
  rw [if_neg (by omega), rdt_ok (by omega) (by omega)]; rfl
theorem v2_drop (s : List UInt8) (p q : Nat) : v2 (s.drop p) q = v2 s (p + q) := by unfold v2; rw [List.drop_drop]
def zero8 : udp_Head := ⟨0, 0⟩
def get8 (s : List UInt8) (src dst : api_Addr) : udp_Head × List UInt8 × Int :=
  if s.length < 8 then (zero8, [], 2) else if v2 s 4 < 8 then (zero8, [], 3) else if (s.length : Int) < v2 s 4 then (zero8, [], 2) else if pseu src dst 17 (v2 s 4) = [] then (zero8, [], 1) else
    if v2 s 6 = 0 then (if src.V6 = true then (zero8, [], 4) else (⟨v2 s 0, v2 s 2⟩, (s.drop 8).take ((v2 s 4).toNat - 8), 0)) else
      if norm (wsum (pseu src dst 17 (v2 s 4) ++ s.take (v2 s 4).toNat)) ≠ 65535 then (zero8, [], 4) else (⟨v2 s 0, v2 s 2⟩, (s.drop 8).take ((v2 s 4).toNat - 8), 0)
theorem uget_eq {s : List UInt8} {src dst : api_Addr} (h1 : A4 src) (h2 : A4 dst) (hs : s.length < 2 ^ 38) : udp_Get s src dst = some (get8 s src dst) := by
  unfold udp_Get udp_GetF get8
  rw [rNew_eq, Option.bind_some]
  by_cases h8 : s.length < 8
  · rw [if_pos h8]
    have m1 := rdr_made ⟨s, true, false⟩ 2
    have m2 := rdr_made (rdr ⟨s, true, false⟩ 2) 2
    have m3 := rdr_made (rdr (rdr ⟨s, true, false⟩ 2) 2) 2
    have m4 := rdr_made (rdr (rdr (rdr ⟨s, true, false⟩ 2) 2) 2) 2
    have k1 := rdr_len_le ⟨s, true, false⟩ 2
    have k2 := rdr_len_le (rdr ⟨s, true, false⟩ 2) 2
    have k3 := rdr_len_le (rdr (rdr ⟨s, true, false⟩ 2) 2) 2
    simp only at k1
    rw [num2 rfl (by simp only; omega), Option.bind_some]
    rw [num2 m1 (by omega), Option.bind_some]
    rw [num2 m2 (by omega), Option.bind_some]
    rw [num2 m3 (by omega), Option.bind_some, rBad_eq m4, Option.bind_some]
    have hb : (rdr (rdr (rdr (rdr ⟨s, true, false⟩ 2) 2) 2) 2).bad = true := by
      cases hb : (rdr (rdr (rdr (rdr ⟨s, true, false⟩ 2) 2) 2) 2).bad
      · exfalso
        obtain ⟨b3, l3⟩ := rdr_step rfl hb
        obtain ⟨b2, l2⟩ := rdr_step rfl b3
        obtain ⟨b1, l1⟩ := rdr_step rfl b2
        obtain ⟨b0, l0⟩ := rdr_step rfl b1
        simp only at l0
        omega
      · rfl
    simp only [hb, cond_true]; rfl
  · rw [if_neg h8]
    rw [num2_ok (by omega) (by omega), Option.bind_some, num2_ok (by simp; omega) (by simp; omega), Option.bind_some]
    simp only [List.drop_drop]
    rw [num2_ok (by simp; omega) (by simp; omega), Option.bind_some]
    simp only [List.drop_drop]
    rw [num2_ok (by simp; omega) (by simp; omega), Option.bind_some, rBad_eq rfl, Option.bind_some]
    simp only [cond_false, v2_drop, Nat.add_zero, Nat.reduceAdd]
    have r4 := v2_rng s 4
    have hp := pseu_len src dst 17 (v2 s 4)
    have hz : (⟨0, 0⟩ : udp_Head) = zero8 := rfl
    rw [hz]
    generalize hm : v2 s 4 = m at *
    by_cases g1 : m < 8
    · rw [cond_p g1, if_pos g1]
    rw [cond_n g1, if_neg g1]
    by_cases g2 : (s.length : Int) < m
    · rw [cond_p (by omega), if_pos g2]
    rw [cond_n (by omega), if_neg g2, pseudo_eq h1 h2 (by omega) (by omega), Option.bind_some]
    generalize pseu src dst 17 m = p at *
    by_cases g3 : p = []
    · subst g3; rw [if_pos rfl]; rfl
    rw [if_neg g3, show (p == []) = false by simpa using g3, cond_false]
    have hr : check_Right (p ++ s.take m.toNat) = some (((norm (wsum (p ++ s.take m.toNat)) : Nat) : Int) == 65535) := Right_eq (by simp; omega)
    by_cases g4 : v2 s 6 = 0
    · rw [if_pos g4, g4]
      simp only [beq_self_eq_true, cond_true, bne_self_eq_false, cond_false]
      cases src.V6
      · rw [if_neg (by decide), cond_false, oreq_p (by omega)]
      · rw [if_pos rfl, cond_true]
    · rw [if_neg g4, show (v2 s 6 == 0) = false by simpa using g4, show (v2 s 6 != 0) = true by simpa using g4]
      simp only [cond_false, cond_true]
      rw [oreq_p (by omega), oreq_p (by simp only [List.length_take]; omega), hr, Option.bind_some, oreq_p (by omega)]
      by_cases g5 : norm (wsum (p ++ s.take m.toNat)) = 65535
      · rw [if_neg (by simpa using g5), g5]; rfl
      · rw [if_pos (by simpa using g5), show ((((norm (wsum (p ++ s.take m.toNat)) : Nat) : Int) == 65535)) = false by simp; omega]; rfl
theorem u8get_eq {s : List UInt8} {src dst : api_Addr} (h1 : A4 src) (h2 : A4 dst) (hs : s.length < 2 ^ 38) : R08_Get s src dst = some (get8 s src dst) := by
  unfold R08_Get R08_GetF get8
  by_cases h8 : s.length < 8
  · rw [if_pos h8, cond_p (by omega)]; rfl
  rw [if_neg h8, cond_n (by omega), show (4 : Int) = ((4 : Nat) : Int) from rfl, show (6 : Int) = ((6 : Nat) : Int) from rfl, show R02_Must s 0 2 = R02_Must s ((0 : Nat) : Int) 2 from rfl, show R02_Must s 2 2 = R02_Must s ((2 : Nat) : Int) 2 from rfl, must2 (by omega) (by omega), must2 (by omega) (by omega), must2 (by omega) (by omega), must2 (by omega) (by omega)]
  simp only [Option.bind_some]
  have r4 := v2_rng s 4
  have hp := pseu_len src dst 17 (v2 s 4)
  have hz : (⟨0, 0⟩ : udp_Head) = zero8 := rfl
  rw [hz]
  generalize hm : v2 s 4 = m at *
  by_cases g1 : m < 8
  · rw [cond_p g1, if_pos g1]
  rw [cond_n g1, if_neg g1]
  by_cases g2 : (s.length : Int) < m
  · rw [cond_p (by omega), if_pos g2]
  rw [cond_n (by omega), if_neg g2, pseudo5_eq h1 h2 (by omega) (by omega), Option.bind_some]
  generalize pseu src dst 17 m = p at *
  by_cases g3 : p = []
  · subst g3; rw [if_pos rfl]; rfl
  rw [if_neg g3, show (p == []) = false by simpa using g3, cond_false]
  by_cases g4 : v2 s 6 = 0
  · rw [if_pos g4, g4]
    simp only [beq_self_eq_true, cond_true]
    cases src.V6
    · rw [if_neg (by decide), cond_false, oreq_p (by omega)]
    · rw [if_pos rfl, cond_true]
  · rw [if_neg g4, show (v2 s 6 == 0) = false by simpa using g4]
    simp only [cond_false]
    rw [oreq_p (by omega), oreq_p (by simp only [List.length_take]; omega), R03_Sum_eq (by simp; omega), Option.bind_some, oreq_p (by omega)]
    by_cases g5 : norm (wsum (p ++ s.take m.toNat)) = 65535
    · rw [if_neg (by simpa using g5), g5]; rfl
    · rw [if_pos (by simpa using g5), show ((((norm (wsum (p ++ s.take m.toNat)) : Nat) : Int) != 65535)) = true by simp; omega]; rfl
end Go.Vm.Code

namespace Go.Vm.Code
open Go Go.Vm Go.Proofs
set_option maxRecDepth 100000
set_option maxHeartbeats 4000000
set_option linter.unusedVariables false

/-! cloakroom/cloakroomlaw08.awake -/
def law08_awakeF (udp_Get : (List UInt8) → api_Addr → api_Addr → Option (udp_Head × (List UInt8) × Int)) (udp_Put : udp_Head → api_Addr → api_Addr → (List UInt8) → Option ((List UInt8) × Int)) : Option Bool :=
  (udp_Put (udp_Head.mk 1 2) (api_Addr.mk false 0 1) (api_Addr.mk false 0 2) [97]).bind fun p =>
  (udp_Get p.1 (api_Addr.mk false 0 1) (api_Addr.mk false 0 2)).bind fun xg =>
  (udp_Get [] (api_Addr.mk false 0 0) (api_Addr.mk false 0 0)).bind fun xg1 =>
  cond (p.2 == 0)
    (
    cond ((p.1.length : Int) == 9)
      (
      cond (xg.2.2 == 0)
        (
        cond (xg.1.DPort == 2)
          (
          cond (xg.2.1 == [97])
            (
            some (xg1.2.2 == 2))
            (
            some (false)))
          (
          some (false)))
        (
        some (false)))
      (
      some (false)))
    (
    some (false))
def rx15 (x : Bool) : SRes := ⟨.bool x, [], []⟩
def r15 (g : Option Bool) : Dec := dEnd (ofG (g) rx15)
theorem r15_c {g : Option Bool} {x : Bool} (hx : g = some x) : r15 g [] [] = some (rx15 x) := ofG_eq hx
def s15 (g : Option Bool) : Summ := ⟨[], r15 g⟩
theorem r15_eq {g : Option Bool} {x : Bool} (hx : g = some x) : (s15 g).run [] [] = some (rx15 x) := r15_c hx
abbrev sums15 (udp_Get : (List UInt8) → api_Addr → api_Addr → Option (udp_Head × (List UInt8) × Int)) (udp_Put : udp_Head → api_Addr → api_Addr → (List UInt8) → Option ((List UInt8) × Int)) : List (Nat × Summ) := [(18, s18 udp_Get), (16, s16 udp_Put)]
theorem leads15 (udp_Get : (List UInt8) → api_Addr → api_Addr → Option (udp_Head × (List UInt8) × Int)) (udp_Put : udp_Head → api_Addr → api_Addr → (List UInt8) → Option ((List UInt8) × Int)) (hS : SumsOK Try.prog (aget (sums15 udp_Get udp_Put))) (res : Bool) (h : law08_awakeF udp_Get udp_Put = some res) :
    Leads Try.prog 15 0 ⟨⟨15, 55, [], [.code k15_9], [], false, none⟩, [], [], 0⟩ (fun v H _ => Res 0 (rx15 res) v H) := by
  unfold law08_awakeF at h
  refine ev_ok tab_ok hS true 3000 ?_
  conv => whnf
  obtain ⟨p, hy, h2⟩ := obind.elim h; clear h; have h := h2; clear h2
  refine sumK.introF [] (sumRun_of (aqs := [.agg ⟨[.int .i64 1, .int .i64 2]⟩, .agg ⟨[.bool false, .int .u64 0, .int .u64 1]⟩, .agg ⟨[.bool false, .int .u64 0, .int .u64 2]⟩, .string ⟨⟨[97]⟩⟩]) (ws := []) (n := 0) (m := 0) (t' := 0) (ra_cons rfl rfl (ra_cons rfl rfl (ra_cons rfl rfl (ra_cons rfl rfl ra_nil)))) rfl (by rfl) (r16_eq hy) rfl rfl rfl rfl wb_nil an_nil rfl) ?_
  conv => whnf
  obtain ⟨xg, hy, h2⟩ := obind.elim h; clear h; have h := h2; clear h2
  refine sumK.introF [] (sumRun_of (aqs := [.string ⟨⟨p.1⟩⟩, .agg ⟨[.bool false, .int .u64 0, .int .u64 1]⟩, .agg ⟨[.bool false, .int .u64 0, .int .u64 2]⟩]) (ws := []) (n := 0) (m := 0) (t' := 0) (ra_cons rfl rfl (ra_cons rfl rfl (ra_cons rfl rfl ra_nil))) rfl (by rfl) (r18_eq hy) rfl rfl rfl rfl wb_nil an_nil rfl) ?_
  conv => whnf
  obtain ⟨xg1, hy, h2⟩ := obind.elim h; clear h; have h := h2; clear h2
  refine sumK.introF [] (sumRun_of (aqs := [.string ⟨⟨[]⟩⟩, .agg ⟨[.bool false, .int .u64 0, .int .u64 0]⟩, .agg ⟨[.bool false, .int .u64 0, .int .u64 0]⟩]) (ws := []) (n := 0) (m := 0) (t' := 1) (ra_cons rfl rfl (ra_cons rfl rfl (ra_cons rfl rfl ra_nil))) rfl (by rfl) (r18_eq hy) rfl rfl rfl rfl wb_nil an_nil rfl) ?_
  conv => whnf
  refine br.h2 h ?_ ?_ ?_
  · rfl
  · clear h; intro hb h; conv => whnf
    all_goals (cases h)
    all_goals exact Res.of [] rfl nw_0 (by decide) js_0 wr_0
  clear h; intro hb h; conv => whnf
  refine br.h2 h ?_ ?_ ?_
  · rfl
  · clear h; intro hb h; conv => whnf
    all_goals (cases h)
    all_goals exact Res.of [] rfl nw_0 (by decide) js_0 wr_0
  clear h; intro hb h; conv => whnf
  refine br.h2 h ?_ ?_ ?_
  · rfl
  · clear h; intro hb h; conv => whnf
    all_goals (cases h)
    all_goals exact Res.of [] rfl nw_0 (by decide) js_0 wr_0
  clear h; intro hb h; conv => whnf
  refine br.h2 h ?_ ?_ ?_
  · rfl
  · clear h; intro hb h; conv => whnf
    all_goals (cases h)
    all_goals exact Res.of [] rfl nw_0 (by decide) js_0 wr_0
  clear h; intro hb h; conv => whnf
  refine br.h h ?_ ?_ ?_
  · rfl
  · clear h; intro hb h; conv => whnf
    all_goals (cases h)
    all_goals exact Res.of [] rfl nw_0 (by decide) js_0 wr_0
  clear h; intro hb h; conv => whnf
  all_goals (cases h)
  all_goals exact Res.of [] rfl nw_0 (by decide) js_0 wr_0
theorem ok15 (udp_Get : (List UInt8) → api_Addr → api_Addr → Option (udp_Head × (List UInt8) × Int)) (udp_Put : udp_Head → api_Addr → api_Addr → (List UInt8) → Option ((List UInt8) × Int)) (hS : SumsOK Try.prog (aget (sums15 udp_Get udp_Put))) : SumOK Try.prog 15 (s15 (law08_awakeF udp_Get udp_Put)) := by
  refine SumOK.of_leads tab_ok (fun ar os r ha hr => ?_) ⟨Try.f15, rfl, by decide, rfl⟩
  replace hr : r15 (law08_awakeF udp_Get udp_Put) ar (conts os) = some r := hr
  unfold r15 at hr
  generalize hc : conts os = C at hr
  have hq := dEnd.elim hr; clear hr; obtain ⟨rfl, rfl, hr⟩ := hq
  have hq := ofG.elim hr; clear hr; obtain ⟨x, h, rfl⟩ := hq
  obtain rfl := kinds_nil hc
  exact ⟨_, rfl, leads15 udp_Get udp_Put hS x h⟩
def law08_awake : Option Bool := law08_awakeF udp_Get udp_Put
theorem lift15 : SumOK Try.prog 15 (s15 law08_awake) := ok15 udp_Get udp_Put (SumsOK.of_tab ⟨lift18, lift16, trivial⟩)
end Go.Vm.Code

namespace Go.Vm.Code
open Go Go.Vm Go.Proofs
set_option maxRecDepth 100000
set_option maxHeartbeats 4000000
set_option linter.unusedVariables false

/-! cloakroom/cloakroomlaw08.UdpTells -/
def law08_UdpTellsF (R07_Small : (List (List UInt8)) → Int → Option Bool) (R08_Get : (List UInt8) → api_Addr → api_Addr → Option (udp_Head × (List UInt8) × Int)) (R08_Put : udp_Head → api_Addr → api_Addr → (List UInt8) → Option ((List UInt8) × Int)) (law08_awake : Option Bool) (udp_Get : (List UInt8) → api_Addr → api_Addr → Option (udp_Head × (List UInt8) × Int)) (udp_Put : udp_Head → api_Addr → api_Addr → (List UInt8) → Option ((List UInt8) × Int)) (ha0 : udp_Head) (src : api_Addr) (dst : api_Addr) (payload : List UInt8) (s : List UInt8) : Option Bool :=
  (R07_Small [payload, s] 200).bind fun s1 =>
  cond (!s1)
    (
    (law08_awake).bind fun a =>
    some (a))
    (
    (udp_Put ha0 src dst payload).bind fun p =>
    (R08_Put ha0 src dst payload).bind fun p1 =>
    (udp_Get s src dst).bind fun xg =>
    (R08_Get s src dst).bind fun xg1 =>
    cond (p.1 == p1.1)
      (
      cond (p.2 == p1.2)
        (
        cond (xg.1.SPort == xg1.1.SPort)
          (
          cond (xg.1.DPort == xg1.1.DPort)
            (
            cond (xg.2.1 == xg1.2.1)
              (
              cond (xg.2.2 == xg1.2.2)
                (
                (law08_awake).bind fun a1 =>
                some (a1))
                (
                some (false)))
              (
              some (false)))
            (
            some (false)))
          (
          some (false)))
        (
        some (false)))
      (
      some (false)))
def rx3 (x : Bool) : SRes := ⟨.bool x, [], []⟩
def r3 (g : udp_Head → api_Addr → api_Addr → (List UInt8) → (List UInt8) → Option Bool) : Dec := dV uvudp_Head fun (y0 : udp_Head) => dV uvapi_Addr fun (y1 : api_Addr) => dV uvapi_Addr fun (y2 : api_Addr) => dV asS fun (y3 : List UInt8) => dV asS fun (y4 : List UInt8) => dEnd (ofG (g y0 y1 y2 y3 y4) rx3)
theorem r3_c {g : udp_Head → api_Addr → api_Addr → (List UInt8) → (List UInt8) → Option Bool} {y0 : udp_Head} {y1 : api_Addr} {y2 : api_Addr} {y3 : List UInt8} {y4 : List UInt8} {x : Bool} (hx : g y0 y1 y2 y3 y4 = some x) : r3 g [.agg ⟨[.int .i64 y0.SPort, .int .i64 y0.DPort]⟩, .agg ⟨[.bool y1.V6, .int .u64 y1.Hi, .int .u64 y1.Lo]⟩, .agg ⟨[.bool y2.V6, .int .u64 y2.Hi, .int .u64 y2.Lo]⟩, .string ⟨⟨y3⟩⟩, .string ⟨⟨y4⟩⟩] [] = some (rx3 x) := (dV_eq (uvudp_Head_c _)).trans ((dV_eq (uvapi_Addr_c _)).trans ((dV_eq (uvapi_Addr_c _)).trans ((dV_eq (asS_c)).trans ((dV_eq (asS_c)).trans (ofG_eq hx)))))
def s3 (g : udp_Head → api_Addr → api_Addr → (List UInt8) → (List UInt8) → Option Bool) : Summ := ⟨[.v, .v, .v, .v, .v], r3 g⟩
theorem r3_eq {g : udp_Head → api_Addr → api_Addr → (List UInt8) → (List UInt8) → Option Bool} {y0 : udp_Head} {y1 : api_Addr} {y2 : api_Addr} {y3 : List UInt8} {y4 : List UInt8} {x : Bool} (hx : g y0 y1 y2 y3 y4 = some x) : (s3 g).run [.agg ⟨[.int .i64 y0.SPort, .int .i64 y0.DPort]⟩, .agg ⟨[.bool y1.V6, .int .u64 y1.Hi, .int .u64 y1.Lo]⟩, .agg ⟨[.bool y2.V6, .int .u64 y2.Hi, .int .u64 y2.Lo]⟩, .string ⟨⟨y3⟩⟩, .string ⟨⟨y4⟩⟩] [] = some (rx3 x) := r3_c hx
abbrev sums3 (R07_Small : (List (List UInt8)) → Int → Option Bool) (R08_Get : (List UInt8) → api_Addr → api_Addr → Option (udp_Head × (List UInt8) × Int)) (R08_Put : udp_Head → api_Addr → api_Addr → (List UInt8) → Option ((List UInt8) × Int)) (law08_awake : Option Bool) (udp_Get : (List UInt8) → api_Addr → api_Addr → Option (udp_Head × (List UInt8) × Int)) (udp_Put : udp_Head → api_Addr → api_Addr → (List UInt8) → Option ((List UInt8) × Int)) : List (Nat × Summ) := [(14, s14 R07_Small), (19, s19 R08_Get), (17, s17 R08_Put), (15, s15 law08_awake), (18, s18 udp_Get), (16, s16 udp_Put)]
theorem leads3 (R07_Small : (List (List UInt8)) → Int → Option Bool) (R08_Get : (List UInt8) → api_Addr → api_Addr → Option (udp_Head × (List UInt8) × Int)) (R08_Put : udp_Head → api_Addr → api_Addr → (List UInt8) → Option ((List UInt8) × Int)) (law08_awake : Option Bool) (udp_Get : (List UInt8) → api_Addr → api_Addr → Option (udp_Head × (List UInt8) × Int)) (udp_Put : udp_Head → api_Addr → api_Addr → (List UInt8) → Option ((List UInt8) × Int)) (hS : SumsOK Try.prog (aget (sums3 R07_Small R08_Get R08_Put law08_awake udp_Get udp_Put))) (ha0 : udp_Head) (src : api_Addr) (dst : api_Addr) (payload : List UInt8) (s : List UInt8) (res : Bool) (h : law08_UdpTellsF R07_Small R08_Get R08_Put law08_awake udp_Get udp_Put ha0 src dst payload s = some res) :
    Leads Try.prog 3 0 ⟨⟨3, 98, [(0, .agg ⟨[.int .i64 ha0.SPort, .int .i64 ha0.DPort]⟩), (1, .agg ⟨[.bool src.V6, .int .u64 src.Hi, .int .u64 src.Lo]⟩), (2, .agg ⟨[.bool dst.V6, .int .u64 dst.Hi, .int .u64 dst.Lo]⟩), (3, .string ⟨⟨payload⟩⟩), (4, .string ⟨⟨s⟩⟩)], [.code k3_17], [], false, none⟩, [], [], 0⟩ (fun v H _ => Res 0 (rx3 res) v H) := by
  unfold law08_UdpTellsF at h
  refine ev_ok tab_ok hS true 3000 ?_
  conv => whnf
  obtain ⟨s1, hy, h2⟩ := obind.elim h; clear h; have h := h2; clear h2
  refine sumK.introF [] (sumRun_of (aqs := [.slice (some ⟨0, 0, none⟩) ([payload, s] : List (List UInt8)).length 1, .int .i64 200]) (ws := [.win 3 0 (2 * 1) false]) (n := 0) (m := 0) (t' := 4) (ra_cons (by first | rfl | exact ra_allS rfl rfl (by first | rfl | omega) (by first | rfl | (simp; done)) | exact ra_slS rfl rfl (by first | rfl | omega) (by first | rfl | omega) (by first | omega | (simp at *; omega))) rfl (ra_cons rfl rfl ra_nil)) rfl (by rfl) (r14_eq hy) rfl rfl rfl rfl (wb_skip rfl wb_nil) an_nil rfl) ?_
  conv => whnf
  refine br.h h ?_ ?_ ?_
  · rfl
  · clear h; intro hb h; conv => whnf
    obtain ⟨a, hy, h2⟩ := obind.elim h; clear h; have h := h2; clear h2
    refine sumK.introF [] (sumRun_of (aqs := []) (ws := []) (n := 0) (m := 0) (t' := 4) ra_nil rfl (by rfl) (r15_eq hy) rfl rfl rfl rfl wb_nil an_nil rfl) ?_
    conv => whnf
    all_goals (cases h)
    all_goals exact Res.of [] rfl nw_0 (by decide) js_0 wr_0
  clear h; intro hb h; conv => whnf
  obtain ⟨p, hy, h2⟩ := obind.elim h; clear h; have h := h2; clear h2
  refine sumK.introF [] (sumRun_of (aqs := [.agg ⟨[.int .i64 ha0.SPort, .int .i64 ha0.DPort]⟩, .agg ⟨[.bool src.V6, .int .u64 src.Hi, .int .u64 src.Lo]⟩, .agg ⟨[.bool dst.V6, .int .u64 dst.Hi, .int .u64 dst.Lo]⟩, .string ⟨⟨payload⟩⟩]) (ws := []) (n := 0) (m := 0) (t' := 4) (ra_cons rfl rfl (ra_cons rfl rfl (ra_cons rfl rfl (ra_cons rfl rfl ra_nil)))) rfl (by rfl) (r16_eq hy) rfl rfl rfl rfl wb_nil an_nil rfl) ?_
  conv => whnf
  obtain ⟨p1, hy, h2⟩ := obind.elim h; clear h; have h := h2; clear h2
  refine sumK.introF [] (sumRun_of (aqs := [.agg ⟨[.int .i64 ha0.SPort, .int .i64 ha0.DPort]⟩, .agg ⟨[.bool src.V6, .int .u64 src.Hi, .int .u64 src.Lo]⟩, .agg ⟨[.bool dst.V6, .int .u64 dst.Hi, .int .u64 dst.Lo]⟩, .string ⟨⟨payload⟩⟩]) (ws := []) (n := 0) (m := 0) (t' := 4) (ra_cons rfl rfl (ra_cons rfl rfl (ra_cons rfl rfl (ra_cons rfl rfl ra_nil)))) rfl (by rfl) (r17_eq hy) rfl rfl rfl rfl wb_nil an_nil rfl) ?_
  conv => whnf
  obtain ⟨xg, hy, h2⟩ := obind.elim h; clear h; have h := h2; clear h2
  refine sumK.introF [] (sumRun_of (aqs := [.string ⟨⟨s⟩⟩, .agg ⟨[.bool src.V6, .int .u64 src.Hi, .int .u64 src.Lo]⟩, .agg ⟨[.bool dst.V6, .int .u64 dst.Hi, .int .u64 dst.Lo]⟩]) (ws := []) (n := 0) (m := 0) (t' := 4) (ra_cons rfl rfl (ra_cons rfl rfl (ra_cons rfl rfl ra_nil))) rfl (by rfl) (r18_eq hy) rfl rfl rfl rfl wb_nil an_nil rfl) ?_
  conv => whnf
  obtain ⟨xg1, hy, h2⟩ := obind.elim h; clear h; have h := h2; clear h2
  refine sumK.introF [] (sumRun_of (aqs := [.string ⟨⟨s⟩⟩, .agg ⟨[.bool src.V6, .int .u64 src.Hi, .int .u64 src.Lo]⟩, .agg ⟨[.bool dst.V6, .int .u64 dst.Hi, .int .u64 dst.Lo]⟩]) (ws := []) (n := 0) (m := 0) (t' := 5) (ra_cons rfl rfl (ra_cons rfl rfl (ra_cons rfl rfl ra_nil))) rfl (by rfl) (r19_eq hy) rfl rfl rfl rfl wb_nil an_nil rfl) ?_
  conv => whnf
  refine br.h2 h ?_ ?_ ?_
  · rfl
  · clear h; intro hb h; conv => whnf
    all_goals (cases h)
    all_goals exact Res.of [] rfl nw_0 (by decide) js_0 wr_0
  clear h; intro hb h; conv => whnf
  refine br.h2 h ?_ ?_ ?_
  · rfl
  · clear h; intro hb h; conv => whnf
    all_goals (cases h)
    all_goals exact Res.of [] rfl nw_0 (by decide) js_0 wr_0
  clear h; intro hb h; conv => whnf
  refine br.h2 h ?_ ?_ ?_
  · rfl
  · clear h; intro hb h; conv => whnf
    all_goals (cases h)
    all_goals exact Res.of [] rfl nw_0 (by decide) js_0 wr_0
  clear h; intro hb h; conv => whnf
  refine br.h2 h ?_ ?_ ?_
  · rfl
  · clear h; intro hb h; conv => whnf
    all_goals (cases h)
    all_goals exact Res.of [] rfl nw_0 (by decide) js_0 wr_0
  clear h; intro hb h; conv => whnf
  refine br.h2 h ?_ ?_ ?_
  · rfl
  · clear h; intro hb h; conv => whnf
    all_goals (cases h)
    all_goals exact Res.of [] rfl nw_0 (by decide) js_0 wr_0
  clear h; intro hb h; conv => whnf
  refine br.h2 h ?_ ?_ ?_
  · rfl
  · clear h; intro hb h; conv => whnf
    all_goals (cases h)
    all_goals exact Res.of [] rfl nw_0 (by decide) js_0 wr_0
  clear h; intro hb h; conv => whnf
  obtain ⟨a1, hy, h2⟩ := obind.elim h; clear h; have h := h2; clear h2
  refine sumK.introF [] (sumRun_of (aqs := []) (ws := []) (n := 0) (m := 0) (t' := 6) ra_nil rfl (by rfl) (r15_eq hy) rfl rfl rfl rfl wb_nil an_nil rfl) ?_
  conv => whnf
  all_goals (cases h)
  all_goals exact Res.of [] rfl nw_0 (by decide) js_0 wr_0
theorem ok3 (R07_Small : (List (List UInt8)) → Int → Option Bool) (R08_Get : (List UInt8) → api_Addr → api_Addr → Option (udp_Head × (List UInt8) × Int)) (R08_Put : udp_Head → api_Addr → api_Addr → (List UInt8) → Option ((List UInt8) × Int)) (law08_awake : Option Bool) (udp_Get : (List UInt8) → api_Addr → api_Addr → Option (udp_Head × (List UInt8) × Int)) (udp_Put : udp_Head → api_Addr → api_Addr → (List UInt8) → Option ((List UInt8) × Int)) (hS : SumsOK Try.prog (aget (sums3 R07_Small R08_Get R08_Put law08_awake udp_Get udp_Put))) : SumOK Try.prog 3 (s3 (law08_UdpTellsF R07_Small R08_Get R08_Put law08_awake udp_Get udp_Put)) := by
  refine SumOK.of_leads tab_ok (fun ar os r ha hr => ?_) ⟨Try.f3, rfl, by decide, rfl⟩
  replace hr : r3 (law08_UdpTellsF R07_Small R08_Get R08_Put law08_awake udp_Get udp_Put) ar (conts os) = some r := hr
  unfold r3 at hr
  generalize hc : conts os = C at hr
  have hq := dV.elim hr; clear hr; obtain ⟨v0, l1, y0, rfl, e0, hr⟩ := hq; obtain rfl := uvudp_Head_eq _ _ e0
  have hq := dV.elim hr; clear hr; obtain ⟨v1, l2, y1, rfl, e1, hr⟩ := hq; obtain rfl := uvapi_Addr_eq _ _ e1
  have hq := dV.elim hr; clear hr; obtain ⟨v2, l3, y2, rfl, e2, hr⟩ := hq; obtain rfl := uvapi_Addr_eq _ _ e2
  have hq := dV.elim hr; clear hr; obtain ⟨v3, l4, y3, rfl, e3, hr⟩ := hq; obtain rfl := asS_eq _ _ e3
  have hq := dV.elim hr; clear hr; obtain ⟨v4, l5, y4, rfl, e4, hr⟩ := hq; obtain rfl := asS_eq _ _ e4
  have hq := dEnd.elim hr; clear hr; obtain ⟨rfl, rfl, hr⟩ := hq
  have hq := ofG.elim hr; clear hr; obtain ⟨x, h, rfl⟩ := hq
  obtain rfl := kinds_nil hc
  exact ⟨_, rfl, leads3 R07_Small R08_Get R08_Put law08_awake udp_Get udp_Put hS _ _ _ _ _ x h⟩
def law08_UdpTells : udp_Head → api_Addr → api_Addr → (List UInt8) → (List UInt8) → Option Bool := law08_UdpTellsF R07_Small R08_Get R08_Put law08_awake udp_Get udp_Put
theorem lift3 : SumOK Try.prog 3 (s3 law08_UdpTells) := ok3 R07_Small R08_Get R08_Put law08_awake udp_Get udp_Put (SumsOK.of_tab ⟨lift14, lift19, lift17, lift15, lift18, lift16, trivial⟩)
end Go.Vm.Code

/- UdpTells in plain words. -/
namespace Go.Vm.Code
open Go Go.Vm
theorem awake08 : law08_awake = some true := by decide +kernel
theorem udpTells (h : udp_Head) (src dst : api_Addr) (l s : List UInt8) (h1 : A4 src) (h2 : A4 dst) : law08_UdpTells h src dst l s = some true := by
  unfold law08_UdpTells law08_UdpTellsF
  rw [small_eq (by simp), Option.bind_some, awake08]
  by_cases hl : (l.length : Int) ≤ 200
  · by_cases hs : (s.length : Int) ≤ 200
    · rw [show (!([l, s].all fun x => decide ((x.length : Int) ≤ 200))) = false by simp [hl, hs], cond_false, uput_eq h1 h2 (by omega), u8put_eq h1 h2 (by omega), uget_eq h1 h2 (by omega), u8get_eq h1 h2 (by omega)]
      simp only [Option.bind_some, beq_self_eq_true, cond_true]
    · rw [show (!([l, s].all fun x => decide ((x.length : Int) ≤ 200))) = true by simp [hs], cond_true]; rfl
  · rw [show (!([l, s].all fun x => decide ((x.length : Int) ≤ 200))) = true by simp [hl], cond_true]; rfl
end Go.Vm.Code
