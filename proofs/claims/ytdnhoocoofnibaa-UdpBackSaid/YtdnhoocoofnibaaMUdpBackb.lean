import Derived.Test.YtdnhoocoofnibaaMUdpBacka
namespace Go.Vm.Code
open Go Go.Vm Go.Proofs
set_option maxRecDepth 100000
set_option maxHeartbeats 4000000
set_option linter.unusedVariables false

/-! cloakroom/cloakroomref08.Put -/
def R08_PutF (R02_Put : Int → Int → Option (List UInt8)) (R03_Of : (List UInt8) → Option Int) (R03_Set : (List UInt8) → Int → Int → Int → Option (List UInt8)) (R05_Pseudo : api_Addr → api_Addr → Int → Int → Option (List UInt8)) (R08_in : Int → Option Bool) (ha0 : udp_Head) (src : api_Addr) (dst : api_Addr) (payload : List UInt8) : Option ((List UInt8) × Int) :=
  (R05_Pseudo src dst 17 (wI .i64 (8 + (payload.length : Int)))).bind fun p =>
  (R08_in ha0.SPort).bind fun i =>
  cond (!i)
    (
    some (([], 1)))
    (
    (R08_in ha0.DPort).bind fun i1 =>
    cond (!i1)
      (
      some (([], 1)))
      (
      cond (p == [])
        (
        some (([], 1)))
        (
        let t := decide ((wI .i64 (8 + (payload.length : Int))) > 65535)
        cond (t)
          (
          some (([], 5)))
          (
          (R02_Put (wI .u64 ha0.SPort) 2).bind fun p1 =>
          (R02_Put (wI .u64 ha0.DPort) 2).bind fun p2 =>
          oreq (decide (p1.length + p2.length < 2 ^ 63)) <|
          let t1 := wI .u64 (wI .i64 (8 + (payload.length : Int)))
          (R02_Put t1 2).bind fun p3 =>
          oreq (decide ((p1 ++ p2).length + p3.length < 2 ^ 63)) <|
          oreq (decide (((p1 ++ p2) ++ p3).length + 2 < 2 ^ 63)) <|
          oreq (decide ((((p1 ++ p2) ++ p3) ++ [0, 0]).length + payload.length < 2 ^ 63)) <|
          let t2 := (((p1 ++ p2) ++ p3) ++ [0, 0]) ++ payload
          oreq (decide (p.length + t2.length < 2 ^ 63)) <|
          (R03_Of (p ++ t2)).bind fun xo =>
          cond (xo == 0)
            (
            (R03_Set t2 6 2 65535).bind fun s =>
            some ((s, 0)))
            (
            (R03_Set t2 6 2 (wI .u64 xo)).bind fun s1 =>
            some ((s1, 0)))))))
def rx17 (x : (List UInt8) × Int) : SRes := ⟨.tuple ⟨[.string ⟨⟨x.1⟩⟩, .int .i64 x.2]⟩, [], []⟩
def r17 (g : udp_Head → api_Addr → api_Addr → (List UInt8) → Option ((List UInt8) × Int)) : Dec := dV uvudp_Head fun (y0 : udp_Head) => dV uvapi_Addr fun (y1 : api_Addr) => dV uvapi_Addr fun (y2 : api_Addr) => dV asS fun (y3 : List UInt8) => dEnd (ofG (g y0 y1 y2 y3) rx17)
theorem r17_c {g : udp_Head → api_Addr → api_Addr → (List UInt8) → Option ((List UInt8) × Int)} {y0 : udp_Head} {y1 : api_Addr} {y2 : api_Addr} {y3 : List UInt8} {x : (List UInt8) × Int} (hx : g y0 y1 y2 y3 = some x) : r17 g [.agg ⟨[.int .i64 y0.SPort, .int .i64 y0.DPort]⟩, .agg ⟨[.bool y1.V6, .int .u64 y1.Hi, .int .u64 y1.Lo]⟩, .agg ⟨[.bool y2.V6, .int .u64 y2.Hi, .int .u64 y2.Lo]⟩, .string ⟨⟨y3⟩⟩] [] = some (rx17 x) := (dV_eq (uvudp_Head_c _)).trans ((dV_eq (uvapi_Addr_c _)).trans ((dV_eq (uvapi_Addr_c _)).trans ((dV_eq (asS_c)).trans (ofG_eq hx))))
def s17 (g : udp_Head → api_Addr → api_Addr → (List UInt8) → Option ((List UInt8) × Int)) : Summ := ⟨[.v, .v, .v, .v], r17 g⟩
theorem r17_eq {g : udp_Head → api_Addr → api_Addr → (List UInt8) → Option ((List UInt8) × Int)} {y0 : udp_Head} {y1 : api_Addr} {y2 : api_Addr} {y3 : List UInt8} {x : (List UInt8) × Int} (hx : g y0 y1 y2 y3 = some x) : (s17 g).run [.agg ⟨[.int .i64 y0.SPort, .int .i64 y0.DPort]⟩, .agg ⟨[.bool y1.V6, .int .u64 y1.Hi, .int .u64 y1.Lo]⟩, .agg ⟨[.bool y2.V6, .int .u64 y2.Hi, .int .u64 y2.Lo]⟩, .string ⟨⟨y3⟩⟩] [] = some (rx17 x) := r17_c hx
abbrev sums17 (R02_Put : Int → Int → Option (List UInt8)) (R03_Of : (List UInt8) → Option Int) (R03_Set : (List UInt8) → Int → Int → Int → Option (List UInt8)) (R05_Pseudo : api_Addr → api_Addr → Int → Int → Option (List UInt8)) (R08_in : Int → Option Bool) : List (Nat × Summ) := [(67, s67 R02_Put), (68, s68 R03_Of), (69, s69 R03_Set), (28, s28 R05_Pseudo), (66, s66 R08_in)]
theorem leads17 (R02_Put : Int → Int → Option (List UInt8)) (R03_Of : (List UInt8) → Option Int) (R03_Set : (List UInt8) → Int → Int → Int → Option (List UInt8)) (R05_Pseudo : api_Addr → api_Addr → Int → Int → Option (List UInt8)) (R08_in : Int → Option Bool) (hS : SumsOK Try.prog (aget (sums17 R02_Put R03_Of R03_Set R05_Pseudo R08_in))) (ha0 : udp_Head) (src : api_Addr) (dst : api_Addr) (payload : List UInt8) (res : (List UInt8) × Int) (h : R08_PutF R02_Put R03_Of R03_Set R05_Pseudo R08_in ha0 src dst payload = some res) :
    Leads Try.prog 17 0 ⟨⟨17, 63, [(0, .agg ⟨[.int .i64 ha0.SPort, .int .i64 ha0.DPort]⟩), (1, .agg ⟨[.bool src.V6, .int .u64 src.Hi, .int .u64 src.Lo]⟩), (2, .agg ⟨[.bool dst.V6, .int .u64 dst.Hi, .int .u64 dst.Lo]⟩), (3, .string ⟨⟨payload⟩⟩)], [.code k17_28], [], false, none⟩, [], [], 0⟩ (fun v H _ => Res 0 (rx17 res) v H) := by
  unfold R08_PutF at h
  refine ev_ok tab_ok hS true 3000 ?_
  conv => whnf
  obtain ⟨p, hy, h2⟩ := obind.elim h; clear h; have h := h2; clear h2
  refine sumK.introF [] (sumRun_of (aqs := [.agg ⟨[.bool src.V6, .int .u64 src.Hi, .int .u64 src.Lo]⟩, .agg ⟨[.bool dst.V6, .int .u64 dst.Hi, .int .u64 dst.Lo]⟩, .int .i64 17, .int .i64 (wI .i64 (8 + (payload.length : Int)))]) (ws := []) (n := 0) (m := 0) (t' := 3) (ra_cons rfl rfl (ra_cons rfl rfl (ra_cons rfl rfl (ra_cons rfl rfl ra_nil)))) rfl (by rfl) (r28_eq hy) rfl rfl rfl rfl wb_nil an_nil rfl) ?_
  conv => whnf
  obtain ⟨i, hy, h2⟩ := obind.elim h; clear h; have h := h2; clear h2
  refine sumK.introF [] (sumRun_of (aqs := [.int .i64 ha0.SPort]) (ws := []) (n := 0) (m := 0) (t' := 3) (ra_cons rfl rfl ra_nil) rfl (by rfl) (r66_eq hy) rfl rfl rfl rfl wb_nil an_nil rfl) ?_
  conv => whnf
  refine br.h h ?_ ?_ ?_
  · rfl
  · clear h; intro hb h; conv => whnf
    all_goals (cases h)
    all_goals exact Res.of [] rfl nw_0 (by decide) js_0 wr_0
  clear h; intro hb h; conv => whnf
  obtain ⟨i1, hy, h2⟩ := obind.elim h; clear h; have h := h2; clear h2
  refine sumK.introF [] (sumRun_of (aqs := [.int .i64 ha0.DPort]) (ws := []) (n := 0) (m := 0) (t' := 3) (ra_cons rfl rfl ra_nil) rfl (by rfl) (r66_eq hy) rfl rfl rfl rfl wb_nil an_nil rfl) ?_
  conv => whnf
  refine br.h h ?_ ?_ ?_
  · rfl
  · clear h; intro hb h; conv => whnf
    all_goals (cases h)
    all_goals exact Res.of [] rfl nw_0 (by decide) js_0 wr_0
  clear h; intro hb h; conv => whnf
  refine br.h h ?_ ?_ ?_
  · rfl
  · clear h; intro hb h; conv => whnf
    all_goals (cases h)
    all_goals exact Res.of [] rfl nw_0 (by decide) js_0 wr_0
  clear h; intro hb h; conv => whnf
  let t : Bool := decide ((wI .i64 (8 + (payload.length : Int))) > 65535)
  refine br.h h ?_ ?_ ?_
  · rfl
  · clear h; intro hb h; conv => whnf
    all_goals (cases h)
    all_goals exact Res.of [] rfl nw_0 (by decide) js_0 wr_0
  clear h; intro hb h; conv => whnf
  obtain ⟨p1, hy, h2⟩ := obind.elim h; clear h; have h := h2; clear h2
  refine sumK.introF [] (sumRun_of (aqs := [.int .u64 (wI .u64 ha0.SPort), .int .i64 2]) (ws := []) (n := 0) (m := 0) (t' := 6) (ra_cons rfl rfl (ra_cons rfl rfl ra_nil)) rfl (by rfl) (r67_eq hy) rfl rfl rfl rfl wb_nil an_nil rfl) ?_
  conv => whnf
  obtain ⟨p2, hy, h2⟩ := obind.elim h; clear h; have h := h2; clear h2
  refine sumK.introF [] (sumRun_of (aqs := [.int .u64 (wI .u64 ha0.DPort), .int .i64 2]) (ws := []) (n := 0) (m := 0) (t' := 10) (ra_cons rfl rfl (ra_cons rfl rfl ra_nil)) rfl (by rfl) (r67_eq hy) rfl rfl rfl rfl wb_nil an_nil rfl) ?_
  conv => whnf
  replace h := oreq.elim h; have hb := h.1; replace h := h.2
  first | (refine req.intro hb ?_; conv => whnf) | skip
  let t1 : Int := wI .u64 (wI .i64 (8 + (payload.length : Int)))
  obtain ⟨p3, hy, h2⟩ := obind.elim h; clear h; have h := h2; clear h2
  refine sumK.introF [] (sumRun_of (aqs := [.int .u64 t1, .int .i64 2]) (ws := []) (n := 0) (m := 0) (t' := 14) (ra_cons rfl rfl (ra_cons rfl rfl ra_nil)) rfl (by rfl) (r67_eq hy) rfl rfl rfl rfl wb_nil an_nil rfl) ?_
  conv => whnf
  replace h := oreq.elim h; have hb := h.1; replace h := h.2
  first | (refine req.intro hb ?_; conv => whnf) | skip
  replace h := oreq.elim h; have hb := h.1; replace h := h.2
  first | (refine req.intro hb ?_; conv => whnf) | skip
  replace h := oreq.elim h; have hb := h.1; replace h := h.2
  first | (refine req.intro hb ?_; conv => whnf) | skip
  let t2 : List UInt8 := (((p1 ++ p2) ++ p3) ++ [0, 0]) ++ payload
  replace h := oreq.elim h; have hb := h.1; replace h := h.2
  first | (refine req.intro hb ?_; conv => whnf) | skip
  obtain ⟨xo, hy, h2⟩ := obind.elim h; clear h; have h := h2; clear h2
  refine sumK.introF [] (sumRun_of (aqs := [.string ⟨⟨p ++ t2⟩⟩]) (ws := []) (n := 0) (m := 0) (t' := 18) (ra_cons rfl rfl ra_nil) rfl (by rfl) (r68_eq hy) rfl rfl rfl rfl wb_nil an_nil rfl) ?_
  conv => whnf
  refine br.h h ?_ ?_ ?_
  · rfl
  · clear h; intro hb h; conv => whnf
    obtain ⟨s, hy, h2⟩ := obind.elim h; clear h; have h := h2; clear h2
    refine sumK.introF [] (sumRun_of (aqs := [.string ⟨⟨t2⟩⟩, .int .i64 6, .int .i64 2, .int .u64 65535]) (ws := []) (n := 0) (m := 0) (t' := 18) (ra_cons rfl rfl (ra_cons rfl rfl (ra_cons rfl rfl (ra_cons rfl rfl ra_nil)))) rfl (by rfl) (r69_eq hy) rfl rfl rfl rfl wb_nil an_nil rfl) ?_
    conv => whnf
    all_goals (cases h)
    all_goals exact Res.of [] rfl nw_0 (by decide) js_0 wr_0
  clear h; intro hb h; conv => whnf
  obtain ⟨s1, hy, h2⟩ := obind.elim h; clear h; have h := h2; clear h2
  refine sumK.introF [] (sumRun_of (aqs := [.string ⟨⟨t2⟩⟩, .int .i64 6, .int .i64 2, .int .u64 (wI .u64 xo)]) (ws := []) (n := 0) (m := 0) (t' := 18) (ra_cons rfl rfl (ra_cons rfl rfl (ra_cons rfl rfl (ra_cons rfl rfl ra_nil)))) rfl (by rfl) (r69_eq hy) rfl rfl rfl rfl wb_nil an_nil rfl) ?_
  conv => whnf
  all_goals (cases h)
  all_goals exact Res.of [] rfl nw_0 (by decide) js_0 wr_0
theorem ok17 (R02_Put : Int → Int → Option (List UInt8)) (R03_Of : (List UInt8) → Option Int) (R03_Set : (List UInt8) → Int → Int → Int → Option (List UInt8)) (R05_Pseudo : api_Addr → api_Addr → Int → Int → Option (List UInt8)) (R08_in : Int → Option Bool) (hS : SumsOK Try.prog (aget (sums17 R02_Put R03_Of R03_Set R05_Pseudo R08_in))) : SumOK Try.prog 17 (s17 (R08_PutF R02_Put R03_Of R03_Set R05_Pseudo R08_in)) := by
  refine SumOK.of_leads tab_ok (fun ar os r ha hr => ?_) ⟨Try.f17, rfl, by decide, rfl⟩
  replace hr : r17 (R08_PutF R02_Put R03_Of R03_Set R05_Pseudo R08_in) ar (conts os) = some r := hr
  unfold r17 at hr
  generalize hc : conts os = C at hr
  have hq := dV.elim hr; clear hr; obtain ⟨v0, l1, y0, rfl, e0, hr⟩ := hq; obtain rfl := uvudp_Head_eq _ _ e0
  have hq := dV.elim hr; clear hr; obtain ⟨v1, l2, y1, rfl, e1, hr⟩ := hq; obtain rfl := uvapi_Addr_eq _ _ e1
  have hq := dV.elim hr; clear hr; obtain ⟨v2, l3, y2, rfl, e2, hr⟩ := hq; obtain rfl := uvapi_Addr_eq _ _ e2
  have hq := dV.elim hr; clear hr; obtain ⟨v3, l4, y3, rfl, e3, hr⟩ := hq; obtain rfl := asS_eq _ _ e3
  have hq := dEnd.elim hr; clear hr; obtain ⟨rfl, rfl, hr⟩ := hq
  have hq := ofG.elim hr; clear hr; obtain ⟨x, h, rfl⟩ := hq
  obtain rfl := kinds_nil hc
  exact ⟨_, rfl, leads17 R02_Put R03_Of R03_Set R05_Pseudo R08_in hS _ _ _ _ x h⟩
def R08_Put : udp_Head → api_Addr → api_Addr → (List UInt8) → Option ((List UInt8) × Int) := R08_PutF R02_Put R03_Of R03_Set R05_Pseudo R08_in
theorem lift17 : SumOK Try.prog 17 (s17 R08_Put) := ok17 R02_Put R03_Of R03_Set R05_Pseudo R08_in (SumsOK.of_tab ⟨lift67, lift68, lift69, lift28, lift66, trivial⟩)
end Go.Vm.Code

namespace Go.Vm.Code
open Go Go.Vm Go.Proofs
set_option maxRecDepth 100000
set_option maxHeartbeats 4000000
set_option linter.unusedVariables false

/-! cloakroom/cloakroomref08.Get -/
def R08_GetF (R02_Must : (List UInt8) → Int → Int → Option Int) (R03_Sum : (List UInt8) → Option Int) (R05_Pseudo : api_Addr → api_Addr → Int → Int → Option (List UInt8)) (s : List UInt8) (src : api_Addr) (dst : api_Addr) : Option (udp_Head × (List UInt8) × Int) :=
  cond (decide ((s.length : Int) < 8))
    (
    some ((udp_Head.mk 0 0, [], 2)))
    (
    (R02_Must s 4 2).bind fun m =>
    cond (decide (m < 8))
      (
      some ((udp_Head.mk 0 0, [], 3)))
      (
      cond (decide ((s.length : Int) < m))
        (
        some ((udp_Head.mk 0 0, [], 2)))
        (
        (R05_Pseudo src dst 17 m).bind fun p =>
        cond (p == [])
          (
          some ((udp_Head.mk 0 0, [], 1)))
          (
          (R02_Must s 6 2).bind fun m1 =>
          cond (m1 == 0)
            (
            cond (src.V6)
              (
              some ((udp_Head.mk 0 0, [], 4)))
              (
              (R02_Must s 0 2).bind fun m2 =>
              (R02_Must s 2 2).bind fun m3 =>
              oreq (decide ((0 : Int) ≤ m ∧ m ≤ (s.length : Int) ∧ (0 : Int) ≤ (8 : Int) ∧ (8 : Int) ≤ (m.toNat : Int))) <|
              some ((udp_Head.mk m2 m3, (s.drop 8).take (m.toNat - 8), 0))))
            (
            oreq (decide ((0 : Int) ≤ m ∧ m ≤ (s.length : Int))) <|
            oreq (decide (p.length + (s.take m.toNat).length < 2 ^ 63)) <|
            (R03_Sum (p ++ (s.take m.toNat))).bind fun s1 =>
            cond (s1 != 65535)
              (
              some ((udp_Head.mk 0 0, [], 4)))
              (
              (R02_Must s 0 2).bind fun m4 =>
              (R02_Must s 2 2).bind fun m5 =>
              oreq (decide ((0 : Int) ≤ m ∧ m ≤ (s.length : Int) ∧ (0 : Int) ≤ (8 : Int) ∧ (8 : Int) ≤ (m.toNat : Int))) <|
              some ((udp_Head.mk m4 m5, (s.drop 8).take (m.toNat - 8), 0))))))))
def rx19 (x : udp_Head × (List UInt8) × Int) : SRes := ⟨.tuple ⟨[.agg ⟨[.int .i64 x.1.SPort, .int .i64 x.1.DPort]⟩, .string ⟨⟨x.2.1⟩⟩, .int .i64 x.2.2]⟩, [], []⟩
def r19 (g : (List UInt8) → api_Addr → api_Addr → Option (udp_Head × (List UInt8) × Int)) : Dec := dV asS fun (y0 : List UInt8) => dV uvapi_Addr fun (y1 : api_Addr) => dV uvapi_Addr fun (y2 : api_Addr) => dEnd (ofG (g y0 y1 y2) rx19)
theorem r19_c {g : (List UInt8) → api_Addr → api_Addr → Option (udp_Head × (List UInt8) × Int)} {y0 : List UInt8} {y1 : api_Addr} {y2 : api_Addr} {x : udp_Head × (List UInt8) × Int} (hx : g y0 y1 y2 = some x) : r19 g [.string ⟨⟨y0⟩⟩, .agg ⟨[.bool y1.V6, .int .u64 y1.Hi, .int .u64 y1.Lo]⟩, .agg ⟨[.bool y2.V6, .int .u64 y2.Hi, .int .u64 y2.Lo]⟩] [] = some (rx19 x) := (dV_eq (asS_c)).trans ((dV_eq (uvapi_Addr_c _)).trans ((dV_eq (uvapi_Addr_c _)).trans (ofG_eq hx)))
def s19 (g : (List UInt8) → api_Addr → api_Addr → Option (udp_Head × (List UInt8) × Int)) : Summ := ⟨[.v, .v, .v], r19 g⟩
theorem r19_eq {g : (List UInt8) → api_Addr → api_Addr → Option (udp_Head × (List UInt8) × Int)} {y0 : List UInt8} {y1 : api_Addr} {y2 : api_Addr} {x : udp_Head × (List UInt8) × Int} (hx : g y0 y1 y2 = some x) : (s19 g).run [.string ⟨⟨y0⟩⟩, .agg ⟨[.bool y1.V6, .int .u64 y1.Hi, .int .u64 y1.Lo]⟩, .agg ⟨[.bool y2.V6, .int .u64 y2.Hi, .int .u64 y2.Lo]⟩] [] = some (rx19 x) := r19_c hx
abbrev sums19 (R02_Must : (List UInt8) → Int → Int → Option Int) (R03_Sum : (List UInt8) → Option Int) (R05_Pseudo : api_Addr → api_Addr → Int → Int → Option (List UInt8)) : List (Nat × Summ) := [(74, s74 R02_Must), (75, s75 R03_Sum), (28, s28 R05_Pseudo)]
theorem leads19 (R02_Must : (List UInt8) → Int → Int → Option Int) (R03_Sum : (List UInt8) → Option Int) (R05_Pseudo : api_Addr → api_Addr → Int → Int → Option (List UInt8)) (hS : SumsOK Try.prog (aget (sums19 R02_Must R03_Sum R05_Pseudo))) (s : List UInt8) (src : api_Addr) (dst : api_Addr) (res : udp_Head × (List UInt8) × Int) (h : R08_GetF R02_Must R03_Sum R05_Pseudo s src dst = some res) :
    Leads Try.prog 19 0 ⟨⟨19, 54, [(0, .string ⟨⟨s⟩⟩), (1, .agg ⟨[.bool src.V6, .int .u64 src.Hi, .int .u64 src.Lo]⟩), (2, .agg ⟨[.bool dst.V6, .int .u64 dst.Hi, .int .u64 dst.Lo]⟩)], [.code k19_45], [], false, none⟩, [], [], 0⟩ (fun v H _ => Res 0 (rx19 res) v H) := by
  unfold R08_GetF at h
  refine ev_ok tab_ok hS true 3000 ?_
  conv => whnf
  refine br.h h ?_ ?_ ?_
  · rfl
  · clear h; intro hb h; conv => whnf
    all_goals (cases h)
    all_goals exact Res.of [] rfl nw_0 (by decide) js_0 wr_0
  clear h; intro hb h; conv => whnf
  obtain ⟨m, hy, h2⟩ := obind.elim h; clear h; have h := h2; clear h2
  refine sumK.introF [] (sumRun_of (aqs := [.string ⟨⟨s⟩⟩, .int .i64 4, .int .i64 2]) (ws := []) (n := 0) (m := 0) (t' := 3) (ra_cons rfl rfl (ra_cons rfl rfl (ra_cons rfl rfl ra_nil))) rfl (by rfl) (r74_eq hy) rfl rfl rfl rfl wb_nil an_nil rfl) ?_
  conv => whnf
  refine br.h h ?_ ?_ ?_
  · rfl
  · clear h; intro hb h; conv => whnf
    all_goals (cases h)
    all_goals exact Res.of [] rfl nw_0 (by decide) js_0 wr_0
  clear h; intro hb h; conv => whnf
  refine br.h h ?_ ?_ ?_
  · rfl
  · clear h; intro hb h; conv => whnf
    all_goals (cases h)
    all_goals exact Res.of [] rfl nw_0 (by decide) js_0 wr_0
  clear h; intro hb h; conv => whnf
  obtain ⟨p, hy, h2⟩ := obind.elim h; clear h; have h := h2; clear h2
  refine sumK.introF [] (sumRun_of (aqs := [.agg ⟨[.bool src.V6, .int .u64 src.Hi, .int .u64 src.Lo]⟩, .agg ⟨[.bool dst.V6, .int .u64 dst.Hi, .int .u64 dst.Lo]⟩, .int .i64 17, .int .i64 m]) (ws := []) (n := 0) (m := 0) (t' := 3) (ra_cons rfl rfl (ra_cons rfl rfl (ra_cons rfl rfl (ra_cons rfl rfl ra_nil)))) rfl (by rfl) (r28_eq hy) rfl rfl rfl rfl wb_nil an_nil rfl) ?_
  conv => whnf
  refine br.h h ?_ ?_ ?_
  · rfl
  · clear h; intro hb h; conv => whnf
    all_goals (cases h)
    all_goals exact Res.of [] rfl nw_0 (by decide) js_0 wr_0
  clear h; intro hb h; conv => whnf
  obtain ⟨m1, hy, h2⟩ := obind.elim h; clear h; have h := h2; clear h2
  refine sumK.introF [] (sumRun_of (aqs := [.string ⟨⟨s⟩⟩, .int .i64 6, .int .i64 2]) (ws := []) (n := 0) (m := 0) (t' := 3) (ra_cons rfl rfl (ra_cons rfl rfl (ra_cons rfl rfl ra_nil))) rfl (by rfl) (r74_eq hy) rfl rfl rfl rfl wb_nil an_nil rfl) ?_
  conv => whnf
  refine br.h h ?_ ?_ ?_
  · rfl
  · clear h; intro hb h; conv => whnf
    refine br.h h ?_ ?_ ?_
    · rfl
    · clear h; intro hb h; conv => whnf
      all_goals (cases h)
      all_goals exact Res.of [] rfl nw_0 (by decide) js_0 wr_0
    clear h; intro hb h; conv => whnf
    obtain ⟨m2, hy, h2⟩ := obind.elim h; clear h; have h := h2; clear h2
    refine sumK.introF [] (sumRun_of (aqs := [.string ⟨⟨s⟩⟩, .int .i64 0, .int .i64 2]) (ws := []) (n := 0) (m := 0) (t' := 4) (ra_cons rfl rfl (ra_cons rfl rfl (ra_cons rfl rfl ra_nil))) rfl (by rfl) (r74_eq hy) rfl rfl rfl rfl wb_nil an_nil rfl) ?_
    conv => whnf
    obtain ⟨m3, hy, h2⟩ := obind.elim h; clear h; have h := h2; clear h2
    refine sumK.introF [] (sumRun_of (aqs := [.string ⟨⟨s⟩⟩, .int .i64 2, .int .i64 2]) (ws := []) (n := 0) (m := 0) (t' := 6) (ra_cons rfl rfl (ra_cons rfl rfl (ra_cons rfl rfl ra_nil))) rfl (by rfl) (r74_eq hy) rfl rfl rfl rfl wb_nil an_nil rfl) ?_
    conv => whnf
    replace h := oreq.elim h; have hb := h.1; replace h := h.2
    first | (refine req.intro hb ?_; conv => whnf) | skip
    all_goals (cases h)
    all_goals exact Res.of [] rfl nw_0 (by decide) js_0 wr_0
  clear h; intro hb h; conv => whnf
  replace h := oreq.elim h; have hb := h.1; replace h := h.2
  first | (refine req.intro hb ?_; conv => whnf) | skip
  replace h := oreq.elim h; have hb := h.1; replace h := h.2
  first | (refine req.intro hb ?_; conv => whnf) | skip
  obtain ⟨s1, hy, h2⟩ := obind.elim h; clear h; have h := h2; clear h2
  refine sumK.introF [] (sumRun_of (aqs := [.string ⟨⟨p ++ (s.take m.toNat)⟩⟩]) (ws := []) (n := 0) (m := 0) (t' := 3) (ra_cons rfl rfl ra_nil) rfl (by rfl) (r75_eq hy) rfl rfl rfl rfl wb_nil an_nil rfl) ?_
  conv => whnf
  refine br.h h ?_ ?_ ?_
  · rfl
  · clear h; intro hb h; conv => whnf
    all_goals (cases h)
    all_goals exact Res.of [] rfl nw_0 (by decide) js_0 wr_0
  clear h; intro hb h; conv => whnf
  obtain ⟨m4, hy, h2⟩ := obind.elim h; clear h; have h := h2; clear h2
  refine sumK.introF [] (sumRun_of (aqs := [.string ⟨⟨s⟩⟩, .int .i64 0, .int .i64 2]) (ws := []) (n := 0) (m := 0) (t' := 4) (ra_cons rfl rfl (ra_cons rfl rfl (ra_cons rfl rfl ra_nil))) rfl (by rfl) (r74_eq hy) rfl rfl rfl rfl wb_nil an_nil rfl) ?_
  conv => whnf
  obtain ⟨m5, hy, h2⟩ := obind.elim h; clear h; have h := h2; clear h2
  refine sumK.introF [] (sumRun_of (aqs := [.string ⟨⟨s⟩⟩, .int .i64 2, .int .i64 2]) (ws := []) (n := 0) (m := 0) (t' := 6) (ra_cons rfl rfl (ra_cons rfl rfl (ra_cons rfl rfl ra_nil))) rfl (by rfl) (r74_eq hy) rfl rfl rfl rfl wb_nil an_nil rfl) ?_
  conv => whnf
  replace h := oreq.elim h; have hb := h.1; replace h := h.2
  first | (refine req.intro hb ?_; conv => whnf) | skip
  all_goals (cases h)
  all_goals exact Res.of [] rfl nw_0 (by decide) js_0 wr_0
theorem ok19 (R02_Must : (List UInt8) → Int → Int → Option Int) (R03_Sum : (List UInt8) → Option Int) (R05_Pseudo : api_Addr → api_Addr → Int → Int → Option (List UInt8)) (hS : SumsOK Try.prog (aget (sums19 R02_Must R03_Sum R05_Pseudo))) : SumOK Try.prog 19 (s19 (R08_GetF R02_Must R03_Sum R05_Pseudo)) := by
  refine SumOK.of_leads tab_ok (fun ar os r ha hr => ?_) ⟨Try.f19, rfl, by decide, rfl⟩
  replace hr : r19 (R08_GetF R02_Must R03_Sum R05_Pseudo) ar (conts os) = some r := hr
  unfold r19 at hr
  generalize hc : conts os = C at hr
  have hq := dV.elim hr; clear hr; obtain ⟨v0, l1, y0, rfl, e0, hr⟩ := hq; obtain rfl := asS_eq _ _ e0
  have hq := dV.elim hr; clear hr; obtain ⟨v1, l2, y1, rfl, e1, hr⟩ := hq; obtain rfl := uvapi_Addr_eq _ _ e1
  have hq := dV.elim hr; clear hr; obtain ⟨v2, l3, y2, rfl, e2, hr⟩ := hq; obtain rfl := uvapi_Addr_eq _ _ e2
  have hq := dEnd.elim hr; clear hr; obtain ⟨rfl, rfl, hr⟩ := hq
  have hq := ofG.elim hr; clear hr; obtain ⟨x, h, rfl⟩ := hq
  obtain rfl := kinds_nil hc
  exact ⟨_, rfl, leads19 R02_Must R03_Sum R05_Pseudo hS _ _ _ x h⟩
def R08_Get : (List UInt8) → api_Addr → api_Addr → Option (udp_Head × (List UInt8) × Int) := R08_GetF R02_Must R03_Sum R05_Pseudo
theorem lift19 : SumOK Try.prog 19 (s19 R08_Get) := ok19 R02_Must R03_Sum R05_Pseudo (SumsOK.of_tab ⟨lift74, lift75, lift28, trivial⟩)
end Go.Vm.Code

/- Chapter 8 in plain words. -/
namespace Go.Vm.Code
open Go Go.Vm

def port (n : Int) : Bool := decide (0 ≤ n ∧ n ≤ 65535)
theorem port_eq (n : Int) : udp_port n = some (port n) := by
  unfold udp_port udp_portF port
  by_cases h : 0 ≤ n
  · rw [cond_p h]; simp [h]
  · rw [cond_n h]; simp [h]
theorem in8_eq (n : Int) : R08_in n = some (port n) := by
  unfold R08_in R08_inF port
  by_cases h : 0 ≤ n
  · rw [cond_p (by omega)]; simp [h]
  · rw [cond_n (by omega)]; simp [h]
theorem port_iff {n : Int} : port n = true ↔ 0 ≤ n ∧ n ≤ 65535 := by unfold port; simp
/-- the datagram ahead of its check -/
def u8 (h : udp_Head) (l : List UInt8) : List UInt8 := putS h.SPort 2 ++ putS h.DPort 2 ++ putS (8 + l.length) 2 ++ [0, 0] ++ l
theorem u8_len {h : udp_Head} {l : List UInt8} : (u8 h l).length ≤ 26 + l.length := by
  have l1 := putS_len h.SPort 2
  have l2 := putS_len h.DPort 2
  have l3 := putS_len (8 + l.length) 2
  unfold u8; simp only [List.length_append, List.length_cons, List.length_nil]; omega
def ck8 (p t : List UInt8) : Int := if norm (wsum (p ++ t)) = 65535 then 65535 else 65535 - (norm (wsum (p ++ t)) : Nat)
theorem ck8_rng (p t : List UInt8) : 0 ≤ ck8 p t ∧ ck8 p t ≤ 65535 := by unfold ck8; have := norm_le (wsum (p ++ t)); split <;> omega
def put8 (h : udp_Head) (src dst : api_Addr) (l : List UInt8) : List UInt8 × Int :=
  if (port h.SPort && port h.DPort) = false then ([], 1) else if pseu src dst 17 (8 + l.length) = [] then ([], 1) else if 65535 < 8 + l.length then ([], 5) else
    (setS (u8 h l) 6 2 (ck8 (pseu src dst 17 (8 + l.length)) (u8 h l)), 0)
theorem ck8_set {p t : List UInt8} (hp : p.length ≤ 2 ^ 30) (ht : t.length ≤ 2 ^ 30) : ((check_Of (p ++ t)).bind fun xo => cond (xo == 0) ((check_Set t 6 2 65535).bind fun s => some (s, (0 : Int))) ((check_Set t 6 2 (wI .u64 xo)).bind fun s1 => some (s1, 0))) = some (setS t 6 2 (ck8 p t), 0) := by
  have := norm_le (wsum (p ++ t))
  rw [Of_eq (by simp only [List.length_append]; omega), Option.bind_some]
  unfold ck8
  by_cases h : norm (wsum (p ++ t)) = 65535
  · rw [if_pos h, h]
    show ((check_Set t 6 2 65535).bind _) = _
    rw [Set_eq (by omega) (by omega)]; rfl
  · rw [if_neg h, show ((65535 - ((norm (wsum (p ++ t)) : Nat) : Int)) == 0) = false by simp; omega, cond_false, wU64 (by omega) (by omega), Set_eq (by omega) (by omega)]; rfl
theorem ck8_rset {p t : List UInt8} (hp : p.length ≤ 2 ^ 30) (ht : t.length ≤ 2 ^ 30) : ((R03_Of (p ++ t)).bind fun xo => cond (xo == 0) ((R03_Set t 6 2 65535).bind fun s => some (s, (0 : Int))) ((R03_Set t 6 2 (wI .u64 xo)).bind fun s1 => some (s1, 0))) = some (setS t 6 2 (ck8 p t), 0) := by
  have := norm_le (wsum (p ++ t))
  rw [R03_Of_eq (by simp only [List.length_append]; omega), Option.bind_some]
  unfold ck8
  by_cases h : norm (wsum (p ++ t)) = 65535
  · rw [if_pos h, h]
    show ((R03_Set t 6 2 65535).bind _) = _
    rw [R03_Set_eq (by omega) (by omega) (by omega)]; rfl
  · rw [if_neg h, show ((65535 - ((norm (wsum (p ++ t)) : Nat) : Int)) == 0) = false by simp; omega, cond_false, wU64 (by omega) (by omega), R03_Set_eq (by omega) (by omega) (by omega)]; rfl
theorem uput_eq {h : udp_Head} {src dst : api_Addr} {l : List UInt8} (h1 : A4 src) (h2 : A4 dst) (hl : l.length < 2 ^ 20) : udp_Put h src dst l = some (put8 h src dst l) := by
  unfold udp_Put udp_PutF put8
  rw [wI64 (n := 8 + (l.length : Int)) (by omega) (by omega), pseudo_eq h1 h2 (by omega) (by omega), port_eq, port_eq]
  have hp := pseu_len src dst 17 (8 + (l.length : Int))
  generalize pseu src dst 17 (8 + (l.length : Int)) = p at *
  simp only [Option.bind_some]
  cases e1 : port h.SPort
  · rfl
  cases e2 : port h.DPort
  · rfl
  simp only [Bool.not_true, cond_false, Bool.and_self]
  by_cases e3 : p = []
  · subst e3; rfl
  rw [show (p == []) = false by simpa using e3, cond_false, if_neg (by decide), if_neg e3]
  by_cases e4 : 8 + (l.length : Int) > 65535
  · rw [cond_p e4, if_pos (by omega)]
  rw [cond_n e4, if_neg (by omega)]
  have p1 := port_iff.1 e1
  have p2 := port_iff.1 e2
  have l1 := putS_len h.SPort 2
  have l2 := putS_len h.DPort 2
  have l3 := putS_len (8 + (l.length : Int)) 2
  rw [wU64 p1.1 (by omega), octet_Put_eq p1.1, Option.bind_some, oreq_p (by omega)]
  obtain ⟨n, hn⟩ := FUEL_succ
  rw [hn]
  have s1 : udp_Put_s1 check_Of check_Set octet_Put h l p 1 (bI (putS h.SPort 2)) = some (.inl (2, bI (putS h.SPort 2 ++ putS h.DPort 2))) := by
    unfold udp_Put_s1
    rw [cond_p (by omega), oreq_p (by omega)]
    show ((some h.DPort).bind _) = _
    rw [Option.bind_some, wU64 p2.1 (by omega), octet_Put_eq p2.1, Option.bind_some, oreq_p (by simp; omega), bI_app]; rfl
  have s2 : udp_Put_s1 check_Of check_Set octet_Put h l p 2 (bI (putS h.SPort 2 ++ putS h.DPort 2)) = some (.inl (3, bI (putS h.SPort 2 ++ putS h.DPort 2 ++ putS (8 + (l.length : Int)) 2))) := by
    unfold udp_Put_s1
    rw [cond_p (by omega), oreq_p (by omega)]
    show ((some (wI .i64 (8 + (l.length : Int)))).bind _) = _
    rw [Option.bind_some, wI64 (n := 8 + (l.length : Int)) (by omega) (by omega), wU64 (by omega) (by omega), octet_Put_eq (by omega), Option.bind_some, oreq_p (by simp; omega), bI_app (putS h.SPort 2 ++ putS h.DPort 2)]; rfl
  have s3 : udp_Put_s1 check_Of check_Set octet_Put h l p 3 (bI (putS h.SPort 2 ++ putS h.DPort 2 ++ putS (8 + (l.length : Int)) 2)) = some (.inl (4, bI (putS h.SPort 2 ++ putS h.DPort 2 ++ putS (8 + (l.length : Int)) 2 ++ [0, 0]))) := by
    unfold udp_Put_s1
    rw [cond_p (by omega), oreq_p (by omega)]
    show ((some (0 : Int)).bind _) = _
    rw [Option.bind_some, wU64 (n := 0) (by omega) (by omega), octet_Put_eq (by omega), Option.bind_some, show putS 0 2 = [0, 0] from rfl, oreq_p (by simp; omega), bI_app (putS h.SPort 2 ++ putS h.DPort 2 ++ putS (8 + (l.length : Int)) 2)]; rfl
  have s4 : udp_Put_s1 check_Of check_Set octet_Put h l p 4 (bI (putS h.SPort 2 ++ putS h.DPort 2 ++ putS (8 + (l.length : Int)) 2 ++ [0, 0])) = some (.inr (setS (u8 h l) 6 2 (ck8 p (u8 h l)), 0)) := by
    unfold udp_Put_s1
    have hu := u8_len (h := h) (l := l)
    have e : iB (bI (putS h.SPort 2 ++ putS h.DPort 2 ++ putS (8 + (l.length : Int)) 2 ++ [0, 0]) ++ bI l) = u8 h l := by rw [← bI_app, iB_bI]; rfl
    rw [cond_n (by omega), oreq_p (by simp only [bI_len, List.length_append, List.length_cons, List.length_nil]; omega)]
    simp only [e]
    rw [oreq_p (by simp only [bI_len, List.length_append, List.length_cons, List.length_nil]; omega), oreq_p (by omega)]
    have := ck8_set (p := p) (t := u8 h l) (by omega) (by omega)
    rw [Of_eq (by simp only [List.length_append]; omega), Option.bind_some] at this ⊢
    cases hx : ((65535 - ((norm (wsum (p ++ u8 h l)) : Nat) : Int)) == 0) <;> rw [hx] at this
    · simp only [cond_false] at this ⊢
      obtain ⟨s, a, b⟩ := obind.elim this
      cases b
      rw [a, Option.bind_some]
    · simp only [cond_true] at this ⊢
      obtain ⟨s, a, b⟩ := obind.elim this
      cases b
      rw [a, Option.bind_some]
  rw [iter_inl (f := fun (st : Int × List Int) => udp_Put_s1 check_Of check_Set octet_Put h l p st.1 st.2) (n := n + 7) s1, iter_inl (n := n + 6) s2, iter_inl (n := n + 5) s3, iter_inr (n := n + 4) s4]
theorem u8put_eq {h : udp_Head} {src dst : api_Addr} {l : List UInt8} (h1 : A4 src) (h2 : A4 dst) (hl : l.length < 2 ^ 20) : R08_Put h src dst l = some (put8 h src dst l) := by
  unfold R08_Put R08_PutF put8
  rw [wI64 (n := 8 + (l.length : Int)) (by omega) (by omega), pseudo5_eq h1 h2 (by omega) (by omega), in8_eq, in8_eq]
  have hp := pseu_len src dst 17 (8 + (l.length : Int))
  generalize pseu src dst 17 (8 + (l.length : Int)) = p at *
  simp only [Option.bind_some]
  cases e1 : port h.SPort
  · rfl
  cases e2 : port h.DPort
  · rfl
  simp only [Bool.not_true, cond_false, Bool.and_self]
  by_cases e3 : p = []
  · subst e3; rfl
  rw [show (p == []) = false by simpa using e3, cond_false, if_neg (by decide), if_neg e3]
  by_cases e4 : 8 + (l.length : Int) > 65535
  · rw [cond_p e4, if_pos (by omega)]
  rw [cond_n e4, if_neg (by omega)]
  have p1 := port_iff.1 e1
  have p2 := port_iff.1 e2
  have l1 := putS_len h.SPort 2
  have l2 := putS_len h.DPort 2
  have l3 := putS_len (8 + (l.length : Int)) 2
  have hu := u8_len (h := h) (l := l)
  rw [wU64 p1.1 (by omega), wU64 p2.1 (by omega), wU64 (n := 8 + (l.length : Int)) (by omega) (by omega), R02_Put_eq p1.1 (by omega), R02_Put_eq p2.1 (by omega), R02_Put_eq (n := 8 + (l.length : Int)) (by omega) (by omega)]
  simp only [Option.bind_some]
  have e : putS h.SPort 2 ++ putS h.DPort 2 ++ putS (8 + (l.length : Int)) 2 ++ [0, 0] ++ l = u8 h l := rfl
  rw [oreq_p (by omega), oreq_p (by simp only [List.length_append]; omega), oreq_p (by simp only [List.length_append]; omega), oreq_p (by simp only [List.length_append, List.length_cons, List.length_nil]; omega), e, oreq_p (by omega)]
  exact ck8_rset (by omega) (by omega)

/-- two bytes' number -/
def v2 (s : List UInt8) (p : Nat) : Int := (valL ((s.drop p).take 2) : Nat)
theorem v2_rng (s : List UInt8) (p : Nat) : 0 ≤ v2 s p ∧ v2 s p < 65536 := by
  have := val_take_lt (l := s.drop p) (k := 2) 65536 (by decide)
  unfold v2; omega
theorem must2 {s : List UInt8} {p : Nat} (hs : s.length < 2 ^ 61) (h : p + 2 ≤ s.length) : R02_Must s (p : Int) 2 = some (v2 s p) := by
  rw [R02_Must_eq hs, getS_at (by omega) (by omega) (by omega) (by omega)]
  have := v2_rng s p
  show some (wI .i64 (v2 s p)) = _
  rw [wI64 (by omega) (by omega)]
theorem num2 {r : octet_Reader} (h : r.made = true) (hl : r.s.length < 2 ^ 61) : octet_Reader_Num r 2 = some (rdn r 2, rdr r 2) := by
  rw [rNum_eq h hl, if_neg (by omega)]
theorem num2_ok {s : List UInt8} (h : 2 ≤ s.length) (hl : s.length < 2 ^ 61) : octet_Reader_Num ⟨s, true, false⟩ 2 = some (v2 s 0, ⟨s.drop 2, true, false⟩) := by
  rw [num2 rfl hl, rdr_ok (by omega) (by omega)]
  unfold rdn
  rw [if_neg (by omega), rdt_ok (by omega) (by omega)]; rfl
theorem v2_drop (s : List UInt8) (p q : Nat) : v2 (s.drop p) q = v2 s (p + q) := by unfold v2; rw [List.drop_drop]
def zero8 : udp_Head := ⟨0, 0⟩
def get8 (s : List UInt8) (src dst : api_Addr) : udp_Head × List UInt8 × Int :=
  if s.length < 8 then (zero8, [], 2) else if v2 s 4 < 8 then (zero8, [], 3) else if (s.length : Int) < v2 s 4 then (zero8, [], 2) else if pseu src dst 17 (v2 s 4) = [] then (zero8, [], 1) else
    if v2 s 6 = 0 then (if src.V6 = true then (zero8, [], 4) else (⟨v2 s 0, v2 s 2⟩, (s.drop 8).take ((v2 s 4).toNat - 8), 0)) else
      if norm (wsum (pseu src dst 17 (v2 s 4) ++ s.take (v2 s 4).toNat)) ≠ 65535 then (zero8, [], 4) else (⟨v2 s 0, v2 s 2⟩, (s.drop 8).take ((v2 s 4).toNat - 8), 0)
theorem uget_eq {s : List UInt8} {src dst : api_Addr} (h1 : A4 src) (h2 : A4 dst) (hs : s.length < 2 ^ 38) : udp_Get s src dst = some (get8 s src dst) := by
  unfold udp_Get udp_GetF get8
  rw [rNew_eq, Option.bind_some]
  by_cases h8 : s.length < 8
  · rw [if_pos h8]
    have m1 := rdr_made ⟨s, true, false⟩ 2
    have m2 := rdr_made (rdr ⟨s, true, false⟩ 2) 2
    have m3 := rdr_made (rdr (rdr ⟨s, true, false⟩ 2) 2) 2
    have m4 := rdr_made (rdr (rdr (rdr ⟨s, true, false⟩ 2) 2) 2) 2
    have k1 := rdr_len_le ⟨s, true, false⟩ 2
    have k2 := rdr_len_le (rdr ⟨s, true, false⟩ 2) 2
    have k3 := rdr_len_le (rdr (rdr ⟨s, true, false⟩ 2) 2) 2
    simp only at k1
    rw [num2 rfl (by simp only; omega), Option.bind_some]
    rw [num2 m1 (by omega), Option.bind_some]
    rw [num2 m2 (by omega), Option.bind_some]
    rw [num2 m3 (by omega), Option.bind_some, rBad_eq m4, Option.bind_some]
    have hb : (rdr (rdr (rdr (rdr ⟨s, true, false⟩ 2) 2) 2) 2).bad = true := by
      cases hb : (rdr (rdr (rdr (rdr ⟨s, true, false⟩ 2) 2) 2) 2).bad
      · exfalso
        obtain ⟨b3, l3⟩ := rdr_step rfl hb
        obtain ⟨b2, l2⟩ := rdr_step rfl b3
        obtain ⟨b1, l1⟩ := rdr_step rfl b2
        obtain ⟨b0, l0⟩ := rdr_step rfl b1
        simp only at l0
        omega
      · rfl
    simp only [hb, cond_true]; rfl
  · rw [if_neg h8]
    rw [num2_ok (by omega) (by omega), Option.bind_some, num2_ok (by simp; omega) (by simp; omega), Option.bind_some]
    simp only [List.drop_drop]
    rw [num2_ok (by simp; omega) (by simp; omega), Option.bind_some]
    simp only [List.drop_drop]
    rw [num2_ok (by simp; omega) (by simp; omega), Option.bind_some, rBad_eq rfl, Option.bind_some]
    simp only [cond_false, v2_drop, Nat.add_zero, Nat.reduceAdd]
    have r4 := v2_rng s 4
    have hp := pseu_len src dst 17 (v2 s 4)
    have hz : (⟨0, 0⟩ : udp_Head) = zero8 := rfl
    rw [hz]
    generalize hm : v2 s 4 = m at *
    by_cases g1 : m < 8
    · rw [cond_p g1, if_pos g1]
    rw [cond_n g1, if_neg g1]
    by_cases g2 : (s.length : Int) < m
    · rw [cond_p (by omega), if_pos g2]
    rw [cond_n (by omega), if_neg g2, pseudo_eq h1 h2 (by omega) (by omega), Option.bind_some]
    generalize pseu src dst 17 m = p at *
    by_cases g3 : p = []
    · subst g3; rw [if_pos rfl]; rfl
    rw [if_neg g3, show (p == []) = false by simpa using g3, cond_false]
    have hr : check_Right (p ++ s.take m.toNat) = some (((norm (wsum (p ++ s.take m.toNat)) : Nat) : Int) == 65535) := Right_eq (by simp; omega)
    by_cases g4 : v2 s 6 = 0
    · rw [if_pos g4, g4]
      simp only [beq_self_eq_true, cond_true, bne_self_eq_false, cond_false]
      cases src.V6
      · rw [if_neg (by decide), cond_false, oreq_p (by omega)]
      · rw [if_pos rfl, cond_true]
    · rw [if_neg g4, show (v2 s 6 == 0) = false by simpa using g4, show (v2 s 6 != 0) = true by simpa using g4]
      simp only [cond_false, cond_true]
      rw [oreq_p (by omega), oreq_p (by simp only [List.length_take]; omega), hr, Option.bind_some, oreq_p (by omega)]
      by_cases g5 : norm (wsum (p ++ s.take m.toNat)) = 65535
      · rw [if_neg (by simpa using g5), g5]; rfl
      · rw [if_pos (by simpa using g5), show ((((norm (wsum (p ++ s.take m.toNat)) : Nat) : Int) == 65535)) = false by simp; omega]; rfl
theorem u8get_eq {s : List UInt8} {src dst : api_Addr} (h1 : A4 src) (h2 : A4 dst) (hs : s.length < 2 ^ 38) : R08_Get s src dst = some (get8 s src dst) := by
  unfold R08_Get R08_GetF get8
  by_cases h8 : s.length < 8
  · rw [if_pos h8, cond_p (by omega)]; rfl
  rw [if_neg h8, cond_n (by omega), show (4 : Int) = ((4 : Nat) : Int) from rfl, show (6 : Int) = ((6 : Nat) : Int) from rfl, show R02_Must s 0 2 = R02_Must s ((0 : Nat) : Int) 2 from rfl, show R02_Must s 2 2 = R02_Must s ((2 : Nat) : Int) 2 from rfl, must2 (by omega) (by omega), must2 (by omega) (by omega), must2 (by omega) (by omega), must2 (by omega) (by omega)]
  simp only [Option.bind_some]
  have r4 := v2_rng s 4
  have hp := pseu_len src dst 17 (v2 s 4)
  have hz : (⟨0, 0⟩ : udp_Head) = zero8 := rfl
  rw [hz]
  generalize hm : v2 s 4 = m at *
  by_cases g1 : m < 8
  · rw [cond_p g1, if_pos g1]
  rw [cond_n g1, if_neg g1]
  by_cases g2 : (s.length : Int) < m
  · rw [cond_p (by omega), if_pos g2]
  rw [cond_n (by omega), if_neg g2, pseudo5_eq h1 h2 (by omega) (by omega), Option.bind_some]
  generalize pseu src dst 17 m = p at *
  by_cases g3 : p = []
  · subst g3; rw [if_pos rfl]; rfl
  rw [if_neg g3, show (p == []) = false by simpa using g3, cond_false]
  by_cases g4 : v2 s 6 = 0
  · rw [if_pos g4, g4]
    simp only [beq_self_eq_true, cond_true]
    cases src.V6
    · rw [if_neg (by decide), cond_false, oreq_p (by omega)]
    · rw [if_pos rfl, cond_true]
  · rw [if_neg g4, show (v2 s 6 == 0) = false by simpa using g4]
    simp only [cond_false]
    rw [oreq_p (by omega), oreq_p (by simp only [List.length_take]; omega), R03_Sum_eq (by simp; omega), Option.bind_some, oreq_p (by omega)]
    by_cases g5 : norm (wsum (p ++ s.take m.toNat)) = 65535
    · rw [if_neg (by simpa using g5), g5]; rfl
    · rw [if_pos (by simpa using g5), show ((((norm (wsum (p ++ s.take m.toNat)) : Nat) : Int) != 65535)) = true by simp; omega]; rfl
end Go.Vm.Code

namespace Go.Vm.Code
open Go Go.Vm Go.Proofs
set_option maxRecDepth 100000
set_option maxHeartbeats 4000000
set_option linter.unusedVariables false

/-! cloakroom/cloakroomlaw08.awake -/
def law08_awakeF (udp_Get : (List UInt8) → api_Addr → api_Addr → Option (udp_Head × (List UInt8) × Int)) (udp_Put : udp_Head → api_Addr → api_Addr → (List UInt8) → Option ((List UInt8) × Int)) : Option Bool :=
  (udp_Put (udp_Head.mk 1 2) (api_Addr.mk false 0 1) (api_Addr.mk false 0 2) [97]).bind fun p =>
  (udp_Get p.1 (api_Addr.mk false 0 1) (api_Addr.mk false 0 2)).bind fun xg =>
  (udp_Get [] (api_Addr.mk false 0 0) (api_Addr.mk false 0 0)).bind fun xg1 =>
  cond (p.2 == 0)
    (
    cond ((p.1.length : Int) == 9)
      (
      cond (xg.2.2 == 0)
        (
        cond (xg.1.DPort == 2)
          (
          cond (xg.2.1 == [97])
            (
            some (xg1.2.2 == 2))
            (
            some (false)))
          (
          some (false)))
        (
        some (false)))
      (
      some (false)))
    (
    some (false))
def rx15 (x : Bool) : SRes := ⟨.bool x, [], []⟩
def r15 (g : Option Bool) : Dec := dEnd (ofG (g) rx15)
theorem r15_c {g : Option Bool} {x : Bool} (hx : g = some x) : r15 g [] [] = some (rx15 x) := ofG_eq hx
def s15 (g : Option Bool) : Summ := ⟨[], r15 g⟩
theorem r15_eq {g : Option Bool} {x : Bool} (hx : g = some x) : (s15 g).run [] [] = some (rx15 x) := r15_c hx
abbrev sums15 (udp_Get : (List UInt8) → api_Addr → api_Addr → Option (udp_Head × (List UInt8) × Int)) (udp_Put : udp_Head → api_Addr → api_Addr → (List UInt8) → Option ((List UInt8) × Int)) : List (Nat × Summ) := [(18, s18 udp_Get), (16, s16 udp_Put)]
theorem leads15 (udp_Get : (List UInt8) → api_Addr → api_Addr → Option (udp_Head × (List UInt8) × Int)) (udp_Put : udp_Head → api_Addr → api_Addr → (List UInt8) → Option ((List UInt8) × Int)) (hS : SumsOK Try.prog (aget (sums15 udp_Get udp_Put))) (res : Bool) (h : law08_awakeF udp_Get udp_Put = some res) :
    Leads Try.prog 15 0 ⟨⟨15, 55, [], [.code k15_9], [], false, none⟩, [], [], 0⟩ (fun v H _ => Res 0 (rx15 res) v H) := by
  unfold law08_awakeF at h
  refine ev_ok tab_ok hS true 3000 ?_
  conv => whnf
  obtain ⟨p, hy, h2⟩ := obind.elim h; clear h; have h := h2; clear h2
  refine sumK.introF [] (sumRun_of (aqs := [.agg ⟨[.int .i64 1, .int .i64 2]⟩, .agg ⟨[.bool false, .int .u64 0, .int .u64 1]⟩, .agg ⟨[.bool false, .int .u64 0, .int .u64 2]⟩, .string ⟨⟨[97]⟩⟩]) (ws := []) (n := 0) (m := 0) (t' := 0) (ra_cons rfl rfl (ra_cons rfl rfl (ra_cons rfl rfl (ra_cons rfl rfl ra_nil)))) rfl (by rfl) (r16_eq hy) rfl rfl rfl rfl wb_nil an_nil rfl) ?_
  conv => whnf
  obtain ⟨xg, hy, h2⟩ := obind.elim h; clear h; have h := h2; clear h2
  refine sumK.introF [] (sumRun_of (aqs := [.string ⟨⟨p.1⟩⟩, .agg ⟨[.bool false, .int .u64 0, .int .u64 1]⟩, .agg ⟨[.bool false, .int .u64 0, .int .u64 2]⟩]) (ws := []) (n := 0) (m := 0) (t' := 0) (ra_cons rfl rfl (ra_cons rfl rfl (ra_cons rfl rfl ra_nil))) rfl (by rfl) (r18_eq hy) rfl rfl rfl rfl wb_nil an_nil rfl) ?_
  conv => whnf
  obtain ⟨xg1, hy, h2⟩ := obind.elim h; clear h; have h := h2; clear h2
  refine sumK.introF [] (sumRun_of (aqs := [.string ⟨⟨[]⟩⟩, .agg ⟨[.bool false, .int .u64 0, .int .u64 0]⟩, .agg ⟨[.bool false, .int .u64 0, .int .u64 0]⟩]) (ws := []) (n := 0) (m := 0) (t' := 1) (ra_cons rfl rfl (ra_cons rfl rfl (ra_cons rfl rfl ra_nil))) rfl (by rfl) (r18_eq hy) rfl rfl rfl rfl wb_nil an_nil rfl) ?_
  conv => whnf
  refine br.h2 h ?_ ?_ ?_
  · rfl
  · clear h; intro hb h; conv => whnf
    all_goals (cases h)
    all_goals exact Res.of [] rfl nw_0 (by decide) js_0 wr_0
  clear h; intro hb h; conv => whnf
  refine br.h2 h ?_ ?_ ?_
  · rfl
  · clear h; intro hb h; conv => whnf
    all_goals (cases h)
    all_goals exact Res.of [] rfl nw_0 (by decide) js_0 wr_0
  clear h; intro hb h; conv => whnf
  refine br.h2 h ?_ ?_ ?_
  · rfl
  · clear h; intro hb h; conv => whnf
    all_goals (cases h)
    all_goals exact Res.of [] rfl nw_0 (by decide) js_0 wr_0
  clear h; intro hb h; conv => whnf
  refine br.h2 h ?_ ?_ ?_
  · rfl
  · clear h; intro hb h; conv => whnf
    all_goals (cases h)
    all_goals exact Res.of [] rfl nw_0 (by decide) js_0 wr_0
  clear h; intro hb h; conv => whnf
  refine br.h h ?_ ?_ ?_
  · rfl
  · clear h; intro hb h; conv => whnf
    all_goals (cases h)
    all_goals exact Res.of [] rfl nw_0 (by decide) js_0 wr_0
  clear h; intro hb h; conv => whnf
  all_goals (cases h)
  all_goals exact Res.of [] rfl nw_0 (by decide) js_0 wr_0
theorem ok15 (udp_Get : (List UInt8) → api_Addr → api_Addr → Option (udp_Head × (List UInt8) × Int)) (udp_Put : udp_Head → api_Addr → api_Addr → (List UInt8) → Option ((List UInt8) × Int)) (hS : SumsOK Try.prog (aget (sums15 udp_Get udp_Put))) : SumOK Try.prog 15 (s15 (law08_awakeF udp_Get udp_Put)) := by
  refine SumOK.of_leads tab_ok (fun ar os r ha hr => ?_) ⟨Try.f15, rfl, by decide, rfl⟩
  replace hr : r15 (law08_awakeF udp_Get udp_Put) ar (conts os) = some r := hr
  unfold r15 at hr
  generalize hc : conts os = C at hr
  have hq := dEnd.elim hr; clear hr; obtain ⟨rfl, rfl, hr⟩ := hq
  have hq := ofG.elim hr; clear hr; obtain ⟨x, h, rfl⟩ := hq
  obtain rfl := kinds_nil hc
  exact ⟨_, rfl, leads15 udp_Get udp_Put hS x h⟩
def law08_awake : Option Bool := law08_awakeF udp_Get udp_Put
theorem lift15 : SumOK Try.prog 15 (s15 law08_awake) := ok15 udp_Get udp_Put (SumsOK.of_tab ⟨lift18, lift16, trivial⟩)
end Go.Vm.Code

namespace Go.Vm.Code
open Go Go.Vm Go.Proofs
set_option maxRecDepth 100000
set_option maxHeartbeats 4000000
set_option linter.unusedVariables false

/-! cloakroom/cloakroomlaw08.UdpTells -/
def law08_UdpTellsF (R07_Small : (List (List UInt8)) → Int → Option Bool) (R08_Get : (List UInt8) → api_Addr → api_Addr → Option (udp_Head × (List UInt8) × Int)) (R08_Put : udp_Head → api_Addr → api_Addr → (List UInt8) → Option ((List UInt8) × Int)) (law08_awake : Option Bool) (udp_Get : (List UInt8) → api_Addr → api_Addr → Option (udp_Head × (List UInt8) × Int)) (udp_Put : udp_Head → api_Addr → api_Addr → (List UInt8) → Option ((List UInt8) × Int)) (ha0 : udp_Head) (src : api_Addr) (dst : api_Addr) (payload : List UInt8) (s : List UInt8) : Option Bool :=
  (R07_Small [payload, s] 200).bind fun s1 =>
  cond (!s1)
    (
    (law08_awake).bind fun a =>
    some (a))
    (
    (udp_Put ha0 src dst payload).bind fun p =>
    (R08_Put ha0 src dst payload).bind fun p1 =>
    (udp_Get s src dst).bind fun xg =>
    (R08_Get s src dst).bind fun xg1 =>
    cond (p.1 == p1.1)
      (
      cond (p.2 == p1.2)
        (
        cond (xg.1.SPort == xg1.1.SPort)
          (
          cond (xg.1.DPort == xg1.1.DPort)
            (
            cond (xg.2.1 == xg1.2.1)
              (
              cond (xg.2.2 == xg1.2.2)
                (
                (law08_awake).bind fun a1 =>
                some (a1))
                (
                some (false)))
              (
              some (false)))
            (
            some (false)))
          (
          some (false)))
        (
        some (false)))
      (
      some (false)))
def rx3 (x : Bool) : SRes := ⟨.bool x, [], []⟩
def r3 (g : udp_Head → api_Addr → api_Addr → (List UInt8) → (List UInt8) → Option Bool) : Dec := dV uvudp_Head fun (y0 : udp_Head) => dV uvapi_Addr fun (y1 : api_Addr) => dV uvapi_Addr fun (y2 : api_Addr) => dV asS fun (y3 : List UInt8) => dV asS fun (y4 : List UInt8) => dEnd (ofG (g y0 y1 y2 y3 y4) rx3)
theorem r3_c {g : udp_Head → api_Addr → api_Addr → (List UInt8) → (List UInt8) → Option Bool} {y0 : udp_Head} {y1 : api_Addr} {y2 : api_Addr} {y3 : List UInt8} {y4 : List UInt8} {x : Bool} (hx : g y0 y1 y2 y3 y4 = some x) : r3 g [.agg ⟨[.int .i64 y0.SPort, .int .i64 y0.DPort]⟩, .agg ⟨[.bool y1.V6, .int .u64 y1.Hi, .int .u64 y1.Lo]⟩, .agg ⟨[.bool y2.V6, .int .u64 y2.Hi, .int .u64 y2.Lo]⟩, .string ⟨⟨y3⟩⟩, .string ⟨⟨y4⟩⟩] [] = some (rx3 x) := (dV_eq (uvudp_Head_c _)).trans ((dV_eq (uvapi_Addr_c _)).trans ((dV_eq (uvapi_Addr_c _)).trans ((dV_eq (asS_c)).trans ((dV_eq (asS_c)).trans (ofG_eq hx)))))
def s3 (g : udp_Head → api_Addr → api_Addr → (List UInt8) → (List UInt8) → Option Bool) : Summ := ⟨[.v, .v, .v, .v, .v], r3 g⟩
theorem r3_eq {g : udp_Head → api_Addr → api_Addr → (List UInt8) → (List UInt8) → Option Bool} {y0 : udp_Head} {y1 : api_Addr} {y2 : api_Addr} {y3 : List UInt8} {y4 : List UInt8} {x : Bool} (hx : g y0 y1 y2 y3 y4 = some x) : (s3 g).run [.agg ⟨[.int .i64 y0.SPort, .int .i64 y0.DPort]⟩, .agg ⟨[.bool y1.V6, .int .u64 y1.Hi, .int .u64 y1.Lo]⟩, .agg ⟨[.bool y2.V6, .int .u64 y2.Hi, .int .u64 y2.Lo]⟩, .string ⟨⟨y3⟩⟩, .string ⟨⟨y4⟩⟩] [] = some (rx3 x) := r3_c hx
abbrev sums3 (R07_Small : (List (List UInt8)) → Int → Option Bool) (R08_Get : (List UInt8) → api_Addr → api_Addr → Option (udp_Head × (List UInt8) × Int)) (R08_Put : udp_Head → api_Addr → api_Addr → (List UInt8) → Option ((List UInt8) × Int)) (law08_awake : Option Bool) (udp_Get : (List UInt8) → api_Addr → api_Addr → Option (udp_Head × (List UInt8) × Int)) (udp_Put : udp_Head → api_Addr → api_Addr → (List UInt8) → Option ((List UInt8) × Int)) : List (Nat × Summ) := [(14, s14 R07_Small), (19, s19 R08_Get), (17, s17 R08_Put), (15, s15 law08_awake), (18, s18 udp_Get), (16, s16 udp_Put)]
theorem leads3 (R07_Small : (List (List UInt8)) → Int → Option Bool) (R08_Get : (List UInt8) → api_Addr → api_Addr → Option (udp_Head × (List UInt8) × Int)) (R08_Put : udp_Head → api_Addr → api_Addr → (List UInt8) → Option ((List UInt8) × Int)) (law08_awake : Option Bool) (udp_Get : (List UInt8) → api_Addr → api_Addr → Option (udp_Head × (List UInt8) × Int)) (udp_Put : udp_Head → api_Addr → api_Addr → (List UInt8) → Option ((List UInt8) × Int)) (hS : SumsOK Try.prog (aget (sums3 R07_Small R08_Get R08_Put law08_awake udp_Get udp_Put))) (ha0 : udp_Head) (src : api_Addr) (dst : api_Addr) (payload : List UInt8) (s : List UInt8) (res : Bool) (h : law08_UdpTellsF R07_Small R08_Get R08_Put law08_awake udp_Get udp_Put ha0 src dst payload s = some res) :
    Leads Try.prog 3 0 ⟨⟨3, 98, [(0, .agg ⟨[.int .i64 ha0.SPort, .int .i64 ha0.DPort]⟩), (1, .agg ⟨[.bool src.V6, .int .u64 src.Hi, .int .u64 src.Lo]⟩), (2, .agg ⟨[.bool dst.V6, .int .u64 dst.Hi, .int .u64 dst.Lo]⟩), (3, .string ⟨⟨payload⟩⟩), (4, .string ⟨⟨s⟩⟩)], [.code k3_17], [], false, none⟩, [], [], 0⟩ (fun v H _ => Res 0 (rx3 res) v H) := by
  unfold law08_UdpTellsF at h
  refine ev_ok tab_ok hS true 3000 ?_
  conv => whnf
  obtain ⟨s1, hy, h2⟩ := obind.elim h; clear h; have h := h2; clear h2
  refine sumK.introF [] (sumRun_of (aqs := [.slice (some ⟨0, 0, none⟩) ([payload, s] : List (List UInt8)).length 1, .int .i64 200]) (ws := [.win 3 0 (2 * 1) false]) (n := 0) (m := 0) (t' := 4) (ra_cons (by first | rfl | exact ra_allS rfl rfl (by first | rfl | omega) (by first | rfl | (simp; done)) | exact ra_slS rfl rfl (by first | rfl | omega) (by first | rfl | omega) (by first | omega | (simp at *; omega))) rfl (ra_cons rfl rfl ra_nil)) rfl (by rfl) (r14_eq hy) rfl rfl rfl rfl (wb_skip rfl wb_nil) an_nil rfl) ?_
  conv => whnf
  refine br.h h ?_ ?_ ?_
  · rfl
  · clear h; intro hb h; conv => whnf
    obtain ⟨a, hy, h2⟩ := obind.elim h; clear h; have h := h2; clear h2
    refine sumK.introF [] (sumRun_of (aqs := []) (ws := []) (n := 0) (m := 0) (t' := 4) ra_nil rfl (by rfl) (r15_eq hy) rfl rfl rfl rfl wb_nil an_nil rfl) ?_
    conv => whnf
    all_goals (cases h)
    all_goals exact Res.of [] rfl nw_0 (by decide) js_0 wr_0
  clear h; intro hb h; conv => whnf
  obtain ⟨p, hy, h2⟩ := obind.elim h; clear h; have h := h2; clear h2
  refine sumK.introF [] (sumRun_of (aqs := [.agg ⟨[.int .i64 ha0.SPort, .int .i64 ha0.DPort]⟩, .agg ⟨[.bool src.V6, .int .u64 src.Hi, .int .u64 src.Lo]⟩, .agg ⟨[.bool dst.V6, .int .u64 dst.Hi, .int .u64 dst.Lo]⟩, .string ⟨⟨payload⟩⟩]) (ws := []) (n := 0) (m := 0) (t' := 4) (ra_cons rfl rfl (ra_cons rfl rfl (ra_cons rfl rfl (ra_cons rfl rfl ra_nil)))) rfl (by rfl) (r16_eq hy) rfl rfl rfl rfl wb_nil an_nil rfl) ?_
  conv => whnf
  obtain ⟨p1, hy, h2⟩ := obind.elim h; clear h; have h := h2; clear h2
  refine sumK.introF [] (sumRun_of (aqs := [.agg ⟨[.int .i64 ha0.SPort, .int .i64 ha0.DPort]⟩, .agg ⟨[.bool src.V6, .int .u64 src.Hi, .int .u64 src.Lo]⟩, .agg ⟨[.bool dst.V6, .int .u64 dst.Hi, .int .u64 dst.Lo]⟩, .string ⟨⟨payload⟩⟩]) (ws := []) (n := 0) (m := 0) (t' := 4) (ra_cons rfl rfl (ra_cons rfl rfl (ra_cons rfl rfl (ra_cons rfl rfl ra_nil)))) rfl (by rfl) (r17_eq hy) rfl rfl rfl rfl wb_nil an_nil rfl) ?_
  conv => whnf
  obtain ⟨xg, hy, h2⟩ := obind.elim h; clear h; have h := h2; clear h2
  refine sumK.introF [] (sumRun_of (aqs := [.string ⟨⟨s⟩⟩, .agg ⟨[.bool src.V6, .int .u64 src.Hi, .int .u64 src.Lo]⟩, .agg ⟨[.bool dst.V6, .int .u64 dst.Hi, .int .u64 dst.Lo]⟩]) (ws := []) (n := 0) (m := 0) (t' := 4) (ra_cons rfl rfl (ra_cons rfl rfl (ra_cons rfl rfl ra_nil))) rfl (by rfl) (r18_eq hy) rfl rfl rfl rfl wb_nil an_nil rfl) ?_
  conv => whnf
  obtain ⟨xg1, hy, h2⟩ := obind.elim h; clear h; have h := h2; clear h2
  refine sumK.introF [] (sumRun_of (aqs := [.string ⟨⟨s⟩⟩, .agg ⟨[.bool src.V6, .int .u64 src.Hi, .int .u64 src.Lo]⟩, .agg ⟨[.bool dst.V6, .int .u64 dst.Hi, .int .u64 dst.Lo]⟩]) (ws := []) (n := 0) (m := 0) (t' := 5) (ra_cons rfl rfl (ra_cons rfl rfl (ra_cons rfl rfl ra_nil))) rfl (by rfl) (r19_eq hy) rfl rfl rfl rfl wb_nil an_nil rfl) ?_
  conv => whnf
  refine br.h2 h ?_ ?_ ?_
  · rfl
  · clear h; intro hb h; conv => whnf
    all_goals (cases h)
    all_goals exact Res.of [] rfl nw_0 (by decide) js_0 wr_0
  clear h; intro hb h; conv => whnf
  refine br.h2 h ?_ ?_ ?_
  · rfl
  · clear h; intro hb h; conv => whnf
    all_goals (cases h)
    all_goals exact Res.of [] rfl nw_0 (by decide) js_0 wr_0
  clear h; intro hb h; conv => whnf
  refine br.h2 h ?_ ?_ ?_
  · rfl
  · clear h; intro hb h; conv => whnf
    all_goals (cases h)
    all_goals exact Res.of [] rfl nw_0 (by decide) js_0 wr_0
  clear h; intro hb h; conv => whnf
  refine br.h2 h ?_ ?_ ?_
  · rfl
  · clear h; intro hb h; conv => whnf
    all_goals (cases h)
    all_goals exact Res.of [] rfl nw_0 (by decide) js_0 wr_0
  clear h; intro hb h; conv => whnf
  refine br.h2 h ?_ ?_ ?_
  · rfl
  · clear h; intro hb h; conv => whnf
    all_goals (cases h)
    all_goals exact Res.of [] rfl nw_0 (by decide) js_0 wr_0
  clear h; intro hb h; conv => whnf
  refine br.h2 h ?_ ?_ ?_
  · rfl
  · clear h; intro hb h; conv => whnf
    all_goals (cases h)
    all_goals exact Res.of [] rfl nw_0 (by decide) js_0 wr_0
  clear h; intro hb h; conv => whnf
  obtain ⟨a1, hy, h2⟩ := obind.elim h; clear h; have h := h2; clear h2
  refine sumK.introF [] (sumRun_of (aqs := []) (ws := []) (n := 0) (m := 0) (t' := 6) ra_nil rfl (by rfl) (r15_eq hy) rfl rfl rfl rfl wb_nil an_nil rfl) ?_
  conv => whnf
  all_goals (cases h)
  all_goals exact Res.of [] rfl nw_0 (by decide) js_0 wr_0
theorem ok3 (R07_Small : (List (List UInt8)) → Int → Option Bool) (R08_Get : (List UInt8) → api_Addr → api_Addr → Option (udp_Head × (List UInt8) × Int)) (R08_Put : udp_Head → api_Addr → api_Addr → (List UInt8) → Option ((List UInt8) × Int)) (law08_awake : Option Bool) (udp_Get : (List UInt8) → api_Addr → api_Addr → Option (udp_Head × (List UInt8) × Int)) (udp_Put : udp_Head → api_Addr → api_Addr → (List UInt8) → Option ((List UInt8) × Int)) (hS : SumsOK Try.prog (aget (sums3 R07_Small R08_Get R08_Put law08_awake udp_Get udp_Put))) : SumOK Try.prog 3 (s3 (law08_UdpTellsF R07_Small R08_Get R08_Put law08_awake udp_Get udp_Put)) := by
  refine SumOK.of_leads tab_ok (fun ar os r ha hr => ?_) ⟨Try.f3, rfl, by decide, rfl⟩
  replace hr : r3 (law08_UdpTellsF R07_Small R08_Get R08_Put law08_awake udp_Get udp_Put) ar (conts os) = some r := hr
  unfold r3 at hr
  generalize hc : conts os = C at hr
  have hq := dV.elim hr; clear hr; obtain ⟨v0, l1, y0, rfl, e0, hr⟩ := hq; obtain rfl := uvudp_Head_eq _ _ e0
  have hq := dV.elim hr; clear hr; obtain ⟨v1, l2, y1, rfl, e1, hr⟩ := hq; obtain rfl := uvapi_Addr_eq _ _ e1
  have hq := dV.elim hr; clear hr; obtain ⟨v2, l3, y2, rfl, e2, hr⟩ := hq; obtain rfl := uvapi_Addr_eq _ _ e2
  have hq := dV.elim hr; clear hr; obtain ⟨v3, l4, y3, rfl, e3, hr⟩ := hq; obtain rfl := asS_eq _ _ e3
  have hq := dV.elim hr; clear hr; obtain ⟨v4, l5, y4, rfl, e4, hr⟩ := hq; obtain rfl := asS_eq _ _ e4
  have hq := dEnd.elim hr; clear hr; obtain ⟨rfl, rfl, hr⟩ := hq
  have hq := ofG.elim hr; clear hr; obtain ⟨x, h, rfl⟩ := hq
  obtain rfl := kinds_nil hc
  exact ⟨_, rfl, leads3 R07_Small R08_Get R08_Put law08_awake udp_Get udp_Put hS _ _ _ _ _ x h⟩
def law08_UdpTells : udp_Head → api_Addr → api_Addr → (List UInt8) → (List UInt8) → Option Bool := law08_UdpTellsF R07_Small R08_Get R08_Put law08_awake udp_Get udp_Put
theorem lift3 : SumOK Try.prog 3 (s3 law08_UdpTells) := ok3 R07_Small R08_Get R08_Put law08_awake udp_Get udp_Put (SumsOK.of_tab ⟨lift14, lift19, lift17, lift15, lift18, lift16, trivial⟩)
end Go.Vm.Code

/- UdpTells in plain words. -/
namespace Go.Vm.Code
open Go Go.Vm
theorem awake08 : law08_awake = some true := by decide +kernel
theorem udpTells (h : udp_Head) (src dst : api_Addr) (l s : List UInt8) (h1 : A4 src) (h2 : A4 dst) : law08_UdpTells h src dst l s = some true := by
  unfold law08_UdpTells law08_UdpTellsF
  rw [small_eq (by simp), Option.bind_some, awake08]
  by_cases hl : (l.length : Int) ≤ 200
  · by_cases hs : (s.length : Int) ≤ 200
    · rw [show (!([l, s].all fun x => decide ((x.length : Int) ≤ 200))) = false by simp [hl, hs], cond_false, uput_eq h1 h2 (by omega), u8put_eq h1 h2 (by omega), uget_eq h1 h2 (by omega), u8get_eq h1 h2 (by omega)]
      simp only [Option.bind_some, beq_self_eq_true, cond_true]
    · rw [show (!([l, s].all fun x => decide ((x.length : Int) ≤ 200))) = true by simp [hs], cond_true]; rfl
  · rw [show (!([l, s].all fun x => decide ((x.length : Int) ≤ 200))) = true by simp [hl], cond_true]; rfl
end Go.Vm.Code

/- A bit turned over, and the sum of the words. -/
namespace Go.Vm.Code
open Go Go.Vm
theorem wsum_set : ∀ (s : List UInt8) (i : Nat) (h : i < s.length) (b : UInt8), wsum (s.set i b) + s[i].toNat * (if i % 2 = 0 then 256 else 1) = wsum s + b.toNat * (if i % 2 = 0 then 256 else 1)
  | [], i, h, b => by simp at h
  | [x], i, h, b => by
    have : i = 0 := by simp at h; omega
    subst this
    simp [wsum]; omega
  | x :: y :: l, 0, h, b => by simp [wsum]; omega
  | x :: y :: l, 1, h, b => by simp [wsum]; omega
  | x :: y :: l, i + 2, h, b => by
    have := wsum_set l i (by simpa using h) b
    have e : (i + 2) % 2 = i % 2 := by omega
    simp only [List.set_cons_succ, wsum, List.getElem_cons_succ, e]
    omega
theorem xor_bit : ∀ x : Fin 256, ∀ j : Fin 8, x.val ^^^ 2 ^ j.val = x.val + 2 ^ j.val ∨ x.val = (x.val ^^^ 2 ^ j.val) + 2 ^ j.val := by decide +kernel
theorem xor_lt : ∀ x : Fin 256, ∀ j : Fin 8, x.val ^^^ 2 ^ j.val < 256 := by decide +kernel
theorem xorI_bit : ∀ x : Fin 256, ∀ j : Fin 8, ixorI .u8 (x.val : Int) (wI .u8 (1 * 2 ^ (min j.val 8))) = ((x.val ^^^ 2 ^ j.val : Nat) : Int) := by decide +kernel
/-- a byte with a bit turned over -/
def flipB (b : UInt8) (j : Nat) : UInt8 := UInt8.ofNat (b.toNat ^^^ 2 ^ j)
theorem flipB_nat {b : UInt8} {j : Nat} (hj : j < 8) : (flipB b j).toNat = b.toNat ^^^ 2 ^ j := by
  have := xor_lt ⟨b.toNat, b.toNat_lt⟩ ⟨j, hj⟩
  simp only at this
  unfold flipB
  simp only [UInt8.toNat_ofNat']
  omega
theorem wsum_flip {s : List UInt8} {i j : Nat} (h : i < s.length) (hj : j < 8) : ∃ d, 1 ≤ d ∧ d ≤ 32768 ∧ (wsum (s.set i (flipB s[i] j)) = wsum s + d ∨ wsum s = wsum (s.set i (flipB s[i] j)) + d) := by
  have hw := wsum_set s i h (flipB s[i] j)
  rw [flipB_nat hj] at hw
  have hx := xor_bit ⟨s[i].toNat, s[i].toNat_lt⟩ ⟨j, hj⟩
  simp only at hx
  generalize s[i].toNat ^^^ 2 ^ j = y at hw hx
  generalize wsum (s.set i (flipB s[i] j)) = W at *
  obtain ⟨p, hp, h1, h2⟩ : ∃ p : Nat, 2 ^ j = p ∧ 1 ≤ p ∧ p ≤ 128 := by
    refine ⟨2 ^ j, rfl, Nat.one_le_two_pow, ?_⟩
    exact Nat.le_trans (Nat.pow_le_pow_right (by decide) (show j ≤ 7 by omega)) (by decide)
  rw [hp] at hx
  by_cases he : i % 2 = 0
  · rw [if_pos he] at hw
    exact ⟨p * 256, by omega, by omega, by omega⟩
  · rw [if_neg he] at hw
    exact ⟨p, by omega, by omega, by omega⟩
/-- the program's words for it -/
theorem flip_row {s : List UInt8} {i j : Nat} {e : Int} (h : i < s.length) (hj : j < 8) (he : e = (s[i].toNat : Int)) : iB (((bI s).set i (ixorI .u8 e (wI .u8 (1 * 2 ^ (min j 8))))).take s.length) = s.set i (flipB s[i] j) := by
  subst he
  have hx := xorI_bit ⟨s[i].toNat, s[i].toNat_lt⟩ ⟨j, hj⟩
  simp only at hx
  rw [hx, List.take_of_length_le (by simp)]
  unfold iB bI flipB
  rw [List.map_set]
  simp [List.map_map, Function.comp_def]
theorem bI_get {s : List UInt8} {i : Nat} (h : i < s.length) : (bI s)[i]? = some (s[i].toNat : Int) := by simp [bI, h]
theorem slice_set {s : List UInt8} {i p k : Nat} {b : UInt8} (h : i < p ∨ p + k ≤ i) : ((s.set i b).drop p).take k = (s.drop p).take k := by
  apply List.ext_getElem?
  intro x
  simp only [List.getElem?_take, List.getElem?_drop, List.getElem?_set]
  split
  · rw [if_neg (by omega)]
  · rfl
end Go.Vm.Code

/- Bytes replaced, and their sums: plain words. -/
namespace Go.Vm.Code
open Go Go.Vm

/-- bytes with some of them replaced -/
def sset (s : List UInt8) (p k n : Nat) : List UInt8 := s.take p ++ be n k ++ s.drop (p + k)
theorem sset_len {s : List UInt8} {p k n : Nat} (h : p + k ≤ s.length) : (sset s p k n).length = s.length := by simp [sset]; omega
theorem Set_sset {s : List UInt8} {p k : Nat} {n : Int} (hs : s.length < 2 ^ 40) (hn : 0 ≤ n) (h1 : 1 ≤ k) (h8 : k ≤ 8) (h : p + k ≤ s.length) : check_Set s (p : Int) (k : Int) n = some (sset s p k n.toNat) := by
  rw [Set_eq hs hn]; unfold setS
  rw [if_pos (by omega)]
  have e : ((p : Int) + k).toNat = p + k := by omega
  rw [e]; rfl
theorem sset_get {s : List UInt8} {p k n y : Nat} (h : p + k ≤ s.length) : (sset s p k n)[y]? = if y < p then s[y]? else if y < p + k then (be n k)[y - p]? else s[y]? := by
  unfold sset
  rw [List.append_assoc, List.getElem?_append]
  have e1 : (s.take p).length = p := by simp; omega
  rw [e1]
  by_cases h1 : y < p
  · rw [if_pos h1, if_pos h1, List.getElem?_take_of_lt h1]
  · rw [if_neg h1, if_neg h1, List.getElem?_append, be_len]
    by_cases h2 : y < p + k
    · rw [if_pos (by omega), if_pos h2]
    · rw [if_neg (by omega), if_neg h2, List.getElem?_drop]
      congr 1; omega
theorem slice_get {l : List UInt8} {q m x : Nat} : ((l.drop q).take m)[x]? = if x < m then l[q + x]? else none := by
  rw [List.getElem?_take]; split
  · rw [List.getElem?_drop]
  · rfl
theorem slice_same {s : List UInt8} {p k n : Nat} (h : p + k ≤ s.length) : ((sset s p k n).drop p).take k = be n k := by
  apply List.ext_getElem?
  intro x
  rw [slice_get, sset_get h]
  split
  · rw [if_neg (by omega), if_pos (by omega), Nat.add_sub_cancel_left]
  · rw [List.getElem?_eq_none (by simp; omega)]
theorem slice_other {s : List UInt8} {p k n q m : Nat} (h : p + k ≤ s.length) (ho : q + m ≤ p ∨ p + k ≤ q) : ((sset s p k n).drop q).take m = (s.drop q).take m := by
  apply List.ext_getElem?
  intro x
  rw [slice_get, slice_get]
  split
  · rw [sset_get h]
    by_cases h1 : q + x < p
    · rw [if_pos h1]
    · rw [if_neg h1, if_neg (by omega)]
  · rfl
theorem wsum_cut {s : List UInt8} {p k : Nat} (h : p + k ≤ s.length) (hp : p % 2 = 0) (hk : k % 2 = 0) : wsum s = wsum (s.take p) + (wsum ((s.drop p).take k) + wsum (s.drop (p + k))) := by
  rw [← List.drop_drop, ← wsum_append _ _ (by rw [List.length_take, List.length_drop]; omega), List.take_append_drop, ← wsum_append _ _ (by rw [List.length_take]; omega), List.take_append_drop]
theorem wsum_sset {s : List UInt8} {p k n : Nat} (h : p + k ≤ s.length) (hp : p % 2 = 0) (hk : k % 2 = 0) : wsum (sset s p k n) + wsum ((s.drop p).take k) = wsum s + wsum (be n k) := by
  rw [wsum_cut h hp hk]
  unfold sset
  rw [List.append_assoc, wsum_append _ _ (by rw [List.length_take]; omega), wsum_append _ _ (by rw [be_len]; omega)]
  omega
theorem wsum_be2 {n : Nat} (h : n < 65536) : wsum (be n 2) = n := by
  have e : be n 2 = [UInt8.ofNat (n / 256), UInt8.ofNat n] := by simp [be]
  rw [e, wsum, wsum]
  simp only [UInt8.toNat_ofNat']
  omega
theorem norm_zero_mod {n : Nat} (h : n % 65535 = 0) (h0 : n ≠ 0) : norm n = 65535 := norm_eq (by omega) (by omega) (by omega)
end Go.Vm.Code

namespace Go.Vm.Code
open Go Go.Vm Go.Proofs
set_option maxRecDepth 100000
set_option maxHeartbeats 4000000
set_option linter.unusedVariables false

/-! cloakroom/cloakroomlaw08.UdpBack -/
def law08_UdpBackF (R07_Small : (List (List UInt8)) → Int → Option Bool) (law08_awake : Option Bool) (udp_Get : (List UInt8) → api_Addr → api_Addr → Option (udp_Head × (List UInt8) × Int)) (udp_Put : udp_Head → api_Addr → api_Addr → (List UInt8) → Option ((List UInt8) × Int)) (ha0 : udp_Head) (src : api_Addr) (dst : api_Addr) (payload : List UInt8) (more : List UInt8) (ata5 : Int) : Option Bool :=
  (R07_Small [payload, more] 200).bind fun s =>
  cond (!s)
    (
    (law08_awake).bind fun a =>
    some (a))
    (
    (udp_Put ha0 src dst payload).bind fun p =>
    cond (p.2 != 0)
      (
      cond (p.1 == [])
        (
        (law08_awake).bind fun a1 =>
        some (a1))
        (
        some (false)))
      (
      oreq (decide (p.1.length + more.length < 2 ^ 63)) <|
      (udp_Get (p.1 ++ more) src dst).bind fun xg =>
      cond (xg.2.2 != 0)
        (
        some (false))
        (
        cond (xg.1.SPort != ha0.SPort)
          (
          some (false))
          (
          cond (xg.1.DPort != ha0.DPort)
            (
            some (false))
            (
            cond (!(xg.2.1 == payload))
              (
              some (false))
              (
              let t := (p.1.length : Int) != (wI .i64 (8 + (payload.length : Int)))
              cond (t)
                (
                some (false))
                (
                oreq (decide ((0 : Int) ≤ (8 : Int) ∧ (8 : Int) ≤ (p.1.length : Int) ∧ (0 : Int) ≤ (6 : Int) ∧ (6 : Int) ≤ (8 : Int))) <|
                cond (((p.1.drop 6).take 2) == [0, 0])
                  (
                  some (false))
                  (
                  let t1 := wI .i64 ((wI .i64 (8 * (p.1.length : Int))) - 32)
                  oreq (!(decide (t1 = 0))) <|
                  cond (decide (((wI .i64 ata5).tmod t1) ≥ 32))
                    (
                    let t2 := wI .i64 ((wI .i64 (((wI .i64 ata5).tmod t1) + 32)).tdiv 8)
                    let t3 := wI .i64 ((wI .i64 (((wI .i64 ata5).tmod t1) + 32)).tdiv 8)
                    oreq (decide ((0 : Int) ≤ t3 ∧ t3 < (p.1.length : Int))) <|
                    ((bI p.1)[t3.toNat]?).bind fun (e : Int) =>
                    let t4 := (wI .i64 (((wI .i64 ata5).tmod t1) + 32)).tmod 8
                    oreq (decide (0 ≤ t4)) <|
                    let t5 := ixorI .u8 e (wI .u8 (1 * 2 ^ (min t4.toNat 8)))
                    oreq (decide ((0 : Int) ≤ t2 ∧ t2 < (p.1.length : Int))) <|
                    oreq (decide (t2.toNat < (bI p.1).length)) <|
                    let row := (bI p.1).set t2.toNat t5
                    oreq (decide (p.1.length ≤ row.length)) <|
                    (udp_Get (iB (row.take p.1.length)) src dst).bind fun xg1 =>
                    cond (xg1.2.2 == 4)
                      (
                      (law08_awake).bind fun a2 =>
                      some (a2))
                      (
                      some (false)))
                    (
                    let t6 := wI .i64 (((wI .i64 ata5).tmod t1).tdiv 8)
                    let t7 := wI .i64 (((wI .i64 ata5).tmod t1).tdiv 8)
                    oreq (decide ((0 : Int) ≤ t7 ∧ t7 < (p.1.length : Int))) <|
                    ((bI p.1)[t7.toNat]?).bind fun (e1 : Int) =>
                    oreq (decide (0 ≤ (((wI .i64 ata5).tmod t1).tmod 8))) <|
                    let t8 := wI .u8 (1 * 2 ^ (min (((wI .i64 ata5).tmod t1).tmod 8).toNat 8))
                    oreq (decide ((0 : Int) ≤ t6 ∧ t6 < (p.1.length : Int))) <|
                    oreq (decide (t6.toNat < (bI p.1).length)) <|
                    let row1 := (bI p.1).set t6.toNat (ixorI .u8 e1 t8)
                    oreq (decide (p.1.length ≤ row1.length)) <|
                    (udp_Get (iB (row1.take p.1.length)) src dst).bind fun xg2 =>
                    cond (xg2.2.2 == 4)
                      (
                      (law08_awake).bind fun a3 =>
                      some (a3))
                      (
                      some (false)))))))))))
def rx4 (x : Bool) : SRes := ⟨.bool x, [], []⟩
def r4 (g : udp_Head → api_Addr → api_Addr → (List UInt8) → (List UInt8) → Int → Option Bool) : Dec := dV uvudp_Head fun (y0 : udp_Head) => dV uvapi_Addr fun (y1 : api_Addr) => dV uvapi_Addr fun (y2 : api_Addr) => dV asS fun (y3 : List UInt8) => dV asS fun (y4 : List UInt8) => dV (asI .u16) fun (y5 : Int) => dEnd (ofG (g y0 y1 y2 y3 y4 y5) rx4)
theorem r4_c {g : udp_Head → api_Addr → api_Addr → (List UInt8) → (List UInt8) → Int → Option Bool} {y0 : udp_Head} {y1 : api_Addr} {y2 : api_Addr} {y3 : List UInt8} {y4 : List UInt8} {y5 : Int} {x : Bool} (hx : g y0 y1 y2 y3 y4 y5 = some x) : r4 g [.agg ⟨[.int .i64 y0.SPort, .int .i64 y0.DPort]⟩, .agg ⟨[.bool y1.V6, .int .u64 y1.Hi, .int .u64 y1.Lo]⟩, .agg ⟨[.bool y2.V6, .int .u64 y2.Hi, .int .u64 y2.Lo]⟩, .string ⟨⟨y3⟩⟩, .string ⟨⟨y4⟩⟩, .int .u16 y5] [] = some (rx4 x) := (dV_eq (uvudp_Head_c _)).trans ((dV_eq (uvapi_Addr_c _)).trans ((dV_eq (uvapi_Addr_c _)).trans ((dV_eq (asS_c)).trans ((dV_eq (asS_c)).trans ((dV_eq (asI_c _)).trans (ofG_eq hx))))))
def s4 (g : udp_Head → api_Addr → api_Addr → (List UInt8) → (List UInt8) → Int → Option Bool) : Summ := ⟨[.v, .v, .v, .v, .v, .v], r4 g⟩
theorem r4_eq {g : udp_Head → api_Addr → api_Addr → (List UInt8) → (List UInt8) → Int → Option Bool} {y0 : udp_Head} {y1 : api_Addr} {y2 : api_Addr} {y3 : List UInt8} {y4 : List UInt8} {y5 : Int} {x : Bool} (hx : g y0 y1 y2 y3 y4 y5 = some x) : (s4 g).run [.agg ⟨[.int .i64 y0.SPort, .int .i64 y0.DPort]⟩, .agg ⟨[.bool y1.V6, .int .u64 y1.Hi, .int .u64 y1.Lo]⟩, .agg ⟨[.bool y2.V6, .int .u64 y2.Hi, .int .u64 y2.Lo]⟩, .string ⟨⟨y3⟩⟩, .string ⟨⟨y4⟩⟩, .int .u16 y5] [] = some (rx4 x) := r4_c hx
abbrev sums4 (R07_Small : (List (List UInt8)) → Int → Option Bool) (law08_awake : Option Bool) (udp_Get : (List UInt8) → api_Addr → api_Addr → Option (udp_Head × (List UInt8) × Int)) (udp_Put : udp_Head → api_Addr → api_Addr → (List UInt8) → Option ((List UInt8) × Int)) : List (Nat × Summ) := [(14, s14 R07_Small), (15, s15 law08_awake), (18, s18 udp_Get), (16, s16 udp_Put)]
theorem leads4 (R07_Small : (List (List UInt8)) → Int → Option Bool) (law08_awake : Option Bool) (udp_Get : (List UInt8) → api_Addr → api_Addr → Option (udp_Head × (List UInt8) × Int)) (udp_Put : udp_Head → api_Addr → api_Addr → (List UInt8) → Option ((List UInt8) × Int)) (hS : SumsOK Try.prog (aget (sums4 R07_Small law08_awake udp_Get udp_Put))) (ha0 : udp_Head) (src : api_Addr) (dst : api_Addr) (payload : List UInt8) (more : List UInt8) (ata5 : Int) (res : Bool) (h : law08_UdpBackF R07_Small law08_awake udp_Get udp_Put ha0 src dst payload more ata5 = some res) :
    Leads Try.prog 4 0 ⟨⟨4, 132, [(0, .agg ⟨[.int .i64 ha0.SPort, .int .i64 ha0.DPort]⟩), (1, .agg ⟨[.bool src.V6, .int .u64 src.Hi, .int .u64 src.Lo]⟩), (2, .agg ⟨[.bool dst.V6, .int .u64 dst.Hi, .int .u64 dst.Lo]⟩), (3, .string ⟨⟨payload⟩⟩), (4, .string ⟨⟨more⟩⟩), (5, .int .u16 ata5)], [.code k4_38], [], false, none⟩, [], [], 0⟩ (fun v H _ => Res 0 (rx4 res) v H) := by
  unfold law08_UdpBackF at h
  refine ev_ok tab_ok hS true 3000 ?_
  conv => whnf
  obtain ⟨s, hy, h2⟩ := obind.elim h; clear h; have h := h2; clear h2
  refine sumK.introF [] (sumRun_of (aqs := [.slice (some ⟨0, 0, none⟩) ([payload, more] : List (List UInt8)).length 1, .int .i64 200]) (ws := [.win 3 0 (2 * 1) false]) (n := 0) (m := 0) (t' := 4) (ra_cons (by first | rfl | exact ra_allS rfl rfl (by first | rfl | omega) (by first | rfl | (simp; done)) | exact ra_slS rfl rfl (by first | rfl | omega) (by first | rfl | omega) (by first | omega | (simp at *; omega))) rfl (ra_cons rfl rfl ra_nil)) rfl (by rfl) (r14_eq hy) rfl rfl rfl rfl (wb_skip rfl wb_nil) an_nil rfl) ?_
  conv => whnf
  refine br.h h ?_ ?_ ?_
  · rfl
  · clear h; intro hb h; conv => whnf
    obtain ⟨a, hy, h2⟩ := obind.elim h; clear h; have h := h2; clear h2
    refine sumK.introF [] (sumRun_of (aqs := []) (ws := []) (n := 0) (m := 0) (t' := 4) ra_nil rfl (by rfl) (r15_eq hy) rfl rfl rfl rfl wb_nil an_nil rfl) ?_
    conv => whnf
    all_goals (cases h)
    all_goals exact Res.of [] rfl nw_0 (by decide) js_0 wr_0
  clear h; intro hb h; conv => whnf
  obtain ⟨p, hy, h2⟩ := obind.elim h; clear h; have h := h2; clear h2
  refine sumK.introF [] (sumRun_of (aqs := [.agg ⟨[.int .i64 ha0.SPort, .int .i64 ha0.DPort]⟩, .agg ⟨[.bool src.V6, .int .u64 src.Hi, .int .u64 src.Lo]⟩, .agg ⟨[.bool dst.V6, .int .u64 dst.Hi, .int .u64 dst.Lo]⟩, .string ⟨⟨payload⟩⟩]) (ws := []) (n := 0) (m := 0) (t' := 4) (ra_cons rfl rfl (ra_cons rfl rfl (ra_cons rfl rfl (ra_cons rfl rfl ra_nil)))) rfl (by rfl) (r16_eq hy) rfl rfl rfl rfl wb_nil an_nil rfl) ?_
  conv => whnf
  refine br.h h ?_ ?_ ?_
  · rfl
  · clear h; intro hb h; conv => whnf
    refine br.h2 h ?_ ?_ ?_
    · rfl
    · clear h; intro hb h; conv => whnf
      all_goals (cases h)
      all_goals exact Res.of [] rfl nw_0 (by decide) js_0 wr_0
    clear h; intro hb h; conv => whnf
    obtain ⟨a1, hy, h2⟩ := obind.elim h; clear h; have h := h2; clear h2
    refine sumK.introF [] (sumRun_of (aqs := []) (ws := []) (n := 0) (m := 0) (t' := 4) ra_nil rfl (by rfl) (r15_eq hy) rfl rfl rfl rfl wb_nil an_nil rfl) ?_
    conv => whnf
    all_goals (cases h)
    all_goals exact Res.of [] rfl nw_0 (by decide) js_0 wr_0
  clear h; intro hb h; conv => whnf
  replace h := oreq.elim h; have hb := h.1; replace h := h.2
  first | (refine req.intro hb ?_; conv => whnf) | skip
  obtain ⟨xg, hy, h2⟩ := obind.elim h; clear h; have h := h2; clear h2
  refine sumK.introF [] (sumRun_of (aqs := [.string ⟨⟨p.1 ++ more⟩⟩, .agg ⟨[.bool src.V6, .int .u64 src.Hi, .int .u64 src.Lo]⟩, .agg ⟨[.bool dst.V6, .int .u64 dst.Hi, .int .u64 dst.Lo]⟩]) (ws := []) (n := 0) (m := 0) (t' := 4) (ra_cons rfl rfl (ra_cons rfl rfl (ra_cons rfl rfl ra_nil))) rfl (by rfl) (r18_eq hy) rfl rfl rfl rfl wb_nil an_nil rfl) ?_
  conv => whnf
  refine br.h h ?_ ?_ ?_
  · rfl
  · clear h; intro hb h; conv => whnf
    all_goals (cases h)
    all_goals exact Res.of [] rfl nw_0 (by decide) js_0 wr_0
  clear h; intro hb h; conv => whnf
  refine br.h h ?_ ?_ ?_
  · rfl
  · clear h; intro hb h; conv => whnf
    all_goals (cases h)
    all_goals exact Res.of [] rfl nw_0 (by decide) js_0 wr_0
  clear h; intro hb h; conv => whnf
  refine br.h h ?_ ?_ ?_
  · rfl
  · clear h; intro hb h; conv => whnf
    all_goals (cases h)
    all_goals exact Res.of [] rfl nw_0 (by decide) js_0 wr_0
  clear h; intro hb h; conv => whnf
  refine br.h h ?_ ?_ ?_
  · rfl
  · clear h; intro hb h; conv => whnf
    all_goals (cases h)
    all_goals exact Res.of [] rfl nw_0 (by decide) js_0 wr_0
  clear h; intro hb h; conv => whnf
  let t : Bool := (p.1.length : Int) != (wI .i64 (8 + (payload.length : Int)))
  refine br.h h ?_ ?_ ?_
  · rfl
  · clear h; intro hb h; conv => whnf
    all_goals (cases h)
    all_goals exact Res.of [] rfl nw_0 (by decide) js_0 wr_0
  clear h; intro hb h; conv => whnf
  replace h := oreq.elim h; have hb := h.1; replace h := h.2
  first | (refine req.intro hb ?_; conv => whnf) | skip
  refine br.h h ?_ ?_ ?_
  · rfl
  · clear h; intro hb h; conv => whnf
    all_goals (cases h)
    all_goals exact Res.of [] rfl nw_0 (by decide) js_0 wr_0
  clear h; intro hb h; conv => whnf
  let t1 : Int := wI .i64 ((wI .i64 (8 * (p.1.length : Int))) - 32)
  replace h := oreq.elim h; have hb := h.1; replace h := h.2
  first | (refine req.intro hb ?_; conv => whnf) | skip
  refine br.h2 h ?_ ?_ ?_
  · rfl
  · clear h; intro hb h; conv => whnf
    refine pk_s2b ?_
    conv => whnf
    let t6 : Int := wI .i64 (((wI .i64 ata5).tmod t1).tdiv 8)
    let t7 : Int := wI .i64 (((wI .i64 ata5).tmod t1).tdiv 8)
    replace h := oreq.elim h; have hb := h.1; replace h := h.2
    first | (refine req.intro hb ?_; conv => whnf) | skip
    obtain ⟨e1, hy, h2⟩ := obind.elim h; clear h; have h := h2; clear h2
    refine rd.I hy (by first | rfl | (rw [Nat.zero_add, Nat.mul_one]; done) | omega) ?_
    conv => whnf
    replace h := oreq.elim h; have hb := h.1; replace h := h.2
    first | (refine req.intro hb ?_; conv => whnf) | skip
    let t8 : Int := wI .u8 (1 * 2 ^ (min (((wI .i64 ata5).tmod t1).tmod 8).toNat 8))
    replace h := oreq.elim h; have hb := h.1; replace h := h.2
    first | (refine req.intro hb ?_; conv => whnf) | skip
    replace h := oreq.elim h; have hb := h.1; replace h := h.2
    refine st_I hb (by first | rfl | (rw [Nat.zero_add, Nat.mul_one]; done) | omega) ?_
    conv => whnf
    let row1 : List Int := (bI p.1).set t6.toNat (ixorI .u8 e1 t8)
    replace h := oreq.elim h; have hb := h.1; replace h := h.2
    refine req.intro (by (first | rfl | (simp [vI, vB, vS, bI, oneC, addrBlk, cellsL, Value.cells] at *; omega) | (simp [vI, vB, vS, bI, oneC, addrBlk, cellsL, Value.cells] at *; done))) ?_
    conv => whnf
    refine pk_b2s ?_
    conv => whnf
    obtain ⟨xg2, hy, h2⟩ := obind.elim h; clear h; have h := h2; clear h2
    refine sumK.introF [] (sumRun_of (aqs := [.string ⟨⟨iB (row1.take p.1.length)⟩⟩, .agg ⟨[.bool src.V6, .int .u64 src.Hi, .int .u64 src.Lo]⟩, .agg ⟨[.bool dst.V6, .int .u64 dst.Hi, .int .u64 dst.Lo]⟩]) (ws := []) (n := 0) (m := 0) (t' := 18) (ra_cons rfl rfl (ra_cons rfl rfl (ra_cons rfl rfl ra_nil))) rfl (by rfl) (r18_eq hy) rfl rfl rfl rfl wb_nil an_nil rfl) ?_
    conv => whnf
    refine br.h2 h ?_ ?_ ?_
    · rfl
    · clear h; intro hb h; conv => whnf
      all_goals (cases h)
      all_goals exact Res.of [] rfl nw_0 (by decide) js_0 wr_0
    clear h; intro hb h; conv => whnf
    obtain ⟨a3, hy, h2⟩ := obind.elim h; clear h; have h := h2; clear h2
    refine sumK.introF [] (sumRun_of (aqs := []) (ws := []) (n := 0) (m := 0) (t' := 19) ra_nil rfl (by rfl) (r15_eq hy) rfl rfl rfl rfl wb_nil an_nil rfl) ?_
    conv => whnf
    all_goals (cases h)
    all_goals exact Res.of [] rfl nw_0 (by decide) js_0 wr_0
  clear h; intro hb h; conv => whnf
  refine pk_s2b ?_
  conv => whnf
  let t2 : Int := wI .i64 ((wI .i64 (((wI .i64 ata5).tmod t1) + 32)).tdiv 8)
  let t3 : Int := wI .i64 ((wI .i64 (((wI .i64 ata5).tmod t1) + 32)).tdiv 8)
  replace h := oreq.elim h; have hb := h.1; replace h := h.2
  first | (refine req.intro hb ?_; conv => whnf) | skip
  obtain ⟨e, hy, h2⟩ := obind.elim h; clear h; have h := h2; clear h2
  refine rd.I hy (by first | rfl | (rw [Nat.zero_add, Nat.mul_one]; done) | omega) ?_
  conv => whnf
  let t4 : Int := (wI .i64 (((wI .i64 ata5).tmod t1) + 32)).tmod 8
  replace h := oreq.elim h; have hb := h.1; replace h := h.2
  first | (refine req.intro hb ?_; conv => whnf) | skip
  let t5 : Int := ixorI .u8 e (wI .u8 (1 * 2 ^ (min t4.toNat 8)))
  replace h := oreq.elim h; have hb := h.1; replace h := h.2
  first | (refine req.intro hb ?_; conv => whnf) | skip
  replace h := oreq.elim h; have hb := h.1; replace h := h.2
  refine st_I hb (by first | rfl | (rw [Nat.zero_add, Nat.mul_one]; done) | omega) ?_
  conv => whnf
  let row : List Int := (bI p.1).set t2.toNat t5
  replace h := oreq.elim h; have hb := h.1; replace h := h.2
  refine req.intro (by (first | rfl | (simp [vI, vB, vS, bI, oneC, addrBlk, cellsL, Value.cells] at *; omega) | (simp [vI, vB, vS, bI, oneC, addrBlk, cellsL, Value.cells] at *; done))) ?_
  conv => whnf
  refine pk_b2s ?_
  conv => whnf
  obtain ⟨xg1, hy, h2⟩ := obind.elim h; clear h; have h := h2; clear h2
  refine sumK.introF [] (sumRun_of (aqs := [.string ⟨⟨iB (row.take p.1.length)⟩⟩, .agg ⟨[.bool src.V6, .int .u64 src.Hi, .int .u64 src.Lo]⟩, .agg ⟨[.bool dst.V6, .int .u64 dst.Hi, .int .u64 dst.Lo]⟩]) (ws := []) (n := 0) (m := 0) (t' := 18) (ra_cons rfl rfl (ra_cons rfl rfl (ra_cons rfl rfl ra_nil))) rfl (by rfl) (r18_eq hy) rfl rfl rfl rfl wb_nil an_nil rfl) ?_
  conv => whnf
  refine br.h2 h ?_ ?_ ?_
  · rfl
  · clear h; intro hb h; conv => whnf
    all_goals (cases h)
    all_goals exact Res.of [] rfl nw_0 (by decide) js_0 wr_0
  clear h; intro hb h; conv => whnf
  obtain ⟨a2, hy, h2⟩ := obind.elim h; clear h; have h := h2; clear h2
  refine sumK.introF [] (sumRun_of (aqs := []) (ws := []) (n := 0) (m := 0) (t' := 19) ra_nil rfl (by rfl) (r15_eq hy) rfl rfl rfl rfl wb_nil an_nil rfl) ?_
  conv => whnf
  all_goals (cases h)
  all_goals exact Res.of [] rfl nw_0 (by decide) js_0 wr_0
theorem ok4 (R07_Small : (List (List UInt8)) → Int → Option Bool) (law08_awake : Option Bool) (udp_Get : (List UInt8) → api_Addr → api_Addr → Option (udp_Head × (List UInt8) × Int)) (udp_Put : udp_Head → api_Addr → api_Addr → (List UInt8) → Option ((List UInt8) × Int)) (hS : SumsOK Try.prog (aget (sums4 R07_Small law08_awake udp_Get udp_Put))) : SumOK Try.prog 4 (s4 (law08_UdpBackF R07_Small law08_awake udp_Get udp_Put)) := by
  refine SumOK.of_leads tab_ok (fun ar os r ha hr => ?_) ⟨Try.f4, rfl, by decide, rfl⟩
  replace hr : r4 (law08_UdpBackF R07_Small law08_awake udp_Get udp_Put) ar (conts os) = some r := hr
  unfold r4 at hr
  generalize hc : conts os = C at hr
  have hq := dV.elim hr; clear hr; obtain ⟨v0, l1, y0, rfl, e0, hr⟩ := hq; obtain rfl := uvudp_Head_eq _ _ e0
  have hq := dV.elim hr; clear hr; obtain ⟨v1, l2, y1, rfl, e1, hr⟩ := hq; obtain rfl := uvapi_Addr_eq _ _ e1
  have hq := dV.elim hr; clear hr; obtain ⟨v2, l3, y2, rfl, e2, hr⟩ := hq; obtain rfl := uvapi_Addr_eq _ _ e2
  have hq := dV.elim hr; clear hr; obtain ⟨v3, l4, y3, rfl, e3, hr⟩ := hq; obtain rfl := asS_eq _ _ e3
  have hq := dV.elim hr; clear hr; obtain ⟨v4, l5, y4, rfl, e4, hr⟩ := hq; obtain rfl := asS_eq _ _ e4
  have hq := dV.elim hr; clear hr; obtain ⟨v5, l6, y5, rfl, e5, hr⟩ := hq; obtain rfl := asI_eq _ _ _ e5
  have hq := dEnd.elim hr; clear hr; obtain ⟨rfl, rfl, hr⟩ := hq
  have hq := ofG.elim hr; clear hr; obtain ⟨x, h, rfl⟩ := hq
  obtain rfl := kinds_nil hc
  exact ⟨_, rfl, leads4 R07_Small law08_awake udp_Get udp_Put hS _ _ _ _ _ _ x h⟩
def law08_UdpBack : udp_Head → api_Addr → api_Addr → (List UInt8) → (List UInt8) → Int → Option Bool := law08_UdpBackF R07_Small law08_awake udp_Get udp_Put
theorem lift4 : SumOK Try.prog 4 (s4 law08_UdpBack) := ok4 R07_Small law08_awake udp_Get udp_Put (SumsOK.of_tab ⟨lift14, lift15, lift18, lift16, trivial⟩)
end Go.Vm.Code

/- UdpBack in plain words. -/
namespace Go.Vm.Code
open Go Go.Vm
theorem putS_two (n : Int) : putS n 2 = be n.toNat 2 := putS_be (k := 2) (by omega)
theorem pseu_even (src dst : api_Addr) (p n : Int) : (pseu src dst p n).length % 2 = 0 := by
  unfold pseu
  split
  · rename_i h
    rw [List.length_append, List.length_append, abytes_len, abytes_len, ← h.2.2]
    cases src.V6
    · simp only [cond_false, List.length_append]
      rw [show (putS 0 1).length = 1 from rfl, show putS p 1 = be p.toNat 1 from putS_be (k := 1) (by omega), show putS n 2 = be n.toNat 2 from putS_be (k := 2) (by omega), be_len, be_len]
    · simp only [cond_true, List.length_append]
      rw [show (putS 0 3).length = 3 from rfl, show putS p 1 = be p.toNat 1 from putS_be (k := 1) (by omega), show putS n 4 = be n.toNat 4 from putS_be (k := 4) (by omega), be_len, be_len]
  · rfl
theorem len2 {l : List UInt8} (h : l.length = 2) : ∃ a b, l = [a, b] := by
  match l, h with
  | [a, b], _ => exact ⟨a, b, rfl⟩
/-- four words and what follows -/
theorem parts8 {a b c d r : List UInt8} (ha : a.length = 2) (hb : b.length = 2) (hc : c.length = 2) (hd : d.length = 2) :
    let s := a ++ b ++ c ++ d ++ r
    (s.drop 0).take 2 = a ∧ (s.drop 2).take 2 = b ∧ (s.drop 4).take 2 = c ∧ (s.drop 6).take 2 = d ∧ s.drop 8 = r ∧ s.take 6 = a ++ b ++ c := by
  obtain ⟨a1, a2, rfl⟩ := len2 ha
  obtain ⟨b1, b2, rfl⟩ := len2 hb
  obtain ⟨c1, c2, rfl⟩ := len2 hc
  obtain ⟨d1, d2, rfl⟩ := len2 hd
  exact ⟨rfl, rfl, rfl, rfl, rfl, rfl⟩
def dg (h : udp_Head) (l : List UInt8) (c : Nat) : List UInt8 := be h.SPort.toNat 2 ++ be h.DPort.toNat 2 ++ be (8 + l.length) 2 ++ be c 2 ++ l
theorem dg_len (h : udp_Head) (l : List UInt8) (c : Nat) : (dg h l c).length = 8 + l.length := by simp [dg]; omega
theorem u8_dg (h : udp_Head) (l : List UInt8) : u8 h l = dg h l 0 := by
  unfold u8 dg
  rw [putS_two, putS_two, putS_two]
  rfl
theorem set_dg {h : udp_Head} {l : List UInt8} {c : Int} : setS (u8 h l) 6 2 c = dg h l c.toNat := by
  rw [u8_dg]
  obtain ⟨_, _, _, _, p5, p6⟩ := parts8 (a := be h.SPort.toNat 2) (b := be h.DPort.toNat 2) (c := be (8 + l.length) 2) (d := be 0 2) (r := l) (by simp) (by simp) (by simp) (by simp)
  have e : dg h l 0 = be h.SPort.toNat 2 ++ be h.DPort.toNat 2 ++ be (8 + l.length) 2 ++ be 0 2 ++ l := rfl
  rw [← e] at p5 p6
  unfold setS
  rw [if_pos (by rw [dg_len]; omega), show (6 : Int).toNat = 6 from rfl, show ((6 : Int) + 2).toNat = 8 from rfl, p5, p6]; rfl
theorem dg_sum {h : udp_Head} {l : List UInt8} {c : Nat} (hc : c < 65536) : wsum (dg h l c) = wsum (dg h l 0) + c := by
  have e : ∀ x, dg h l x = (be h.SPort.toNat 2 ++ be h.DPort.toNat 2 ++ be (8 + l.length) 2) ++ (be x 2 ++ l) := fun x => by simp [dg, List.append_assoc]
  have hA : (be h.SPort.toNat 2 ++ be h.DPort.toNat 2 ++ be (8 + l.length) 2).length % 2 = 0 := by simp
  rw [e c, e 0]
  generalize be h.SPort.toNat 2 ++ be h.DPort.toNat 2 ++ be (8 + l.length) 2 = A at hA
  rw [wsum_append _ _ hA, wsum_append _ _ hA, wsum_append (be c 2) l (by simp), wsum_append (be 0 2) l (by simp), wsum_be2 hc, wsum_be2 (by omega)]; omega
theorem v2_of {s w : List UInt8} {p n : Nat} (h : (s.drop p).take 2 = w) (e : w = be n 2) (hn : n < 65536) : v2 s p = (n : Int) := by
  unfold v2; rw [h, e, val_be_lt (by omega)]
theorem dg_ok {h : udp_Head} {l : List UInt8} {p : List UInt8} (hp : p.length % 2 = 0) : let c := ck8 p (u8 h l); 1 ≤ c ∧ c ≤ 65535 ∧ wsum (p ++ dg h l c.toNat) % 65535 = 0 ∧ wsum (p ++ dg h l c.toNat) ≠ 0 := by
  have key : ∀ c : Nat, c < 65536 → wsum (p ++ dg h l c) = wsum p + wsum (dg h l 0) + c := fun c hc => by rw [wsum_append _ _ hp, dg_sum hc]; omega
  have k0 := key 0 (by omega)
  simp only []
  unfold ck8
  rw [u8_dg, k0]
  generalize wsum p + wsum (dg h l 0) + 0 = W at *
  have n1 := norm_le W
  have n2 := norm_mod W
  have n3 := norm_zero W
  split
  · rw [key _ (by omega)]; omega
  · rw [key _ (by omega)]; omega
theorem udpBack (h : udp_Head) (src dst : api_Addr) (l more : List UInt8) (bit : Int) (h1 : A4 src) (h2 : A4 dst) (hb : 0 ≤ bit ∧ bit < 65536) : law08_UdpBack h src dst l more bit = some true := by
  unfold law08_UdpBack law08_UdpBackF
  rw [small_eq (by simp), Option.bind_some, awake08]
  by_cases hl : ¬ (l.length : Int) ≤ 200
  · rw [show (!([l, more].all fun x => decide ((x.length : Int) ≤ 200))) = true by simp [hl], cond_true]; rfl
  by_cases hs : ¬ (more.length : Int) ≤ 200
  · rw [show (!([l, more].all fun x => decide ((x.length : Int) ≤ 200))) = true by simp [hs], cond_true]; rfl
  simp only [Decidable.not_not] at hl hs
  rw [show (!([l, more].all fun x => decide ((x.length : Int) ≤ 200))) = false by simp [hl, hs], cond_false, uput_eq h1 h2 (by omega), Option.bind_some]
  unfold put8
  by_cases g1 : (port h.SPort && port h.DPort) = false
  · rw [if_pos g1]; rfl
  rw [if_neg g1]
  by_cases g2 : pseu src dst 17 (8 + (l.length : Int)) = []
  · rw [if_pos g2]; rfl
  rw [if_neg g2, if_neg (by omega)]
  have q0 := pseu_len src dst 17 (8 + (l.length : Int))
  have q1 := pseu_even src dst 17 (8 + (l.length : Int))
  obtain ⟨c1, c2, c3, c4⟩ := dg_ok (h := h) (l := l) q1
  rw [set_dg]
  generalize hp : pseu src dst 17 (8 + (l.length : Int)) = p at *
  generalize ck8 p (u8 h l) = c at *
  obtain ⟨c, rfl⟩ := Int.eq_ofNat_of_zero_le (show 0 ≤ c by omega)
  rw [Int.toNat_natCast] at *
  have hport : port h.SPort = true ∧ port h.DPort = true := by simpa using g1
  have p1 := port_iff.1 hport.1
  have p2 := port_iff.1 hport.2
  have hlen := dg_len h l c
  obtain ⟨s0, s2, s4, s6, s8, _⟩ := parts8 (a := be h.SPort.toNat 2) (b := be h.DPort.toNat 2) (c := be (8 + l.length) 2) (d := be c 2) (r := l ++ more) (by simp) (by simp) (by simp) (by simp)
  obtain ⟨_, _, t4, t6, _, _⟩ := parts8 (a := be h.SPort.toNat 2) (b := be h.DPort.toNat 2) (c := be (8 + l.length) 2) (d := be c 2) (r := l) (by simp) (by simp) (by simp) (by simp)
  have ed : be h.SPort.toNat 2 ++ be h.DPort.toNat 2 ++ be (8 + l.length) 2 ++ be c 2 ++ (l ++ more) = dg h l c ++ more := by simp [dg]
  have ed2 : be h.SPort.toNat 2 ++ be h.DPort.toNat 2 ++ be (8 + l.length) 2 ++ be c 2 ++ l = dg h l c := rfl
  rw [ed] at s0 s2 s4 s6 s8
  rw [ed2] at t4 t6
  have v0 := v2_of s0 rfl (by omega)
  have v2' := v2_of s2 rfl (by omega)
  have v4 := v2_of s4 rfl (by omega)
  have v6 := v2_of s6 rfl (by omega)
  have w4 := v2_of t4 rfl (by omega)
  have w6 := v2_of t6 rfl (by omega)
  have hget : get8 (dg h l c ++ more) src dst = (h, l, 0) := by
    unfold get8
    rw [if_neg (by rw [List.length_append]; omega), v0, v2', v4, v6, if_neg (by omega), if_neg (by rw [List.length_append]; omega), show (((8 + l.length : Nat) : Int)) = 8 + (l.length : Int) by omega, hp, if_neg g2, if_neg (by omega), show (8 + (l.length : Int)).toNat = (dg h l c).length by omega, List.take_left, norm_zero_mod c3 c4, if_neg (by decide), s8, hlen, show 8 + l.length - 8 = l.length by omega, List.take_left]
    obtain ⟨a, b⟩ := h
    simp only at p1 p2 ⊢
    rw [Int.toNat_of_nonneg p1.1, Int.toNat_of_nonneg p2.1]
  simp only [show ((0 : Int) != 0) = false from rfl, cond_false]
  rw [oreq_p (by omega), uget_eq h1 h2 (by rw [List.length_append]; omega), hget, Option.bind_some]
  simp only [bne_self_eq_false, cond_false, beq_self_eq_true, Bool.not_true]
  rw [wI64 (n := 8 + (l.length : Int)) (by omega) (by omega), show (((dg h l c).length : Int) != 8 + (l.length : Int)) = false by simp; omega, cond_false, oreq_p (by omega), t6]
  rw [show ((be c 2 == [0, 0])) = false by
    rw [beq_eq_false_iff_ne]
    intro hx
    have := be_inj (n := c) (m := 0) (k := 2) (by omega) (by omega) hx
    omega, cond_false]
  rw [wI64 (n := 8 * ((dg h l c).length : Int)) (by omega) (by omega), wI64 (n := 8 * ((dg h l c).length : Int) - 32) (by omega) (by omega), wI64 (n := bit) (by omega) (by omega)]
  have hfl : ∀ {i j : Nat} (hi : i < (dg h l c).length) (_ : j < 8) (_ : i < 4 ∨ 8 ≤ i), get8 ((dg h l c).set i (flipB (dg h l c)[i] j)) src dst = (zero8, [], 4) := by
    intro i j hi hj hij
    obtain ⟨d, d1, d2, d3⟩ := wsum_flip hi hj
    have u4 : v2 ((dg h l c).set i (flipB (dg h l c)[i] j)) 4 = ((8 + l.length : Nat) : Int) := by rw [← w4]; unfold v2; rw [slice_set (by omega)]
    have u6 : v2 ((dg h l c).set i (flipB (dg h l c)[i] j)) 6 = (c : Int) := by rw [← w6]; unfold v2; rw [slice_set (by omega)]
    unfold get8
    rw [if_neg (by rw [List.length_set]; omega), u4, u6, if_neg (by omega), if_neg (by rw [List.length_set]; omega), show (((8 + l.length : Nat) : Int)) = 8 + (l.length : Int) by omega, hp, if_neg g2, if_neg (by omega), List.take_of_length_le (by rw [List.length_set]; omega), if_pos]
    intro hx
    rw [wsum_append _ _ q1] at hx c3
    have m1 := norm_mod (wsum p + wsum ((dg h l c).set i (flipB (dg h l c)[i] j)))
    rw [hx] at m1
    omega
  have e0 : bit.tmod (8 * ((dg h l c).length : Int) - 32) = (((bit.toNat % (8 * (dg h l c).length - 32) : Nat)) : Int) := by
    have h8 : ((8 * (dg h l c).length - 32 : Nat) : Int) = 8 * ((dg h l c).length : Int) - 32 := by omega
    rw [Int.tmod_eq_emod_of_nonneg hb.1, Int.natCast_emod, h8, Int.toNat_of_nonneg hb.1]
  have hk := Nat.mod_lt bit.toNat (show 0 < 8 * (dg h l c).length - 32 by omega)
  rw [e0]
  generalize bit.toNat % (8 * (dg h l c).length - 32) = k at *
  rw [oreq.mk (b := !(decide (8 * ((dg h l c).length : Int) - 32 = 0))) (by simp; omega)]
  by_cases hk2 : (k : Int) ≥ 32
  · rw [cond_p hk2, wI64 (n := (k : Int) + 32) (by omega) (by omega), show ((k : Int) + 32).tdiv 8 = (((k + 32) / 8 : Nat) : Int) by rw [Int.tdiv_eq_ediv_of_nonneg (by omega)]; omega,
      show ((k : Int) + 32).tmod 8 = (((k + 32) % 8 : Nat) : Int) by rw [Int.tmod_eq_emod_of_nonneg (by omega)]; omega, wI64 (n := (((k + 32) / 8 : Nat) : Int)) (by omega) (by omega)]
    simp only [Int.toNat_natCast]
    have hi : (k + 32) / 8 < (dg h l c).length := by omega
    rw [oreq_p (by omega), bI_get hi, Option.bind_some, oreq_p (by omega), oreq_p (by omega), oreq_p (by simpa using hi), oreq_p (by simp), flip_row hi (Nat.mod_lt _ (by decide)) rfl, uget_eq h1 h2 (by rw [List.length_set]; omega), hfl hi (Nat.mod_lt _ (by decide)) (by omega)]; rfl
  · rw [cond_n hk2, show (k : Int).tdiv 8 = ((k / 8 : Nat) : Int) by rw [Int.tdiv_eq_ediv_of_nonneg (by omega)]; omega,
      show (k : Int).tmod 8 = ((k % 8 : Nat) : Int) by rw [Int.tmod_eq_emod_of_nonneg (by omega)]; omega, wI64 (n := ((k / 8 : Nat) : Int)) (by omega) (by omega)]
    simp only [Int.toNat_natCast]
    have hi : k / 8 < (dg h l c).length := by omega
    rw [oreq_p (by omega), bI_get hi, Option.bind_some, oreq_p (by omega), oreq_p (by omega), oreq_p (by simpa using hi), oreq_p (by simp), flip_row hi (Nat.mod_lt _ (by decide)) rfl, uget_eq h1 h2 (by rw [List.length_set]; omega), hfl hi (Nat.mod_lt _ (by decide)) (by omega)]; rfl
end Go.Vm.Code
