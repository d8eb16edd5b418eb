import Derived.Test.YtdnhoocoofnibaaMIcmpBacka
namespace Go.Vm.Code
open Go Go.Vm Go.Proofs
set_option maxRecDepth 100000
set_option maxHeartbeats 4000000
set_option linter.unusedVariables false

/-! cloakroom/icmp.fits -/
def icmp_fitsF (kind : Int) (code : Int) (v6 : Bool) : Option Bool :=
  cond (kind == 2)
    (
    cond (v6)
      (
      some (code == 0))
      (
      some (code == 4)))
    (
    cond (kind == 1)
      (
      cond (!v6)
        (
        some (code != 4))
        (
        some (true)))
      (
      some (true)))
def rx122 (x : Bool) : SRes := ⟨.bool x, [], []⟩
def r122 (g : Int → Int → Bool → Option Bool) : Dec := dV (asI .i64) fun (y0 : Int) => dV (asI .i64) fun (y1 : Int) => dV asB fun (y2 : Bool) => dEnd (ofG (g y0 y1 y2) rx122)
theorem r122_c {g : Int → Int → Bool → Option Bool} {y0 : Int} {y1 : Int} {y2 : Bool} {x : Bool} (hx : g y0 y1 y2 = some x) : r122 g [.int .i64 y0, .int .i64 y1, .bool y2] [] = some (rx122 x) := (dV_eq (asI_c _)).trans ((dV_eq (asI_c _)).trans ((dV_eq (asB_c)).trans (ofG_eq hx)))
def s122 (g : Int → Int → Bool → Option Bool) : Summ := ⟨[.v, .v, .v], r122 g⟩
theorem r122_eq {g : Int → Int → Bool → Option Bool} {y0 : Int} {y1 : Int} {y2 : Bool} {x : Bool} (hx : g y0 y1 y2 = some x) : (s122 g).run [.int .i64 y0, .int .i64 y1, .bool y2] [] = some (rx122 x) := r122_c hx
abbrev sums122 : List (Nat × Summ) := []
theorem leads122 (hS : SumsOK Try.prog (aget (sums122))) (kind : Int) (code : Int) (v6 : Bool) (res : Bool) (h : icmp_fitsF kind code v6 = some res) :
    Leads Try.prog 122 0 ⟨⟨122, 29, [(0, .int .i64 kind), (1, .int .i64 code), (2, .bool v6)], [.code k122_20], [], false, none⟩, [], [], 0⟩ (fun v H _ => Res 0 (rx122 res) v H) := by
  unfold icmp_fitsF at h
  refine ev_ok tab_ok hS true 3000 ?_
  conv => whnf
  refine br.h h ?_ ?_ ?_
  · rfl
  · clear h; intro hb h; conv => whnf
    refine br.h h ?_ ?_ ?_
    · rfl
    · clear h; intro hb h; conv => whnf
      all_goals (cases h)
      all_goals exact Res.of [] rfl nw_0 (by decide) js_0 wr_0
    clear h; intro hb h; conv => whnf
    refine br.pos ?_ ?_; (focus (clear h; first | assumption | (simp_all; done)))
    conv => whnf
    all_goals (cases h)
    all_goals exact Res.of [] rfl nw_0 (by decide) js_0 wr_0
  clear h; intro hb h; conv => whnf
  refine br.neg ?_ ?_; (focus (clear h; first | assumption | (simp_all; done)))
  conv => whnf
  refine br.h2 h ?_ ?_ ?_
  · rfl
  · clear h; intro hb h; conv => whnf
    all_goals (cases h)
    all_goals exact Res.of [] rfl nw_0 (by decide) js_0 wr_0
  clear h; intro hb h; conv => whnf
  refine br.h h ?_ ?_ ?_
  · rfl
  · clear h; intro hb h; conv => whnf
    all_goals (cases h)
    all_goals exact Res.of [] rfl nw_0 (by decide) js_0 wr_0
  clear h; intro hb h; conv => whnf
  all_goals (cases h)
  all_goals exact Res.of [] rfl nw_0 (by decide) js_0 wr_0
theorem ok122 (hS : SumsOK Try.prog (aget (sums122))) : SumOK Try.prog 122 (s122 (icmp_fitsF)) := by
  refine SumOK.of_leads tab_ok (fun ar os r ha hr => ?_) ⟨Try.f122, rfl, by decide, rfl⟩
  replace hr : r122 (icmp_fitsF) ar (conts os) = some r := hr
  unfold r122 at hr
  generalize hc : conts os = C at hr
  have hq := dV.elim hr; clear hr; obtain ⟨v0, l1, y0, rfl, e0, hr⟩ := hq; obtain rfl := asI_eq _ _ _ e0
  have hq := dV.elim hr; clear hr; obtain ⟨v1, l2, y1, rfl, e1, hr⟩ := hq; obtain rfl := asI_eq _ _ _ e1
  have hq := dV.elim hr; clear hr; obtain ⟨v2, l3, y2, rfl, e2, hr⟩ := hq; obtain rfl := asB_eq _ _ e2
  have hq := dEnd.elim hr; clear hr; obtain ⟨rfl, rfl, hr⟩ := hq
  have hq := ofG.elim hr; clear hr; obtain ⟨x, h, rfl⟩ := hq
  obtain rfl := kinds_nil hc
  exact ⟨_, rfl, leads122 hS _ _ _ x h⟩
def icmp_fits : Int → Int → Bool → Option Bool := icmp_fitsF
theorem lift122 : SumOK Try.prog 122 (s122 icmp_fits) := ok122 (SumsOK.of_tab trivial)
end Go.Vm.Code

namespace Go.Vm.Code
open Go Go.Vm Go.Proofs
set_option maxRecDepth 100000
set_option maxHeartbeats 4000000
set_option linter.unusedVariables false

/-! (cloakroom/icmp.Message).may -/
def icmp_Message_mayF (icmp_fits : Int → Int → Bool → Option Bool) (icmp_within : Int → Int → Option Bool) (m : icmp_Message) (v6 : Bool) : Option Bool :=
  cond (decide (m.Kind < 1))
    (
    some (false))
    (
    cond (decide (m.Kind > 3))
      (
      some (false))
      (
      (icmp_within m.Code 255).bind fun w =>
      cond (!w)
        (
        some (false))
        (
        (icmp_within m.MTU 65535).bind fun w1 =>
        cond (!w1)
          (
          some (false))
          (
          cond (decide ((m.Quote.length : Int) > 1232))
            (
            some (false))
            (
            (icmp_fits m.Kind m.Code v6).bind fun f =>
            cond (f)
              (
              cond (m.Kind == 2)
                (
                some (true))
                (
                some (m.MTU == 0)))
              (
              some (false)))))))
def rx88 (x : Bool) : SRes := ⟨.bool x, [], []⟩
def r88 (g : icmp_Message → Bool → Option Bool) : Dec := dV uvicmp_Message fun (y0 : icmp_Message) => dV asB fun (y1 : Bool) => dEnd (ofG (g y0 y1) rx88)
theorem r88_c {g : icmp_Message → Bool → Option Bool} {y0 : icmp_Message} {y1 : Bool} {x : Bool} (hx : g y0 y1 = some x) : r88 g [.agg ⟨[.int .i64 y0.Kind, .int .i64 y0.Code, .int .i64 y0.MTU, .string ⟨⟨y0.Quote⟩⟩]⟩, .bool y1] [] = some (rx88 x) := (dV_eq (uvicmp_Message_c _)).trans ((dV_eq (asB_c)).trans (ofG_eq hx))
def s88 (g : icmp_Message → Bool → Option Bool) : Summ := ⟨[.v, .v], r88 g⟩
theorem r88_eq {g : icmp_Message → Bool → Option Bool} {y0 : icmp_Message} {y1 : Bool} {x : Bool} (hx : g y0 y1 = some x) : (s88 g).run [.agg ⟨[.int .i64 y0.Kind, .int .i64 y0.Code, .int .i64 y0.MTU, .string ⟨⟨y0.Quote⟩⟩]⟩, .bool y1] [] = some (rx88 x) := r88_c hx
abbrev sums88 (icmp_fits : Int → Int → Bool → Option Bool) (icmp_within : Int → Int → Option Bool) : List (Nat × Summ) := [(122, s122 icmp_fits), (121, s121 icmp_within)]
theorem leads88 (icmp_fits : Int → Int → Bool → Option Bool) (icmp_within : Int → Int → Option Bool) (hS : SumsOK Try.prog (aget (sums88 icmp_fits icmp_within))) (m : icmp_Message) (v6 : Bool) (res : Bool) (h : icmp_Message_mayF icmp_fits icmp_within m v6 = some res) :
    Leads Try.prog 88 0 ⟨⟨88, 47, [(0, .agg ⟨[.int .i64 m.Kind, .int .i64 m.Code, .int .i64 m.MTU, .string ⟨⟨m.Quote⟩⟩]⟩), (1, .bool v6)], [.code k88_9], [], false, none⟩, [], [], 0⟩ (fun v H _ => Res 0 (rx88 res) v H) := by
  unfold icmp_Message_mayF at h
  refine ev_ok tab_ok hS true 3000 ?_
  conv => whnf
  refine br.h h ?_ ?_ ?_
  · rfl
  · clear h; intro hb h; conv => whnf
    all_goals (cases h)
    all_goals exact Res.of [] rfl nw_0 (by decide) js_0 wr_0
  clear h; intro hb h; conv => whnf
  refine br.h h ?_ ?_ ?_
  · rfl
  · clear h; intro hb h; conv => whnf
    all_goals (cases h)
    all_goals exact Res.of [] rfl nw_0 (by decide) js_0 wr_0
  clear h; intro hb h; conv => whnf
  obtain ⟨w, hy, h2⟩ := obind.elim h; clear h; have h := h2; clear h2
  refine sumK.introF [] (sumRun_of (aqs := [.int .i64 m.Code, .int .i64 255]) (ws := []) (n := 0) (m := 0) (t' := 1) (ra_cons rfl rfl (ra_cons rfl rfl ra_nil)) rfl (by rfl) (r121_eq hy) rfl rfl rfl rfl wb_nil an_nil rfl) ?_
  conv => whnf
  refine br.h h ?_ ?_ ?_
  · rfl
  · clear h; intro hb h; conv => whnf
    all_goals (cases h)
    all_goals exact Res.of [] rfl nw_0 (by decide) js_0 wr_0
  clear h; intro hb h; conv => whnf
  obtain ⟨w1, hy, h2⟩ := obind.elim h; clear h; have h := h2; clear h2
  refine sumK.introF [] (sumRun_of (aqs := [.int .i64 m.MTU, .int .i64 65535]) (ws := []) (n := 0) (m := 0) (t' := 1) (ra_cons rfl rfl (ra_cons rfl rfl ra_nil)) rfl (by rfl) (r121_eq hy) rfl rfl rfl rfl wb_nil an_nil rfl) ?_
  conv => whnf
  refine br.h h ?_ ?_ ?_
  · rfl
  · clear h; intro hb h; conv => whnf
    all_goals (cases h)
    all_goals exact Res.of [] rfl nw_0 (by decide) js_0 wr_0
  clear h; intro hb h; conv => whnf
  refine br.h h ?_ ?_ ?_
  · rfl
  · clear h; intro hb h; conv => whnf
    all_goals (cases h)
    all_goals exact Res.of [] rfl nw_0 (by decide) js_0 wr_0
  clear h; intro hb h; conv => whnf
  obtain ⟨f, hy, h2⟩ := obind.elim h; clear h; have h := h2; clear h2
  refine sumK.introF [] (sumRun_of (aqs := [.int .i64 m.Kind, .int .i64 m.Code, .bool v6]) (ws := []) (n := 0) (m := 0) (t' := 1) (ra_cons rfl rfl (ra_cons rfl rfl (ra_cons rfl rfl ra_nil))) rfl (by rfl) (r122_eq hy) rfl rfl rfl rfl wb_nil an_nil rfl) ?_
  conv => whnf
  refine br.h2 h ?_ ?_ ?_
  · rfl
  · clear h; intro hb h; conv => whnf
    all_goals (cases h)
    all_goals exact Res.of [] rfl nw_0 (by decide) js_0 wr_0
  clear h; intro hb h; conv => whnf
  refine br.h h ?_ ?_ ?_
  · rfl
  · clear h; intro hb h; conv => whnf
    all_goals (cases h)
    all_goals exact Res.of [] rfl nw_0 (by decide) js_0 wr_0
  clear h; intro hb h; conv => whnf
  all_goals (cases h)
  all_goals exact Res.of [] rfl nw_0 (by decide) js_0 wr_0
theorem ok88 (icmp_fits : Int → Int → Bool → Option Bool) (icmp_within : Int → Int → Option Bool) (hS : SumsOK Try.prog (aget (sums88 icmp_fits icmp_within))) : SumOK Try.prog 88 (s88 (icmp_Message_mayF icmp_fits icmp_within)) := by
  refine SumOK.of_leads tab_ok (fun ar os r ha hr => ?_) ⟨Try.f88, rfl, by decide, rfl⟩
  replace hr : r88 (icmp_Message_mayF icmp_fits icmp_within) ar (conts os) = some r := hr
  unfold r88 at hr
  generalize hc : conts os = C at hr
  have hq := dV.elim hr; clear hr; obtain ⟨v0, l1, y0, rfl, e0, hr⟩ := hq; obtain rfl := uvicmp_Message_eq _ _ e0
  have hq := dV.elim hr; clear hr; obtain ⟨v1, l2, y1, rfl, e1, hr⟩ := hq; obtain rfl := asB_eq _ _ e1
  have hq := dEnd.elim hr; clear hr; obtain ⟨rfl, rfl, hr⟩ := hq
  have hq := ofG.elim hr; clear hr; obtain ⟨x, h, rfl⟩ := hq
  obtain rfl := kinds_nil hc
  exact ⟨_, rfl, leads88 icmp_fits icmp_within hS _ _ x h⟩
def icmp_Message_may : icmp_Message → Bool → Option Bool := icmp_Message_mayF icmp_fits icmp_within
theorem lift88 : SumOK Try.prog 88 (s88 icmp_Message_may) := ok88 icmp_fits icmp_within (SumsOK.of_tab ⟨lift122, lift121, trivial⟩)
end Go.Vm.Code

namespace Go.Vm.Code
open Go Go.Vm Go.Proofs
set_option maxRecDepth 100000
set_option maxHeartbeats 4000000
set_option linter.unusedVariables false

/-! cloakroom/icmp.types -/
def icmp_typesF : Option Arr4_Arr2_Int :=
  some (Arr4_Arr2_Int.mk (Arr2_Int.mk (-1) (-1)) (Arr2_Int.mk 3 1) (Arr2_Int.mk 3 2) (Arr2_Int.mk 11 3))
def rx89 (x : Arr4_Arr2_Int) : SRes := ⟨.agg ⟨[.int .i64 x.e0.e0, .int .i64 x.e0.e1, .int .i64 x.e1.e0, .int .i64 x.e1.e1, .int .i64 x.e2.e0, .int .i64 x.e2.e1, .int .i64 x.e3.e0, .int .i64 x.e3.e1]⟩, [], []⟩
def r89 (g : Option Arr4_Arr2_Int) : Dec := dEnd (ofG (g) rx89)
theorem r89_c {g : Option Arr4_Arr2_Int} {x : Arr4_Arr2_Int} (hx : g = some x) : r89 g [] [] = some (rx89 x) := ofG_eq hx
def s89 (g : Option Arr4_Arr2_Int) : Summ := ⟨[], r89 g⟩
theorem r89_eq {g : Option Arr4_Arr2_Int} {x : Arr4_Arr2_Int} (hx : g = some x) : (s89 g).run [] [] = some (rx89 x) := r89_c hx
abbrev sums89 : List (Nat × Summ) := []
theorem leads89 (hS : SumsOK Try.prog (aget (sums89))) (res : Arr4_Arr2_Int) (h : icmp_typesF = some res) :
    Leads Try.prog 89 0 ⟨⟨89, 6, [], [.code k89_3], [], false, none⟩, [], [], 0⟩ (fun v H _ => Res 0 (rx89 res) v H) := by
  unfold icmp_typesF at h
  refine ev_ok tab_ok hS true 3000 ?_
  conv => whnf
  all_goals (cases h)
  all_goals exact Res.of [] rfl nw_0 (by decide) js_0 wr_0
theorem ok89 (hS : SumsOK Try.prog (aget (sums89))) : SumOK Try.prog 89 (s89 (icmp_typesF)) := by
  refine SumOK.of_leads tab_ok (fun ar os r ha hr => ?_) ⟨Try.f89, rfl, by decide, rfl⟩
  replace hr : r89 (icmp_typesF) ar (conts os) = some r := hr
  unfold r89 at hr
  generalize hc : conts os = C at hr
  have hq := dEnd.elim hr; clear hr; obtain ⟨rfl, rfl, hr⟩ := hq
  have hq := ofG.elim hr; clear hr; obtain ⟨x, h, rfl⟩ := hq
  obtain rfl := kinds_nil hc
  exact ⟨_, rfl, leads89 hS x h⟩
def icmp_types : Option Arr4_Arr2_Int := icmp_typesF
theorem lift89 : SumOK Try.prog 89 (s89 icmp_types) := ok89 (SumsOK.of_tab trivial)
end Go.Vm.Code

namespace Go.Vm.Code
open Go Go.Vm Go.Proofs
set_option maxRecDepth 100000
set_option maxHeartbeats 4000000
set_option linter.unusedVariables false

/-! cloakroom/icmp.side -/
def icmp_sideF (v6 : Bool) : Option Int :=
  cond (v6)
    (
    some (1))
    (
    some (0))
def rx90 (x : Int) : SRes := ⟨.int .i64 x, [], []⟩
def r90 (g : Bool → Option Int) : Dec := dV asB fun (y0 : Bool) => dEnd (ofG (g y0) rx90)
theorem r90_c {g : Bool → Option Int} {y0 : Bool} {x : Int} (hx : g y0 = some x) : r90 g [.bool y0] [] = some (rx90 x) := (dV_eq (asB_c)).trans (ofG_eq hx)
def s90 (g : Bool → Option Int) : Summ := ⟨[.v], r90 g⟩
theorem r90_eq {g : Bool → Option Int} {y0 : Bool} {x : Int} (hx : g y0 = some x) : (s90 g).run [.bool y0] [] = some (rx90 x) := r90_c hx
abbrev sums90 : List (Nat × Summ) := []
theorem leads90 (hS : SumsOK Try.prog (aget (sums90))) (v6 : Bool) (res : Int) (h : icmp_sideF v6 = some res) :
    Leads Try.prog 90 0 ⟨⟨90, 4, [(0, .bool v6)], [.code k90_9], [], false, none⟩, [], [], 0⟩ (fun v H _ => Res 0 (rx90 res) v H) := by
  unfold icmp_sideF at h
  refine ev_ok tab_ok hS true 3000 ?_
  conv => whnf
  refine br.h h ?_ ?_ ?_
  · rfl
  · clear h; intro hb h; conv => whnf
    all_goals (cases h)
    all_goals exact Res.of [] rfl nw_0 (by decide) js_0 wr_0
  clear h; intro hb h; conv => whnf
  all_goals (cases h)
  all_goals exact Res.of [] rfl nw_0 (by decide) js_0 wr_0
theorem ok90 (hS : SumsOK Try.prog (aget (sums90))) : SumOK Try.prog 90 (s90 (icmp_sideF)) := by
  refine SumOK.of_leads tab_ok (fun ar os r ha hr => ?_) ⟨Try.f90, rfl, by decide, rfl⟩
  replace hr : r90 (icmp_sideF) ar (conts os) = some r := hr
  unfold r90 at hr
  generalize hc : conts os = C at hr
  have hq := dV.elim hr; clear hr; obtain ⟨v0, l1, y0, rfl, e0, hr⟩ := hq; obtain rfl := asB_eq _ _ e0
  have hq := dEnd.elim hr; clear hr; obtain ⟨rfl, rfl, hr⟩ := hq
  have hq := ofG.elim hr; clear hr; obtain ⟨x, h, rfl⟩ := hq
  obtain rfl := kinds_nil hc
  exact ⟨_, rfl, leads90 hS _ x h⟩
def icmp_side : Bool → Option Int := icmp_sideF
theorem lift90 : SumOK Try.prog 90 (s90 icmp_side) := ok90 (SumsOK.of_tab trivial)
end Go.Vm.Code

namespace Go.Vm.Code
open Go Go.Vm Go.Proofs
set_option maxRecDepth 100000
set_option maxHeartbeats 4000000
set_option linter.unusedVariables false

/-! cloakroom/icmp.Put -/
def icmp_PutF (check_Of : (List UInt8) → Option Int) (check_Set : (List UInt8) → Int → Int → Int → Option (List UInt8)) (icmp_Message_may : icmp_Message → Bool → Option Bool) (icmp_over : api_Addr → api_Addr → Int → Option ((List UInt8) × Bool)) (icmp_side : Bool → Option Int) (icmp_types : Option Arr4_Arr2_Int) (octet_Put : Int → Int → Option (List UInt8)) (m : icmp_Message) (src : api_Addr) (dst : api_Addr) : Option ((List UInt8) × Int) :=
  (icmp_over src dst (wI .i64 (8 + (m.Quote.length : Int)))).bind fun xo =>
  cond (!xo.2)
    (
    some (([], 1)))
    (
    (icmp_Message_may m src.V6).bind fun m1 =>
    cond (!m1)
      (
      some (([], 1)))
      (
      (icmp_types).bind fun t =>
      oreq (decide (0 ≤ m.Kind ∧ m.Kind < 4)) <|
      ([udp_Head.mk t.e0.e0 t.e0.e1, udp_Head.mk t.e1.e0 t.e1.e1, udp_Head.mk t.e2.e0 t.e2.e1, udp_Head.mk t.e3.e0 t.e3.e1][m.Kind.toNat]?).bind fun (e : udp_Head) =>
      (icmp_side src.V6).bind fun s =>
      oreq (decide (0 ≤ s ∧ s < 2)) <|
      ([e.SPort, e.DPort][s.toNat]?).bind fun (e1 : Int) =>
      let t1 := iorI .u64 (wI .u64 ((wI .u64 e1) * 2 ^ 8)) (wI .u64 m.Code)
      (octet_Put t1 2).bind fun p =>
      (octet_Put (wI .u64 m.MTU) 6).bind fun p1 =>
      oreq (decide (p.length + p1.length < 2 ^ 63)) <|
      oreq (decide ((p ++ p1).length + m.Quote.length < 2 ^ 63)) <|
      oreq (decide (xo.1.length + ((p ++ p1) ++ m.Quote).length < 2 ^ 63)) <|
      (check_Of (xo.1 ++ ((p ++ p1) ++ m.Quote))).bind fun xo1 =>
      (check_Set ((p ++ p1) ++ m.Quote) 2 2 (wI .u64 xo1)).bind fun s1 =>
      some ((s1, 0))))
def rx31 (x : (List UInt8) × Int) : SRes := ⟨.tuple ⟨[.string ⟨⟨x.1⟩⟩, .int .i64 x.2]⟩, [], []⟩
def r31 (g : icmp_Message → api_Addr → api_Addr → Option ((List UInt8) × Int)) : Dec := dV uvicmp_Message fun (y0 : icmp_Message) => dV uvapi_Addr fun (y1 : api_Addr) => dV uvapi_Addr fun (y2 : api_Addr) => dEnd (ofG (g y0 y1 y2) rx31)
theorem r31_c {g : icmp_Message → api_Addr → api_Addr → Option ((List UInt8) × Int)} {y0 : icmp_Message} {y1 : api_Addr} {y2 : api_Addr} {x : (List UInt8) × Int} (hx : g y0 y1 y2 = some x) : r31 g [.agg ⟨[.int .i64 y0.Kind, .int .i64 y0.Code, .int .i64 y0.MTU, .string ⟨⟨y0.Quote⟩⟩]⟩, .agg ⟨[.bool y1.V6, .int .u64 y1.Hi, .int .u64 y1.Lo]⟩, .agg ⟨[.bool y2.V6, .int .u64 y2.Hi, .int .u64 y2.Lo]⟩] [] = some (rx31 x) := (dV_eq (uvicmp_Message_c _)).trans ((dV_eq (uvapi_Addr_c _)).trans ((dV_eq (uvapi_Addr_c _)).trans (ofG_eq hx)))
def s31 (g : icmp_Message → api_Addr → api_Addr → Option ((List UInt8) × Int)) : Summ := ⟨[.v, .v, .v], r31 g⟩
theorem r31_eq {g : icmp_Message → api_Addr → api_Addr → Option ((List UInt8) × Int)} {y0 : icmp_Message} {y1 : api_Addr} {y2 : api_Addr} {x : (List UInt8) × Int} (hx : g y0 y1 y2 = some x) : (s31 g).run [.agg ⟨[.int .i64 y0.Kind, .int .i64 y0.Code, .int .i64 y0.MTU, .string ⟨⟨y0.Quote⟩⟩]⟩, .agg ⟨[.bool y1.V6, .int .u64 y1.Hi, .int .u64 y1.Lo]⟩, .agg ⟨[.bool y2.V6, .int .u64 y2.Hi, .int .u64 y2.Lo]⟩] [] = some (rx31 x) := r31_c hx
abbrev sums31 (check_Of : (List UInt8) → Option Int) (check_Set : (List UInt8) → Int → Int → Int → Option (List UInt8)) (icmp_Message_may : icmp_Message → Bool → Option Bool) (icmp_over : api_Addr → api_Addr → Int → Option ((List UInt8) × Bool)) (icmp_side : Bool → Option Int) (icmp_types : Option Arr4_Arr2_Int) (octet_Put : Int → Int → Option (List UInt8)) : List (Nat × Summ) := [(64, s64 check_Of), (65, s65 check_Set), (88, s88 icmp_Message_may), (87, s87 icmp_over), (90, s90 icmp_side), (89, s89 icmp_types), (62, s62 octet_Put)]
theorem leads31 (check_Of : (List UInt8) → Option Int) (check_Set : (List UInt8) → Int → Int → Int → Option (List UInt8)) (icmp_Message_may : icmp_Message → Bool → Option Bool) (icmp_over : api_Addr → api_Addr → Int → Option ((List UInt8) × Bool)) (icmp_side : Bool → Option Int) (icmp_types : Option Arr4_Arr2_Int) (octet_Put : Int → Int → Option (List UInt8)) (hS : SumsOK Try.prog (aget (sums31 check_Of check_Set icmp_Message_may icmp_over icmp_side icmp_types octet_Put))) (m : icmp_Message) (src : api_Addr) (dst : api_Addr) (res : (List UInt8) × Int) (h : icmp_PutF check_Of check_Set icmp_Message_may icmp_over icmp_side icmp_types octet_Put m src dst = some res) :
    Leads Try.prog 31 0 ⟨⟨31, 62, [(0, .agg ⟨[.int .i64 m.Kind, .int .i64 m.Code, .int .i64 m.MTU, .string ⟨⟨m.Quote⟩⟩]⟩), (1, .agg ⟨[.bool src.V6, .int .u64 src.Hi, .int .u64 src.Lo]⟩), (2, .agg ⟨[.bool dst.V6, .int .u64 dst.Hi, .int .u64 dst.Lo]⟩)], [.code k31_15], [], false, none⟩, [], [], 0⟩ (fun v H _ => Res 0 (rx31 res) v H) := by
  unfold icmp_PutF at h
  refine ev_ok tab_ok hS true 3000 ?_
  conv => whnf
  obtain ⟨xo, hy, h2⟩ := obind.elim h; clear h; have h := h2; clear h2
  refine sumK.introF [] (sumRun_of (aqs := [.agg ⟨[.bool src.V6, .int .u64 src.Hi, .int .u64 src.Lo]⟩, .agg ⟨[.bool dst.V6, .int .u64 dst.Hi, .int .u64 dst.Lo]⟩, .int .i64 (wI .i64 (8 + (m.Quote.length : Int)))]) (ws := []) (n := 0) (m := 0) (t' := 3) (ra_cons rfl rfl (ra_cons rfl rfl (ra_cons rfl rfl ra_nil))) rfl (by rfl) (r87_eq hy) rfl rfl rfl rfl wb_nil an_nil rfl) ?_
  conv => whnf
  refine br.h h ?_ ?_ ?_
  · rfl
  · clear h; intro hb h; conv => whnf
    all_goals (cases h)
    all_goals exact Res.of [] rfl nw_0 (by decide) js_0 wr_0
  clear h; intro hb h; conv => whnf
  obtain ⟨m1, hy, h2⟩ := obind.elim h; clear h; have h := h2; clear h2
  refine sumK.introF [] (sumRun_of (aqs := [.agg ⟨[.int .i64 m.Kind, .int .i64 m.Code, .int .i64 m.MTU, .string ⟨⟨m.Quote⟩⟩]⟩, .bool src.V6]) (ws := []) (n := 0) (m := 0) (t' := 3) (ra_cons rfl rfl (ra_cons rfl rfl ra_nil)) rfl (by rfl) (r88_eq hy) rfl rfl rfl rfl wb_nil an_nil rfl) ?_
  conv => whnf
  refine br.h h ?_ ?_ ?_
  · rfl
  · clear h; intro hb h; conv => whnf
    all_goals (cases h)
    all_goals exact Res.of [] rfl nw_0 (by decide) js_0 wr_0
  clear h; intro hb h; conv => whnf
  obtain ⟨t, hy, h2⟩ := obind.elim h; clear h; have h := h2; clear h2
  refine sumK.introF [] (sumRun_of (aqs := []) (ws := []) (n := 0) (m := 0) (t' := 3) ra_nil rfl (by rfl) (r89_eq hy) rfl rfl rfl rfl wb_nil an_nil rfl) ?_
  conv => whnf
  replace h := oreq.elim h; have hb := h.1; replace h := h.2
  obtain ⟨e, hy, h2⟩ := obind.elim h; clear h; have h := h2; clear h2
  refine ix_T (xs := [udp_Head.mk t.e0.e0 t.e0.e1, udp_Head.mk t.e1.e0 t.e1.e1, udp_Head.mk t.e2.e0 t.e2.e1, udp_Head.mk t.e3.e0 t.e3.e1]) cudp_Head_len hb hy rfl rfl ?_
  conv => whnf
  obtain ⟨s, hy, h2⟩ := obind.elim h; clear h; have h := h2; clear h2
  refine sumK.introF [] (sumRun_of (aqs := [.bool src.V6]) (ws := []) (n := 0) (m := 0) (t' := 9) (ra_cons rfl rfl ra_nil) rfl (by rfl) (r90_eq hy) rfl rfl rfl rfl wb_nil an_nil rfl) ?_
  conv => whnf
  replace h := oreq.elim h; have hb := h.1; replace h := h.2
  first | (refine req.intro hb ?_; conv => whnf) | skip
  obtain ⟨e1, hy, h2⟩ := obind.elim h; clear h; have h := h2; clear h2
  refine rd.I hy (by first | rfl | (rw [Nat.zero_add, Nat.mul_one]; done) | omega) ?_
  conv => whnf
  let t1 : Int := iorI .u64 (wI .u64 ((wI .u64 e1) * 2 ^ 8)) (wI .u64 m.Code)
  obtain ⟨p, hy, h2⟩ := obind.elim h; clear h; have h := h2; clear h2
  refine sumK.introF [] (sumRun_of (aqs := [.int .u64 t1, .int .i64 2]) (ws := []) (n := 0) (m := 0) (t' := 17) (ra_cons rfl rfl (ra_cons rfl rfl ra_nil)) rfl (by rfl) (r62_eq hy) rfl rfl rfl rfl wb_nil an_nil rfl) ?_
  conv => whnf
  obtain ⟨p1, hy, h2⟩ := obind.elim h; clear h; have h := h2; clear h2
  refine sumK.introF [] (sumRun_of (aqs := [.int .u64 (wI .u64 m.MTU), .int .i64 6]) (ws := []) (n := 0) (m := 0) (t' := 21) (ra_cons rfl rfl (ra_cons rfl rfl ra_nil)) rfl (by rfl) (r62_eq hy) rfl rfl rfl rfl wb_nil an_nil rfl) ?_
  conv => whnf
  replace h := oreq.elim h; have hb := h.1; replace h := h.2
  first | (refine req.intro hb ?_; conv => whnf) | skip
  replace h := oreq.elim h; have hb := h.1; replace h := h.2
  first | (refine req.intro hb ?_; conv => whnf) | skip
  replace h := oreq.elim h; have hb := h.1; replace h := h.2
  first | (refine req.intro hb ?_; conv => whnf) | skip
  obtain ⟨xo1, hy, h2⟩ := obind.elim h; clear h; have h := h2; clear h2
  refine sumK.introF [] (sumRun_of (aqs := [.string ⟨⟨xo.1 ++ ((p ++ p1) ++ m.Quote)⟩⟩]) (ws := []) (n := 0) (m := 0) (t' := 25) (ra_cons rfl rfl ra_nil) rfl (by rfl) (r64_eq hy) rfl rfl rfl rfl wb_nil an_nil rfl) ?_
  conv => whnf
  obtain ⟨s1, hy, h2⟩ := obind.elim h; clear h; have h := h2; clear h2
  refine sumK.introF [] (sumRun_of (aqs := [.string ⟨⟨(p ++ p1) ++ m.Quote⟩⟩, .int .i64 2, .int .i64 2, .int .u64 (wI .u64 xo1)]) (ws := []) (n := 0) (m := 0) (t' := 25) (ra_cons rfl rfl (ra_cons rfl rfl (ra_cons rfl rfl (ra_cons rfl rfl ra_nil)))) rfl (by rfl) (r65_eq hy) rfl rfl rfl rfl wb_nil an_nil rfl) ?_
  conv => whnf
  all_goals (cases h)
  all_goals exact Res.of [] rfl nw_0 (by decide) js_0 wr_0
theorem ok31 (check_Of : (List UInt8) → Option Int) (check_Set : (List UInt8) → Int → Int → Int → Option (List UInt8)) (icmp_Message_may : icmp_Message → Bool → Option Bool) (icmp_over : api_Addr → api_Addr → Int → Option ((List UInt8) × Bool)) (icmp_side : Bool → Option Int) (icmp_types : Option Arr4_Arr2_Int) (octet_Put : Int → Int → Option (List UInt8)) (hS : SumsOK Try.prog (aget (sums31 check_Of check_Set icmp_Message_may icmp_over icmp_side icmp_types octet_Put))) : SumOK Try.prog 31 (s31 (icmp_PutF check_Of check_Set icmp_Message_may icmp_over icmp_side icmp_types octet_Put)) := by
  refine SumOK.of_leads tab_ok (fun ar os r ha hr => ?_) ⟨Try.f31, rfl, by decide, rfl⟩
  replace hr : r31 (icmp_PutF check_Of check_Set icmp_Message_may icmp_over icmp_side icmp_types octet_Put) ar (conts os) = some r := hr
  unfold r31 at hr
  generalize hc : conts os = C at hr
  have hq := dV.elim hr; clear hr; obtain ⟨v0, l1, y0, rfl, e0, hr⟩ := hq; obtain rfl := uvicmp_Message_eq _ _ e0
  have hq := dV.elim hr; clear hr; obtain ⟨v1, l2, y1, rfl, e1, hr⟩ := hq; obtain rfl := uvapi_Addr_eq _ _ e1
  have hq := dV.elim hr; clear hr; obtain ⟨v2, l3, y2, rfl, e2, hr⟩ := hq; obtain rfl := uvapi_Addr_eq _ _ e2
  have hq := dEnd.elim hr; clear hr; obtain ⟨rfl, rfl, hr⟩ := hq
  have hq := ofG.elim hr; clear hr; obtain ⟨x, h, rfl⟩ := hq
  obtain rfl := kinds_nil hc
  exact ⟨_, rfl, leads31 check_Of check_Set icmp_Message_may icmp_over icmp_side icmp_types octet_Put hS _ _ _ x h⟩
def icmp_Put : icmp_Message → api_Addr → api_Addr → Option ((List UInt8) × Int) := icmp_PutF check_Of check_Set icmp_Message_may icmp_over icmp_side icmp_types octet_Put
theorem lift31 : SumOK Try.prog 31 (s31 icmp_Put) := ok31 check_Of check_Set icmp_Message_may icmp_over icmp_side icmp_types octet_Put (SumsOK.of_tab ⟨lift64, lift65, lift88, lift87, lift90, lift89, lift62, trivial⟩)
end Go.Vm.Code

namespace Go.Vm.Code
open Go Go.Vm Go.Proofs
set_option maxRecDepth 100000
set_option maxHeartbeats 4000000
set_option linter.unusedVariables false

/-! cloakroom/icmp.kind -/
def icmp_kind_s1 (icmp_fits : Int → Int → Bool → Option Bool) (icmp_side : Bool → Option Int) (typ : Int) (code : Int) (v6 : Bool) (t : Arr4_Arr2_Int) (t10 : Int) : Option (Sum Int Int) :=
  cond (decide (t10 < 4))
    (
    oreq (decide (0 ≤ t10 ∧ t10 < 4)) <|
    ([udp_Head.mk t.e0.e0 t.e0.e1, udp_Head.mk t.e1.e0 t.e1.e1, udp_Head.mk t.e2.e0 t.e2.e1, udp_Head.mk t.e3.e0 t.e3.e1][t10.toNat]?).bind fun (e : udp_Head) =>
    (icmp_side v6).bind fun s =>
    oreq (decide (0 ≤ s ∧ s < 2)) <|
    ([e.SPort, e.DPort][s.toNat]?).bind fun (e1 : Int) =>
    cond (e1 == typ)
      (
      (icmp_fits t10 code v6).bind fun f =>
      cond (f)
        (
        some (.inr (t10)))
        (
        some (.inl (wI .i64 (t10 + 1)))))
      (
      some (.inl (wI .i64 (t10 + 1)))))
    (
    some (.inr (4)))
def icmp_kindF (icmp_fits : Int → Int → Bool → Option Bool) (icmp_side : Bool → Option Int) (icmp_types : Option Arr4_Arr2_Int) (typ : Int) (code : Int) (v6 : Bool) : Option Int :=
  (icmp_types).bind fun t =>
  iter (fun st => icmp_kind_s1 icmp_fits icmp_side typ code v6 t st) FUEL 0
def rx95 (x : Int) : SRes := ⟨.int .i64 x, [], []⟩
def r95 (g : Int → Int → Bool → Option Int) : Dec := dV (asI .i64) fun (y0 : Int) => dV (asI .i64) fun (y1 : Int) => dV asB fun (y2 : Bool) => dEnd (ofG (g y0 y1 y2) rx95)
theorem r95_c {g : Int → Int → Bool → Option Int} {y0 : Int} {y1 : Int} {y2 : Bool} {x : Int} (hx : g y0 y1 y2 = some x) : r95 g [.int .i64 y0, .int .i64 y1, .bool y2] [] = some (rx95 x) := (dV_eq (asI_c _)).trans ((dV_eq (asI_c _)).trans ((dV_eq (asB_c)).trans (ofG_eq hx)))
def s95 (g : Int → Int → Bool → Option Int) : Summ := ⟨[.v, .v, .v], r95 g⟩
theorem r95_eq {g : Int → Int → Bool → Option Int} {y0 : Int} {y1 : Int} {y2 : Bool} {x : Int} (hx : g y0 y1 y2 = some x) : (s95 g).run [.int .i64 y0, .int .i64 y1, .bool y2] [] = some (rx95 x) := r95_c hx
abbrev sums95 (icmp_fits : Int → Int → Bool → Option Bool) (icmp_side : Bool → Option Int) (icmp_types : Option Arr4_Arr2_Int) : List (Nat × Summ) := [(122, s122 icmp_fits), (90, s90 icmp_side), (89, s89 icmp_types)]
def head95_1 (typ : Int) (code : Int) (v6 : Bool) (t : Arr4_Arr2_Int) (t10 : Int) : VM :=
  ⟨⟨95, 28, [(0, .int .i64 typ), (1, .int .i64 code), (2, .bool v6), (9, .agg ⟨[.int .i64 t.e0.e0, .int .i64 t.e0.e1, .int .i64 t.e1.e0, .int .i64 t.e1.e1, .int .i64 t.e2.e0, .int .i64 t.e2.e1, .int .i64 t.e3.e0, .int .i64 t.e3.e1]⟩), (10, .int .i64 t10)], [.code k95_15, .inLoop k95_15, .inBlock 0, .code k95_20], [], false, none⟩, [], [], 0⟩
theorem loop95_1 (icmp_fits : Int → Int → Bool → Option Bool) (icmp_side : Bool → Option Int) (icmp_types : Option Arr4_Arr2_Int) (hS : SumsOK Try.prog (aget (sums95 icmp_fits icmp_side icmp_types))) (typ : Int) (code : Int) (v6 : Bool) (t : Arr4_Arr2_Int) (res : Int) : ∀ fuel (st : Int) (o : Int), iter (fun st => icmp_kind_s1 icmp_fits icmp_side typ code v6 t st) fuel st = some o → (o = res) →
    Leads Try.prog 95 0 (head95_1 typ code v6 t st) (fun v H _ => Res 0 (rx95 res) v H) := by
  intro fuel st o h hc
  refine iter_leads (head := fun st => head95_1 typ code v6 t st) (C := fun o => (o = res)) ?_ fuel st o h hc
  clear h hc o st fuel
  intro t10 o h hc
  replace h : icmp_kind_s1 icmp_fits icmp_side typ code v6 t t10 = some o := h
  show Leads Try.prog 95 0 (head95_1 typ code v6 t t10) (fun v H _ => Res 0 (rx95 res) v H)
  unfold icmp_kind_s1 at h
  refine ev_ok tab_ok hS true 3000 ?_
  conv => whnf
  refine br.h2 h ?_ ?_ ?_
  · rfl
  · clear h; intro hb h; conv => whnf
    all_goals (cases h; cases hc)
    all_goals exact Res.of [] rfl nw_0 (by decide) js_0 wr_0
  clear h; intro hb h; conv => whnf
  replace h := oreq.elim h; have hb := h.1; replace h := h.2
  obtain ⟨e, hy, h2⟩ := obind.elim h; clear h; have h := h2; clear h2
  refine ix_T (xs := [udp_Head.mk t.e0.e0 t.e0.e1, udp_Head.mk t.e1.e0 t.e1.e1, udp_Head.mk t.e2.e0 t.e2.e1, udp_Head.mk t.e3.e0 t.e3.e1]) cudp_Head_len hb hy rfl rfl ?_
  conv => whnf
  obtain ⟨s, hy, h2⟩ := obind.elim h; clear h; have h := h2; clear h2
  refine sumK.introF [] (sumRun_of (aqs := [.bool v6]) (ws := []) (n := 0) (m := 0) (t' := 1) (ra_cons rfl rfl ra_nil) rfl (by rfl) (r90_eq hy) rfl rfl rfl rfl wb_nil an_nil rfl) ?_
  conv => whnf
  replace h := oreq.elim h; have hb := h.1; replace h := h.2
  first | (refine req.intro hb ?_; conv => whnf) | skip
  obtain ⟨e1, hy, h2⟩ := obind.elim h; clear h; have h := h2; clear h2
  refine rd.intro (rdlI hy (by first | rfl | (rw [Nat.zero_add, Nat.mul_one]; done) | omega)) ?_
  conv => whnf
  refine br.h2 h ?_ ?_ ?_
  · rfl
  · clear h; intro hb h; conv => whnf
    cases h; simp only [Sum.elim_inl, head95_1] at hc
    refine Leads.re hc [] rfl ?_ ?_ <;> (repeat' first | exact trivial | refine ⟨⟨_, rfl, rfl⟩, ?_⟩ | refine ⟨⟨_, _, rfl, rfl, .rowF (vI_flat _ _) id⟩, ?_⟩ | refine ⟨⟨_, _, rfl, rfl, .rowF (vS_flat _) id⟩, ?_⟩ | refine ⟨⟨_, _, rfl, rfl, .rowF (vB_flat _) id⟩, ?_⟩ | refine ⟨⟨_, _, rfl, rfl, .rowF (vT_flat (by first | exact cicmp_Message_flat | exact capi_Addr_flat | exact coctet_Reader_flat | exact cArr2_Int_flat | exact cArr4_Arr2_Int_flat | exact cruntime_errorAddressString_flat | exact cudp_Head_flat | exact cipsix_Head_flat | exact cipfour_Head_flat | exact capi_Tuple_flat | exact ctcp_Head_flat) _) id⟩, ?_⟩ | refine ⟨⟨_, _, rfl, rfl, .tyF (vI_flat _ _)⟩, ?_⟩ | refine ⟨⟨_, _, rfl, rfl, .ty rfl⟩, ?_⟩ | refine ⟨⟨_, _, rfl, rfl, .cells rfl⟩, ?_⟩ | refine ⟨⟨_, _, rfl, rfl, .row rfl id⟩, ?_⟩ | refine ⟨⟨_, _, rfl, rfl, .cr rfl⟩, ?_⟩ | refine ⟨⟨_, _, rfl, rfl, .rc rfl⟩, ?_⟩ | refine ⟨⟨_, _, rfl, rfl, .marks⟩, ?_⟩ | refine ⟨⟨_, _, rfl, rfl, .siter _ _⟩, ?_⟩ | refine ⟨⟨_, _, rfl, rfl, .loop rfl rfl rfl rfl (by repeat' first | exact trivial | refine ⟨rfl, ?_⟩) rfl rfl rfl rfl⟩, ?_⟩)
  clear h; intro hb h; conv => whnf
  obtain ⟨f, hy, h2⟩ := obind.elim h; clear h; have h := h2; clear h2
  refine sumK.introF [] (sumRun_of (aqs := [.int .i64 t10, .int .i64 code, .bool v6]) (ws := []) (n := 0) (m := 0) (t' := 1) (ra_cons rfl rfl (ra_cons rfl rfl (ra_cons rfl rfl ra_nil))) rfl (by rfl) (r122_eq hy) rfl rfl rfl rfl wb_nil an_nil rfl) ?_
  conv => whnf
  refine br.h h ?_ ?_ ?_
  · rfl
  · clear h; intro hb h; conv => whnf
    all_goals (cases h; cases hc)
    all_goals exact Res.of [] rfl nw_0 (by decide) js_0 wr_0
  clear h; intro hb h; conv => whnf
  cases h; simp only [Sum.elim_inl, head95_1] at hc
  refine Leads.re hc [] rfl ?_ ?_ <;> (repeat' first | exact trivial | refine ⟨⟨_, rfl, rfl⟩, ?_⟩ | refine ⟨⟨_, _, rfl, rfl, .rowF (vI_flat _ _) id⟩, ?_⟩ | refine ⟨⟨_, _, rfl, rfl, .rowF (vS_flat _) id⟩, ?_⟩ | refine ⟨⟨_, _, rfl, rfl, .rowF (vB_flat _) id⟩, ?_⟩ | refine ⟨⟨_, _, rfl, rfl, .rowF (vT_flat (by first | exact cicmp_Message_flat | exact capi_Addr_flat | exact coctet_Reader_flat | exact cArr2_Int_flat | exact cArr4_Arr2_Int_flat | exact cruntime_errorAddressString_flat | exact cudp_Head_flat | exact cipsix_Head_flat | exact cipfour_Head_flat | exact capi_Tuple_flat | exact ctcp_Head_flat) _) id⟩, ?_⟩ | refine ⟨⟨_, _, rfl, rfl, .tyF (vI_flat _ _)⟩, ?_⟩ | refine ⟨⟨_, _, rfl, rfl, .ty rfl⟩, ?_⟩ | refine ⟨⟨_, _, rfl, rfl, .cells rfl⟩, ?_⟩ | refine ⟨⟨_, _, rfl, rfl, .row rfl id⟩, ?_⟩ | refine ⟨⟨_, _, rfl, rfl, .cr rfl⟩, ?_⟩ | refine ⟨⟨_, _, rfl, rfl, .rc rfl⟩, ?_⟩ | refine ⟨⟨_, _, rfl, rfl, .marks⟩, ?_⟩ | refine ⟨⟨_, _, rfl, rfl, .siter _ _⟩, ?_⟩ | refine ⟨⟨_, _, rfl, rfl, .loop rfl rfl rfl rfl (by repeat' first | exact trivial | refine ⟨rfl, ?_⟩) rfl rfl rfl rfl⟩, ?_⟩)
theorem leads95 (icmp_fits : Int → Int → Bool → Option Bool) (icmp_side : Bool → Option Int) (icmp_types : Option Arr4_Arr2_Int) (hS : SumsOK Try.prog (aget (sums95 icmp_fits icmp_side icmp_types))) (typ : Int) (code : Int) (v6 : Bool) (res : Int) (h : icmp_kindF icmp_fits icmp_side icmp_types typ code v6 = some res) :
    Leads Try.prog 95 0 ⟨⟨95, 28, [(0, .int .i64 typ), (1, .int .i64 code), (2, .bool v6)], [.code k95_22], [], false, none⟩, [], [], 0⟩ (fun v H _ => Res 0 (rx95 res) v H) := by
  unfold icmp_kindF at h
  refine ev_ok tab_ok hS true 3000 ?_
  conv => whnf
  obtain ⟨t, hy, h2⟩ := obind.elim h; clear h; have h := h2; clear h2
  refine sumK.introF [] (sumRun_of (aqs := []) (ws := []) (n := 0) (m := 0) (t' := 0) ra_nil rfl (by rfl) (r89_eq hy) rfl rfl rfl rfl wb_nil an_nil rfl) ?_
  conv => whnf
  have hl := loop95_1 icmp_fits icmp_side icmp_types hS _ _ _ _ res _ _ _ h rfl; simp only [head95_1] at hl
  refine Leads.re hl [] rfl ?_ ?_ <;> (repeat' first | exact trivial | refine ⟨⟨_, rfl, rfl⟩, ?_⟩ | refine ⟨⟨_, _, rfl, rfl, .rowF (vI_flat _ _) id⟩, ?_⟩ | refine ⟨⟨_, _, rfl, rfl, .rowF (vS_flat _) id⟩, ?_⟩ | refine ⟨⟨_, _, rfl, rfl, .rowF (vB_flat _) id⟩, ?_⟩ | refine ⟨⟨_, _, rfl, rfl, .rowF (vT_flat (by first | exact cicmp_Message_flat | exact capi_Addr_flat | exact coctet_Reader_flat | exact cArr2_Int_flat | exact cArr4_Arr2_Int_flat | exact cruntime_errorAddressString_flat | exact cudp_Head_flat | exact cipsix_Head_flat | exact cipfour_Head_flat | exact capi_Tuple_flat | exact ctcp_Head_flat) _) id⟩, ?_⟩ | refine ⟨⟨_, _, rfl, rfl, .tyF (vI_flat _ _)⟩, ?_⟩ | refine ⟨⟨_, _, rfl, rfl, .ty rfl⟩, ?_⟩ | refine ⟨⟨_, _, rfl, rfl, .cells rfl⟩, ?_⟩ | refine ⟨⟨_, _, rfl, rfl, .row rfl id⟩, ?_⟩ | refine ⟨⟨_, _, rfl, rfl, .cr rfl⟩, ?_⟩ | refine ⟨⟨_, _, rfl, rfl, .rc rfl⟩, ?_⟩ | refine ⟨⟨_, _, rfl, rfl, .marks⟩, ?_⟩ | refine ⟨⟨_, _, rfl, rfl, .siter _ _⟩, ?_⟩ | refine ⟨⟨_, _, rfl, rfl, .loop rfl rfl rfl rfl (by repeat' first | exact trivial | refine ⟨rfl, ?_⟩) rfl rfl rfl rfl⟩, ?_⟩)
theorem ok95 (icmp_fits : Int → Int → Bool → Option Bool) (icmp_side : Bool → Option Int) (icmp_types : Option Arr4_Arr2_Int) (hS : SumsOK Try.prog (aget (sums95 icmp_fits icmp_side icmp_types))) : SumOK Try.prog 95 (s95 (icmp_kindF icmp_fits icmp_side icmp_types)) := by
  refine SumOK.of_leads tab_ok (fun ar os r ha hr => ?_) ⟨Try.f95, rfl, by decide, rfl⟩
  replace hr : r95 (icmp_kindF icmp_fits icmp_side icmp_types) ar (conts os) = some r := hr
  unfold r95 at hr
  generalize hc : conts os = C at hr
  have hq := dV.elim hr; clear hr; obtain ⟨v0, l1, y0, rfl, e0, hr⟩ := hq; obtain rfl := asI_eq _ _ _ e0
  have hq := dV.elim hr; clear hr; obtain ⟨v1, l2, y1, rfl, e1, hr⟩ := hq; obtain rfl := asI_eq _ _ _ e1
  have hq := dV.elim hr; clear hr; obtain ⟨v2, l3, y2, rfl, e2, hr⟩ := hq; obtain rfl := asB_eq _ _ e2
  have hq := dEnd.elim hr; clear hr; obtain ⟨rfl, rfl, hr⟩ := hq
  have hq := ofG.elim hr; clear hr; obtain ⟨x, h, rfl⟩ := hq
  obtain rfl := kinds_nil hc
  exact ⟨_, rfl, leads95 icmp_fits icmp_side icmp_types hS _ _ _ x h⟩
def icmp_kind : Int → Int → Bool → Option Int := icmp_kindF icmp_fits icmp_side icmp_types
theorem lift95 : SumOK Try.prog 95 (s95 icmp_kind) := ok95 icmp_fits icmp_side icmp_types (SumsOK.of_tab ⟨lift122, lift90, lift89, trivial⟩)
end Go.Vm.Code

namespace Go.Vm.Code
open Go Go.Vm Go.Proofs
set_option maxRecDepth 100000
set_option maxHeartbeats 4000000
set_option linter.unusedVariables false

/-! (*cloakroom/octet.Reader).Rest -/
def octet_Reader_RestF (octet_Reader_Bad : octet_Reader → Option (Bool × octet_Reader)) (octet_Reader_Text : octet_Reader → Int → Option ((List UInt8) × octet_Reader)) (ra0 : octet_Reader) : Option ((List UInt8) × octet_Reader) :=
  (octet_Reader_Bad ra0).bind fun b =>
  cond (b.1)
    (
    some (([], b.2)))
    (
    (octet_Reader_Text b.2 (b.2.s.length : Int)).bind fun t =>
    some ((t.1, t.2)))
def rx96 (x : (List UInt8) × octet_Reader) : SRes := ⟨.string ⟨⟨x.1⟩⟩, [], [some [.string ⟨⟨x.2.s⟩⟩, .bool x.2.made, .bool x.2.bad]]⟩
def r96 (g : octet_Reader → Option ((List UInt8) × octet_Reader)) : Dec := dPt 0 unoctet_Reader fun (y0 : octet_Reader) => dEnd (ofG (g y0) rx96)
theorem r96_c {g : octet_Reader → Option ((List UInt8) × octet_Reader)} {y0 : octet_Reader} {x : (List UInt8) × octet_Reader} (hx : g y0 = some x) : r96 g [.pointer (some ⟨0, 0, none⟩)] [some [.string ⟨⟨y0.s⟩⟩, .bool y0.made, .bool y0.bad]] = some (rx96 x) := (dPt_eq (unoctet_Reader_c _)).trans (ofG_eq hx)
def s96 (g : octet_Reader → Option ((List UInt8) × octet_Reader)) : Summ := ⟨[.pt 3], r96 g⟩
theorem r96_eq {g : octet_Reader → Option ((List UInt8) × octet_Reader)} {y0 : octet_Reader} {x : (List UInt8) × octet_Reader} (hx : g y0 = some x) : (s96 g).run [.pointer (some ⟨0, 0, none⟩)] [some [.string ⟨⟨y0.s⟩⟩, .bool y0.made, .bool y0.bad]] = some (rx96 x) := r96_c hx
abbrev sums96 (octet_Reader_Bad : octet_Reader → Option (Bool × octet_Reader)) (octet_Reader_Text : octet_Reader → Int → Option ((List UInt8) × octet_Reader)) : List (Nat × Summ) := [(72, s72 octet_Reader_Bad), (83, s83 octet_Reader_Text)]
theorem leads96 (octet_Reader_Bad : octet_Reader → Option (Bool × octet_Reader)) (octet_Reader_Text : octet_Reader → Int → Option ((List UInt8) × octet_Reader)) (hS : SumsOK Try.prog (aget (sums96 octet_Reader_Bad octet_Reader_Text))) (ra0 : octet_Reader) (res : (List UInt8) × octet_Reader) (h : octet_Reader_RestF octet_Reader_Bad octet_Reader_Text ra0 = some res) :
    Leads Try.prog 96 1 ⟨⟨96, 12, [(0, .pointer (some ⟨0, 0, none⟩))], [.code k96_9], [], false, none⟩, [], [(0, .cells [.string ⟨⟨ra0.s⟩⟩, .bool ra0.made, .bool ra0.bad])], 1⟩ (fun v H _ => Res 1 (rx96 res) v H) := by
  unfold octet_Reader_RestF at h
  refine ev_ok tab_ok hS true 3000 ?_
  conv => whnf
  obtain ⟨b, hy, h2⟩ := obind.elim h; clear h; have h := h2; clear h2
  refine sumK.introF [0] (sumRun_of (aqs := [.pointer (some ⟨0, 0, none⟩)]) (ws := [.win 0 0 3 true]) (n := 0) (m := 0) (t' := 1) (ra_cons rfl rfl ra_nil) rfl (by rfl) (r72_eq hy) rfl rfl rfl rfl (wb_win rfl rfl rfl ⟨rfl, Nat.le_of_ble_eq_true rfl⟩ rfl rfl wb_nil) an_nil rfl) ?_
  conv => whnf
  refine br.h h ?_ ?_ ?_
  · rfl
  · clear h; intro hb h; conv => whnf
    all_goals (cases h)
    all_goals exact Res.of [] rfl nw_0 (by decide) js_0 (wr_s (rfl) (hs_cells rfl) wr_0)
  clear h; intro hb h; conv => whnf
  obtain ⟨t, hy, h2⟩ := obind.elim h; clear h; have h := h2; clear h2
  refine sumK.introF [0] (sumRun_of (aqs := [.pointer (some ⟨0, 0, none⟩), .int .i64 (b.2.s.length : Int)]) (ws := [.win 0 0 3 true]) (n := 0) (m := 0) (t' := 1) (ra_cons rfl rfl (ra_cons rfl rfl ra_nil)) rfl (by rfl) (r83_eq hy) rfl rfl rfl rfl (wb_win rfl rfl rfl ⟨rfl, Nat.le_of_ble_eq_true rfl⟩ rfl rfl wb_nil) an_nil rfl) ?_
  conv => whnf
  all_goals (cases h)
  all_goals exact Res.of [] rfl nw_0 (by decide) js_0 (wr_s (rfl) (hs_cells rfl) wr_0)
theorem ok96 (octet_Reader_Bad : octet_Reader → Option (Bool × octet_Reader)) (octet_Reader_Text : octet_Reader → Int → Option ((List UInt8) × octet_Reader)) (hS : SumsOK Try.prog (aget (sums96 octet_Reader_Bad octet_Reader_Text))) : SumOK Try.prog 96 (s96 (octet_Reader_RestF octet_Reader_Bad octet_Reader_Text)) := by
  refine SumOK.of_leads tab_ok (fun ar os r ha hr => ?_) ⟨Try.f96, rfl, by decide, rfl⟩
  replace hr : r96 (octet_Reader_RestF octet_Reader_Bad octet_Reader_Text) ar (conts os) = some r := hr
  unfold r96 at hr
  generalize hc : conts os = C at hr
  have hq := dPt.elim hr; clear hr; obtain ⟨c0, l1, C, y0, rfl, rfl, e0, hr⟩ := hq; obtain rfl := unoctet_Reader_eq _ _ e0
  have hq := dEnd.elim hr; clear hr; obtain ⟨rfl, rfl, hr⟩ := hq
  have hq := ofG.elim hr; clear hr; obtain ⟨x, h, rfl⟩ := hq
  obtain ⟨os, rfl, ha, hc⟩ := kinds_some ha hc
  obtain rfl := kinds_nil hc
  exact ⟨_, rfl, leads96 octet_Reader_Bad octet_Reader_Text hS _ x h⟩
def octet_Reader_Rest : octet_Reader → Option ((List UInt8) × octet_Reader) := octet_Reader_RestF octet_Reader_Bad octet_Reader_Text
theorem lift96 : SumOK Try.prog 96 (s96 octet_Reader_Rest) := ok96 octet_Reader_Bad octet_Reader_Text (SumsOK.of_tab ⟨lift72, lift83, trivial⟩)
end Go.Vm.Code

namespace Go.Vm.Code
open Go Go.Vm Go.Proofs
set_option maxRecDepth 100000
set_option maxHeartbeats 4000000
set_option linter.unusedVariables false

/-! cloakroom/icmp.Get -/
def icmp_GetF (check_Right : (List UInt8) → Option Bool) (icmp_kind : Int → Int → Bool → Option Int) (icmp_over : api_Addr → api_Addr → Int → Option ((List UInt8) × Bool)) (octet_New : (List UInt8) → Option octet_Reader) (octet_Reader_Num : octet_Reader → Int → Option (Int × octet_Reader)) (octet_Reader_Rest : octet_Reader → Option ((List UInt8) × octet_Reader)) (s : List UInt8) (src : api_Addr) (dst : api_Addr) : Option (icmp_Message × Int) :=
  cond (decide ((s.length : Int) < 8))
    (
    some ((icmp_Message.mk 0 0 0 [], 2)))
    (
    (icmp_over src dst (s.length : Int)).bind fun xo =>
    cond (!xo.2)
      (
      some ((icmp_Message.mk 0 0 0 [], 1)))
      (
      oreq (decide (xo.1.length + s.length < 2 ^ 63)) <|
      (check_Right (xo.1 ++ s)).bind fun xr =>
      cond (!xr)
        (
        some ((icmp_Message.mk 0 0 0 [], 4)))
        (
        cond (decide ((s.length : Int) > 1240))
          (
          some ((icmp_Message.mk 0 0 0 [], 5)))
          (
          (octet_New s).bind fun n =>
          (octet_Reader_Num n 1).bind fun n1 =>
          (octet_Reader_Num n1.2 1).bind fun n2 =>
          (octet_Reader_Num n2.2 4).bind fun n3 =>
          (icmp_kind n1.1 n2.1 src.V6).bind fun k =>
          (octet_Reader_Num n3.2 2).bind fun n4 =>
          cond (k == 2)
            (
            (octet_Reader_Rest n4.2).bind fun xr1 =>
            some ((icmp_Message.mk k n2.1 n4.1 xr1.1, 0)))
            (
            (octet_Reader_Rest n4.2).bind fun xr2 =>
            some ((icmp_Message.mk k n2.1 0 xr2.1, 0)))))))
def rx34 (x : icmp_Message × Int) : SRes := ⟨.tuple ⟨[.agg ⟨[.int .i64 x.1.Kind, .int .i64 x.1.Code, .int .i64 x.1.MTU, .string ⟨⟨x.1.Quote⟩⟩]⟩, .int .i64 x.2]⟩, [], []⟩
def r34 (g : (List UInt8) → api_Addr → api_Addr → Option (icmp_Message × Int)) : Dec := dV asS fun (y0 : List UInt8) => dV uvapi_Addr fun (y1 : api_Addr) => dV uvapi_Addr fun (y2 : api_Addr) => dEnd (ofG (g y0 y1 y2) rx34)
theorem r34_c {g : (List UInt8) → api_Addr → api_Addr → Option (icmp_Message × Int)} {y0 : List UInt8} {y1 : api_Addr} {y2 : api_Addr} {x : icmp_Message × Int} (hx : g y0 y1 y2 = some x) : r34 g [.string ⟨⟨y0⟩⟩, .agg ⟨[.bool y1.V6, .int .u64 y1.Hi, .int .u64 y1.Lo]⟩, .agg ⟨[.bool y2.V6, .int .u64 y2.Hi, .int .u64 y2.Lo]⟩] [] = some (rx34 x) := (dV_eq (asS_c)).trans ((dV_eq (uvapi_Addr_c _)).trans ((dV_eq (uvapi_Addr_c _)).trans (ofG_eq hx)))
def s34 (g : (List UInt8) → api_Addr → api_Addr → Option (icmp_Message × Int)) : Summ := ⟨[.v, .v, .v], r34 g⟩
theorem r34_eq {g : (List UInt8) → api_Addr → api_Addr → Option (icmp_Message × Int)} {y0 : List UInt8} {y1 : api_Addr} {y2 : api_Addr} {x : icmp_Message × Int} (hx : g y0 y1 y2 = some x) : (s34 g).run [.string ⟨⟨y0⟩⟩, .agg ⟨[.bool y1.V6, .int .u64 y1.Hi, .int .u64 y1.Lo]⟩, .agg ⟨[.bool y2.V6, .int .u64 y2.Hi, .int .u64 y2.Lo]⟩] [] = some (rx34 x) := r34_c hx
abbrev sums34 (check_Right : (List UInt8) → Option Bool) (icmp_kind : Int → Int → Bool → Option Int) (icmp_over : api_Addr → api_Addr → Int → Option ((List UInt8) × Bool)) (octet_New : (List UInt8) → Option octet_Reader) (octet_Reader_Num : octet_Reader → Int → Option (Int × octet_Reader)) (octet_Reader_Rest : octet_Reader → Option ((List UInt8) × octet_Reader)) : List (Nat × Summ) := [(73, s73 check_Right), (95, s95 icmp_kind), (87, s87 icmp_over), (70, s70 octet_New), (71, s71 octet_Reader_Num), (96, s96 octet_Reader_Rest)]
theorem leads34 (check_Right : (List UInt8) → Option Bool) (icmp_kind : Int → Int → Bool → Option Int) (icmp_over : api_Addr → api_Addr → Int → Option ((List UInt8) × Bool)) (octet_New : (List UInt8) → Option octet_Reader) (octet_Reader_Num : octet_Reader → Int → Option (Int × octet_Reader)) (octet_Reader_Rest : octet_Reader → Option ((List UInt8) × octet_Reader)) (hS : SumsOK Try.prog (aget (sums34 check_Right icmp_kind icmp_over octet_New octet_Reader_Num octet_Reader_Rest))) (s : List UInt8) (src : api_Addr) (dst : api_Addr) (res : icmp_Message × Int) (h : icmp_GetF check_Right icmp_kind icmp_over octet_New octet_Reader_Num octet_Reader_Rest s src dst = some res) :
    Leads Try.prog 34 0 ⟨⟨34, 69, [(0, .string ⟨⟨s⟩⟩), (1, .agg ⟨[.bool src.V6, .int .u64 src.Hi, .int .u64 src.Lo]⟩), (2, .agg ⟨[.bool dst.V6, .int .u64 dst.Hi, .int .u64 dst.Lo]⟩)], [.code k34_45], [], false, none⟩, [], [], 0⟩ (fun v H _ => Res 0 (rx34 res) v H) := by
  unfold icmp_GetF at h
  refine ev_ok tab_ok hS true 3000 ?_
  conv => whnf
  refine br.h h ?_ ?_ ?_
  · rfl
  · clear h; intro hb h; conv => whnf
    all_goals (cases h)
    all_goals exact Res.of [] rfl nw_0 (by decide) js_0 wr_0
  clear h; intro hb h; conv => whnf
  obtain ⟨xo, hy, h2⟩ := obind.elim h; clear h; have h := h2; clear h2
  refine sumK.introF [] (sumRun_of (aqs := [.agg ⟨[.bool src.V6, .int .u64 src.Hi, .int .u64 src.Lo]⟩, .agg ⟨[.bool dst.V6, .int .u64 dst.Hi, .int .u64 dst.Lo]⟩, .int .i64 (s.length : Int)]) (ws := []) (n := 0) (m := 0) (t' := 3) (ra_cons rfl rfl (ra_cons rfl rfl (ra_cons rfl rfl ra_nil))) rfl (by rfl) (r87_eq hy) rfl rfl rfl rfl wb_nil an_nil rfl) ?_
  conv => whnf
  refine br.h h ?_ ?_ ?_
  · rfl
  · clear h; intro hb h; conv => whnf
    all_goals (cases h)
    all_goals exact Res.of [] rfl nw_0 (by decide) js_0 wr_0
  clear h; intro hb h; conv => whnf
  replace h := oreq.elim h; have hb := h.1; replace h := h.2
  first | (refine req.intro hb ?_; conv => whnf) | skip
  obtain ⟨xr, hy, h2⟩ := obind.elim h; clear h; have h := h2; clear h2
  refine sumK.introF [] (sumRun_of (aqs := [.string ⟨⟨xo.1 ++ s⟩⟩]) (ws := []) (n := 0) (m := 0) (t' := 3) (ra_cons rfl rfl ra_nil) rfl (by rfl) (r73_eq hy) rfl rfl rfl rfl wb_nil an_nil rfl) ?_
  conv => whnf
  refine br.h h ?_ ?_ ?_
  · rfl
  · clear h; intro hb h; conv => whnf
    all_goals (cases h)
    all_goals exact Res.of [] rfl nw_0 (by decide) js_0 wr_0
  clear h; intro hb h; conv => whnf
  refine br.h h ?_ ?_ ?_
  · rfl
  · clear h; intro hb h; conv => whnf
    all_goals (cases h)
    all_goals exact Res.of [] rfl nw_0 (by decide) js_0 wr_0
  clear h; intro hb h; conv => whnf
  obtain ⟨n, hy, h2⟩ := obind.elim h; clear h; have h := h2; clear h2
  refine sumK.introF [3] (sumRun_of (aqs := [.string ⟨⟨s⟩⟩]) (ws := []) (n := 1) (m := 0) (t' := 4) (ra_cons rfl rfl ra_nil) rfl (by rfl) (r70_eq hy) rfl rfl rfl rfl wb_nil (an_cons (rfl) an_nil) rfl) ?_
  conv => whnf
  obtain ⟨n1, hy, h2⟩ := obind.elim h; clear h; have h := h2; clear h2
  refine sumK.introF [3] (sumRun_of (aqs := [.pointer (some ⟨0, 0, none⟩), .int .i64 1]) (ws := [.win 3 0 3 true]) (n := 0) (m := 0) (t' := 4) (ra_cons rfl rfl (ra_cons rfl rfl ra_nil)) rfl (by rfl) (r71_eq hy) rfl rfl rfl rfl (wb_win rfl rfl rfl ⟨rfl, Nat.le_of_ble_eq_true rfl⟩ rfl rfl wb_nil) an_nil rfl) ?_
  conv => whnf
  obtain ⟨n2, hy, h2⟩ := obind.elim h; clear h; have h := h2; clear h2
  refine sumK.introF [3] (sumRun_of (aqs := [.pointer (some ⟨0, 0, none⟩), .int .i64 1]) (ws := [.win 3 0 3 true]) (n := 0) (m := 0) (t' := 4) (ra_cons rfl rfl (ra_cons rfl rfl ra_nil)) rfl (by rfl) (r71_eq hy) rfl rfl rfl rfl (wb_win rfl rfl rfl ⟨rfl, Nat.le_of_ble_eq_true rfl⟩ rfl rfl wb_nil) an_nil rfl) ?_
  conv => whnf
  obtain ⟨n3, hy, h2⟩ := obind.elim h; clear h; have h := h2; clear h2
  refine sumK.introF [3] (sumRun_of (aqs := [.pointer (some ⟨0, 0, none⟩), .int .i64 4]) (ws := [.win 3 0 3 true]) (n := 0) (m := 0) (t' := 4) (ra_cons rfl rfl (ra_cons rfl rfl ra_nil)) rfl (by rfl) (r71_eq hy) rfl rfl rfl rfl (wb_win rfl rfl rfl ⟨rfl, Nat.le_of_ble_eq_true rfl⟩ rfl rfl wb_nil) an_nil rfl) ?_
  conv => whnf
  obtain ⟨k, hy, h2⟩ := obind.elim h; clear h; have h := h2; clear h2
  refine sumK.introF [] (sumRun_of (aqs := [.int .i64 n1.1, .int .i64 n2.1, .bool src.V6]) (ws := []) (n := 0) (m := 0) (t' := 4) (ra_cons rfl rfl (ra_cons rfl rfl (ra_cons rfl rfl ra_nil))) rfl (by rfl) (r95_eq hy) rfl rfl rfl rfl wb_nil an_nil rfl) ?_
  conv => whnf
  obtain ⟨n4, hy, h2⟩ := obind.elim h; clear h; have h := h2; clear h2
  refine sumK.introF [3] (sumRun_of (aqs := [.pointer (some ⟨0, 0, none⟩), .int .i64 2]) (ws := [.win 3 0 3 true]) (n := 0) (m := 0) (t' := 5) (ra_cons rfl rfl (ra_cons rfl rfl ra_nil)) rfl (by rfl) (r71_eq hy) rfl rfl rfl rfl (wb_win rfl rfl rfl ⟨rfl, Nat.le_of_ble_eq_true rfl⟩ rfl rfl wb_nil) an_nil rfl) ?_
  conv => whnf
  refine br.h h ?_ ?_ ?_
  · rfl
  · clear h; intro hb h; conv => whnf
    obtain ⟨xr1, hy, h2⟩ := obind.elim h; clear h; have h := h2; clear h2
    refine sumK.introF [3] (sumRun_of (aqs := [.pointer (some ⟨0, 0, none⟩)]) (ws := [.win 3 0 3 true]) (n := 0) (m := 0) (t' := 5) (ra_cons rfl rfl ra_nil) rfl (by rfl) (r96_eq hy) rfl rfl rfl rfl (wb_win rfl rfl rfl ⟨rfl, Nat.le_of_ble_eq_true rfl⟩ rfl rfl wb_nil) an_nil rfl) ?_
    conv => whnf
    all_goals (cases h)
    all_goals exact Res.of [] rfl nw_0 (by decide) js_0 wr_0
  clear h; intro hb h; conv => whnf
  obtain ⟨xr2, hy, h2⟩ := obind.elim h; clear h; have h := h2; clear h2
  refine sumK.introF [3] (sumRun_of (aqs := [.pointer (some ⟨0, 0, none⟩)]) (ws := [.win 3 0 3 true]) (n := 0) (m := 0) (t' := 5) (ra_cons rfl rfl ra_nil) rfl (by rfl) (r96_eq hy) rfl rfl rfl rfl (wb_win rfl rfl rfl ⟨rfl, Nat.le_of_ble_eq_true rfl⟩ rfl rfl wb_nil) an_nil rfl) ?_
  conv => whnf
  all_goals (cases h)
  all_goals exact Res.of [] rfl nw_0 (by decide) js_0 wr_0
theorem ok34 (check_Right : (List UInt8) → Option Bool) (icmp_kind : Int → Int → Bool → Option Int) (icmp_over : api_Addr → api_Addr → Int → Option ((List UInt8) × Bool)) (octet_New : (List UInt8) → Option octet_Reader) (octet_Reader_Num : octet_Reader → Int → Option (Int × octet_Reader)) (octet_Reader_Rest : octet_Reader → Option ((List UInt8) × octet_Reader)) (hS : SumsOK Try.prog (aget (sums34 check_Right icmp_kind icmp_over octet_New octet_Reader_Num octet_Reader_Rest))) : SumOK Try.prog 34 (s34 (icmp_GetF check_Right icmp_kind icmp_over octet_New octet_Reader_Num octet_Reader_Rest)) := by
  refine SumOK.of_leads tab_ok (fun ar os r ha hr => ?_) ⟨Try.f34, rfl, by decide, rfl⟩
  replace hr : r34 (icmp_GetF check_Right icmp_kind icmp_over octet_New octet_Reader_Num octet_Reader_Rest) ar (conts os) = some r := hr
  unfold r34 at hr
  generalize hc : conts os = C at hr
  have hq := dV.elim hr; clear hr; obtain ⟨v0, l1, y0, rfl, e0, hr⟩ := hq; obtain rfl := asS_eq _ _ e0
  have hq := dV.elim hr; clear hr; obtain ⟨v1, l2, y1, rfl, e1, hr⟩ := hq; obtain rfl := uvapi_Addr_eq _ _ e1
  have hq := dV.elim hr; clear hr; obtain ⟨v2, l3, y2, rfl, e2, hr⟩ := hq; obtain rfl := uvapi_Addr_eq _ _ e2
  have hq := dEnd.elim hr; clear hr; obtain ⟨rfl, rfl, hr⟩ := hq
  have hq := ofG.elim hr; clear hr; obtain ⟨x, h, rfl⟩ := hq
  obtain rfl := kinds_nil hc
  exact ⟨_, rfl, leads34 check_Right icmp_kind icmp_over octet_New octet_Reader_Num octet_Reader_Rest hS _ _ _ x h⟩
def icmp_Get : (List UInt8) → api_Addr → api_Addr → Option (icmp_Message × Int) := icmp_GetF check_Right icmp_kind icmp_over octet_New octet_Reader_Num octet_Reader_Rest
theorem lift34 : SumOK Try.prog 34 (s34 icmp_Get) := ok34 check_Right icmp_kind icmp_over octet_New octet_Reader_Num octet_Reader_Rest (SumsOK.of_tab ⟨lift73, lift95, lift87, lift70, lift71, lift96, trivial⟩)
end Go.Vm.Code

namespace Go.Vm.Code
open Go Go.Vm Go.Proofs
set_option maxRecDepth 100000
set_option maxHeartbeats 4000000
set_option linter.unusedVariables false

/-! cloakroom/cloakroomref53.pair -/
def R53_pairF (R05_Pseudo : api_Addr → api_Addr → Int → Int → Option (List UInt8)) (src : api_Addr) (dst : api_Addr) : Option Bool :=
  (R05_Pseudo src dst 1 8).bind fun p =>
  some (!(p == []))
def rx91 (x : Bool) : SRes := ⟨.bool x, [], []⟩
def r91 (g : api_Addr → api_Addr → Option Bool) : Dec := dV uvapi_Addr fun (y0 : api_Addr) => dV uvapi_Addr fun (y1 : api_Addr) => dEnd (ofG (g y0 y1) rx91)
theorem r91_c {g : api_Addr → api_Addr → Option Bool} {y0 : api_Addr} {y1 : api_Addr} {x : Bool} (hx : g y0 y1 = some x) : r91 g [.agg ⟨[.bool y0.V6, .int .u64 y0.Hi, .int .u64 y0.Lo]⟩, .agg ⟨[.bool y1.V6, .int .u64 y1.Hi, .int .u64 y1.Lo]⟩] [] = some (rx91 x) := (dV_eq (uvapi_Addr_c _)).trans ((dV_eq (uvapi_Addr_c _)).trans (ofG_eq hx))
def s91 (g : api_Addr → api_Addr → Option Bool) : Summ := ⟨[.v, .v], r91 g⟩
theorem r91_eq {g : api_Addr → api_Addr → Option Bool} {y0 : api_Addr} {y1 : api_Addr} {x : Bool} (hx : g y0 y1 = some x) : (s91 g).run [.agg ⟨[.bool y0.V6, .int .u64 y0.Hi, .int .u64 y0.Lo]⟩, .agg ⟨[.bool y1.V6, .int .u64 y1.Hi, .int .u64 y1.Lo]⟩] [] = some (rx91 x) := r91_c hx
abbrev sums91 (R05_Pseudo : api_Addr → api_Addr → Int → Int → Option (List UInt8)) : List (Nat × Summ) := [(28, s28 R05_Pseudo)]
theorem leads91 (R05_Pseudo : api_Addr → api_Addr → Int → Int → Option (List UInt8)) (hS : SumsOK Try.prog (aget (sums91 R05_Pseudo))) (src : api_Addr) (dst : api_Addr) (res : Bool) (h : R53_pairF R05_Pseudo src dst = some res) :
    Leads Try.prog 91 0 ⟨⟨91, 9, [(0, .agg ⟨[.bool src.V6, .int .u64 src.Hi, .int .u64 src.Lo]⟩), (1, .agg ⟨[.bool dst.V6, .int .u64 dst.Hi, .int .u64 dst.Lo]⟩)], [.code k91_3], [], false, none⟩, [], [], 0⟩ (fun v H _ => Res 0 (rx91 res) v H) := by
  unfold R53_pairF at h
  refine ev_ok tab_ok hS true 3000 ?_
  conv => whnf
  obtain ⟨p, hy, h2⟩ := obind.elim h; clear h; have h := h2; clear h2
  refine sumK.introF [] (sumRun_of (aqs := [.agg ⟨[.bool src.V6, .int .u64 src.Hi, .int .u64 src.Lo]⟩, .agg ⟨[.bool dst.V6, .int .u64 dst.Hi, .int .u64 dst.Lo]⟩, .int .i64 1, .int .i64 8]) (ws := []) (n := 0) (m := 0) (t' := 2) (ra_cons rfl rfl (ra_cons rfl rfl (ra_cons rfl rfl (ra_cons rfl rfl ra_nil)))) rfl (by rfl) (r28_eq hy) rfl rfl rfl rfl wb_nil an_nil rfl) ?_
  conv => whnf
  all_goals (cases h)
  all_goals exact Res.of [] rfl nw_0 (by decide) js_0 wr_0
theorem ok91 (R05_Pseudo : api_Addr → api_Addr → Int → Int → Option (List UInt8)) (hS : SumsOK Try.prog (aget (sums91 R05_Pseudo))) : SumOK Try.prog 91 (s91 (R53_pairF R05_Pseudo)) := by
  refine SumOK.of_leads tab_ok (fun ar os r ha hr => ?_) ⟨Try.f91, rfl, by decide, rfl⟩
  replace hr : r91 (R53_pairF R05_Pseudo) ar (conts os) = some r := hr
  unfold r91 at hr
  generalize hc : conts os = C at hr
  have hq := dV.elim hr; clear hr; obtain ⟨v0, l1, y0, rfl, e0, hr⟩ := hq; obtain rfl := uvapi_Addr_eq _ _ e0
  have hq := dV.elim hr; clear hr; obtain ⟨v1, l2, y1, rfl, e1, hr⟩ := hq; obtain rfl := uvapi_Addr_eq _ _ e1
  have hq := dEnd.elim hr; clear hr; obtain ⟨rfl, rfl, hr⟩ := hq
  have hq := ofG.elim hr; clear hr; obtain ⟨x, h, rfl⟩ := hq
  obtain rfl := kinds_nil hc
  exact ⟨_, rfl, leads91 R05_Pseudo hS _ _ x h⟩
def R53_pair : api_Addr → api_Addr → Option Bool := R53_pairF R05_Pseudo
theorem lift91 : SumOK Try.prog 91 (s91 R53_pair) := ok91 R05_Pseudo (SumsOK.of_tab ⟨lift28, trivial⟩)
end Go.Vm.Code

namespace Go.Vm.Code
open Go Go.Vm Go.Proofs
set_option maxRecDepth 100000
set_option maxHeartbeats 4000000
set_option linter.unusedVariables false

/-! cloakroom/cloakroomref53.right -/
def R53_rightF (m : icmp_Message) (six : Bool) : Option Bool :=
  cond (decide (m.Kind < 1))
    (
    some (false))
    (
    cond (decide (m.Kind > 3))
      (
      some (false))
      (
      cond (decide (m.Code < 0))
        (
        some (false))
        (
        cond (decide (m.Code > 255))
          (
          some (false))
          (
          cond (decide (m.MTU < 0))
            (
            some (false))
            (
            cond (decide (m.MTU > 65535))
              (
              some (false))
              (
              cond (m.Kind != 2)
                (
                cond (m.MTU != 0)
                  (
                  some (false))
                  (
                  cond (decide ((m.Quote.length : Int) > 1232))
                    (
                    some (false))
                    (
                    cond (six)
                      (
                      some (true))
                      (
                      cond (m.Kind == 3)
                        (
                        some (true))
                        (
                        some ((m.Kind == 2) == (m.Code == 4)))))))
                (
                cond (decide ((m.Quote.length : Int) > 1232))
                  (
                  some (false))
                  (
                  cond (six)
                    (
                    some (m.Code == 0))
                    (
                    cond (m.Kind == 3)
                      (
                      some (true))
                      (
                      some ((m.Kind == 2) == (m.Code == 4))))))))))))
def rx92 (x : Bool) : SRes := ⟨.bool x, [], []⟩
def r92 (g : icmp_Message → Bool → Option Bool) : Dec := dV uvicmp_Message fun (y0 : icmp_Message) => dV asB fun (y1 : Bool) => dEnd (ofG (g y0 y1) rx92)
theorem r92_c {g : icmp_Message → Bool → Option Bool} {y0 : icmp_Message} {y1 : Bool} {x : Bool} (hx : g y0 y1 = some x) : r92 g [.agg ⟨[.int .i64 y0.Kind, .int .i64 y0.Code, .int .i64 y0.MTU, .string ⟨⟨y0.Quote⟩⟩]⟩, .bool y1] [] = some (rx92 x) := (dV_eq (uvicmp_Message_c _)).trans ((dV_eq (asB_c)).trans (ofG_eq hx))
def s92 (g : icmp_Message → Bool → Option Bool) : Summ := ⟨[.v, .v], r92 g⟩
theorem r92_eq {g : icmp_Message → Bool → Option Bool} {y0 : icmp_Message} {y1 : Bool} {x : Bool} (hx : g y0 y1 = some x) : (s92 g).run [.agg ⟨[.int .i64 y0.Kind, .int .i64 y0.Code, .int .i64 y0.MTU, .string ⟨⟨y0.Quote⟩⟩]⟩, .bool y1] [] = some (rx92 x) := r92_c hx
abbrev sums92 : List (Nat × Summ) := []
theorem leads92 (hS : SumsOK Try.prog (aget (sums92))) (m : icmp_Message) (six : Bool) (res : Bool) (h : R53_rightF m six = some res) :
    Leads Try.prog 92 0 ⟨⟨92, 70, [(0, .agg ⟨[.int .i64 m.Kind, .int .i64 m.Code, .int .i64 m.MTU, .string ⟨⟨m.Quote⟩⟩]⟩), (1, .bool six)], [.code k92_15], [], false, none⟩, [], [], 0⟩ (fun v H _ => Res 0 (rx92 res) v H) := by
  unfold R53_rightF at h
  refine ev_ok tab_ok hS true 3000 ?_
  conv => whnf
  refine br.h h ?_ ?_ ?_
  · rfl
  · clear h; intro hb h; conv => whnf
    all_goals (cases h)
    all_goals exact Res.of [] rfl nw_0 (by decide) js_0 wr_0
  clear h; intro hb h; conv => whnf
  refine br.h h ?_ ?_ ?_
  · rfl
  · clear h; intro hb h; conv => whnf
    all_goals (cases h)
    all_goals exact Res.of [] rfl nw_0 (by decide) js_0 wr_0
  clear h; intro hb h; conv => whnf
  refine br.h h ?_ ?_ ?_
  · rfl
  · clear h; intro hb h; conv => whnf
    all_goals (cases h)
    all_goals exact Res.of [] rfl nw_0 (by decide) js_0 wr_0
  clear h; intro hb h; conv => whnf
  refine br.h h ?_ ?_ ?_
  · rfl
  · clear h; intro hb h; conv => whnf
    all_goals (cases h)
    all_goals exact Res.of [] rfl nw_0 (by decide) js_0 wr_0
  clear h; intro hb h; conv => whnf
  refine br.h h ?_ ?_ ?_
  · rfl
  · clear h; intro hb h; conv => whnf
    all_goals (cases h)
    all_goals exact Res.of [] rfl nw_0 (by decide) js_0 wr_0
  clear h; intro hb h; conv => whnf
  refine br.h h ?_ ?_ ?_
  · rfl
  · clear h; intro hb h; conv => whnf
    all_goals (cases h)
    all_goals exact Res.of [] rfl nw_0 (by decide) js_0 wr_0
  clear h; intro hb h; conv => whnf
  refine br.h2 h ?_ ?_ ?_
  · rfl
  · clear h; intro hb h; conv => whnf
    refine br.h h ?_ ?_ ?_
    · rfl
    · clear h; intro hb h; conv => whnf
      all_goals (cases h)
      all_goals exact Res.of [] rfl nw_0 (by decide) js_0 wr_0
    clear h; intro hb h; conv => whnf
    refine br.h h ?_ ?_ ?_
    · rfl
    · clear h; intro hb h; conv => whnf
      refine br.neg ?_ ?_; (focus (clear h; first | assumption | (simp_all; done)))
      conv => whnf
      all_goals (cases h)
      all_goals exact Res.of [] rfl nw_0 (by decide) js_0 wr_0
    clear h; intro hb h; conv => whnf
    refine br.h h ?_ ?_ ?_
    · rfl
    · clear h; intro hb h; conv => whnf
      all_goals (cases h)
      all_goals exact Res.of [] rfl nw_0 (by decide) js_0 wr_0
    clear h; intro hb h; conv => whnf
    all_goals (cases h)
    all_goals exact Res.of [] rfl nw_0 (by decide) js_0 wr_0
  clear h; intro hb h; conv => whnf
  refine br.h h ?_ ?_ ?_
  · rfl
  · clear h; intro hb h; conv => whnf
    all_goals (cases h)
    all_goals exact Res.of [] rfl nw_0 (by decide) js_0 wr_0
  clear h; intro hb h; conv => whnf
  refine br.h h ?_ ?_ ?_
  · rfl
  · clear h; intro hb h; conv => whnf
    all_goals (cases h)
    all_goals exact Res.of [] rfl nw_0 (by decide) js_0 wr_0
  clear h; intro hb h; conv => whnf
  refine br.h h ?_ ?_ ?_
  · rfl
  · clear h; intro hb h; conv => whnf
    refine br.pos ?_ ?_; (focus (clear h; first | assumption | (simp_all; done)))
    conv => whnf
    all_goals (cases h)
    all_goals exact Res.of [] rfl nw_0 (by decide) js_0 wr_0
  clear h; intro hb h; conv => whnf
  refine br.h h ?_ ?_ ?_
  · rfl
  · clear h; intro hb h; conv => whnf
    all_goals (cases h)
    all_goals exact Res.of [] rfl nw_0 (by decide) js_0 wr_0
  clear h; intro hb h; conv => whnf
  all_goals (cases h)
  all_goals exact Res.of [] rfl nw_0 (by decide) js_0 wr_0
theorem ok92 (hS : SumsOK Try.prog (aget (sums92))) : SumOK Try.prog 92 (s92 (R53_rightF)) := by
  refine SumOK.of_leads tab_ok (fun ar os r ha hr => ?_) ⟨Try.f92, rfl, by decide, rfl⟩
  replace hr : r92 (R53_rightF) ar (conts os) = some r := hr
  unfold r92 at hr
  generalize hc : conts os = C at hr
  have hq := dV.elim hr; clear hr; obtain ⟨v0, l1, y0, rfl, e0, hr⟩ := hq; obtain rfl := uvicmp_Message_eq _ _ e0
  have hq := dV.elim hr; clear hr; obtain ⟨v1, l2, y1, rfl, e1, hr⟩ := hq; obtain rfl := asB_eq _ _ e1
  have hq := dEnd.elim hr; clear hr; obtain ⟨rfl, rfl, hr⟩ := hq
  have hq := ofG.elim hr; clear hr; obtain ⟨x, h, rfl⟩ := hq
  obtain rfl := kinds_nil hc
  exact ⟨_, rfl, leads92 hS _ _ x h⟩
def R53_right : icmp_Message → Bool → Option Bool := R53_rightF
theorem lift92 : SumOK Try.prog 92 (s92 R53_right) := ok92 (SumsOK.of_tab trivial)
end Go.Vm.Code

namespace Go.Vm.Code
open Go Go.Vm Go.Proofs
set_option maxRecDepth 100000
set_option maxHeartbeats 4000000
set_option linter.unusedVariables false

/-! cloakroom/cloakroomref53.typ -/
def R53_typF (six : Bool) (k : Int) : Option Int :=
  cond (six)
    (
    some (k))
    (
    cond (k == 3)
      (
      some (11))
      (
      some (3)))
def rx93 (x : Int) : SRes := ⟨.int .i64 x, [], []⟩
def r93 (g : Bool → Int → Option Int) : Dec := dV asB fun (y0 : Bool) => dV (asI .i64) fun (y1 : Int) => dEnd (ofG (g y0 y1) rx93)
theorem r93_c {g : Bool → Int → Option Int} {y0 : Bool} {y1 : Int} {x : Int} (hx : g y0 y1 = some x) : r93 g [.bool y0, .int .i64 y1] [] = some (rx93 x) := (dV_eq (asB_c)).trans ((dV_eq (asI_c _)).trans (ofG_eq hx))
def s93 (g : Bool → Int → Option Int) : Summ := ⟨[.v, .v], r93 g⟩
theorem r93_eq {g : Bool → Int → Option Int} {y0 : Bool} {y1 : Int} {x : Int} (hx : g y0 y1 = some x) : (s93 g).run [.bool y0, .int .i64 y1] [] = some (rx93 x) := r93_c hx
abbrev sums93 : List (Nat × Summ) := []
theorem leads93 (hS : SumsOK Try.prog (aget (sums93))) (six : Bool) (k : Int) (res : Int) (h : R53_typF six k = some res) :
    Leads Try.prog 93 0 ⟨⟨93, 9, [(0, .bool six), (1, .int .i64 k)], [.code k93_15], [], false, none⟩, [], [], 0⟩ (fun v H _ => Res 0 (rx93 res) v H) := by
  unfold R53_typF at h
  refine ev_ok tab_ok hS true 3000 ?_
  conv => whnf
  refine br.h h ?_ ?_ ?_
  · rfl
  · clear h; intro hb h; conv => whnf
    all_goals (cases h)
    all_goals exact Res.of [] rfl nw_0 (by decide) js_0 wr_0
  clear h; intro hb h; conv => whnf
  refine br.h h ?_ ?_ ?_
  · rfl
  · clear h; intro hb h; conv => whnf
    all_goals (cases h)
    all_goals exact Res.of [] rfl nw_0 (by decide) js_0 wr_0
  clear h; intro hb h; conv => whnf
  all_goals (cases h)
  all_goals exact Res.of [] rfl nw_0 (by decide) js_0 wr_0
theorem ok93 (hS : SumsOK Try.prog (aget (sums93))) : SumOK Try.prog 93 (s93 (R53_typF)) := by
  refine SumOK.of_leads tab_ok (fun ar os r ha hr => ?_) ⟨Try.f93, rfl, by decide, rfl⟩
  replace hr : r93 (R53_typF) ar (conts os) = some r := hr
  unfold r93 at hr
  generalize hc : conts os = C at hr
  have hq := dV.elim hr; clear hr; obtain ⟨v0, l1, y0, rfl, e0, hr⟩ := hq; obtain rfl := asB_eq _ _ e0
  have hq := dV.elim hr; clear hr; obtain ⟨v1, l2, y1, rfl, e1, hr⟩ := hq; obtain rfl := asI_eq _ _ _ e1
  have hq := dEnd.elim hr; clear hr; obtain ⟨rfl, rfl, hr⟩ := hq
  have hq := ofG.elim hr; clear hr; obtain ⟨x, h, rfl⟩ := hq
  obtain rfl := kinds_nil hc
  exact ⟨_, rfl, leads93 hS _ _ x h⟩
def R53_typ : Bool → Int → Option Int := R53_typF
theorem lift93 : SumOK Try.prog 93 (s93 R53_typ) := ok93 (SumsOK.of_tab trivial)
end Go.Vm.Code

namespace Go.Vm.Code
open Go Go.Vm Go.Proofs
set_option maxRecDepth 100000
set_option maxHeartbeats 4000000
set_option linter.unusedVariables false

/-! cloakroom/cloakroomref53.over -/
def R53_overF (R05_Pseudo : api_Addr → api_Addr → Int → Int → Option (List UInt8)) (src : api_Addr) (dst : api_Addr) (n : Int) : Option (List UInt8) :=
  cond (src.V6)
    (
    (R05_Pseudo src dst 58 n).bind fun p =>
    some (p))
    (
    some ([]))
def rx94 (x : List UInt8) : SRes := ⟨.string ⟨⟨x⟩⟩, [], []⟩
def r94 (g : api_Addr → api_Addr → Int → Option (List UInt8)) : Dec := dV uvapi_Addr fun (y0 : api_Addr) => dV uvapi_Addr fun (y1 : api_Addr) => dV (asI .i64) fun (y2 : Int) => dEnd (ofG (g y0 y1 y2) rx94)
theorem r94_c {g : api_Addr → api_Addr → Int → Option (List UInt8)} {y0 : api_Addr} {y1 : api_Addr} {y2 : Int} {x : List UInt8} (hx : g y0 y1 y2 = some x) : r94 g [.agg ⟨[.bool y0.V6, .int .u64 y0.Hi, .int .u64 y0.Lo]⟩, .agg ⟨[.bool y1.V6, .int .u64 y1.Hi, .int .u64 y1.Lo]⟩, .int .i64 y2] [] = some (rx94 x) := (dV_eq (uvapi_Addr_c _)).trans ((dV_eq (uvapi_Addr_c _)).trans ((dV_eq (asI_c _)).trans (ofG_eq hx)))
def s94 (g : api_Addr → api_Addr → Int → Option (List UInt8)) : Summ := ⟨[.v, .v, .v], r94 g⟩
theorem r94_eq {g : api_Addr → api_Addr → Int → Option (List UInt8)} {y0 : api_Addr} {y1 : api_Addr} {y2 : Int} {x : List UInt8} (hx : g y0 y1 y2 = some x) : (s94 g).run [.agg ⟨[.bool y0.V6, .int .u64 y0.Hi, .int .u64 y0.Lo]⟩, .agg ⟨[.bool y1.V6, .int .u64 y1.Hi, .int .u64 y1.Lo]⟩, .int .i64 y2] [] = some (rx94 x) := r94_c hx
abbrev sums94 (R05_Pseudo : api_Addr → api_Addr → Int → Int → Option (List UInt8)) : List (Nat × Summ) := [(28, s28 R05_Pseudo)]
theorem leads94 (R05_Pseudo : api_Addr → api_Addr → Int → Int → Option (List UInt8)) (hS : SumsOK Try.prog (aget (sums94 R05_Pseudo))) (src : api_Addr) (dst : api_Addr) (n : Int) (res : List UInt8) (h : R53_overF R05_Pseudo src dst n = some res) :
    Leads Try.prog 94 0 ⟨⟨94, 13, [(0, .agg ⟨[.bool src.V6, .int .u64 src.Hi, .int .u64 src.Lo]⟩), (1, .agg ⟨[.bool dst.V6, .int .u64 dst.Hi, .int .u64 dst.Lo]⟩), (2, .int .i64 n)], [.code k94_9], [], false, none⟩, [], [], 0⟩ (fun v H _ => Res 0 (rx94 res) v H) := by
  unfold R53_overF at h
  refine ev_ok tab_ok hS true 3000 ?_
  conv => whnf
  refine br.h2 h ?_ ?_ ?_
  · rfl
  · clear h; intro hb h; conv => whnf
    all_goals (cases h)
    all_goals exact Res.of [] rfl nw_0 (by decide) js_0 wr_0
  clear h; intro hb h; conv => whnf
  obtain ⟨p, hy, h2⟩ := obind.elim h; clear h; have h := h2; clear h2
  refine sumK.introF [] (sumRun_of (aqs := [.agg ⟨[.bool src.V6, .int .u64 src.Hi, .int .u64 src.Lo]⟩, .agg ⟨[.bool dst.V6, .int .u64 dst.Hi, .int .u64 dst.Lo]⟩, .int .i64 58, .int .i64 n]) (ws := []) (n := 0) (m := 0) (t' := 2) (ra_cons rfl rfl (ra_cons rfl rfl (ra_cons rfl rfl (ra_cons rfl rfl ra_nil)))) rfl (by rfl) (r28_eq hy) rfl rfl rfl rfl wb_nil an_nil rfl) ?_
  conv => whnf
  all_goals (cases h)
  all_goals exact Res.of [] rfl nw_0 (by decide) js_0 wr_0
theorem ok94 (R05_Pseudo : api_Addr → api_Addr → Int → Int → Option (List UInt8)) (hS : SumsOK Try.prog (aget (sums94 R05_Pseudo))) : SumOK Try.prog 94 (s94 (R53_overF R05_Pseudo)) := by
  refine SumOK.of_leads tab_ok (fun ar os r ha hr => ?_) ⟨Try.f94, rfl, by decide, rfl⟩
  replace hr : r94 (R53_overF R05_Pseudo) ar (conts os) = some r := hr
  unfold r94 at hr
  generalize hc : conts os = C at hr
  have hq := dV.elim hr; clear hr; obtain ⟨v0, l1, y0, rfl, e0, hr⟩ := hq; obtain rfl := uvapi_Addr_eq _ _ e0
  have hq := dV.elim hr; clear hr; obtain ⟨v1, l2, y1, rfl, e1, hr⟩ := hq; obtain rfl := uvapi_Addr_eq _ _ e1
  have hq := dV.elim hr; clear hr; obtain ⟨v2, l3, y2, rfl, e2, hr⟩ := hq; obtain rfl := asI_eq _ _ _ e2
  have hq := dEnd.elim hr; clear hr; obtain ⟨rfl, rfl, hr⟩ := hq
  have hq := ofG.elim hr; clear hr; obtain ⟨x, h, rfl⟩ := hq
  obtain rfl := kinds_nil hc
  exact ⟨_, rfl, leads94 R05_Pseudo hS _ _ _ x h⟩
def R53_over : api_Addr → api_Addr → Int → Option (List UInt8) := R53_overF R05_Pseudo
theorem lift94 : SumOK Try.prog 94 (s94 R53_over) := ok94 R05_Pseudo (SumsOK.of_tab ⟨lift28, trivial⟩)
end Go.Vm.Code

namespace Go.Vm.Code
open Go Go.Vm Go.Proofs
set_option maxRecDepth 100000
set_option maxHeartbeats 4000000
set_option linter.unusedVariables false

/-! cloakroom/cloakroomref53.Put -/
def R53_PutF (R02_Put : Int → Int → Option (List UInt8)) (R03_Of : (List UInt8) → Option Int) (R03_Set : (List UInt8) → Int → Int → Int → Option (List UInt8)) (R53_over : api_Addr → api_Addr → Int → Option (List UInt8)) (R53_pair : api_Addr → api_Addr → Option Bool) (R53_right : icmp_Message → Bool → Option Bool) (R53_typ : Bool → Int → Option Int) (m : icmp_Message) (src : api_Addr) (dst : api_Addr) : Option ((List UInt8) × Int) :=
  (R53_pair src dst).bind fun p =>
  cond (!p)
    (
    some (([], 1)))
    (
    (R53_right m src.V6).bind fun xr =>
    cond (!xr)
      (
      some (([], 1)))
      (
      (R53_typ src.V6 m.Kind).bind fun t =>
      (R02_Put (wI .u64 t) 1).bind fun p1 =>
      (R02_Put (wI .u64 m.Code) 1).bind fun p2 =>
      oreq (decide (p1.length + p2.length < 2 ^ 63)) <|
      oreq (decide ((p1 ++ p2).length + 4 < 2 ^ 63)) <|
      (R02_Put (wI .u64 m.MTU) 2).bind fun p3 =>
      oreq (decide (((p1 ++ p2) ++ [0, 0, 0, 0]).length + p3.length < 2 ^ 63)) <|
      oreq (decide ((((p1 ++ p2) ++ [0, 0, 0, 0]) ++ p3).length + m.Quote.length < 2 ^ 63)) <|
      let t1 := (((p1 ++ p2) ++ [0, 0, 0, 0]) ++ p3) ++ m.Quote
      (R53_over src dst (t1.length : Int)).bind fun xo =>
      oreq (decide (xo.length + t1.length < 2 ^ 63)) <|
      (R03_Of (xo ++ t1)).bind fun xo1 =>
      (R03_Set t1 2 2 (wI .u64 xo1)).bind fun s =>
      some ((s, 0))))
def rx33 (x : (List UInt8) × Int) : SRes := ⟨.tuple ⟨[.string ⟨⟨x.1⟩⟩, .int .i64 x.2]⟩, [], []⟩
def r33 (g : icmp_Message → api_Addr → api_Addr → Option ((List UInt8) × Int)) : Dec := dV uvicmp_Message fun (y0 : icmp_Message) => dV uvapi_Addr fun (y1 : api_Addr) => dV uvapi_Addr fun (y2 : api_Addr) => dEnd (ofG (g y0 y1 y2) rx33)
theorem r33_c {g : icmp_Message → api_Addr → api_Addr → Option ((List UInt8) × Int)} {y0 : icmp_Message} {y1 : api_Addr} {y2 : api_Addr} {x : (List UInt8) × Int} (hx : g y0 y1 y2 = some x) : r33 g [.agg ⟨[.int .i64 y0.Kind, .int .i64 y0.Code, .int .i64 y0.MTU, .string ⟨⟨y0.Quote⟩⟩]⟩, .agg ⟨[.bool y1.V6, .int .u64 y1.Hi, .int .u64 y1.Lo]⟩, .agg ⟨[.bool y2.V6, .int .u64 y2.Hi, .int .u64 y2.Lo]⟩] [] = some (rx33 x) := (dV_eq (uvicmp_Message_c _)).trans ((dV_eq (uvapi_Addr_c _)).trans ((dV_eq (uvapi_Addr_c _)).trans (ofG_eq hx)))
def s33 (g : icmp_Message → api_Addr → api_Addr → Option ((List UInt8) × Int)) : Summ := ⟨[.v, .v, .v], r33 g⟩
theorem r33_eq {g : icmp_Message → api_Addr → api_Addr → Option ((List UInt8) × Int)} {y0 : icmp_Message} {y1 : api_Addr} {y2 : api_Addr} {x : (List UInt8) × Int} (hx : g y0 y1 y2 = some x) : (s33 g).run [.agg ⟨[.int .i64 y0.Kind, .int .i64 y0.Code, .int .i64 y0.MTU, .string ⟨⟨y0.Quote⟩⟩]⟩, .agg ⟨[.bool y1.V6, .int .u64 y1.Hi, .int .u64 y1.Lo]⟩, .agg ⟨[.bool y2.V6, .int .u64 y2.Hi, .int .u64 y2.Lo]⟩] [] = some (rx33 x) := r33_c hx
abbrev sums33 (R02_Put : Int → Int → Option (List UInt8)) (R03_Of : (List UInt8) → Option Int) (R03_Set : (List UInt8) → Int → Int → Int → Option (List UInt8)) (R53_over : api_Addr → api_Addr → Int → Option (List UInt8)) (R53_pair : api_Addr → api_Addr → Option Bool) (R53_right : icmp_Message → Bool → Option Bool) (R53_typ : Bool → Int → Option Int) : List (Nat × Summ) := [(67, s67 R02_Put), (68, s68 R03_Of), (69, s69 R03_Set), (94, s94 R53_over), (91, s91 R53_pair), (92, s92 R53_right), (93, s93 R53_typ)]
theorem leads33 (R02_Put : Int → Int → Option (List UInt8)) (R03_Of : (List UInt8) → Option Int) (R03_Set : (List UInt8) → Int → Int → Int → Option (List UInt8)) (R53_over : api_Addr → api_Addr → Int → Option (List UInt8)) (R53_pair : api_Addr → api_Addr → Option Bool) (R53_right : icmp_Message → Bool → Option Bool) (R53_typ : Bool → Int → Option Int) (hS : SumsOK Try.prog (aget (sums33 R02_Put R03_Of R03_Set R53_over R53_pair R53_right R53_typ))) (m : icmp_Message) (src : api_Addr) (dst : api_Addr) (res : (List UInt8) × Int) (h : R53_PutF R02_Put R03_Of R03_Set R53_over R53_pair R53_right R53_typ m src dst = some res) :
    Leads Try.prog 33 0 ⟨⟨33, 52, [(0, .agg ⟨[.int .i64 m.Kind, .int .i64 m.Code, .int .i64 m.MTU, .string ⟨⟨m.Quote⟩⟩]⟩), (1, .agg ⟨[.bool src.V6, .int .u64 src.Hi, .int .u64 src.Lo]⟩), (2, .agg ⟨[.bool dst.V6, .int .u64 dst.Hi, .int .u64 dst.Lo]⟩)], [.code k33_11], [], false, none⟩, [], [], 0⟩ (fun v H _ => Res 0 (rx33 res) v H) := by
  unfold R53_PutF at h
  refine ev_ok tab_ok hS true 3000 ?_
  conv => whnf
  obtain ⟨p, hy, h2⟩ := obind.elim h; clear h; have h := h2; clear h2
  refine sumK.introF [] (sumRun_of (aqs := [.agg ⟨[.bool src.V6, .int .u64 src.Hi, .int .u64 src.Lo]⟩, .agg ⟨[.bool dst.V6, .int .u64 dst.Hi, .int .u64 dst.Lo]⟩]) (ws := []) (n := 0) (m := 0) (t' := 3) (ra_cons rfl rfl (ra_cons rfl rfl ra_nil)) rfl (by rfl) (r91_eq hy) rfl rfl rfl rfl wb_nil an_nil rfl) ?_
  conv => whnf
  refine br.h h ?_ ?_ ?_
  · rfl
  · clear h; intro hb h; conv => whnf
    all_goals (cases h)
    all_goals exact Res.of [] rfl nw_0 (by decide) js_0 wr_0
  clear h; intro hb h; conv => whnf
  obtain ⟨xr, hy, h2⟩ := obind.elim h; clear h; have h := h2; clear h2
  refine sumK.introF [] (sumRun_of (aqs := [.agg ⟨[.int .i64 m.Kind, .int .i64 m.Code, .int .i64 m.MTU, .string ⟨⟨m.Quote⟩⟩]⟩, .bool src.V6]) (ws := []) (n := 0) (m := 0) (t' := 3) (ra_cons rfl rfl (ra_cons rfl rfl ra_nil)) rfl (by rfl) (r92_eq hy) rfl rfl rfl rfl wb_nil an_nil rfl) ?_
  conv => whnf
  refine br.h h ?_ ?_ ?_
  · rfl
  · clear h; intro hb h; conv => whnf
    all_goals (cases h)
    all_goals exact Res.of [] rfl nw_0 (by decide) js_0 wr_0
  clear h; intro hb h; conv => whnf
  obtain ⟨t, hy, h2⟩ := obind.elim h; clear h; have h := h2; clear h2
  refine sumK.introF [] (sumRun_of (aqs := [.bool src.V6, .int .i64 m.Kind]) (ws := []) (n := 0) (m := 0) (t' := 7) (ra_cons rfl rfl (ra_cons rfl rfl ra_nil)) rfl (by rfl) (r93_eq hy) rfl rfl rfl rfl wb_nil an_nil rfl) ?_
  conv => whnf
  obtain ⟨p1, hy, h2⟩ := obind.elim h; clear h; have h := h2; clear h2
  refine sumK.introF [] (sumRun_of (aqs := [.int .u64 (wI .u64 t), .int .i64 1]) (ws := []) (n := 0) (m := 0) (t' := 9) (ra_cons rfl rfl (ra_cons rfl rfl ra_nil)) rfl (by rfl) (r67_eq hy) rfl rfl rfl rfl wb_nil an_nil rfl) ?_
  conv => whnf
  obtain ⟨p2, hy, h2⟩ := obind.elim h; clear h; have h := h2; clear h2
  refine sumK.introF [] (sumRun_of (aqs := [.int .u64 (wI .u64 m.Code), .int .i64 1]) (ws := []) (n := 0) (m := 0) (t' := 13) (ra_cons rfl rfl (ra_cons rfl rfl ra_nil)) rfl (by rfl) (r67_eq hy) rfl rfl rfl rfl wb_nil an_nil rfl) ?_
  conv => whnf
  replace h := oreq.elim h; have hb := h.1; replace h := h.2
  first | (refine req.intro hb ?_; conv => whnf) | skip
  replace h := oreq.elim h; have hb := h.1; replace h := h.2
  first | (refine req.intro hb ?_; conv => whnf) | skip
  obtain ⟨p3, hy, h2⟩ := obind.elim h; clear h; have h := h2; clear h2
  refine sumK.introF [] (sumRun_of (aqs := [.int .u64 (wI .u64 m.MTU), .int .i64 2]) (ws := []) (n := 0) (m := 0) (t' := 19) (ra_cons rfl rfl (ra_cons rfl rfl ra_nil)) rfl (by rfl) (r67_eq hy) rfl rfl rfl rfl wb_nil an_nil rfl) ?_
  conv => whnf
  replace h := oreq.elim h; have hb := h.1; replace h := h.2
  first | (refine req.intro hb ?_; conv => whnf) | skip
  replace h := oreq.elim h; have hb := h.1; replace h := h.2
  first | (refine req.intro hb ?_; conv => whnf) | skip
  let t1 : List UInt8 := (((p1 ++ p2) ++ [0, 0, 0, 0]) ++ p3) ++ m.Quote
  obtain ⟨xo, hy, h2⟩ := obind.elim h; clear h; have h := h2; clear h2
  refine sumK.introF [] (sumRun_of (aqs := [.agg ⟨[.bool src.V6, .int .u64 src.Hi, .int .u64 src.Lo]⟩, .agg ⟨[.bool dst.V6, .int .u64 dst.Hi, .int .u64 dst.Lo]⟩, .int .i64 (t1.length : Int)]) (ws := []) (n := 0) (m := 0) (t' := 23) (ra_cons rfl rfl (ra_cons rfl rfl (ra_cons rfl rfl ra_nil))) rfl (by rfl) (r94_eq hy) rfl rfl rfl rfl wb_nil an_nil rfl) ?_
  conv => whnf
  replace h := oreq.elim h; have hb := h.1; replace h := h.2
  first | (refine req.intro hb ?_; conv => whnf) | skip
  obtain ⟨xo1, hy, h2⟩ := obind.elim h; clear h; have h := h2; clear h2
  refine sumK.introF [] (sumRun_of (aqs := [.string ⟨⟨xo ++ t1⟩⟩]) (ws := []) (n := 0) (m := 0) (t' := 23) (ra_cons rfl rfl ra_nil) rfl (by rfl) (r68_eq hy) rfl rfl rfl rfl wb_nil an_nil rfl) ?_
  conv => whnf
  obtain ⟨s, hy, h2⟩ := obind.elim h; clear h; have h := h2; clear h2
  refine sumK.introF [] (sumRun_of (aqs := [.string ⟨⟨t1⟩⟩, .int .i64 2, .int .i64 2, .int .u64 (wI .u64 xo1)]) (ws := []) (n := 0) (m := 0) (t' := 23) (ra_cons rfl rfl (ra_cons rfl rfl (ra_cons rfl rfl (ra_cons rfl rfl ra_nil)))) rfl (by rfl) (r69_eq hy) rfl rfl rfl rfl wb_nil an_nil rfl) ?_
  conv => whnf
  all_goals (cases h)
  all_goals exact Res.of [] rfl nw_0 (by decide) js_0 wr_0
theorem ok33 (R02_Put : Int → Int → Option (List UInt8)) (R03_Of : (List UInt8) → Option Int) (R03_Set : (List UInt8) → Int → Int → Int → Option (List UInt8)) (R53_over : api_Addr → api_Addr → Int → Option (List UInt8)) (R53_pair : api_Addr → api_Addr → Option Bool) (R53_right : icmp_Message → Bool → Option Bool) (R53_typ : Bool → Int → Option Int) (hS : SumsOK Try.prog (aget (sums33 R02_Put R03_Of R03_Set R53_over R53_pair R53_right R53_typ))) : SumOK Try.prog 33 (s33 (R53_PutF R02_Put R03_Of R03_Set R53_over R53_pair R53_right R53_typ)) := by
  refine SumOK.of_leads tab_ok (fun ar os r ha hr => ?_) ⟨Try.f33, rfl, by decide, rfl⟩
  replace hr : r33 (R53_PutF R02_Put R03_Of R03_Set R53_over R53_pair R53_right R53_typ) ar (conts os) = some r := hr
  unfold r33 at hr
  generalize hc : conts os = C at hr
  have hq := dV.elim hr; clear hr; obtain ⟨v0, l1, y0, rfl, e0, hr⟩ := hq; obtain rfl := uvicmp_Message_eq _ _ e0
  have hq := dV.elim hr; clear hr; obtain ⟨v1, l2, y1, rfl, e1, hr⟩ := hq; obtain rfl := uvapi_Addr_eq _ _ e1
  have hq := dV.elim hr; clear hr; obtain ⟨v2, l3, y2, rfl, e2, hr⟩ := hq; obtain rfl := uvapi_Addr_eq _ _ e2
  have hq := dEnd.elim hr; clear hr; obtain ⟨rfl, rfl, hr⟩ := hq
  have hq := ofG.elim hr; clear hr; obtain ⟨x, h, rfl⟩ := hq
  obtain rfl := kinds_nil hc
  exact ⟨_, rfl, leads33 R02_Put R03_Of R03_Set R53_over R53_pair R53_right R53_typ hS _ _ _ x h⟩
def R53_Put : icmp_Message → api_Addr → api_Addr → Option ((List UInt8) × Int) := R53_PutF R02_Put R03_Of R03_Set R53_over R53_pair R53_right R53_typ
theorem lift33 : SumOK Try.prog 33 (s33 R53_Put) := ok33 R02_Put R03_Of R03_Set R53_over R53_pair R53_right R53_typ (SumsOK.of_tab ⟨lift67, lift68, lift69, lift94, lift91, lift92, lift93, trivial⟩)
end Go.Vm.Code

namespace Go.Vm.Code
open Go Go.Vm Go.Proofs
set_option maxRecDepth 100000
set_option maxHeartbeats 4000000
set_option linter.unusedVariables false

/-! cloakroom/cloakroomref53.kind -/
def R53_kindF (six : Bool) (typ : Int) (code : Int) : Option Int :=
  cond (six)
    (
    cond (decide (typ ≥ 1))
      (
      cond (decide (typ ≤ 3))
        (
        cond (typ != 2)
          (
          some (typ))
          (
          cond (code == 0)
            (
            some (typ))
            (
            some (4))))
        (
        some (4)))
      (
      some (4)))
    (
    cond (typ == 11)
      (
      some (3))
      (
      cond (typ != 3)
        (
        some (4))
        (
        cond (code == 4)
          (
          some (2))
          (
          some (1)))))
def rx97 (x : Int) : SRes := ⟨.int .i64 x, [], []⟩
def r97 (g : Bool → Int → Int → Option Int) : Dec := dV asB fun (y0 : Bool) => dV (asI .i64) fun (y1 : Int) => dV (asI .i64) fun (y2 : Int) => dEnd (ofG (g y0 y1 y2) rx97)
theorem r97_c {g : Bool → Int → Int → Option Int} {y0 : Bool} {y1 : Int} {y2 : Int} {x : Int} (hx : g y0 y1 y2 = some x) : r97 g [.bool y0, .int .i64 y1, .int .i64 y2] [] = some (rx97 x) := (dV_eq (asB_c)).trans ((dV_eq (asI_c _)).trans ((dV_eq (asI_c _)).trans (ofG_eq hx)))
def s97 (g : Bool → Int → Int → Option Int) : Summ := ⟨[.v, .v, .v], r97 g⟩
theorem r97_eq {g : Bool → Int → Int → Option Int} {y0 : Bool} {y1 : Int} {y2 : Int} {x : Int} (hx : g y0 y1 y2 = some x) : (s97 g).run [.bool y0, .int .i64 y1, .int .i64 y2] [] = some (rx97 x) := r97_c hx
abbrev sums97 : List (Nat × Summ) := []
theorem leads97 (hS : SumsOK Try.prog (aget (sums97))) (six : Bool) (typ : Int) (code : Int) (res : Int) (h : R53_kindF six typ code = some res) :
    Leads Try.prog 97 0 ⟨⟨97, 29, [(0, .bool six), (1, .int .i64 typ), (2, .int .i64 code)], [.code k97_33], [], false, none⟩, [], [], 0⟩ (fun v H _ => Res 0 (rx97 res) v H) := by
  unfold R53_kindF at h
  refine ev_ok tab_ok hS true 3000 ?_
  conv => whnf
  refine br.h2 h ?_ ?_ ?_
  · rfl
  · clear h; intro hb h; conv => whnf
    refine br.h h ?_ ?_ ?_
    · rfl
    · clear h; intro hb h; conv => whnf
      all_goals (cases h)
      all_goals exact Res.of [] rfl nw_0 (by decide) js_0 wr_0
    clear h; intro hb h; conv => whnf
    refine br.h h ?_ ?_ ?_
    · rfl
    · clear h; intro hb h; conv => whnf
      all_goals (cases h)
      all_goals exact Res.of [] rfl nw_0 (by decide) js_0 wr_0
    clear h; intro hb h; conv => whnf
    refine br.h h ?_ ?_ ?_
    · rfl
    · clear h; intro hb h; conv => whnf
      all_goals (cases h)
      all_goals exact Res.of [] rfl nw_0 (by decide) js_0 wr_0
    clear h; intro hb h; conv => whnf
    all_goals (cases h)
    all_goals exact Res.of [] rfl nw_0 (by decide) js_0 wr_0
  clear h; intro hb h; conv => whnf
  refine br.h2 h ?_ ?_ ?_
  · rfl
  · clear h; intro hb h; conv => whnf
    all_goals (cases h)
    all_goals exact Res.of [] rfl nw_0 (by decide) js_0 wr_0
  clear h; intro hb h; conv => whnf
  refine br.h2 h ?_ ?_ ?_
  · rfl
  · clear h; intro hb h; conv => whnf
    all_goals (cases h)
    all_goals exact Res.of [] rfl nw_0 (by decide) js_0 wr_0
  clear h; intro hb h; conv => whnf
  refine br.h h ?_ ?_ ?_
  · rfl
  · clear h; intro hb h; conv => whnf
    all_goals (cases h)
    all_goals exact Res.of [] rfl nw_0 (by decide) js_0 wr_0
  clear h; intro hb h; conv => whnf
  refine br.h h ?_ ?_ ?_
  · rfl
  · clear h; intro hb h; conv => whnf
    all_goals (cases h)
    all_goals exact Res.of [] rfl nw_0 (by decide) js_0 wr_0
  clear h; intro hb h; conv => whnf
  all_goals (cases h)
  all_goals exact Res.of [] rfl nw_0 (by decide) js_0 wr_0
theorem ok97 (hS : SumsOK Try.prog (aget (sums97))) : SumOK Try.prog 97 (s97 (R53_kindF)) := by
  refine SumOK.of_leads tab_ok (fun ar os r ha hr => ?_) ⟨Try.f97, rfl, by decide, rfl⟩
  replace hr : r97 (R53_kindF) ar (conts os) = some r := hr
  unfold r97 at hr
  generalize hc : conts os = C at hr
  have hq := dV.elim hr; clear hr; obtain ⟨v0, l1, y0, rfl, e0, hr⟩ := hq; obtain rfl := asB_eq _ _ e0
  have hq := dV.elim hr; clear hr; obtain ⟨v1, l2, y1, rfl, e1, hr⟩ := hq; obtain rfl := asI_eq _ _ _ e1
  have hq := dV.elim hr; clear hr; obtain ⟨v2, l3, y2, rfl, e2, hr⟩ := hq; obtain rfl := asI_eq _ _ _ e2
  have hq := dEnd.elim hr; clear hr; obtain ⟨rfl, rfl, hr⟩ := hq
  have hq := ofG.elim hr; clear hr; obtain ⟨x, h, rfl⟩ := hq
  obtain rfl := kinds_nil hc
  exact ⟨_, rfl, leads97 hS _ _ _ x h⟩
def R53_kind : Bool → Int → Int → Option Int := R53_kindF
theorem lift97 : SumOK Try.prog 97 (s97 R53_kind) := ok97 (SumsOK.of_tab trivial)
end Go.Vm.Code

namespace Go.Vm.Code
open Go Go.Vm Go.Proofs
set_option maxRecDepth 100000
set_option maxHeartbeats 4000000
set_option linter.unusedVariables false

/-! cloakroom/cloakroomref53.Get -/
def R53_GetF (R02_Must : (List UInt8) → Int → Int → Option Int) (R03_Sum : (List UInt8) → Option Int) (R53_kind : Bool → Int → Int → Option Int) (R53_over : api_Addr → api_Addr → Int → Option (List UInt8)) (R53_pair : api_Addr → api_Addr → Option Bool) (s : List UInt8) (src : api_Addr) (dst : api_Addr) : Option (icmp_Message × Int) :=
  cond (decide ((s.length : Int) < 8))
    (
    some ((icmp_Message.mk 0 0 0 [], 2)))
    (
    (R53_pair src dst).bind fun p =>
    cond (!p)
      (
      some ((icmp_Message.mk 0 0 0 [], 1)))
      (
      (R53_over src dst (s.length : Int)).bind fun xo =>
      oreq (decide (xo.length + s.length < 2 ^ 63)) <|
      (R03_Sum (xo ++ s)).bind fun s1 =>
      cond (s1 != 65535)
        (
        some ((icmp_Message.mk 0 0 0 [], 4)))
        (
        cond (decide ((s.length : Int) > 1240))
          (
          some ((icmp_Message.mk 0 0 0 [], 5)))
          (
          (s[0]?).bind fun (b : UInt8) =>
          (s[1]?).bind fun (b1 : UInt8) =>
          (R53_kind src.V6 (wI .i64 (b.toNat : Int)) (wI .i64 (b1.toNat : Int))).bind fun k =>
          (s[1]?).bind fun (b2 : UInt8) =>
          oreq (decide ((0 : Int) ≤ (8 : Int) ∧ (8 : Int) ≤ (s.length : Int))) <|
          cond (k == 2)
            (
            (R02_Must s 6 2).bind fun m =>
            some ((icmp_Message.mk k (wI .i64 (b2.toNat : Int)) m ((s.drop 8).take (s.length - 8)), 0)))
            (
            some ((icmp_Message.mk k (wI .i64 (b2.toNat : Int)) 0 ((s.drop 8).take (s.length - 8)), 0)))))))
def rx35 (x : icmp_Message × Int) : SRes := ⟨.tuple ⟨[.agg ⟨[.int .i64 x.1.Kind, .int .i64 x.1.Code, .int .i64 x.1.MTU, .string ⟨⟨x.1.Quote⟩⟩]⟩, .int .i64 x.2]⟩, [], []⟩
def r35 (g : (List UInt8) → api_Addr → api_Addr → Option (icmp_Message × Int)) : Dec := dV asS fun (y0 : List UInt8) => dV uvapi_Addr fun (y1 : api_Addr) => dV uvapi_Addr fun (y2 : api_Addr) => dEnd (ofG (g y0 y1 y2) rx35)
theorem r35_c {g : (List UInt8) → api_Addr → api_Addr → Option (icmp_Message × Int)} {y0 : List UInt8} {y1 : api_Addr} {y2 : api_Addr} {x : icmp_Message × Int} (hx : g y0 y1 y2 = some x) : r35 g [.string ⟨⟨y0⟩⟩, .agg ⟨[.bool y1.V6, .int .u64 y1.Hi, .int .u64 y1.Lo]⟩, .agg ⟨[.bool y2.V6, .int .u64 y2.Hi, .int .u64 y2.Lo]⟩] [] = some (rx35 x) := (dV_eq (asS_c)).trans ((dV_eq (uvapi_Addr_c _)).trans ((dV_eq (uvapi_Addr_c _)).trans (ofG_eq hx)))
def s35 (g : (List UInt8) → api_Addr → api_Addr → Option (icmp_Message × Int)) : Summ := ⟨[.v, .v, .v], r35 g⟩
theorem r35_eq {g : (List UInt8) → api_Addr → api_Addr → Option (icmp_Message × Int)} {y0 : List UInt8} {y1 : api_Addr} {y2 : api_Addr} {x : icmp_Message × Int} (hx : g y0 y1 y2 = some x) : (s35 g).run [.string ⟨⟨y0⟩⟩, .agg ⟨[.bool y1.V6, .int .u64 y1.Hi, .int .u64 y1.Lo]⟩, .agg ⟨[.bool y2.V6, .int .u64 y2.Hi, .int .u64 y2.Lo]⟩] [] = some (rx35 x) := r35_c hx
abbrev sums35 (R02_Must : (List UInt8) → Int → Int → Option Int) (R03_Sum : (List UInt8) → Option Int) (R53_kind : Bool → Int → Int → Option Int) (R53_over : api_Addr → api_Addr → Int → Option (List UInt8)) (R53_pair : api_Addr → api_Addr → Option Bool) : List (Nat × Summ) := [(74, s74 R02_Must), (75, s75 R03_Sum), (97, s97 R53_kind), (94, s94 R53_over), (91, s91 R53_pair)]
theorem leads35 (R02_Must : (List UInt8) → Int → Int → Option Int) (R03_Sum : (List UInt8) → Option Int) (R53_kind : Bool → Int → Int → Option Int) (R53_over : api_Addr → api_Addr → Int → Option (List UInt8)) (R53_pair : api_Addr → api_Addr → Option Bool) (hS : SumsOK Try.prog (aget (sums35 R02_Must R03_Sum R53_kind R53_over R53_pair))) (s : List UInt8) (src : api_Addr) (dst : api_Addr) (res : icmp_Message × Int) (h : R53_GetF R02_Must R03_Sum R53_kind R53_over R53_pair s src dst = some res) :
    Leads Try.prog 35 0 ⟨⟨35, 54, [(0, .string ⟨⟨s⟩⟩), (1, .agg ⟨[.bool src.V6, .int .u64 src.Hi, .int .u64 src.Lo]⟩), (2, .agg ⟨[.bool dst.V6, .int .u64 dst.Hi, .int .u64 dst.Lo]⟩)], [.code k35_34], [], false, none⟩, [], [], 0⟩ (fun v H _ => Res 0 (rx35 res) v H) := by
  unfold R53_GetF at h
  refine ev_ok tab_ok hS true 3000 ?_
  conv => whnf
  refine br.h h ?_ ?_ ?_
  · rfl
  · clear h; intro hb h; conv => whnf
    all_goals (cases h)
    all_goals exact Res.of [] rfl nw_0 (by decide) js_0 wr_0
  clear h; intro hb h; conv => whnf
  obtain ⟨p, hy, h2⟩ := obind.elim h; clear h; have h := h2; clear h2
  refine sumK.introF [] (sumRun_of (aqs := [.agg ⟨[.bool src.V6, .int .u64 src.Hi, .int .u64 src.Lo]⟩, .agg ⟨[.bool dst.V6, .int .u64 dst.Hi, .int .u64 dst.Lo]⟩]) (ws := []) (n := 0) (m := 0) (t' := 3) (ra_cons rfl rfl (ra_cons rfl rfl ra_nil)) rfl (by rfl) (r91_eq hy) rfl rfl rfl rfl wb_nil an_nil rfl) ?_
  conv => whnf
  refine br.h h ?_ ?_ ?_
  · rfl
  · clear h; intro hb h; conv => whnf
    all_goals (cases h)
    all_goals exact Res.of [] rfl nw_0 (by decide) js_0 wr_0
  clear h; intro hb h; conv => whnf
  obtain ⟨xo, hy, h2⟩ := obind.elim h; clear h; have h := h2; clear h2
  refine sumK.introF [] (sumRun_of (aqs := [.agg ⟨[.bool src.V6, .int .u64 src.Hi, .int .u64 src.Lo]⟩, .agg ⟨[.bool dst.V6, .int .u64 dst.Hi, .int .u64 dst.Lo]⟩, .int .i64 (s.length : Int)]) (ws := []) (n := 0) (m := 0) (t' := 3) (ra_cons rfl rfl (ra_cons rfl rfl (ra_cons rfl rfl ra_nil))) rfl (by rfl) (r94_eq hy) rfl rfl rfl rfl wb_nil an_nil rfl) ?_
  conv => whnf
  replace h := oreq.elim h; have hb := h.1; replace h := h.2
  first | (refine req.intro hb ?_; conv => whnf) | skip
  obtain ⟨s1, hy, h2⟩ := obind.elim h; clear h; have h := h2; clear h2
  refine sumK.introF [] (sumRun_of (aqs := [.string ⟨⟨xo ++ s⟩⟩]) (ws := []) (n := 0) (m := 0) (t' := 3) (ra_cons rfl rfl ra_nil) rfl (by rfl) (r75_eq hy) rfl rfl rfl rfl wb_nil an_nil rfl) ?_
  conv => whnf
  refine br.h h ?_ ?_ ?_
  · rfl
  · clear h; intro hb h; conv => whnf
    all_goals (cases h)
    all_goals exact Res.of [] rfl nw_0 (by decide) js_0 wr_0
  clear h; intro hb h; conv => whnf
  refine br.h h ?_ ?_ ?_
  · rfl
  · clear h; intro hb h; conv => whnf
    all_goals (cases h)
    all_goals exact Res.of [] rfl nw_0 (by decide) js_0 wr_0
  clear h; intro hb h; conv => whnf
  obtain ⟨b, hy, h2⟩ := obind.elim h; clear h; have h := h2; clear h2
  refine rdS.intro hy ?_
  conv => whnf
  obtain ⟨b1, hy, h2⟩ := obind.elim h; clear h; have h := h2; clear h2
  refine rdS.intro hy ?_
  conv => whnf
  obtain ⟨k, hy, h2⟩ := obind.elim h; clear h; have h := h2; clear h2
  refine sumK.introF [] (sumRun_of (aqs := [.bool src.V6, .int .i64 (wI .i64 (b.toNat : Int)), .int .i64 (wI .i64 (b1.toNat : Int))]) (ws := []) (n := 0) (m := 0) (t' := 11) (ra_cons rfl rfl (ra_cons rfl rfl (ra_cons rfl rfl ra_nil))) rfl (by rfl) (r97_eq hy) rfl rfl rfl rfl wb_nil an_nil rfl) ?_
  conv => whnf
  obtain ⟨b2, hy, h2⟩ := obind.elim h; clear h; have h := h2; clear h2
  refine rdS.intro hy ?_
  conv => whnf
  replace h := oreq.elim h; have hb := h.1; replace h := h.2
  first | (refine req.intro hb ?_; conv => whnf) | skip
  refine br.h2 h ?_ ?_ ?_
  · rfl
  · clear h; intro hb h; conv => whnf
    all_goals (cases h)
    all_goals exact Res.of [] rfl nw_0 (by decide) js_0 wr_0
  clear h; intro hb h; conv => whnf
  obtain ⟨m, hy, h2⟩ := obind.elim h; clear h; have h := h2; clear h2
  refine sumK.introF [] (sumRun_of (aqs := [.string ⟨⟨s⟩⟩, .int .i64 6, .int .i64 2]) (ws := []) (n := 0) (m := 0) (t' := 20) (ra_cons rfl rfl (ra_cons rfl rfl (ra_cons rfl rfl ra_nil))) rfl (by rfl) (r74_eq hy) rfl rfl rfl rfl wb_nil an_nil rfl) ?_
  conv => whnf
  all_goals (cases h)
  all_goals exact Res.of [] rfl nw_0 (by decide) js_0 wr_0
theorem ok35 (R02_Must : (List UInt8) → Int → Int → Option Int) (R03_Sum : (List UInt8) → Option Int) (R53_kind : Bool → Int → Int → Option Int) (R53_over : api_Addr → api_Addr → Int → Option (List UInt8)) (R53_pair : api_Addr → api_Addr → Option Bool) (hS : SumsOK Try.prog (aget (sums35 R02_Must R03_Sum R53_kind R53_over R53_pair))) : SumOK Try.prog 35 (s35 (R53_GetF R02_Must R03_Sum R53_kind R53_over R53_pair)) := by
  refine SumOK.of_leads tab_ok (fun ar os r ha hr => ?_) ⟨Try.f35, rfl, by decide, rfl⟩
  replace hr : r35 (R53_GetF R02_Must R03_Sum R53_kind R53_over R53_pair) ar (conts os) = some r := hr
  unfold r35 at hr
  generalize hc : conts os = C at hr
  have hq := dV.elim hr; clear hr; obtain ⟨v0, l1, y0, rfl, e0, hr⟩ := hq; obtain rfl := asS_eq _ _ e0
  have hq := dV.elim hr; clear hr; obtain ⟨v1, l2, y1, rfl, e1, hr⟩ := hq; obtain rfl := uvapi_Addr_eq _ _ e1
  have hq := dV.elim hr; clear hr; obtain ⟨v2, l3, y2, rfl, e2, hr⟩ := hq; obtain rfl := uvapi_Addr_eq _ _ e2
  have hq := dEnd.elim hr; clear hr; obtain ⟨rfl, rfl, hr⟩ := hq
  have hq := ofG.elim hr; clear hr; obtain ⟨x, h, rfl⟩ := hq
  obtain rfl := kinds_nil hc
  exact ⟨_, rfl, leads35 R02_Must R03_Sum R53_kind R53_over R53_pair hS _ _ _ x h⟩
def R53_Get : (List UInt8) → api_Addr → api_Addr → Option (icmp_Message × Int) := R53_GetF R02_Must R03_Sum R53_kind R53_over R53_pair
theorem lift35 : SumOK Try.prog 35 (s35 R53_Get) := ok35 R02_Must R03_Sum R53_kind R53_over R53_pair (SumsOK.of_tab ⟨lift74, lift75, lift97, lift94, lift91, trivial⟩)
end Go.Vm.Code

/- Chapter 53 in plain words: a message written, a message read. -/
namespace Go.Vm.Code
open Go Go.Vm
/-- is there a pseudo header? -/
def pairB (src dst : api_Addr) : Bool := aok src && aok dst && (src.V6 == dst.V6)
theorem pseu_ne (src dst : api_Addr) (p n : Int) : (pseu src dst p n == []) = !pairB src dst := by
  unfold pseu pairB
  by_cases h : aok src = true ∧ aok dst = true ∧ src.V6 = dst.V6
  · rw [if_pos h]
    obtain ⟨a, b, c⟩ := h
    rw [a, b, c]
    have := abytes_len src
    have hl : abytes src ≠ [] := by
      intro e; rw [e] at this; revert this; cases src.V6 <;> simp
    have h2 : (abytes src ++ abytes dst ++ cond dst.V6 (putS n 4 ++ putS 0 3 ++ putS p 1) (putS 0 1 ++ putS p 1 ++ putS n 2)) ≠ [] := by
      intro e
      rw [List.append_assoc] at e
      exact hl (List.append_eq_nil_iff.1 e).1
    rw [show (abytes src ++ abytes dst ++ cond dst.V6 (putS n 4 ++ putS 0 3 ++ putS p 1) (putS 0 1 ++ putS p 1 ++ putS n 2) == []) = false by simpa using h2]
    simp
  · rw [if_neg h]
    cases a : aok src
    · rfl
    cases b : aok dst
    · rfl
    have c : src.V6 ≠ dst.V6 := fun c => h ⟨a, b, c⟩
    simp [c]
/-- what the check stands over beside a message -/
def ov (src dst : api_Addr) (n : Int) : List UInt8 := cond src.V6 (pseu src dst 58 n) []
theorem ov_even (src dst : api_Addr) (n : Int) : (ov src dst n).length % 2 = 0 := by
  unfold ov; cases src.V6
  · rfl
  · exact pseu_even src dst 58 n
theorem ov_len (src dst : api_Addr) (n : Int) : (ov src dst n).length ≤ 56 := by
  unfold ov; cases src.V6
  · exact Nat.zero_le _
  · exact pseu_len src dst 58 n
def P53 (m : icmp_Message) : Prop := 1 ≤ m.Kind ∧ m.Kind ≤ 3 ∧ 0 ≤ m.Code ∧ m.Code ≤ 255 ∧ 0 ≤ m.MTU ∧ m.MTU ≤ 65535 ∧ m.Quote.length ≤ 1232 ∧ (m.Kind = 2 ∨ m.MTU = 0)
instance (m : icmp_Message) : Decidable (P53 m) := inferInstanceAs (Decidable (_ ∧ _))
def M53 (m : icmp_Message) (v6 : Bool) : Bool := cond v6 (decide (P53 m ∧ (m.Kind = 2 → m.Code = 0))) (decide (P53 m ∧ (m.Kind = 3 ∨ (m.Kind = 2 ∧ m.Code = 4) ∨ (m.Kind = 1 ∧ m.Code ≠ 4))))
theorem ibeq (a b : Int) : (a == b) = decide (a = b) := by rw [Bool.eq_iff_iff]; simp
theorem M53_inv {m : icmp_Message} {v6 : Bool} (h : M53 m v6 = true) : P53 m := by
  unfold M53 at h
  cases v6
  · rw [cond_false, decide_eq_true_eq] at h; exact h.1
  · rw [cond_true, decide_eq_true_eq] at h; exact h.1
def typ53 (v6 : Bool) (k : Int) : Int := cond v6 k (cond (k == 3) 11 3)
def kind53 (v6 : Bool) (t c : Int) : Int := cond v6 (if 1 ≤ t ∧ t ≤ 3 ∧ (t ≠ 2 ∨ c = 0) then t else 4) (if t = 11 then 3 else if t ≠ 3 then 4 else if c = 4 then 2 else 1)
/-- a message's bytes -/
def hc53 (v6 : Bool) (m : icmp_Message) (c : Nat) : List UInt8 := be (typ53 v6 m.Kind).toNat 1 ++ be m.Code.toNat 1 ++ (be c 2 ++ (be 0 2 ++ be m.MTU.toNat 2 ++ m.Quote))
theorem hc53_len (v6 : Bool) (m : icmp_Message) (c : Nat) : (hc53 v6 m c).length = 8 + m.Quote.length := by simp [hc53]; omega
theorem hc53_sum {p : List UInt8} (hp : p.length % 2 = 0) (v6 : Bool) (m : icmp_Message) {c : Nat} (hc : c < 65536) : wsum (p ++ hc53 v6 m c) = wsum (p ++ hc53 v6 m 0) + c := by
  have e : ∀ x, p ++ hc53 v6 m x = (p ++ (be (typ53 v6 m.Kind).toNat 1 ++ be m.Code.toNat 1)) ++ (be x 2 ++ (be 0 2 ++ be m.MTU.toNat 2 ++ m.Quote)) := fun x => by simp only [hc53, List.append_assoc]
  rw [e, e, wsum_mid (by simp; omega) hc]
def ck53 (p : List UInt8) (v6 : Bool) (m : icmp_Message) : Nat := ckN (wsum (p ++ hc53 v6 m 0))
theorem ck53_ok {p : List UInt8} (hp : p.length % 2 = 0) (v6 : Bool) (m : icmp_Message) : ck53 p v6 m ≤ 65535 ∧ wsum (p ++ hc53 v6 m (ck53 p v6 m)) % 65535 = 0 ∧ wsum (p ++ hc53 v6 m (ck53 p v6 m)) ≠ 0 := by
  have := ckN_ok (wsum (p ++ hc53 v6 m 0))
  rw [hc53_sum hp v6 m (by unfold ck53; omega)]
  exact this
def put53 (m : icmp_Message) (src dst : api_Addr) : List UInt8 × Int :=
  if pairB src dst = false then ([], 1) else if M53 m src.V6 = false then ([], 1) else (hc53 src.V6 m (ck53 (ov src dst (8 + m.Quote.length)) src.V6 m), 0)
def zero53 : icmp_Message := ⟨0, 0, 0, []⟩
def get53 (s : List UInt8) (src dst : api_Addr) : icmp_Message × Int :=
  if s.length < 8 then (zero53, 2) else if pairB src dst = false then (zero53, 1) else if norm (wsum (ov src dst s.length ++ s)) ≠ 65535 then (zero53, 4) else if 1240 < s.length then (zero53, 5) else
    (⟨kind53 src.V6 (vK s 0 1) (vK s 1 1), vK s 1 1, if kind53 src.V6 (vK s 0 1) (vK s 1 1) = 2 then vK s 6 2 else 0, s.drop 8⟩, 0)
theorem put53_fin {p : List UInt8} {v6 : Bool} {m : icmp_Message} (hp : p.length < 2 ^ 30) (hm : m.Quote.length < 2 ^ 30) : ((check_Of (p ++ hc53 v6 m 0)).bind fun xo => (check_Set (hc53 v6 m 0) 2 2 (wI .u64 xo)).bind fun s => some (s, (0 : Int))) = some (hc53 v6 m (ck53 p v6 m), 0) := by
  have n := norm_le (wsum (p ++ hc53 v6 m 0))
  have hl := hc53_len v6 m 0
  rw [Of_eq (by rw [List.length_append]; omega), Option.bind_some, wU64 (by omega) (by omega), Set_eq (by omega) (by omega), Option.bind_some]
  have := setS_mid (A := be (typ53 v6 m.Kind).toNat 1 ++ be m.Code.toNat 1) (B := be 0 2 ++ be m.MTU.toNat 2 ++ m.Quote) (p := 2) (c := 65535 - ((norm (wsum (p ++ hc53 v6 m 0)) : Nat) : Int)) (by simp)
  rw [show ((2 : Nat) : Int) = 2 from rfl] at this
  show some (setS (hc53 v6 m 0) 2 2 _, (0 : Int)) = _
  rw [show setS (hc53 v6 m 0) 2 2 (65535 - ((norm (wsum (p ++ hc53 v6 m 0)) : Nat) : Int)) = _ from this]
  unfold ck53 ckN
  rw [show (65535 - ((norm (wsum (p ++ hc53 v6 m 0)) : Nat) : Int)).toNat = 65535 - norm (wsum (p ++ hc53 v6 m 0)) by omega]; rfl
theorem put53_rfin {p : List UInt8} {v6 : Bool} {m : icmp_Message} (hp : p.length < 2 ^ 30) (hm : m.Quote.length < 2 ^ 30) : ((R03_Of (p ++ hc53 v6 m 0)).bind fun xo => (R03_Set (hc53 v6 m 0) 2 2 (wI .u64 xo)).bind fun s => some (s, (0 : Int))) = some (hc53 v6 m (ck53 p v6 m), 0) := by
  have n := norm_le (wsum (p ++ hc53 v6 m 0))
  have hl := hc53_len v6 m 0
  rw [R03_Of_eq (by rw [List.length_append]; omega), Option.bind_some, wU64 (by omega) (by omega), R03_Set_eq (by omega) (by omega) (by omega), Option.bind_some]
  have := setS_mid (A := be (typ53 v6 m.Kind).toNat 1 ++ be m.Code.toNat 1) (B := be 0 2 ++ be m.MTU.toNat 2 ++ m.Quote) (p := 2) (c := 65535 - ((norm (wsum (p ++ hc53 v6 m 0)) : Nat) : Int)) (by simp)
  rw [show ((2 : Nat) : Int) = 2 from rfl] at this
  show some (setS (hc53 v6 m 0) 2 2 _, (0 : Int)) = _
  rw [show setS (hc53 v6 m 0) 2 2 (65535 - ((norm (wsum (p ++ hc53 v6 m 0)) : Nat) : Int)) = _ from this]
  unfold ck53 ckN
  rw [show (65535 - ((norm (wsum (p ++ hc53 v6 m 0)) : Nat) : Int)).toNat = 65535 - norm (wsum (p ++ hc53 v6 m 0)) by omega]; rfl
theorem over_eq {src dst : api_Addr} {n : Int} (h1 : A4 src) (h2 : A4 dst) (hn : 0 ≤ n ∧ n < 2 ^ 63) : icmp_over src dst n = some (cond (pairB src dst) (ov src dst n) [], pairB src dst) := by
  unfold icmp_over icmp_overF ov
  have := pseu_ne src dst 58 n
  rw [pseudo_eq h1 h2 (by omega) hn, Option.bind_some, this]
  cases hp : pairB src dst
  · rw [hp] at this
    have e : pseu src dst 58 n = [] := by simpa using this
    rw [e]; rfl
  · cases src.V6 <;> rfl
theorem pair53_eq {src dst : api_Addr} (h1 : A4 src) (h2 : A4 dst) : R53_pair src dst = some (pairB src dst) := by
  unfold R53_pair R53_pairF
  rw [pseudo5_eq h1 h2 (by omega) (by omega), Option.bind_some, pseu_ne, Bool.not_not]
theorem rover_eq {src dst : api_Addr} {n : Int} (h1 : A4 src) (h2 : A4 dst) (hn : 0 ≤ n ∧ n < 2 ^ 63) : R53_over src dst n = some (ov src dst n) := by
  unfold R53_over R53_overF ov
  rw [pseudo5_eq h1 h2 (by omega) hn]
  cases src.V6 <;> rfl
theorem within53_eq (n m : Int) : icmp_within n m = some (decide (0 ≤ n ∧ n ≤ m)) := by
  unfold icmp_within icmp_withinF
  by_cases h : 0 ≤ n
  · rw [cond_p h]; simp [h]
  · rw [cond_n h]; simp [h]
theorem P53_iff (k c u : Int) (q : List UInt8) : P53 ⟨k, c, u, q⟩ ↔ (1 ≤ k ∧ k ≤ 3 ∧ 0 ≤ c ∧ c ≤ 255 ∧ 0 ≤ u ∧ u ≤ 65535 ∧ q.length ≤ 1232 ∧ (k = 2 ∨ u = 0)) := Iff.rfl
theorem bool_iff {a b : Bool} (h : a = true ↔ b = true) : some a = some b := by rw [Bool.eq_iff_iff.2 h]
theorem may53_eq (m : icmp_Message) (v6 : Bool) : icmp_Message_may m v6 = some (M53 m v6) := by
  obtain ⟨k, c, u, q⟩ := m
  unfold icmp_Message_may icmp_Message_mayF M53 icmp_fits icmp_fitsF
  simp only [within53_eq, Option.bind_some, bne, ibeq, ← decide_not, cond_dec]
  cases v6
  · simp only [cond_false, Bool.not_false, cond_true]
    repeat' split
    all_goals (try simp only [Option.bind_some, cond_dec])
    all_goals (repeat' split)
    all_goals (refine bool_iff ?_; simp only [decide_eq_true_eq, Bool.false_eq_true, false_iff, true_iff, P53_iff]; omega)
  · simp only [cond_false, Bool.not_true, cond_true]
    repeat' split
    all_goals (try simp only [Option.bind_some, cond_dec])
    all_goals (repeat' split)
    all_goals (refine bool_iff ?_; simp only [decide_eq_true_eq, Bool.false_eq_true, false_iff, true_iff, P53_iff]; omega)
theorem right53_eq (m : icmp_Message) (v6 : Bool) : R53_right m v6 = some (M53 m v6) := by
  obtain ⟨k, c, u, q⟩ := m
  unfold R53_right R53_rightF M53
  simp only [bne, ibeq, ← decide_not, cond_dec]
  cases v6
  · simp only [cond_false]
    repeat' split
    all_goals (refine bool_iff ?_; simp only [decide_eq_true_eq, Bool.false_eq_true, false_iff, true_iff, beq_iff_eq, decide_eq_decide, P53_iff]; omega)
  · simp only [cond_true]
    repeat' split
    all_goals (refine bool_iff ?_; simp only [decide_eq_true_eq, Bool.false_eq_true, false_iff, true_iff, P53_iff]; omega)
theorem types_at {α : Type} {k : Int} {v : Bool} (hk : k = 1 ∨ k = 2 ∨ k = 3) (F : Int → Option α) : ((icmp_types).bind fun t =>
      oreq (decide (0 ≤ k ∧ k < 4)) <|
      ([udp_Head.mk t.e0.e0 t.e0.e1, udp_Head.mk t.e1.e0 t.e1.e1, udp_Head.mk t.e2.e0 t.e2.e1, udp_Head.mk t.e3.e0 t.e3.e1][k.toNat]?).bind fun (e : udp_Head) =>
      (icmp_side v).bind fun s =>
      oreq (decide (0 ≤ s ∧ s < 2)) <|
      ([e.SPort, e.DPort][s.toNat]?).bind fun (e1 : Int) => F e1) = F (typ53 v k) := by
  rcases hk with rfl | rfl | rfl <;> cases v <;> rfl
theorem typ53_rng {k : Int} {v : Bool} (hk : k = 1 ∨ k = 2 ∨ k = 3) : 0 ≤ typ53 v k ∧ typ53 v k ≤ 11 := by
  rcases hk with rfl | rfl | rfl <;> cases v <;> decide
theorem be_six {n : Nat} (h : n < 65536) : be n 6 = be 0 2 ++ (be 0 2 ++ be n 2) := by
  have e1 := be_split n 4 2
  rw [show (256 : Nat) ^ 2 = 65536 from rfl, show n / 65536 = 0 by omega] at e1
  exact e1
theorem iput_eq {m : icmp_Message} {src dst : api_Addr} (h1 : A4 src) (h2 : A4 dst) (hq : m.Quote.length < 2 ^ 20) : icmp_Put m src dst = some (put53 m src dst) := by
  unfold icmp_Put icmp_PutF put53
  rw [wI64 (n := 8 + (m.Quote.length : Int)) (by omega) (by omega), over_eq h1 h2 (by omega), Option.bind_some]
  have hl := ov_len src dst (8 + m.Quote.length)
  generalize ov src dst (8 + m.Quote.length) = p at *
  cases hp : pairB src dst
  · rfl
  simp only [Bool.not_true, cond_false, cond_true]
  rw [may53_eq, Option.bind_some, if_neg (by decide)]
  cases hm : M53 m src.V6
  · rfl
  obtain ⟨q1, q2, q3, q4, q5, q6, q7, q8⟩ := M53_inv hm
  have hk : m.Kind = 1 ∨ m.Kind = 2 ∨ m.Kind = 3 := by omega
  have ht := typ53_rng (v := src.V6) hk
  rw [Bool.not_true, cond_false, if_neg (by decide)]
  rw [types_at hk]
  have k1 : octet_Put (iorI .u64 (wI .u64 ((wI .u64 (typ53 src.V6 m.Kind)) * 2 ^ 8)) (wI .u64 m.Code)) 2 = some (be (typ53 src.V6 m.Kind).toNat 1 ++ be m.Code.toNat 1) := by
    obtain ⟨x, hx⟩ := Int.eq_ofNat_of_zero_le ht.1
    obtain ⟨c, hc⟩ := Int.eq_ofNat_of_zero_le q3
    rw [hx, hc]
    have e2 : iorI .u64 (wI .u64 ((wI .u64 (x : Int)) * 2 ^ 8)) (wI .u64 (c : Int)) = ((x * 256 + c : Nat) : Int) := by
      rw [wU64 (n := (x : Int)) (by omega) (by omega), wU64 (n := (c : Int)) (by omega) (by omega), wU64 (n := (x : Int) * 2 ^ 8) (by omega) (by omega), iorU64_low 8 (by omega) (by omega) (by omega) (by omega) (by omega)]; omega
    rw [e2, octet_Put_eq (by omega), show putS ((x * 256 + c : Nat) : Int) 2 = be ((x * 256 + c : Nat) : Int).toNat 2 from putS_be (k := 2) (by omega), Int.toNat_natCast, be_one _ _ (by omega)]; rfl
  have k2 : octet_Put (wI .u64 m.MTU) 6 = some (be 0 2 ++ (be 0 2 ++ be m.MTU.toNat 2)) := by
    rw [wU64 (by omega) (by omega), octet_Put_eq (by omega), show putS m.MTU 6 = be m.MTU.toNat 6 from putS_be (k := 6) (by omega), be_six (by omega)]
  rw [k1, Option.bind_some, k2, Option.bind_some]
  have e : be (typ53 src.V6 m.Kind).toNat 1 ++ be m.Code.toNat 1 ++ (be 0 2 ++ (be 0 2 ++ be m.MTU.toNat 2)) ++ m.Quote = hc53 src.V6 m 0 := by simp only [hc53, List.append_assoc]
  have hh := hc53_len src.V6 m 0
  rw [e, oreq_p (by simp), oreq_p (by simp; omega), oreq_p (by omega)]
  exact put53_fin (by omega) (by omega)
theorem rtyp_eq (v : Bool) (k : Int) : R53_typ v k = some (typ53 v k) := by
  unfold R53_typ R53_typF typ53
  cases v
  · cases (k == 3) <;> rfl
  · rfl
theorem rput53_eq {m : icmp_Message} {src dst : api_Addr} (h1 : A4 src) (h2 : A4 dst) (hq : m.Quote.length < 2 ^ 20) : R53_Put m src dst = some (put53 m src dst) := by
  unfold R53_Put R53_PutF put53
  rw [pair53_eq h1 h2, Option.bind_some]
  cases hp : pairB src dst
  · rfl
  rw [Bool.not_true, cond_false, right53_eq, Option.bind_some, if_neg (by decide)]
  cases hm : M53 m src.V6
  · rfl
  obtain ⟨q1, q2, q3, q4, q5, q6, q7, q8⟩ := M53_inv hm
  have hk : m.Kind = 1 ∨ m.Kind = 2 ∨ m.Kind = 3 := by omega
  have ht := typ53_rng (v := src.V6) hk
  rw [Bool.not_true, cond_false, if_neg (by decide), rtyp_eq, Option.bind_some, wU64 (n := typ53 src.V6 m.Kind) (by omega) (by omega), wU64 (n := m.Code) (by omega) (by omega), wU64 (n := m.MTU) (by omega) (by omega), R02_Put_eq (by omega) (by omega), R02_Put_eq (by omega) (by omega), R02_Put_eq (by omega) (by omega)]
  simp only [Option.bind_some]
  rw [show putS (typ53 src.V6 m.Kind) 1 = be (typ53 src.V6 m.Kind).toNat 1 from putS_be (k := 1) (by omega), show putS m.Code 1 = be m.Code.toNat 1 from putS_be (k := 1) (by omega), show putS m.MTU 2 = be m.MTU.toNat 2 from putS_be (k := 2) (by omega)]
  have e : be (typ53 src.V6 m.Kind).toNat 1 ++ be m.Code.toNat 1 ++ [0, 0, 0, 0] ++ be m.MTU.toNat 2 ++ m.Quote = hc53 src.V6 m 0 := by
    rw [show ([0, 0, 0, 0] : List UInt8) = be 0 2 ++ be 0 2 from rfl]
    simp only [hc53, List.append_assoc]
  have hh := hc53_len src.V6 m 0
  rw [e, oreq_p (by simp), oreq_p (by simp), oreq_p (by simp), oreq_p (by simp; omega), hh, rover_eq h1 h2 (by omega), Option.bind_some]
  have hn : ((8 + m.Quote.length : Nat) : Int) = 8 + (m.Quote.length : Int) := by omega
  rw [hn]
  have hl := ov_len src dst (8 + m.Quote.length)
  generalize ov src dst (8 + m.Quote.length) = p at *
  rw [oreq_p (by omega)]
  exact put53_rfin (by omega) (by omega)
theorem kind53_eq {t c : Int} (h0 : 0 ≤ t) (v : Bool) : icmp_kind t c v = some (kind53 v t c) := by
  unfold icmp_kind icmp_kindF icmp_types icmp_typesF
  rw [Option.bind_some]
  obtain ⟨n, hn⟩ := FUEL_succ
  rw [hn]
  have st0 : icmp_kind_s1 icmp_fits icmp_side t c v ⟨⟨-1, -1⟩, ⟨3, 1⟩, ⟨3, 2⟩, ⟨11, 3⟩⟩ 0 = some (.inl 1) := by
    have e : ((-1 : Int) == t) = false := by simp; omega
    cases v
    · show cond ((-1 : Int) == t) _ _ = _
      rw [e]; rfl
    · show cond ((-1 : Int) == t) _ _ = _
      rw [e]; rfl
  rw [iter_inl (f := fun st => icmp_kind_s1 icmp_fits icmp_side t c v ⟨⟨-1, -1⟩, ⟨3, 1⟩, ⟨3, 2⟩, ⟨11, 3⟩⟩ st) (n := n + 7) st0]
  have st1 : icmp_kind_s1 icmp_fits icmp_side t c v ⟨⟨-1, -1⟩, ⟨3, 1⟩, ⟨3, 2⟩, ⟨11, 3⟩⟩ 1 = if t = cond v 1 3 ∧ (v = true ∨ c ≠ 4) then some (.inr 1) else some (.inl 2) := by
    cases v
    · show cond ((3 : Int) == t) ((some (c != 4)).bind fun f => cond f _ _) _ = _
      by_cases a : t = 3
      · subst a
        by_cases b : c = 4
        · subst b; rfl
        · rw [show ((c : Int) != 4) = true by simpa using b, if_pos ⟨rfl, .inr b⟩]; rfl
      · rw [show ((3 : Int) == t) = false by simp; omega, if_neg (fun h => a h.1)]; rfl
    · show cond ((1 : Int) == t) _ _ = _
      by_cases a : t = 1
      · subst a; rfl
      · rw [show ((1 : Int) == t) = false by simp; omega, if_neg (fun h => a h.1)]; rfl
  have st2 : icmp_kind_s1 icmp_fits icmp_side t c v ⟨⟨-1, -1⟩, ⟨3, 1⟩, ⟨3, 2⟩, ⟨11, 3⟩⟩ 2 = if t = cond v 2 3 ∧ c = cond v 0 4 then some (.inr 2) else some (.inl 3) := by
    cases v
    · show cond ((3 : Int) == t) ((some (c == 4)).bind fun f => cond f _ _) _ = _
      by_cases a : t = 3
      · subst a
        by_cases b : c = 4
        · subst b; rfl
        · rw [show ((c : Int) == 4) = false by simpa using b, if_neg (fun h => b h.2)]; rfl
      · rw [show ((3 : Int) == t) = false by simp; omega, if_neg (fun h => a h.1)]; rfl
    · show cond ((2 : Int) == t) ((some (c == 0)).bind fun f => cond f _ _) _ = _
      by_cases a : t = 2
      · subst a
        by_cases b : c = 0
        · subst b; rfl
        · rw [show ((c : Int) == 0) = false by simpa using b, if_neg (fun h => b h.2)]; rfl
      · rw [show ((2 : Int) == t) = false by simp; omega, if_neg (fun h => a h.1)]; rfl
  have st3 : icmp_kind_s1 icmp_fits icmp_side t c v ⟨⟨-1, -1⟩, ⟨3, 1⟩, ⟨3, 2⟩, ⟨11, 3⟩⟩ 3 = if t = cond v 3 11 then some (.inr 3) else some (.inl 4) := by
    cases v
    · show cond ((11 : Int) == t) _ _ = _
      by_cases a : t = 11
      · subst a; rfl
      · rw [show ((11 : Int) == t) = false by simp; omega]; simp only [cond_false]; rw [if_neg a]; rfl
    · show cond ((3 : Int) == t) _ _ = _
      by_cases a : t = 3
      · subst a; rfl
      · rw [show ((3 : Int) == t) = false by simp; omega]; simp only [cond_false, cond_true]; rw [if_neg a]; rfl
  have st4 : icmp_kind_s1 icmp_fits icmp_side t c v ⟨⟨-1, -1⟩, ⟨3, 1⟩, ⟨3, 2⟩, ⟨11, 3⟩⟩ 4 = some (.inr 4) := rfl
  by_cases c1 : t = cond v 1 3 ∧ (v = true ∨ c ≠ 4)
  · rw [if_pos c1] at st1
    rw [iter_inr (n := n + 6) st1]
    unfold kind53
    cases v
    · simp only [cond_false, Bool.false_eq_true, false_or] at c1 ⊢
      rw [if_neg (by omega), if_neg (by omega), if_neg (by omega)]
    · simp only [cond_true] at c1 ⊢
      rw [if_pos (by omega), c1.1]
  rw [if_neg c1] at st1
  rw [iter_inl (n := n + 6) st1]
  by_cases c2 : t = cond v 2 3 ∧ c = cond v 0 4
  · rw [if_pos c2] at st2
    rw [iter_inr (n := n + 5) st2]
    unfold kind53
    cases v
    · simp only [cond_false] at c2 ⊢
      rw [if_neg (by omega), if_neg (by omega), if_pos (by omega)]
    · simp only [cond_true] at c2 ⊢
      rw [if_pos (by omega), c2.1]
  rw [if_neg c2] at st2
  rw [iter_inl (n := n + 5) st2]
  by_cases c3 : t = cond v 3 11
  · rw [if_pos c3] at st3
    rw [iter_inr (n := n + 4) st3]
    unfold kind53
    cases v
    · simp only [cond_false] at c3 ⊢
      rw [if_pos (by omega)]
    · simp only [cond_true] at c3 ⊢
      rw [if_pos (by omega), c3]
  rw [if_neg c3] at st3
  rw [iter_inl (n := n + 4) st3, iter_inr (n := n + 3) st4]
  unfold kind53
  cases v
  · simp only [cond_false, Bool.false_eq_true, false_or] at c1 c2 c3 ⊢
    rw [if_neg (by omega), if_pos (by omega)]
  · simp only [cond_true, true_or, and_true] at c1 c2 c3 ⊢
    rw [if_neg (by omega)]
theorem rkind53_eq (t c : Int) (v : Bool) : R53_kind v t c = some (kind53 v t c) := by
  unfold R53_kind R53_kindF kind53
  simp only [bne, ibeq, ← decide_not, cond_dec]
  cases v
  · simp only [cond_false]
    repeat' split
    all_goals first | rfl | omega
  · simp only [cond_true]
    repeat' split
    all_goals first | rfl | omega
theorem rest_at {s : List UInt8} {p : Nat} (h : p ≤ s.length) : octet_Reader_Rest ⟨s.drop p, true, false⟩ = some (s.drop p, ⟨[], true, false⟩) := by
  unfold octet_Reader_Rest octet_Reader_RestF
  rw [rBad_eq rfl, Option.bind_some]
  simp only [cond_false]
  rw [rText_eq rfl, rdr_ok (by omega) (by omega), rdt_ok (by omega) (by omega), Int.toNat_natCast, List.take_of_length_le (Nat.le_refl _), List.drop_of_length_le (Nat.le_refl _)]; rfl
theorem iget_eq {s : List UInt8} {src dst : api_Addr} (h1 : A4 src) (h2 : A4 dst) (hs : s.length < 2 ^ 38) : icmp_Get s src dst = some (get53 s src dst) := by
  unfold icmp_Get icmp_GetF get53
  have hz : (⟨0, 0, 0, []⟩ : icmp_Message) = zero53 := rfl
  rw [hz]
  by_cases h0 : s.length < 8
  · rw [cond_p (by omega), if_pos h0]
  rw [cond_n (by omega), if_neg h0, over_eq h1 h2 (by omega), Option.bind_some]
  have hl := ov_len src dst s.length
  generalize ov src dst s.length = p at *
  cases hp : pairB src dst
  · rfl
  simp only [Bool.not_true, cond_false, cond_true]
  rw [if_neg (by decide), oreq_p (by omega), Right_eq (by simp only [List.length_append]; omega), Option.bind_some]
  by_cases g5 : norm (wsum (p ++ s)) = 65535
  · rw [if_neg (by simpa using g5), g5, show ((((65535 : Nat) : Int) == 65535)) = true from rfl, Bool.not_true, cond_false]
    by_cases g6 : 1240 < s.length
    · rw [cond_p (by omega), if_pos g6]
    rw [cond_n (by omega), if_neg g6, rNew_eq, Option.bind_some]
    have N : ∀ (p k : Nat), 1 ≤ k → k ≤ 7 → p + k ≤ 8 → octet_Reader_Num ⟨s.drop p, true, false⟩ (k : Int) = some (vK s p k, ⟨s.drop (p + k), true, false⟩) := fun p k a b c => num_at a b (by omega) (by omega)
    have N0 : octet_Reader_Num ⟨s, true, false⟩ 1 = some (vK s 0 1, ⟨s.drop 1, true, false⟩) := N 0 1 (by omega) (by omega) (by omega)
    have N1 : octet_Reader_Num ⟨s.drop 1, true, false⟩ 1 = some (vK s 1 1, ⟨s.drop 2, true, false⟩) := N 1 1 (by omega) (by omega) (by omega)
    have N2 : octet_Reader_Num ⟨s.drop 2, true, false⟩ 4 = some (vK s 2 4, ⟨s.drop 6, true, false⟩) := N 2 4 (by omega) (by omega) (by omega)
    have N6 : octet_Reader_Num ⟨s.drop 6, true, false⟩ 2 = some (vK s 6 2, ⟨s.drop 8, true, false⟩) := N 6 2 (by omega) (by omega) (by omega)
    have r0 := vK_rng s 0 1 256 (by decide)
    rw [N0, Option.bind_some]
    simp only []
    rw [N1, Option.bind_some]
    simp only []
    rw [N2, Option.bind_some]
    simp only []
    rw [kind53_eq r0.1, Option.bind_some, N6, Option.bind_some]
    simp only []
    rw [rest_at (by omega), Option.bind_some]
    by_cases g7 : kind53 src.V6 (vK s 0 1) (vK s 1 1) = 2
    · rw [g7, if_pos rfl]; rfl
    · rw [if_neg g7, show (kind53 src.V6 (vK s 0 1) (vK s 1 1) == 2) = false by simpa using g7]; rfl
  · rw [if_pos (by simpa using g5), show ((((norm (wsum (p ++ s)) : Nat) : Int) == 65535)) = false by simp; omega]; rfl
theorem rget53_eq {s : List UInt8} {src dst : api_Addr} (h1 : A4 src) (h2 : A4 dst) (hs : s.length < 2 ^ 38) : R53_Get s src dst = some (get53 s src dst) := by
  unfold R53_Get R53_GetF get53
  have hz : (⟨0, 0, 0, []⟩ : icmp_Message) = zero53 := rfl
  rw [hz]
  by_cases h0 : s.length < 8
  · rw [cond_p (by omega), if_pos h0]
  rw [cond_n (by omega), if_neg h0, pair53_eq h1 h2, Option.bind_some]
  cases hp : pairB src dst
  · rfl
  rw [Bool.not_true, cond_false, if_neg (by decide), rover_eq h1 h2 (by omega), Option.bind_some]
  have hl := ov_len src dst s.length
  generalize ov src dst s.length = p at *
  rw [oreq_p (by omega), R03_Sum_eq (by simp only [List.length_append]; omega), Option.bind_some]
  by_cases g5 : norm (wsum (p ++ s)) = 65535
  · rw [if_neg (by simpa using g5), g5, show ((((65535 : Nat) : Int) != 65535)) = false from rfl, cond_false]
    by_cases g6 : 1240 < s.length
    · rw [cond_p (by omega), if_pos g6]
    have e0 := vK_one (s := s) (p := 0) (by omega)
    have e1 := vK_one (s := s) (p := 1) (by omega)
    have r0 := vK_rng s 0 1 256 (by decide)
    have r1 := vK_rng s 1 1 256 (by decide)
    rw [cond_n (by omega), if_neg g6, List.getElem?_eq_getElem (show 0 < s.length by omega), List.getElem?_eq_getElem (show 1 < s.length by omega)]
    simp only [Option.bind_some]
    rw [← e0, ← e1, wI64 (n := vK s 0 1) (by omega) (by omega), wI64 (n := vK s 1 1) (by omega) (by omega), rkind53_eq, Option.bind_some, oreq_p (by omega), List.take_of_length_le (by simp)]
    by_cases g7 : kind53 src.V6 (vK s 0 1) (vK s 1 1) = 2
    · have M6 : R02_Must s 6 2 = some (vK s 6 2) := must_at (p := 6) (k := 2) (by omega) (by omega) (by omega) (by omega)
      rw [g7, if_pos rfl, M6]; rfl
    · rw [if_neg g7, show (kind53 src.V6 (vK s 0 1) (vK s 1 1) == 2) = false by simpa using g7]; rfl
  · rw [if_pos (by simpa using g5), show ((((norm (wsum (p ++ s)) : Nat) : Int) != 65535)) = true by simp; omega]; rfl
end Go.Vm.Code

namespace Go.Vm.Code
open Go Go.Vm Go.Proofs
set_option maxRecDepth 100000
set_option maxHeartbeats 4000000
set_option linter.unusedVariables false

/-! cloakroom/cloakroomlaw53.awake -/
def law53_awakeF (icmp_Get : (List UInt8) → api_Addr → api_Addr → Option (icmp_Message × Int)) (icmp_Put : icmp_Message → api_Addr → api_Addr → Option ((List UInt8) × Int)) : Option Bool :=
  (icmp_Get [] (api_Addr.mk false 0 0) (api_Addr.mk false 0 0)).bind fun xg =>
  (icmp_Put (icmp_Message.mk 2 4 1400 []) (api_Addr.mk false 0 1) (api_Addr.mk false 0 2)).bind fun p =>
  (icmp_Get p.1 (api_Addr.mk false 0 1) (api_Addr.mk false 0 2)).bind fun xg1 =>
  cond (xg.2 == 2)
    (
    cond (p.2 == 0)
      (
      cond ((p.1.length : Int) == 8)
        (
        cond (xg1.2 == 0)
          (
          cond (xg1.1.MTU == 1400)
            (
            cond (xg1.1.Kind == 2)
              (
              some (true))
              (
              some (false)))
            (
            some (false)))
          (
          some (false)))
        (
        some (false)))
      (
      some (false)))
    (
    some (false))
def rx30 (x : Bool) : SRes := ⟨.bool x, [], []⟩
def r30 (g : Option Bool) : Dec := dEnd (ofG (g) rx30)
theorem r30_c {g : Option Bool} {x : Bool} (hx : g = some x) : r30 g [] [] = some (rx30 x) := ofG_eq hx
def s30 (g : Option Bool) : Summ := ⟨[], r30 g⟩
theorem r30_eq {g : Option Bool} {x : Bool} (hx : g = some x) : (s30 g).run [] [] = some (rx30 x) := r30_c hx
abbrev sums30 (icmp_Get : (List UInt8) → api_Addr → api_Addr → Option (icmp_Message × Int)) (icmp_Put : icmp_Message → api_Addr → api_Addr → Option ((List UInt8) × Int)) : List (Nat × Summ) := [(34, s34 icmp_Get), (31, s31 icmp_Put)]
theorem leads30 (icmp_Get : (List UInt8) → api_Addr → api_Addr → Option (icmp_Message × Int)) (icmp_Put : icmp_Message → api_Addr → api_Addr → Option ((List UInt8) × Int)) (hS : SumsOK Try.prog (aget (sums30 icmp_Get icmp_Put))) (res : Bool) (h : law53_awakeF icmp_Get icmp_Put = some res) :
    Leads Try.prog 30 0 ⟨⟨30, 54, [], [.code k30_9], [], false, none⟩, [], [], 0⟩ (fun v H _ => Res 0 (rx30 res) v H) := by
  unfold law53_awakeF at h
  refine ev_ok tab_ok hS true 3000 ?_
  conv => whnf
  obtain ⟨xg, hy, h2⟩ := obind.elim h; clear h; have h := h2; clear h2
  refine sumK.introF [] (sumRun_of (aqs := [.string ⟨⟨[]⟩⟩, .agg ⟨[.bool false, .int .u64 0, .int .u64 0]⟩, .agg ⟨[.bool false, .int .u64 0, .int .u64 0]⟩]) (ws := []) (n := 0) (m := 0) (t' := 0) (ra_cons rfl rfl (ra_cons rfl rfl (ra_cons rfl rfl ra_nil))) rfl (by rfl) (r34_eq hy) rfl rfl rfl rfl wb_nil an_nil rfl) ?_
  conv => whnf
  obtain ⟨p, hy, h2⟩ := obind.elim h; clear h; have h := h2; clear h2
  refine sumK.introF [] (sumRun_of (aqs := [.agg ⟨[.int .i64 2, .int .i64 4, .int .i64 1400, .string ⟨⟨[]⟩⟩]⟩, .agg ⟨[.bool false, .int .u64 0, .int .u64 1]⟩, .agg ⟨[.bool false, .int .u64 0, .int .u64 2]⟩]) (ws := []) (n := 0) (m := 0) (t' := 1) (ra_cons rfl rfl (ra_cons rfl rfl (ra_cons rfl rfl ra_nil))) rfl (by rfl) (r31_eq hy) rfl rfl rfl rfl wb_nil an_nil rfl) ?_
  conv => whnf
  obtain ⟨xg1, hy, h2⟩ := obind.elim h; clear h; have h := h2; clear h2
  refine sumK.introF [] (sumRun_of (aqs := [.string ⟨⟨p.1⟩⟩, .agg ⟨[.bool false, .int .u64 0, .int .u64 1]⟩, .agg ⟨[.bool false, .int .u64 0, .int .u64 2]⟩]) (ws := []) (n := 0) (m := 0) (t' := 1) (ra_cons rfl rfl (ra_cons rfl rfl (ra_cons rfl rfl ra_nil))) rfl (by rfl) (r34_eq hy) rfl rfl rfl rfl wb_nil an_nil rfl) ?_
  conv => whnf
  refine br.h2 h ?_ ?_ ?_
  · rfl
  · clear h; intro hb h; conv => whnf
    all_goals (cases h)
    all_goals exact Res.of [] rfl nw_0 (by decide) js_0 wr_0
  clear h; intro hb h; conv => whnf
  refine br.h2 h ?_ ?_ ?_
  · rfl
  · clear h; intro hb h; conv => whnf
    all_goals (cases h)
    all_goals exact Res.of [] rfl nw_0 (by decide) js_0 wr_0
  clear h; intro hb h; conv => whnf
  refine br.h2 h ?_ ?_ ?_
  · rfl
  · clear h; intro hb h; conv => whnf
    all_goals (cases h)
    all_goals exact Res.of [] rfl nw_0 (by decide) js_0 wr_0
  clear h; intro hb h; conv => whnf
  refine br.h2 h ?_ ?_ ?_
  · rfl
  · clear h; intro hb h; conv => whnf
    all_goals (cases h)
    all_goals exact Res.of [] rfl nw_0 (by decide) js_0 wr_0
  clear h; intro hb h; conv => whnf
  refine br.h2 h ?_ ?_ ?_
  · rfl
  · clear h; intro hb h; conv => whnf
    all_goals (cases h)
    all_goals exact Res.of [] rfl nw_0 (by decide) js_0 wr_0
  clear h; intro hb h; conv => whnf
  refine br.h h ?_ ?_ ?_
  · rfl
  · clear h; intro hb h; conv => whnf
    all_goals (cases h)
    all_goals exact Res.of [] rfl nw_0 (by decide) js_0 wr_0
  clear h; intro hb h; conv => whnf
  all_goals (cases h)
  all_goals exact Res.of [] rfl nw_0 (by decide) js_0 wr_0
theorem ok30 (icmp_Get : (List UInt8) → api_Addr → api_Addr → Option (icmp_Message × Int)) (icmp_Put : icmp_Message → api_Addr → api_Addr → Option ((List UInt8) × Int)) (hS : SumsOK Try.prog (aget (sums30 icmp_Get icmp_Put))) : SumOK Try.prog 30 (s30 (law53_awakeF icmp_Get icmp_Put)) := by
  refine SumOK.of_leads tab_ok (fun ar os r ha hr => ?_) ⟨Try.f30, rfl, by decide, rfl⟩
  replace hr : r30 (law53_awakeF icmp_Get icmp_Put) ar (conts os) = some r := hr
  unfold r30 at hr
  generalize hc : conts os = C at hr
  have hq := dEnd.elim hr; clear hr; obtain ⟨rfl, rfl, hr⟩ := hq
  have hq := ofG.elim hr; clear hr; obtain ⟨x, h, rfl⟩ := hq
  obtain rfl := kinds_nil hc
  exact ⟨_, rfl, leads30 icmp_Get icmp_Put hS x h⟩
def law53_awake : Option Bool := law53_awakeF icmp_Get icmp_Put
theorem lift30 : SumOK Try.prog 30 (s30 law53_awake) := ok30 icmp_Get icmp_Put (SumsOK.of_tab ⟨lift34, lift31, trivial⟩)
end Go.Vm.Code

namespace Go.Vm.Code
open Go Go.Vm Go.Proofs
set_option maxRecDepth 100000
set_option maxHeartbeats 4000000
set_option linter.unusedVariables false

/-! cloakroom/cloakroomlaw53.of -/
def law53_ofF (m : icmp_Message) : Option icmp_Message :=
  some (m)
def rx32 (x : icmp_Message) : SRes := ⟨.agg ⟨[.int .i64 x.Kind, .int .i64 x.Code, .int .i64 x.MTU, .string ⟨⟨x.Quote⟩⟩]⟩, [], []⟩
def r32 (g : icmp_Message → Option icmp_Message) : Dec := dV uvicmp_Message fun (y0 : icmp_Message) => dEnd (ofG (g y0) rx32)
theorem r32_c {g : icmp_Message → Option icmp_Message} {y0 : icmp_Message} {x : icmp_Message} (hx : g y0 = some x) : r32 g [.agg ⟨[.int .i64 y0.Kind, .int .i64 y0.Code, .int .i64 y0.MTU, .string ⟨⟨y0.Quote⟩⟩]⟩] [] = some (rx32 x) := (dV_eq (uvicmp_Message_c _)).trans (ofG_eq hx)
def s32 (g : icmp_Message → Option icmp_Message) : Summ := ⟨[.v], r32 g⟩
theorem r32_eq {g : icmp_Message → Option icmp_Message} {y0 : icmp_Message} {x : icmp_Message} (hx : g y0 = some x) : (s32 g).run [.agg ⟨[.int .i64 y0.Kind, .int .i64 y0.Code, .int .i64 y0.MTU, .string ⟨⟨y0.Quote⟩⟩]⟩] [] = some (rx32 x) := r32_c hx
abbrev sums32 : List (Nat × Summ) := []
theorem leads32 (hS : SumsOK Try.prog (aget (sums32))) (m : icmp_Message) (res : icmp_Message) (h : law53_ofF m = some res) :
    Leads Try.prog 32 0 ⟨⟨32, 12, [(0, .agg ⟨[.int .i64 m.Kind, .int .i64 m.Code, .int .i64 m.MTU, .string ⟨⟨m.Quote⟩⟩]⟩)], [.code k32_3], [], false, none⟩, [], [], 0⟩ (fun v H _ => Res 0 (rx32 res) v H) := by
  unfold law53_ofF at h
  refine ev_ok tab_ok hS true 3000 ?_
  conv => whnf
  all_goals (cases h)
  all_goals exact Res.of [] rfl nw_0 (by decide) js_0 wr_0
theorem ok32 (hS : SumsOK Try.prog (aget (sums32))) : SumOK Try.prog 32 (s32 (law53_ofF)) := by
  refine SumOK.of_leads tab_ok (fun ar os r ha hr => ?_) ⟨Try.f32, rfl, by decide, rfl⟩
  replace hr : r32 (law53_ofF) ar (conts os) = some r := hr
  unfold r32 at hr
  generalize hc : conts os = C at hr
  have hq := dV.elim hr; clear hr; obtain ⟨v0, l1, y0, rfl, e0, hr⟩ := hq; obtain rfl := uvicmp_Message_eq _ _ e0
  have hq := dEnd.elim hr; clear hr; obtain ⟨rfl, rfl, hr⟩ := hq
  have hq := ofG.elim hr; clear hr; obtain ⟨x, h, rfl⟩ := hq
  obtain rfl := kinds_nil hc
  exact ⟨_, rfl, leads32 hS _ x h⟩
def law53_of : icmp_Message → Option icmp_Message := law53_ofF
theorem lift32 : SumOK Try.prog 32 (s32 law53_of) := ok32 (SumsOK.of_tab trivial)
end Go.Vm.Code

namespace Go.Vm.Code
open Go Go.Vm Go.Proofs
set_option maxRecDepth 100000
set_option maxHeartbeats 4000000
set_option linter.unusedVariables false

/-! cloakroom/cloakroomlaw53.back -/
def law53_backF (m : icmp_Message) : Option icmp_Message :=
  some (m)
def rx38 (x : icmp_Message) : SRes := ⟨.agg ⟨[.int .i64 x.Kind, .int .i64 x.Code, .int .i64 x.MTU, .string ⟨⟨x.Quote⟩⟩]⟩, [], []⟩
def r38 (g : icmp_Message → Option icmp_Message) : Dec := dV uvicmp_Message fun (y0 : icmp_Message) => dEnd (ofG (g y0) rx38)
theorem r38_c {g : icmp_Message → Option icmp_Message} {y0 : icmp_Message} {x : icmp_Message} (hx : g y0 = some x) : r38 g [.agg ⟨[.int .i64 y0.Kind, .int .i64 y0.Code, .int .i64 y0.MTU, .string ⟨⟨y0.Quote⟩⟩]⟩] [] = some (rx38 x) := (dV_eq (uvicmp_Message_c _)).trans (ofG_eq hx)
def s38 (g : icmp_Message → Option icmp_Message) : Summ := ⟨[.v], r38 g⟩
theorem r38_eq {g : icmp_Message → Option icmp_Message} {y0 : icmp_Message} {x : icmp_Message} (hx : g y0 = some x) : (s38 g).run [.agg ⟨[.int .i64 y0.Kind, .int .i64 y0.Code, .int .i64 y0.MTU, .string ⟨⟨y0.Quote⟩⟩]⟩] [] = some (rx38 x) := r38_c hx
abbrev sums38 : List (Nat × Summ) := []
theorem leads38 (hS : SumsOK Try.prog (aget (sums38))) (m : icmp_Message) (res : icmp_Message) (h : law53_backF m = some res) :
    Leads Try.prog 38 0 ⟨⟨38, 12, [(0, .agg ⟨[.int .i64 m.Kind, .int .i64 m.Code, .int .i64 m.MTU, .string ⟨⟨m.Quote⟩⟩]⟩)], [.code k38_3], [], false, none⟩, [], [], 0⟩ (fun v H _ => Res 0 (rx38 res) v H) := by
  unfold law53_backF at h
  refine ev_ok tab_ok hS true 3000 ?_
  conv => whnf
  all_goals (cases h)
  all_goals exact Res.of [] rfl nw_0 (by decide) js_0 wr_0
theorem ok38 (hS : SumsOK Try.prog (aget (sums38))) : SumOK Try.prog 38 (s38 (law53_backF)) := by
  refine SumOK.of_leads tab_ok (fun ar os r ha hr => ?_) ⟨Try.f38, rfl, by decide, rfl⟩
  replace hr : r38 (law53_backF) ar (conts os) = some r := hr
  unfold r38 at hr
  generalize hc : conts os = C at hr
  have hq := dV.elim hr; clear hr; obtain ⟨v0, l1, y0, rfl, e0, hr⟩ := hq; obtain rfl := uvicmp_Message_eq _ _ e0
  have hq := dEnd.elim hr; clear hr; obtain ⟨rfl, rfl, hr⟩ := hq
  have hq := ofG.elim hr; clear hr; obtain ⟨x, h, rfl⟩ := hq
  obtain rfl := kinds_nil hc
  exact ⟨_, rfl, leads38 hS _ x h⟩
def law53_back : icmp_Message → Option icmp_Message := law53_backF
theorem lift38 : SumOK Try.prog 38 (s38 law53_back) := ok38 (SumsOK.of_tab trivial)
end Go.Vm.Code

namespace Go.Vm.Code
open Go Go.Vm Go.Proofs
set_option maxRecDepth 100000
set_option maxHeartbeats 4000000
set_option linter.unusedVariables false

/-! cloakroom/cloakroomlaw53.IcmpBack -/
def law53_IcmpBackF (icmp_Get : (List UInt8) → api_Addr → api_Addr → Option (icmp_Message × Int)) (icmp_Put : icmp_Message → api_Addr → api_Addr → Option ((List UInt8) × Int)) (law53_awake : Option Bool) (law53_back : icmp_Message → Option icmp_Message) (law53_of : icmp_Message → Option icmp_Message) (m : icmp_Message) (src : api_Addr) (dst : api_Addr) (ata3 : Int) : Option Bool :=
  cond (decide ((m.Quote.length : Int) > 300))
    (
    (law53_awake).bind fun a =>
    some (a))
    (
    (law53_of m).bind fun xo =>
    (icmp_Put xo src dst).bind fun p =>
    cond (p.2 != 0)
      (
      cond (p.1 == [])
        (
        (law53_awake).bind fun a1 =>
        some (a1))
        (
        some (false)))
      (
      (icmp_Get p.1 src dst).bind fun xg =>
      cond (xg.2 != 0)
        (
        some (false))
        (
        (law53_back xg.1).bind fun b =>
        let t := !((b.Kind == m.Kind) && ((b.Code == m.Code) && ((b.MTU == m.MTU) && ((b.Quote == m.Quote) && true))))
        cond (t)
          (
          some (false))
          (
          let t1 := (p.1.length : Int) != (wI .i64 (8 + (m.Quote.length : Int)))
          cond (t1)
            (
            some (false))
            (
            oreq (!(decide (wI .i64 (8 * (p.1.length : Int)) = 0))) <|
            let t2 := (wI .i64 ata3).tmod (wI .i64 (8 * (p.1.length : Int)))
            oreq (decide ((0 : Int) ≤ (wI .i64 (t2.tdiv 8)) ∧ (wI .i64 (t2.tdiv 8)) < (p.1.length : Int))) <|
            ((bI p.1)[(wI .i64 (t2.tdiv 8)).toNat]?).bind fun (e : Int) =>
            oreq (decide (0 ≤ (t2.tmod 8))) <|
            let t3 := wI .u8 (1 * 2 ^ (min (t2.tmod 8).toNat 8))
            oreq (decide ((0 : Int) ≤ (wI .i64 (t2.tdiv 8)) ∧ (wI .i64 (t2.tdiv 8)) < (p.1.length : Int))) <|
            oreq (decide ((wI .i64 (t2.tdiv 8)).toNat < (bI p.1).length)) <|
            let row := (bI p.1).set (wI .i64 (t2.tdiv 8)).toNat (ixorI .u8 e t3)
            oreq (decide (p.1.length ≤ row.length)) <|
            (icmp_Get (iB (row.take p.1.length)) src dst).bind fun xg1 =>
            cond (xg1.2 == 4)
              (
              (law53_awake).bind fun a2 =>
              some (a2))
              (
              some (false)))))))
def rx8 (x : Bool) : SRes := ⟨.bool x, [], []⟩
def r8 (g : icmp_Message → api_Addr → api_Addr → Int → Option Bool) : Dec := dV uvicmp_Message fun (y0 : icmp_Message) => dV uvapi_Addr fun (y1 : api_Addr) => dV uvapi_Addr fun (y2 : api_Addr) => dV (asI .u16) fun (y3 : Int) => dEnd (ofG (g y0 y1 y2 y3) rx8)
theorem r8_c {g : icmp_Message → api_Addr → api_Addr → Int → Option Bool} {y0 : icmp_Message} {y1 : api_Addr} {y2 : api_Addr} {y3 : Int} {x : Bool} (hx : g y0 y1 y2 y3 = some x) : r8 g [.agg ⟨[.int .i64 y0.Kind, .int .i64 y0.Code, .int .i64 y0.MTU, .string ⟨⟨y0.Quote⟩⟩]⟩, .agg ⟨[.bool y1.V6, .int .u64 y1.Hi, .int .u64 y1.Lo]⟩, .agg ⟨[.bool y2.V6, .int .u64 y2.Hi, .int .u64 y2.Lo]⟩, .int .u16 y3] [] = some (rx8 x) := (dV_eq (uvicmp_Message_c _)).trans ((dV_eq (uvapi_Addr_c _)).trans ((dV_eq (uvapi_Addr_c _)).trans ((dV_eq (asI_c _)).trans (ofG_eq hx))))
def s8 (g : icmp_Message → api_Addr → api_Addr → Int → Option Bool) : Summ := ⟨[.v, .v, .v, .v], r8 g⟩
theorem r8_eq {g : icmp_Message → api_Addr → api_Addr → Int → Option Bool} {y0 : icmp_Message} {y1 : api_Addr} {y2 : api_Addr} {y3 : Int} {x : Bool} (hx : g y0 y1 y2 y3 = some x) : (s8 g).run [.agg ⟨[.int .i64 y0.Kind, .int .i64 y0.Code, .int .i64 y0.MTU, .string ⟨⟨y0.Quote⟩⟩]⟩, .agg ⟨[.bool y1.V6, .int .u64 y1.Hi, .int .u64 y1.Lo]⟩, .agg ⟨[.bool y2.V6, .int .u64 y2.Hi, .int .u64 y2.Lo]⟩, .int .u16 y3] [] = some (rx8 x) := r8_c hx
abbrev sums8 (icmp_Get : (List UInt8) → api_Addr → api_Addr → Option (icmp_Message × Int)) (icmp_Put : icmp_Message → api_Addr → api_Addr → Option ((List UInt8) × Int)) (law53_awake : Option Bool) (law53_back : icmp_Message → Option icmp_Message) (law53_of : icmp_Message → Option icmp_Message) : List (Nat × Summ) := [(34, s34 icmp_Get), (31, s31 icmp_Put), (30, s30 law53_awake), (38, s38 law53_back), (32, s32 law53_of)]
theorem leads8 (icmp_Get : (List UInt8) → api_Addr → api_Addr → Option (icmp_Message × Int)) (icmp_Put : icmp_Message → api_Addr → api_Addr → Option ((List UInt8) × Int)) (law53_awake : Option Bool) (law53_back : icmp_Message → Option icmp_Message) (law53_of : icmp_Message → Option icmp_Message) (hS : SumsOK Try.prog (aget (sums8 icmp_Get icmp_Put law53_awake law53_back law53_of))) (m : icmp_Message) (src : api_Addr) (dst : api_Addr) (ata3 : Int) (res : Bool) (h : law53_IcmpBackF icmp_Get icmp_Put law53_awake law53_back law53_of m src dst ata3 = some res) :
    Leads Try.prog 8 0 ⟨⟨8, 95, [(0, .agg ⟨[.int .i64 m.Kind, .int .i64 m.Code, .int .i64 m.MTU, .string ⟨⟨m.Quote⟩⟩]⟩), (1, .agg ⟨[.bool src.V6, .int .u64 src.Hi, .int .u64 src.Lo]⟩), (2, .agg ⟨[.bool dst.V6, .int .u64 dst.Hi, .int .u64 dst.Lo]⟩), (3, .int .u16 ata3)], [.code k8_33], [], false, none⟩, [], [], 0⟩ (fun v H _ => Res 0 (rx8 res) v H) := by
  unfold law53_IcmpBackF at h
  refine ev_ok tab_ok hS true 3000 ?_
  conv => whnf
  refine br.h h ?_ ?_ ?_
  · rfl
  · clear h; intro hb h; conv => whnf
    obtain ⟨a, hy, h2⟩ := obind.elim h; clear h; have h := h2; clear h2
    refine sumK.introF [] (sumRun_of (aqs := []) (ws := []) (n := 0) (m := 0) (t' := 3) ra_nil rfl (by rfl) (r30_eq hy) rfl rfl rfl rfl wb_nil an_nil rfl) ?_
    conv => whnf
    all_goals (cases h)
    all_goals exact Res.of [] rfl nw_0 (by decide) js_0 wr_0
  clear h; intro hb h; conv => whnf
  obtain ⟨xo, hy, h2⟩ := obind.elim h; clear h; have h := h2; clear h2
  refine sumK.introF [] (sumRun_of (aqs := [.agg ⟨[.int .i64 m.Kind, .int .i64 m.Code, .int .i64 m.MTU, .string ⟨⟨m.Quote⟩⟩]⟩]) (ws := []) (n := 0) (m := 0) (t' := 4) (ra_cons rfl rfl ra_nil) rfl (by rfl) (r32_eq hy) rfl rfl rfl rfl wb_nil an_nil rfl) ?_
  conv => whnf
  obtain ⟨p, hy, h2⟩ := obind.elim h; clear h; have h := h2; clear h2
  refine sumK.introF [] (sumRun_of (aqs := [.agg ⟨[.int .i64 xo.Kind, .int .i64 xo.Code, .int .i64 xo.MTU, .string ⟨⟨xo.Quote⟩⟩]⟩, .agg ⟨[.bool src.V6, .int .u64 src.Hi, .int .u64 src.Lo]⟩, .agg ⟨[.bool dst.V6, .int .u64 dst.Hi, .int .u64 dst.Lo]⟩]) (ws := []) (n := 0) (m := 0) (t' := 7) (ra_cons rfl rfl (ra_cons rfl rfl (ra_cons rfl rfl ra_nil))) rfl (by rfl) (r31_eq hy) rfl rfl rfl rfl wb_nil an_nil rfl) ?_
  conv => whnf
  refine br.h h ?_ ?_ ?_
  · rfl
  · clear h; intro hb h; conv => whnf
    refine br.h2 h ?_ ?_ ?_
    · rfl
    · clear h; intro hb h; conv => whnf
      all_goals (cases h)
      all_goals exact Res.of [] rfl nw_0 (by decide) js_0 wr_0
    clear h; intro hb h; conv => whnf
    obtain ⟨a1, hy, h2⟩ := obind.elim h; clear h; have h := h2; clear h2
    refine sumK.introF [] (sumRun_of (aqs := []) (ws := []) (n := 0) (m := 0) (t' := 12) ra_nil rfl (by rfl) (r30_eq hy) rfl rfl rfl rfl wb_nil an_nil rfl) ?_
    conv => whnf
    all_goals (cases h)
    all_goals exact Res.of [] rfl nw_0 (by decide) js_0 wr_0
  clear h; intro hb h; conv => whnf
  obtain ⟨xg, hy, h2⟩ := obind.elim h; clear h; have h := h2; clear h2
  refine sumK.introF [] (sumRun_of (aqs := [.string ⟨⟨p.1⟩⟩, .agg ⟨[.bool src.V6, .int .u64 src.Hi, .int .u64 src.Lo]⟩, .agg ⟨[.bool dst.V6, .int .u64 dst.Hi, .int .u64 dst.Lo]⟩]) (ws := []) (n := 0) (m := 0) (t' := 12) (ra_cons rfl rfl (ra_cons rfl rfl (ra_cons rfl rfl ra_nil))) rfl (by rfl) (r34_eq hy) rfl rfl rfl rfl wb_nil an_nil rfl) ?_
  conv => whnf
  refine br.h h ?_ ?_ ?_
  · rfl
  · clear h; intro hb h; conv => whnf
    all_goals (cases h)
    all_goals exact Res.of [] rfl nw_0 (by decide) js_0 wr_0
  clear h; intro hb h; conv => whnf
  obtain ⟨b, hy, h2⟩ := obind.elim h; clear h; have h := h2; clear h2
  refine sumK.introF [] (sumRun_of (aqs := [.agg ⟨[.int .i64 xg.1.Kind, .int .i64 xg.1.Code, .int .i64 xg.1.MTU, .string ⟨⟨xg.1.Quote⟩⟩]⟩]) (ws := []) (n := 0) (m := 0) (t' := 17) (ra_cons rfl rfl ra_nil) rfl (by rfl) (r38_eq hy) rfl rfl rfl rfl wb_nil an_nil rfl) ?_
  conv => whnf
  let t : Bool := !((b.Kind == m.Kind) && ((b.Code == m.Code) && ((b.MTU == m.MTU) && ((b.Quote == m.Quote) && true))))
  refine br.h h ?_ ?_ ?_
  · rfl
  · clear h; intro hb h; conv => whnf
    all_goals (cases h)
    all_goals exact Res.of [] rfl nw_0 (by decide) js_0 wr_0
  clear h; intro hb h; conv => whnf
  let t1 : Bool := (p.1.length : Int) != (wI .i64 (8 + (m.Quote.length : Int)))
  refine br.h h ?_ ?_ ?_
  · rfl
  · clear h; intro hb h; conv => whnf
    all_goals (cases h)
    all_goals exact Res.of [] rfl nw_0 (by decide) js_0 wr_0
  clear h; intro hb h; conv => whnf
  replace h := oreq.elim h; have hb := h.1; replace h := h.2
  first | (refine req.intro hb ?_; conv => whnf) | skip
  let t2 : Int := (wI .i64 ata3).tmod (wI .i64 (8 * (p.1.length : Int)))
  refine pk_s2b ?_
  conv => whnf
  replace h := oreq.elim h; have hb := h.1; replace h := h.2
  first | (refine req.intro hb ?_; conv => whnf) | skip
  obtain ⟨e, hy, h2⟩ := obind.elim h; clear h; have h := h2; clear h2
  refine rd.I hy (by first | rfl | (rw [Nat.zero_add, Nat.mul_one]; done) | omega) ?_
  conv => whnf
  replace h := oreq.elim h; have hb := h.1; replace h := h.2
  first | (refine req.intro hb ?_; conv => whnf) | skip
  let t3 : Int := wI .u8 (1 * 2 ^ (min (t2.tmod 8).toNat 8))
  replace h := oreq.elim h; have hb := h.1; replace h := h.2
  first | (refine req.intro hb ?_; conv => whnf) | skip
  replace h := oreq.elim h; have hb := h.1; replace h := h.2
  refine st_I hb (by first | rfl | (rw [Nat.zero_add, Nat.mul_one]; done) | omega) ?_
  conv => whnf
  let row : List Int := (bI p.1).set (wI .i64 (t2.tdiv 8)).toNat (ixorI .u8 e t3)
  replace h := oreq.elim h; have hb := h.1; replace h := h.2
  refine req.intro (by (first | rfl | (simp [vI, vB, vS, bI, oneC, addrBlk, cellsL, Value.cells] at *; omega) | (simp [vI, vB, vS, bI, oneC, addrBlk, cellsL, Value.cells] at *; done))) ?_
  conv => whnf
  refine pk_b2s ?_
  conv => whnf
  obtain ⟨xg1, hy, h2⟩ := obind.elim h; clear h; have h := h2; clear h2
  refine sumK.introF [] (sumRun_of (aqs := [.string ⟨⟨iB (row.take p.1.length)⟩⟩, .agg ⟨[.bool src.V6, .int .u64 src.Hi, .int .u64 src.Lo]⟩, .agg ⟨[.bool dst.V6, .int .u64 dst.Hi, .int .u64 dst.Lo]⟩]) (ws := []) (n := 0) (m := 0) (t' := 41) (ra_cons rfl rfl (ra_cons rfl rfl (ra_cons rfl rfl ra_nil))) rfl (by rfl) (r34_eq hy) rfl rfl rfl rfl wb_nil an_nil rfl) ?_
  conv => whnf
  refine br.h2 h ?_ ?_ ?_
  · rfl
  · clear h; intro hb h; conv => whnf
    all_goals (cases h)
    all_goals exact Res.of [] rfl nw_0 (by decide) js_0 wr_0
  clear h; intro hb h; conv => whnf
  obtain ⟨a2, hy, h2⟩ := obind.elim h; clear h; have h := h2; clear h2
  refine sumK.introF [] (sumRun_of (aqs := []) (ws := []) (n := 0) (m := 0) (t' := 42) ra_nil rfl (by rfl) (r30_eq hy) rfl rfl rfl rfl wb_nil an_nil rfl) ?_
  conv => whnf
  all_goals (cases h)
  all_goals exact Res.of [] rfl nw_0 (by decide) js_0 wr_0
theorem ok8 (icmp_Get : (List UInt8) → api_Addr → api_Addr → Option (icmp_Message × Int)) (icmp_Put : icmp_Message → api_Addr → api_Addr → Option ((List UInt8) × Int)) (law53_awake : Option Bool) (law53_back : icmp_Message → Option icmp_Message) (law53_of : icmp_Message → Option icmp_Message) (hS : SumsOK Try.prog (aget (sums8 icmp_Get icmp_Put law53_awake law53_back law53_of))) : SumOK Try.prog 8 (s8 (law53_IcmpBackF icmp_Get icmp_Put law53_awake law53_back law53_of)) := by
  refine SumOK.of_leads tab_ok (fun ar os r ha hr => ?_) ⟨Try.f8, rfl, by decide, rfl⟩
  replace hr : r8 (law53_IcmpBackF icmp_Get icmp_Put law53_awake law53_back law53_of) ar (conts os) = some r := hr
  unfold r8 at hr
  generalize hc : conts os = C at hr
  have hq := dV.elim hr; clear hr; obtain ⟨v0, l1, y0, rfl, e0, hr⟩ := hq; obtain rfl := uvicmp_Message_eq _ _ e0
  have hq := dV.elim hr; clear hr; obtain ⟨v1, l2, y1, rfl, e1, hr⟩ := hq; obtain rfl := uvapi_Addr_eq _ _ e1
  have hq := dV.elim hr; clear hr; obtain ⟨v2, l3, y2, rfl, e2, hr⟩ := hq; obtain rfl := uvapi_Addr_eq _ _ e2
  have hq := dV.elim hr; clear hr; obtain ⟨v3, l4, y3, rfl, e3, hr⟩ := hq; obtain rfl := asI_eq _ _ _ e3
  have hq := dEnd.elim hr; clear hr; obtain ⟨rfl, rfl, hr⟩ := hq
  have hq := ofG.elim hr; clear hr; obtain ⟨x, h, rfl⟩ := hq
  obtain rfl := kinds_nil hc
  exact ⟨_, rfl, leads8 icmp_Get icmp_Put law53_awake law53_back law53_of hS _ _ _ _ x h⟩
def law53_IcmpBack : icmp_Message → api_Addr → api_Addr → Int → Option Bool := law53_IcmpBackF icmp_Get icmp_Put law53_awake law53_back law53_of
theorem lift8 : SumOK Try.prog 8 (s8 law53_IcmpBack) := ok8 icmp_Get icmp_Put law53_awake law53_back law53_of (SumsOK.of_tab ⟨lift34, lift31, lift30, lift38, lift32, trivial⟩)
end Go.Vm.Code

/- IcmpBack in plain words. -/
namespace Go.Vm.Code
open Go Go.Vm
theorem awake53b : law53_awake = some true := by decide +kernel
theorem of53b (h : icmp_Message) : law53_of h = some h := rfl
theorem back53b (h : icmp_Message) : law53_back h = some h := rfl
theorem parts53 {a b c u r : List UInt8} (ha : a.length = 1) (hb : b.length = 1) (hc : c.length = 2) (hu : u.length = 2) : let s := a ++ b ++ (c ++ (be 0 2 ++ u ++ r))
    (s.drop 0).take 1 = a ∧ (s.drop 1).take 1 = b ∧ (s.drop 6).take 2 = u ∧ s.drop 8 = r := by
  obtain ⟨a1, rfl⟩ := l1 ha
  obtain ⟨b1, rfl⟩ := l1 hb
  obtain ⟨c1, c2, rfl⟩ := l2 hc
  obtain ⟨u1, u2, rfl⟩ := l2 hu
  exact ⟨rfl, rfl, rfl, rfl⟩
theorem kind_typ {m : icmp_Message} {v : Bool} (h : M53 m v = true) : kind53 v (typ53 v m.Kind) m.Code = m.Kind := by
  obtain ⟨k, c, u, q⟩ := m
  unfold M53 at h
  unfold kind53 typ53
  cases v
  · simp only [cond_false, decide_eq_true_eq, P53_iff] at h ⊢
    have hk : k = 1 ∨ k = 2 ∨ k = 3 := by omega
    rcases hk with rfl | rfl | rfl
    · rw [show ((1 : Int) == 3) = false from rfl, cond_false, if_neg (by omega), if_neg (by omega), if_neg (by omega)]
    · rw [show ((2 : Int) == 3) = false from rfl, cond_false, if_neg (by omega), if_neg (by omega), if_pos (by omega)]
    · rfl
  · simp only [cond_true, decide_eq_true_eq, P53_iff] at h ⊢
    rw [if_pos (by omega)]
theorem get_put53 {m : icmp_Message} {src dst : api_Addr} (hp : pairB src dst = true) (hm : M53 m src.V6 = true) : get53 (hc53 src.V6 m (ck53 (ov src dst (8 + m.Quote.length)) src.V6 m)) src dst = (m, 0) := by
  obtain ⟨q1, q2, q3, q4, q5, q6, q7, q8⟩ := M53_inv hm
  have hk : m.Kind = 1 ∨ m.Kind = 2 ∨ m.Kind = 3 := by omega
  have ht := typ53_rng (v := src.V6) hk
  have pe := ov_even src dst (8 + m.Quote.length)
  generalize hpp : ov src dst (8 + m.Quote.length) = p at *
  obtain ⟨c1, c2, c3⟩ := ck53_ok pe src.V6 m
  generalize ck53 p src.V6 m = c at *
  have hlen := hc53_len src.V6 m c
  obtain ⟨p0, p1, p6, p8⟩ := parts53 (a := be (typ53 src.V6 m.Kind).toNat 1) (b := be m.Code.toNat 1) (c := be c 2) (u := be m.MTU.toNat 2) (r := m.Quote) (by simp) (by simp) (by simp) (by simp)
  have e : be (typ53 src.V6 m.Kind).toNat 1 ++ be m.Code.toNat 1 ++ (be c 2 ++ (be 0 2 ++ be m.MTU.toNat 2 ++ m.Quote)) = hc53 src.V6 m c := rfl
  rw [e] at p0 p1 p6 p8
  have v0 := vK_of p0 rfl (by omega)
  have v1 := vK_of p1 rfl (by omega)
  have v6 := vK_of p6 rfl (by omega)
  rw [Int.toNat_of_nonneg ht.1] at v0
  rw [Int.toNat_of_nonneg q3] at v1
  rw [Int.toNat_of_nonneg q5] at v6
  have hl : ((hc53 src.V6 m c).length : Int) = 8 + m.Quote.length := by omega
  unfold get53
  rw [v0, v1, v6, hl, hpp, p8, if_neg (by omega), if_neg (by rw [hp]; decide), norm_zero_mod c2 c3, if_neg (by decide), if_neg (by omega), kind_typ hm]
  by_cases hk2 : m.Kind = 2
  · rw [if_pos hk2]
  · rw [if_neg hk2]
    have : m.MTU = 0 := by omega
    obtain ⟨k, c', u, q⟩ := m
    simp only at this ⊢
    rw [this]
theorem get_flip53 {m : icmp_Message} {src dst : api_Addr} {p s : List UInt8} (hp : pairB src dst = true) (hpp : ov src dst (8 + m.Quote.length) = p) (hs : hc53 src.V6 m (ck53 p src.V6 m) = s) {i j : Nat} (hi : i < s.length) (hj : j < 8) : (get53 (s.set i (flipB s[i] j)) src dst).2 = 4 := by
  have pe : p.length % 2 = 0 := by rw [← hpp]; exact ov_even _ _ _
  obtain ⟨c1, c2, c3⟩ := ck53_ok pe src.V6 m
  rw [hs] at c2 c3
  have hlen : s.length = 8 + m.Quote.length := by rw [← hs, hc53_len]
  have hl : (((s.set i (flipB s[i] j)).length : Nat) : Int) = 8 + m.Quote.length := by rw [List.length_set]; omega
  unfold get53
  rw [hl, hpp, if_neg (by rw [List.length_set]; omega), if_neg (by rw [hp]; decide), if_pos]
  intro hx
  obtain ⟨d, d1, d2, d3⟩ := wsum_flip hi hj
  rw [wsum_append _ _ pe] at hx c2
  have m1 := norm_mod (wsum p + wsum (s.set i (flipB s[i] j)))
  rw [hx] at m1
  omega
theorem icmpBack (m : icmp_Message) (src dst : api_Addr) (bit : Int) (h1 : A4 src) (h2 : A4 dst) (hb : 0 ≤ bit ∧ bit < 65536) : law53_IcmpBack m src dst bit = some true := by
  unfold law53_IcmpBack law53_IcmpBackF
  rw [awake53b]
  by_cases g1 : (m.Quote.length : Int) > 300
  · rw [cond_p g1]; rfl
  rw [cond_n g1, of53b, Option.bind_some, iput_eq h1 h2 (by omega), Option.bind_some]
  unfold put53
  cases hp : pairB src dst
  · rfl
  cases hm : M53 m src.V6
  · rfl
  rw [if_neg (by decide), if_neg (by decide)]
  have hgp := get_put53 hp hm
  have hfl : ∀ {s : List UInt8} (hs : hc53 src.V6 m (ck53 (ov src dst (8 + m.Quote.length)) src.V6 m) = s) {i j : Nat} (hi : i < s.length) (_ : j < 8), (get53 (s.set i (flipB s[i] j)) src dst).2 = 4 := fun hs _ _ hi hj => get_flip53 hp rfl hs hi hj
  have hlen := hc53_len src.V6 m (ck53 (ov src dst (8 + m.Quote.length)) src.V6 m)
  generalize hc53 src.V6 m (ck53 (ov src dst (8 + m.Quote.length)) src.V6 m) = P at *
  simp only [bne_self_eq_false, cond_false]
  rw [iget_eq h1 h2 (by omega), hgp, Option.bind_some]
  simp only [bne_self_eq_false, cond_false, back53b, Option.bind_some, beq_self_eq_true, Bool.and_self, Bool.not_true]
  rw [wI64 (n := 8 + (m.Quote.length : Int)) (by omega) (by omega), show ((P.length : Int) != 8 + (m.Quote.length : Int)) = false by simp; omega, cond_false, wI64 (n := 8 * (P.length : Int)) (by omega) (by omega), wI64 (n := bit) (by omega) (by omega), oreq.mk (b := !(decide (8 * (P.length : Int) = 0))) (by rw [Bool.not_eq_true', decide_eq_false_iff_not]; omega)]
  have e0 : bit.tmod (8 * (P.length : Int)) = ((bit.toNat % (8 * P.length) : Nat) : Int) := by
    have h8 : ((8 * P.length : Nat) : Int) = 8 * (P.length : Int) := by omega
    rw [Int.tmod_eq_emod_of_nonneg hb.1, Int.natCast_emod, h8, Int.toNat_of_nonneg hb.1]
  have hk := Nat.mod_lt bit.toNat (show 0 < 8 * P.length by omega)
  rw [e0]
  generalize bit.toNat % (8 * P.length) = k at *
  rw [show (k : Int).tdiv 8 = ((k / 8 : Nat) : Int) by rw [Int.tdiv_eq_ediv_of_nonneg (by omega)]; omega, show (k : Int).tmod 8 = ((k % 8 : Nat) : Int) by rw [Int.tmod_eq_emod_of_nonneg (by omega)]; omega, wI64 (n := ((k / 8 : Nat) : Int)) (by omega) (by omega)]
  simp only [Int.toNat_natCast]
  have hi : k / 8 < P.length := by omega
  have hj : k % 8 < 8 := Nat.mod_lt _ (by decide)
  rw [oreq_p (by omega), bI_get hi, Option.bind_some, oreq_p (by omega), oreq_p (by omega), oreq_p (by simpa using hi), oreq_p (by simp), flip_row hi hj rfl, iget_eq h1 h2 (by rw [List.length_set]; omega), Option.bind_some, hfl rfl hi hj]; rfl
end Go.Vm.Code
