import Derived.Test.YtadhjooghfdloaaNSavedKeepsd
namespace Go.Vm.Code
open Go Go.Vm Go.Proofs
set_option maxRecDepth 100000
set_option maxHeartbeats 4000000
set_option linter.unusedVariables false
def saved_Right_s1 (addr_Right : api_Addr → Option Bool) (ra0 : saved_Record) (t8 : Int) (c : Int) : Option (Sum (Int × Int) Bool) :=
  cond (decide (t8 < (ra0.L.length : Int)))
    (
    oreq (decide ((0 : Int) ≤ t8 ∧ t8 < (ra0.L.length : Int))) <|
    (ra0.L[t8.toNat]?).bind fun (e : api_Backend) =>
    cond (e.State == 1)
      (
      cond (decide (e.ID ≤ c))
        (
        some (.inr (!(decide (t8 ≥ 0)))))
        (
        cond (decide (e.ID > ra0.Last))
          (
          some (.inr (!(decide (t8 ≥ 0)))))
          (
          cond (decide (e.Weight < 0))
            (
            some (.inr (!(decide (t8 ≥ 0)))))
            (
            cond (decide (e.Weight > 1000))
              (
              some (.inr (!(decide (t8 ≥ 0)))))
              (
              (addr_Right e.Addr).bind fun xr =>
              cond (!xr)
                (
                some (.inr (!(decide (t8 ≥ 0)))))
                (
                some (.inl (wI .i64 (t8 + 1), e.ID))))))))
      (
      cond (decide (e.ID ≤ c))
        (
        some (.inr (!(decide (t8 ≥ 0)))))
        (
        cond (decide (e.ID > ra0.Last))
          (
          some (.inr (!(decide (t8 ≥ 0)))))
          (
          cond (decide (e.Weight < 0))
            (
            some (.inr (!(decide (t8 ≥ 0)))))
            (
            cond (decide (e.Weight > 1000))
              (
              some (.inr (!(decide (t8 ≥ 0)))))
              (
              cond (!(e.State == 3))
                (
                some (.inr (!(decide (t8 ≥ 0)))))
                (
                (addr_Right e.Addr).bind fun xr1 =>
                cond (!xr1)
                  (
                  some (.inr (!(decide (t8 ≥ 0)))))
                  (
                  some (.inl (wI .i64 (t8 + 1), e.ID))))))))))
    (
    some (.inr (true)))
def saved_RightF (addr_Right : api_Addr → Option Bool) (ra0 : saved_Record) : Option Bool :=
  cond (decide (ra0.Last ≥ 0))
    (
    cond (decide (ra0.Last ≤ 65535))
      (
      cond (decide ((ra0.L.length : Int) ≤ 64))
        (
        iter (fun st => saved_Right_s1 addr_Right ra0 st.1 st.2) FUEL (0, 0))
        (
        some (false)))
      (
      some (false)))
    (
    some (false))
def rx56 (x : Bool) : SRes := ⟨.bool x, [], [none]⟩
def r56 (g : saved_Record → Option Bool) : Dec := dTr 1 (udsaved_Record 0) fun (y0 : saved_Record) => dEnd (ofG (g y0) rx56)
theorem r56_c {g : saved_Record → Option Bool} {y0 : saved_Record} {x : Bool} (hx : g y0 = some x) : r56 g [.agg ⟨[.int .u64 y0.Key.A, .int .u64 y0.Key.B, .int .i64 y0.Last, .slice (some ⟨0, 0, none⟩) y0.L.length 6]⟩] [some (vT capi_Backend y0.L)] = some (rx56 x) := (dTr_eq rfl rfl (udsaved_Record_c 0 _)).trans (ofG_eq hx)
def s56 (g : saved_Record → Option Bool) : Summ := ⟨[.tr [⟨none, 3, 0, 0, some 6⟩]], r56 g⟩
theorem r56_eq {g : saved_Record → Option Bool} {y0 : saved_Record} {x : Bool} (hx : g y0 = some x) : (s56 g).run [.agg ⟨[.int .u64 y0.Key.A, .int .u64 y0.Key.B, .int .i64 y0.Last, .slice (some ⟨0, 0, none⟩) y0.L.length 6]⟩] [some (vT capi_Backend y0.L)] = some (rx56 x) := r56_c hx
abbrev sums56 (addr_Right : api_Addr → Option Bool) : List (Nat × Summ) := [(82, s82 addr_Right)]
def head56_1 (ra0 : saved_Record) (t8 : Int) (c : Int) : VM :=
  ⟨⟨139, 19, [(0, .slice (some ⟨0, 0, none⟩) ra0.L.length 6), (1, .func (.func 113) ⟨[]⟩ ⟨[.pointer (some ⟨2, 0, none⟩), .pointer (some ⟨1, 0, none⟩)]⟩), (7, .int .i64 (ra0.L.length : Int)), (8, .int .i64 t8)], [.code k139_15, .inLoop k139_15, .inBlock 0, .code k139_20], [], false, none⟩, [⟨114, 9, [], [.inReg (opsD k114_1 2), .code .ret], [], false, none⟩, ⟨56, 27, [(20, .bool true)], [.inReg (opsD k56_3 18), .code .ret], [], false, none⟩], [(0, .row false (vT capi_Backend ra0.L)), (1, .cells [.int .u64 ra0.Key.A, .int .u64 ra0.Key.B, .int .i64 ra0.Last, .slice (some ⟨0, 0, none⟩) ra0.L.length 6]), (2, .cells [.int .i64 c])], 3⟩
theorem loop56_1 (addr_Right : api_Addr → Option Bool) (hS : SumsOK Try.prog (aget (sums56 addr_Right))) (ra0 : saved_Record) (res : Bool) : ∀ fuel (st : Int × Int) (o : Bool), iter (fun st => saved_Right_s1 addr_Right ra0 st.1 st.2) fuel st = some o → (o = res) →
    Leads Try.prog 56 1 (head56_1 ra0 st.1 st.2) (fun v H _ => Res 1 (rx56 res) v H) := by
  intro fuel st o h hc
  refine iter_leads (head := fun st => head56_1 ra0 st.1 st.2) (C := fun o => (o = res)) ?_ fuel st o h hc
  clear h hc o st fuel
  intro st o h hc
  obtain ⟨t8, c⟩ := st
  replace h : saved_Right_s1 addr_Right ra0 t8 c = some o := h
  show Leads Try.prog 56 1 (head56_1 ra0 t8 c) (fun v H _ => Res 1 (rx56 res) v H)
  unfold saved_Right_s1 at h
  refine ev_ok tab_ok hS true 3000 ?_
  conv => whnf
  refine br.h2 h ?_ ?_ ?_
  · rfl
  · clear h; intro hb h; conv => whnf
    all_goals (cases h; cases hc)
    all_goals exact Res.of [] rfl nw_0 (by decide) js_0 (wr_n wr_0)
  clear h; intro hb h; conv => whnf
  replace h := oreq.elim h; obtain ⟨hb, h⟩ := h
  first | (refine req.intro hb ?_; conv => whnf) | skip
  replace h := obind.elim h; obtain ⟨e, hy, h⟩ := h
  refine ld_T capi_Backend_len hy (by first | omega | exact Nat.zero_add _ | exact congrArg (· + _) (Nat.zero_add _)) rfl ?_
  conv => whnf
  refine br.h h ?_ ?_ ?_
  · rfl
  · clear h; intro hb h; conv => whnf
    refine br.h h ?_ ?_ ?_
    · rfl
    · clear h; intro hb h; conv => whnf
      all_goals (cases h; cases hc)
      all_goals exact Res.of [] rfl nw_0 (by decide) js_0 (wr_n wr_0)
    clear h; intro hb h; conv => whnf
    refine br.h h ?_ ?_ ?_
    · rfl
    · clear h; intro hb h; conv => whnf
      all_goals (cases h; cases hc)
      all_goals exact Res.of [] rfl nw_0 (by decide) js_0 (wr_n wr_0)
    clear h; intro hb h; conv => whnf
    refine br.h h ?_ ?_ ?_
    · rfl
    · clear h; intro hb h; conv => whnf
      all_goals (cases h; cases hc)
      all_goals exact Res.of [] rfl nw_0 (by decide) js_0 (wr_n wr_0)
    clear h; intro hb h; conv => whnf
    refine br.h h ?_ ?_ ?_
    · rfl
    · clear h; intro hb h; conv => whnf
      all_goals (cases h; cases hc)
      all_goals exact Res.of [] rfl nw_0 (by decide) js_0 (wr_n wr_0)
    clear h; intro hb h; conv => whnf
    replace h := obind.elim h; obtain ⟨xr, hy, h⟩ := h
    refine sumK.q rfl rfl (r82_eq hy) rfl rfl rfl ?_
    conv => whnf
    refine br.h h ?_ ?_ ?_
    · rfl
    · clear h; intro hb h; conv => whnf
      all_goals (cases h; cases hc)
      all_goals exact Res.of [] rfl nw_0 (by decide) js_0 (wr_n wr_0)
    clear h; intro hb h; conv => whnf
    cases h; simp only [Sum.elim_inl, head56_1] at hc
    exact lrA1 hc [(0, 0), (1, 1), (2, 2)] rfl
  clear h; intro hb h; conv => whnf
  refine br.h h ?_ ?_ ?_
  · rfl
  · clear h; intro hb h; conv => whnf
    all_goals (cases h; cases hc)
    all_goals exact Res.of [] rfl nw_0 (by decide) js_0 (wr_n wr_0)
  clear h; intro hb h; conv => whnf
  refine br.h h ?_ ?_ ?_
  · rfl
  · clear h; intro hb h; conv => whnf
    all_goals (cases h; cases hc)
    all_goals exact Res.of [] rfl nw_0 (by decide) js_0 (wr_n wr_0)
  clear h; intro hb h; conv => whnf
  refine br.h h ?_ ?_ ?_
  · rfl
  · clear h; intro hb h; conv => whnf
    all_goals (cases h; cases hc)
    all_goals exact Res.of [] rfl nw_0 (by decide) js_0 (wr_n wr_0)
  clear h; intro hb h; conv => whnf
  refine br.h h ?_ ?_ ?_
  · rfl
  · clear h; intro hb h; conv => whnf
    all_goals (cases h; cases hc)
    all_goals exact Res.of [] rfl nw_0 (by decide) js_0 (wr_n wr_0)
  clear h; intro hb h; conv => whnf
  refine br.h h ?_ ?_ ?_
  · rfl
  · clear h; intro hb h; conv => whnf
    all_goals (cases h; cases hc)
    all_goals exact Res.of [] rfl nw_0 (by decide) js_0 (wr_n wr_0)
  clear h; intro hb h; conv => whnf
  replace h := obind.elim h; obtain ⟨xr1, hy, h⟩ := h
  refine sumK.q rfl rfl (r82_eq hy) rfl rfl rfl ?_
  conv => whnf
  refine br.h h ?_ ?_ ?_
  · rfl
  · clear h; intro hb h; conv => whnf
    all_goals (cases h; cases hc)
    all_goals exact Res.of [] rfl nw_0 (by decide) js_0 (wr_n wr_0)
  clear h; intro hb h; conv => whnf
  cases h; simp only [Sum.elim_inl, head56_1] at hc
  exact lrA1 hc [(0, 0), (1, 1), (2, 2)] rfl
theorem leads56 (addr_Right : api_Addr → Option Bool) (hS : SumsOK Try.prog (aget (sums56 addr_Right))) (ra0 : saved_Record) (res : Bool) (h : saved_RightF addr_Right ra0 = some res) :
    Leads Try.prog 56 1 ⟨⟨56, 27, [(0, .agg ⟨[.int .u64 ra0.Key.A, .int .u64 ra0.Key.B, .int .i64 ra0.Last, .slice (some ⟨0, 0, none⟩) ra0.L.length 6]⟩)], [.code k56_7], [], false, none⟩, [], [(0, .row false (vT capi_Backend ra0.L))], 1⟩ (fun v H _ => Res 1 (rx56 res) v H) := by
  unfold saved_RightF at h
  refine ev_ok tab_ok hS true 3000 ?_
  conv => whnf
  refine br.h2 h ?_ ?_ ?_
  · rfl
  · clear h; intro hb h; conv => whnf
    all_goals (cases h)
    all_goals exact Res.of [] rfl nw_0 (by decide) js_0 (wr_n wr_0)
  clear h; intro hb h; conv => whnf
  refine br.h2 h ?_ ?_ ?_
  · rfl
  · clear h; intro hb h; conv => whnf
    all_goals (cases h)
    all_goals exact Res.of [] rfl nw_0 (by decide) js_0 (wr_n wr_0)
  clear h; intro hb h; conv => whnf
  refine br.h h ?_ ?_ ?_
  · rfl
  · clear h; intro hb h; conv => whnf
    have hl := loop56_1 addr_Right hS _ res _ _ _ h rfl; simp only [head56_1] at hl
    exact lrA1 hl [(0, 0), (1, 1), (2, 2)] rfl
  clear h; intro hb h; conv => whnf
  all_goals (cases h)
  all_goals exact Res.of [] rfl nw_0 (by decide) js_0 (wr_n wr_0)
theorem ok56 (addr_Right : api_Addr → Option Bool) (hS : SumsOK Try.prog (aget (sums56 addr_Right))) : SumOK Try.prog 56 (s56 (saved_RightF addr_Right)) := by
  refine SumOK.of_leads tab_ok (fun ar os r ha hr => ?_) ⟨Try.f56, rfl, by decide, rfl⟩
  replace hr : r56 (saved_RightF addr_Right) ar (conts os) = some r := hr
  unfold r56 at hr
  generalize hc : conts os = C at hr
  have hq := dTr.elim hr; clear hr; obtain ⟨v0, l1, c0, C, y0, rfl, rfl, e0, hr⟩ := hq; obtain ⟨rfl, rfl⟩ := udsaved_Record_eq e0; simp only [List.nil_append, List.cons_append] at hc
  replace hr := dFin hr; obtain ⟨rfl, rfl, x, h, rfl⟩ := hr
  obtain ⟨os, rfl, ha, hc⟩ := kinds_some ha hc
  obtain rfl := kinds_nil hc
  exact ⟨_, rfl, leads56 addr_Right hS _ x h⟩
def saved_Right : saved_Record → Option Bool := saved_RightF addr_Right
theorem lift56 : SumOK Try.prog 56 (s56 saved_Right) := ok56 addr_Right (SumsOK.of_tab ⟨lift82, trivial⟩)
def saved_sealF (octet_Put : Int → Int → Option (List UInt8)) (sip_Hash : api_Key → (List UInt8) → Option Int) (s : List UInt8) : Option (List UInt8) :=
  (sip_Hash (api_Key.mk 1 2) s).bind fun xh =>
  (octet_Put xh 8).bind fun p =>
  some (p)
def rx98 (x : List UInt8) : SRes := ⟨.string ⟨⟨x⟩⟩, [], []⟩
def r98 (g : (List UInt8) → Option (List UInt8)) : Dec := dV asS fun (y0 : List UInt8) => dEnd (ofG (g y0) rx98)
theorem r98_c {g : (List UInt8) → Option (List UInt8)} {y0 : List UInt8} {x : List UInt8} (hx : g y0 = some x) : r98 g [.string ⟨⟨y0⟩⟩] [] = some (rx98 x) := (dV_eq (asS_c)).trans (ofG_eq hx)
def s98 (g : (List UInt8) → Option (List UInt8)) : Summ := ⟨[.v], r98 g⟩
theorem r98_eq {g : (List UInt8) → Option (List UInt8)} {y0 : List UInt8} {x : List UInt8} (hx : g y0 = some x) : (s98 g).run [.string ⟨⟨y0⟩⟩] [] = some (rx98 x) := r98_c hx
abbrev sums98 (octet_Put : Int → Int → Option (List UInt8)) (sip_Hash : api_Key → (List UInt8) → Option Int) : List (Nat × Summ) := [(109, s109 octet_Put), (94, s94 sip_Hash)]
theorem leads98 (octet_Put : Int → Int → Option (List UInt8)) (sip_Hash : api_Key → (List UInt8) → Option Int) (hS : SumsOK Try.prog (aget (sums98 octet_Put sip_Hash))) (s : List UInt8) (res : List UInt8) (h : saved_sealF octet_Put sip_Hash s = some res) :
    Leads Try.prog 98 0 ⟨⟨98, 7, [(0, .string ⟨⟨s⟩⟩)], [.code k98_3], [], false, none⟩, [], [], 0⟩ (fun v H _ => Res 0 (rx98 res) v H) := by
  unfold saved_sealF at h
  refine ev_ok tab_ok hS true 3000 ?_
  conv => whnf
  replace h := obind.elim h; obtain ⟨xh, hy, h⟩ := h
  refine sumK.q rfl rfl (r94_eq hy) rfl rfl rfl ?_
  conv => whnf
  replace h := obind.elim h; obtain ⟨p, hy, h⟩ := h
  refine sumK.q rfl rfl (r109_eq hy) rfl rfl rfl ?_
  conv => whnf
  all_goals (cases h; exact Res.z rfl rfl rfl)
theorem ok98 (octet_Put : Int → Int → Option (List UInt8)) (sip_Hash : api_Key → (List UInt8) → Option Int) (hS : SumsOK Try.prog (aget (sums98 octet_Put sip_Hash))) : SumOK Try.prog 98 (s98 (saved_sealF octet_Put sip_Hash)) := by
  refine SumOK.of_leads tab_ok (fun ar os r ha hr => ?_) ⟨Try.f98, rfl, by decide, rfl⟩
  replace hr : r98 (saved_sealF octet_Put sip_Hash) ar (conts os) = some r := hr
  unfold r98 at hr
  generalize hc : conts os = C at hr
  replace hr := dV.elim hr; obtain ⟨v0, l1, y0, rfl, e0, hr⟩ := hr; obtain rfl := asS_eq _ _ e0
  replace hr := dFin hr; obtain ⟨rfl, rfl, x, h, rfl⟩ := hr
  obtain rfl := kinds_nil hc
  exact ⟨_, rfl, leads98 octet_Put sip_Hash hS _ x h⟩
def saved_seal : (List UInt8) → Option (List UInt8) := saved_sealF octet_Put sip_Hash
theorem lift98 : SumOK Try.prog 98 (s98 saved_seal) := ok98 octet_Put sip_Hash (SumsOK.of_tab ⟨lift109, lift94, trivial⟩)
def saved_Put_s1 (addr_Put : api_Addr → Option (List UInt8)) (octet_Put : Int → Int → Option (List UInt8)) (saved_seal : (List UInt8) → Option (List UInt8)) (ra0 : saved_Record) (t37 : Int) (s : List UInt8) : Option (Sum (Int × (List UInt8)) ((List UInt8) × Int)) :=
  cond (decide (t37 < (ra0.L.length : Int)))
    (
    oreq (decide ((0 : Int) ≤ t37 ∧ t37 < (ra0.L.length : Int))) <|
    (ra0.L[t37.toNat]?).bind fun (e : api_Backend) =>
    (addr_Put e.Addr).bind fun p4 =>
    let t1 := iorI .u64 (wI .u64 ((wI .u64 e.ID) * 2 ^ 16)) (wI .u64 e.Weight)
    (octet_Put t1 4).bind fun p5 =>
    oreq (decide (s.length + p5.length < 2 ^ 63)) <|
    let t2 := iorI .u64 (wI .u64 ((wI .u64 e.State) * 2 ^ 8)) (wI .u64 (p4.length : Int))
    (octet_Put t2 2).bind fun p6 =>
    oreq (decide ((s ++ p5).length + p6.length < 2 ^ 63)) <|
    oreq (decide (((s ++ p5) ++ p6).length + p4.length < 2 ^ 63)) <|
    some (.inl (wI .i64 (t37 + 1), ((s ++ p5) ++ p6) ++ p4)))
    (
    (saved_seal s).bind fun s1 =>
    oreq (decide (s.length + s1.length < 2 ^ 63)) <|
    some (.inr ((s ++ s1, 0))))
def saved_PutF (addr_Put : api_Addr → Option (List UInt8)) (octet_Put : Int → Int → Option (List UInt8)) (saved_Right : saved_Record → Option Bool) (saved_seal : (List UInt8) → Option (List UInt8)) (ra0 : saved_Record) : Option ((List UInt8) × Int) :=
  (saved_Right ra0).bind fun xr =>
  cond (!xr)
    (
    some (([], 1)))
    (
    (octet_Put ra0.Key.A 8).bind fun p =>
    oreq (decide (4 + p.length < 2 ^ 63)) <|
    (octet_Put ra0.Key.B 8).bind fun p1 =>
    oreq (decide (([67, 76, 75, 49] ++ p).length + p1.length < 2 ^ 63)) <|
    (octet_Put (wI .u64 ra0.Last) 2).bind fun p2 =>
    oreq (decide ((([67, 76, 75, 49] ++ p) ++ p1).length + p2.length < 2 ^ 63)) <|
    (octet_Put (wI .u64 (ra0.L.length : Int)) 1).bind fun p3 =>
    oreq (decide (((([67, 76, 75, 49] ++ p) ++ p1) ++ p2).length + p3.length < 2 ^ 63)) <|
    let t := ((([67, 76, 75, 49] ++ p) ++ p1) ++ p2) ++ p3
    iter (fun st => saved_Put_s1 addr_Put octet_Put saved_seal ra0 st.1 st.2) FUEL (0, t))
def rx53 (x : (List UInt8) × Int) : SRes := ⟨.tuple ⟨[.string ⟨⟨x.1⟩⟩, .int .i64 x.2]⟩, [], [none]⟩
def r53 (g : saved_Record → Option ((List UInt8) × Int)) : Dec := dTr 1 (udsaved_Record 0) fun (y0 : saved_Record) => dEnd (ofG (g y0) rx53)
theorem r53_c {g : saved_Record → Option ((List UInt8) × Int)} {y0 : saved_Record} {x : (List UInt8) × Int} (hx : g y0 = some x) : r53 g [.agg ⟨[.int .u64 y0.Key.A, .int .u64 y0.Key.B, .int .i64 y0.Last, .slice (some ⟨0, 0, none⟩) y0.L.length 6]⟩] [some (vT capi_Backend y0.L)] = some (rx53 x) := (dTr_eq rfl rfl (udsaved_Record_c 0 _)).trans (ofG_eq hx)
def s53 (g : saved_Record → Option ((List UInt8) × Int)) : Summ := ⟨[.tr [⟨none, 3, 0, 0, some 6⟩]], r53 g⟩
theorem r53_eq {g : saved_Record → Option ((List UInt8) × Int)} {y0 : saved_Record} {x : (List UInt8) × Int} (hx : g y0 = some x) : (s53 g).run [.agg ⟨[.int .u64 y0.Key.A, .int .u64 y0.Key.B, .int .i64 y0.Last, .slice (some ⟨0, 0, none⟩) y0.L.length 6]⟩] [some (vT capi_Backend y0.L)] = some (rx53 x) := r53_c hx
abbrev sums53 (addr_Put : api_Addr → Option (List UInt8)) (octet_Put : Int → Int → Option (List UInt8)) (saved_Right : saved_Record → Option Bool) (saved_seal : (List UInt8) → Option (List UInt8)) : List (Nat × Summ) := [(110, s110 addr_Put), (109, s109 octet_Put), (56, s56 saved_Right), (98, s98 saved_seal)]
def head53_1 (ra0 : saved_Record) (t37 : Int) (s : List UInt8) : VM :=
  ⟨⟨53, 72, [(4, .pointer (some ⟨2, 0, none⟩)), (5, .func (.func 108) ⟨[]⟩ ⟨[.pointer (some ⟨2, 0, none⟩)]⟩), (35, .slice (some ⟨0, 0, none⟩) ra0.L.length 6), (36, .int .i64 (ra0.L.length : Int)), (37, .int .i64 t37)], [.code k53_28, .inLoop k53_28, .inBlock 0, .code k53_33], [], false, none⟩, [], [(0, .row false (vT capi_Backend ra0.L)), (2, .cells [.string ⟨⟨s⟩⟩])], 19⟩
theorem loop53_1 (addr_Put : api_Addr → Option (List UInt8)) (octet_Put : Int → Int → Option (List UInt8)) (saved_Right : saved_Record → Option Bool) (saved_seal : (List UInt8) → Option (List UInt8)) (hS : SumsOK Try.prog (aget (sums53 addr_Put octet_Put saved_Right saved_seal))) (ra0 : saved_Record) (res : (List UInt8) × Int) : ∀ fuel (st : Int × (List UInt8)) (o : (List UInt8) × Int), iter (fun st => saved_Put_s1 addr_Put octet_Put saved_seal ra0 st.1 st.2) fuel st = some o → (o = res) →
    Leads Try.prog 53 1 (head53_1 ra0 st.1 st.2) (fun v H _ => Res 1 (rx53 res) v H) := by
  intro fuel st o h hc
  refine iter_leads (head := fun st => head53_1 ra0 st.1 st.2) (C := fun o => (o = res)) ?_ fuel st o h hc
  clear h hc o st fuel
  intro st o h hc
  obtain ⟨t37, s⟩ := st
  replace h : saved_Put_s1 addr_Put octet_Put saved_seal ra0 t37 s = some o := h
  show Leads Try.prog 53 1 (head53_1 ra0 t37 s) (fun v H _ => Res 1 (rx53 res) v H)
  unfold saved_Put_s1 at h
  refine ev_ok tab_ok hS true 3000 ?_
  conv => whnf
  refine br.h2 h ?_ ?_ ?_
  · rfl
  · clear h; intro hb h; conv => whnf
    replace h := obind.elim h; obtain ⟨s1, hy, h⟩ := h
    refine sumK.q rfl rfl (r98_eq hy) rfl rfl rfl ?_
    conv => whnf
    replace h := oreq.elim h; obtain ⟨hb, h⟩ := h
    first | (refine req.intro hb ?_; conv => whnf) | skip
    all_goals (cases h; cases hc)
    all_goals exact Res.of [] rfl nw_0 (by decide) js_0 (wr_n wr_0)
  clear h; intro hb h; conv => whnf
  replace h := oreq.elim h; obtain ⟨hb, h⟩ := h
  first | (refine req.intro hb ?_; conv => whnf) | skip
  replace h := obind.elim h; obtain ⟨e, hy, h⟩ := h
  refine ld_T capi_Backend_len hy (by first | omega | exact Nat.zero_add _ | exact congrArg (· + _) (Nat.zero_add _)) rfl ?_
  conv => whnf
  replace h := obind.elim h; obtain ⟨p4, hy, h⟩ := h
  refine sumK.q rfl rfl (r110_eq hy) rfl rfl rfl ?_
  conv => whnf
  let t1 : Int := iorI .u64 (wI .u64 ((wI .u64 e.ID) * 2 ^ 16)) (wI .u64 e.Weight)
  replace h := obind.elim h; obtain ⟨p5, hy, h⟩ := h
  refine sumK.q rfl rfl (r109_eq hy) rfl rfl rfl ?_
  conv => whnf
  replace h := oreq.elim h; obtain ⟨hb, h⟩ := h
  first | (refine req.intro hb ?_; conv => whnf) | skip
  let t2 : Int := iorI .u64 (wI .u64 ((wI .u64 e.State) * 2 ^ 8)) (wI .u64 (p4.length : Int))
  replace h := obind.elim h; obtain ⟨p6, hy, h⟩ := h
  refine sumK.q rfl rfl (r109_eq hy) rfl rfl rfl ?_
  conv => whnf
  replace h := oreq.elim h; obtain ⟨hb, h⟩ := h
  first | (refine req.intro hb ?_; conv => whnf) | skip
  replace h := oreq.elim h; obtain ⟨hb, h⟩ := h
  first | (refine req.intro hb ?_; conv => whnf) | skip
  cases h; simp only [Sum.elim_inl, head53_1] at hc
  exact lrA0 hc [(0, 0), (2, 2)] rfl
theorem leads53 (addr_Put : api_Addr → Option (List UInt8)) (octet_Put : Int → Int → Option (List UInt8)) (saved_Right : saved_Record → Option Bool) (saved_seal : (List UInt8) → Option (List UInt8)) (hS : SumsOK Try.prog (aget (sums53 addr_Put octet_Put saved_Right saved_seal))) (ra0 : saved_Record) (res : (List UInt8) × Int) (h : saved_PutF addr_Put octet_Put saved_Right saved_seal ra0 = some res) :
    Leads Try.prog 53 1 ⟨⟨53, 72, [(0, .agg ⟨[.int .u64 ra0.Key.A, .int .u64 ra0.Key.B, .int .i64 ra0.Last, .slice (some ⟨0, 0, none⟩) ra0.L.length 6]⟩)], [.code k53_42], [], false, none⟩, [], [(0, .row false (vT capi_Backend ra0.L))], 1⟩ (fun v H _ => Res 1 (rx53 res) v H) := by
  unfold saved_PutF at h
  refine ev_ok tab_ok hS true 3000 ?_
  conv => whnf
  replace h := obind.elim h; obtain ⟨xr, hy, h⟩ := h
  refine sumK.introF [] (sumRun_of (aqs := [.agg ⟨[.int .u64 ra0.Key.A, .int .u64 ra0.Key.B, .int .i64 ra0.Last, .slice (some ⟨0, 0, none⟩) ra0.L.length 6]⟩]) (ws := [.blk 0 false]) (n := 0) (m := 0) (t' := 2) (ra_cons (ra_tr rfl rfl (vp_at rfl rfl (rn_T capi_Backend_flat) rfl vp_nil) rfl) rfl ra_nil) rfl (by rfl) (r56_eq hy) rfl rfl rfl rfl (wb_skip rfl wb_nil) an_nil rfl) ?_
  conv => whnf
  refine br.h h ?_ ?_ ?_
  · rfl
  · clear h; intro hb h; conv => whnf
    all_goals (cases h)
    all_goals exact Res.of [] rfl nw_0 (by decide) js_0 (wr_n wr_0)
  clear h; intro hb h; conv => whnf
  replace h := obind.elim h; obtain ⟨p, hy, h⟩ := h
  refine sumK.q rfl rfl (r109_eq hy) rfl rfl rfl ?_
  conv => whnf
  replace h := oreq.elim h; obtain ⟨hb, h⟩ := h
  first | (refine req.intro hb ?_; conv => whnf) | skip
  replace h := obind.elim h; obtain ⟨p1, hy, h⟩ := h
  refine sumK.q rfl rfl (r109_eq hy) rfl rfl rfl ?_
  conv => whnf
  replace h := oreq.elim h; obtain ⟨hb, h⟩ := h
  first | (refine req.intro hb ?_; conv => whnf) | skip
  replace h := obind.elim h; obtain ⟨p2, hy, h⟩ := h
  refine sumK.q rfl rfl (r109_eq hy) rfl rfl rfl ?_
  conv => whnf
  replace h := oreq.elim h; obtain ⟨hb, h⟩ := h
  first | (refine req.intro hb ?_; conv => whnf) | skip
  replace h := obind.elim h; obtain ⟨p3, hy, h⟩ := h
  refine sumK.q rfl rfl (r109_eq hy) rfl rfl rfl ?_
  conv => whnf
  replace h := oreq.elim h; obtain ⟨hb, h⟩ := h
  first | (refine req.intro hb ?_; conv => whnf) | skip
  let t : List UInt8 := ((([67, 76, 75, 49] ++ p) ++ p1) ++ p2) ++ p3
  have hl := loop53_1 addr_Put octet_Put saved_Right saved_seal hS _ res _ _ _ h rfl; simp only [head53_1] at hl
  exact lrA0 hl [(0, 0), (2, 2)] rfl
theorem ok53 (addr_Put : api_Addr → Option (List UInt8)) (octet_Put : Int → Int → Option (List UInt8)) (saved_Right : saved_Record → Option Bool) (saved_seal : (List UInt8) → Option (List UInt8)) (hS : SumsOK Try.prog (aget (sums53 addr_Put octet_Put saved_Right saved_seal))) : SumOK Try.prog 53 (s53 (saved_PutF addr_Put octet_Put saved_Right saved_seal)) := by
  refine SumOK.of_leads tab_ok (fun ar os r ha hr => ?_) ⟨Try.f53, rfl, by decide, rfl⟩
  replace hr : r53 (saved_PutF addr_Put octet_Put saved_Right saved_seal) ar (conts os) = some r := hr
  unfold r53 at hr
  generalize hc : conts os = C at hr
  have hq := dTr.elim hr; clear hr; obtain ⟨v0, l1, c0, C, y0, rfl, rfl, e0, hr⟩ := hq; obtain ⟨rfl, rfl⟩ := udsaved_Record_eq e0; simp only [List.nil_append, List.cons_append] at hc
  replace hr := dFin hr; obtain ⟨rfl, rfl, x, h, rfl⟩ := hr
  obtain ⟨os, rfl, ha, hc⟩ := kinds_some ha hc
  obtain rfl := kinds_nil hc
  exact ⟨_, rfl, leads53 addr_Put octet_Put saved_Right saved_seal hS _ x h⟩
def saved_Put : saved_Record → Option ((List UInt8) × Int) := saved_PutF addr_Put octet_Put saved_Right saved_seal
theorem lift53 : SumOK Try.prog 53 (s53 saved_Put) := ok53 addr_Put octet_Put saved_Right saved_seal (SumsOK.of_tab ⟨lift110, lift109, lift56, lift98, trivial⟩)
def saved_Of_s1 (k : api_Key) (last : Int) (l : List api_Backend) (t15 : Int) (c : List api_Backend) : Option (Sum (Int × (List api_Backend)) saved_Record) :=
  cond (decide (t15 < (l.length : Int)))
    (
    oreq (decide ((0 : Int) ≤ t15 ∧ t15 < (l.length : Int))) <|
    (l[t15.toNat]?).bind fun (e : api_Backend) =>
    cond (e.State == 4)
      (
      some (.inl (wI .i64 (t15 + 1), c)))
      (
      cond (e.State == 3)
        (
        oreq (decide ((c.length + 1) * 48 ≤ 2 ^ 47)) <|
        let row := c ++ [e]
        some (.inl (wI .i64 (t15 + 1), row)))
        (
        oreq (decide ((c.length + 1) * 48 ≤ 2 ^ 47)) <|
        let row1 := c ++ [api_Backend.mk e.ID e.Weight 1 e.Addr]
        some (.inl (wI .i64 (t15 + 1), row1)))))
    (
    some (.inr (saved_Record.mk k last c)))
def saved_OfF (k : api_Key) (last : Int) (l : List api_Backend) : Option saved_Record :=
  iter (fun st => saved_Of_s1 k last l st.1 st.2) FUEL (0, [])
def rx58 (x : saved_Record) : SRes := ⟨.agg ⟨[.int .u64 x.Key.A, .int .u64 x.Key.B, .int .i64 x.Last, .slice (some ⟨0, 0, none⟩) x.L.length 6]⟩, [(vT capi_Backend x.L)], [none]⟩
def r58 (g : api_Key → Int → (List api_Backend) → Option saved_Record) : Dec := dV uvapi_Key fun (y0 : api_Key) => dV (asI .i64) fun (y1 : Int) => dSl 0 6 (unR 6 unapi_Backend) fun (y2 : List api_Backend) => dEnd (ofG (g y0 y1 y2) rx58)
theorem r58_c {g : api_Key → Int → (List api_Backend) → Option saved_Record} {y0 : api_Key} {y1 : Int} {y2 : List api_Backend} {x : saved_Record} (hx : g y0 y1 y2 = some x) : r58 g [.agg ⟨[.int .u64 y0.A, .int .u64 y0.B]⟩, .int .i64 y1, .slice (some ⟨0, 0, none⟩) y2.length 6] [some (vT capi_Backend y2)] = some (rx58 x) := (dV_eq (uvapi_Key_c _)).trans ((dV_eq (asI_c _)).trans ((dSl_eq (unR_vT (by first | exact capi_Key_len | exact capi_Addr_len | exact capi_Backend_len | exact cArr4_Int_len | exact csip_Hasher_len | exact coctet_Reader_len | exact cR23_Step_len | exact chealth_Rule_len | exact chealth_State_len | exact cregistry_row_len) (by decide) unapi_Backend_c _)).trans (ofG_eq hx)))
def s58 (g : api_Key → Int → (List api_Backend) → Option saved_Record) : Summ := ⟨[.v, .v, .sl 6], r58 g⟩
theorem r58_eq {g : api_Key → Int → (List api_Backend) → Option saved_Record} {y0 : api_Key} {y1 : Int} {y2 : List api_Backend} {x : saved_Record} (hx : g y0 y1 y2 = some x) : (s58 g).run [.agg ⟨[.int .u64 y0.A, .int .u64 y0.B]⟩, .int .i64 y1, .slice (some ⟨0, 0, none⟩) y2.length 6] [some (vT capi_Backend y2)] = some (rx58 x) := r58_c hx
abbrev sums58 : List (Nat × Summ) := []
def head58_1 (k : api_Key) (last : Int) (l : List api_Backend) (t15 : Int) (c : List api_Backend) : VM :=
  ⟨⟨58, 34, [(6, .pointer (some ⟨2, 0, none⟩)), (7, .pointer (some ⟨3, 0, none⟩)), (13, .slice (some ⟨0, 0, none⟩) l.length 6), (14, .int .i64 (l.length : Int)), (15, .int .i64 t15)], [.code k58_23, .inLoop k58_23, .inBlock 0, .code k58_28], [], false, none⟩, [], [(0, .row false (vT capi_Backend l)), (2, .cells [.int .u64 0, .int .u64 0, .int .i64 0, .slice none 0 0]), (3, .cells [.int .u64 k.A, .int .u64 k.B, .int .i64 last, .slice (some ⟨4, 0, none⟩) c.length 6]), (4, .row true (vT capi_Backend c))], 5⟩
theorem loop58_1 (hS : SumsOK Try.prog (aget (sums58))) (k : api_Key) (last : Int) (l : List api_Backend) (res : saved_Record) : ∀ fuel (st : Int × (List api_Backend)) (o : saved_Record), iter (fun st => saved_Of_s1 k last l st.1 st.2) fuel st = some o → (o = res) →
    Leads Try.prog 58 1 (head58_1 k last l st.1 st.2) (fun v H _ => Res 1 (rx58 res) v H) := by
  intro fuel st o h hc
  refine iter_leads (head := fun st => head58_1 k last l st.1 st.2) (C := fun o => (o = res)) ?_ fuel st o h hc
  clear h hc o st fuel
  intro st o h hc
  obtain ⟨t15, c⟩ := st
  replace h : saved_Of_s1 k last l t15 c = some o := h
  show Leads Try.prog 58 1 (head58_1 k last l t15 c) (fun v H _ => Res 1 (rx58 res) v H)
  unfold saved_Of_s1 at h
  refine ev_ok tab_ok hS true 3000 ?_
  conv => whnf
  refine br.h2 h ?_ ?_ ?_
  · rfl
  · clear h; intro hb h; conv => whnf
    all_goals (cases h; cases hc)
    all_goals exact Res.of [4] rfl (nw_s (rn_T capi_Backend_flat) (hs_row rfl) nw_0) (by decide) (js_l (by decide) js_0) (wr_n wr_0)
  clear h; intro hb h; conv => whnf
  replace h := oreq.elim h; obtain ⟨hb, h⟩ := h
  first | (refine req.intro hb ?_; conv => whnf) | skip
  replace h := obind.elim h; obtain ⟨e, hy, h⟩ := h
  refine ld_T capi_Backend_len hy (by first | omega | exact Nat.zero_add _ | exact congrArg (· + _) (Nat.zero_add _)) rfl ?_
  conv => whnf
  refine br.h h ?_ ?_ ?_
  · rfl
  · clear h; intro hb h; conv => whnf
    cases h; simp only [Sum.elim_inl, head58_1] at hc
    exact lrA0 hc [(0, 0), (2, 2), (3, 3), (4, 4)] rfl
  clear h; intro hb h; conv => whnf
  refine br.h h ?_ ?_ ?_
  · rfl
  · clear h; intro hb h; conv => whnf
    replace h := oreq.elim h; obtain ⟨hb, h⟩ := h
    refine req.intro (ap_req (of_decide_eq_true hb) (by first | rfl | omega | (simp; done) | (simp; omega) | (simp at *; omega)) rfl (by first | rfl | omega | (simp; done) | (simp; omega) | (simp at *; omega)) (by first | rfl | exact vI_one _ _ | exact vS_one _ | exact vB_one _ | exact vT_one (by first | exact capi_Key_one | exact capi_Addr_one | exact capi_Backend_one | exact cArr4_Int_one | exact csip_Hasher_one | exact coctet_Reader_one | exact cR23_Step_one | exact chealth_Rule_one | exact chealth_State_one | exact cregistry_row_one) _ | (rw [ofBytes_vI]; exact vI_one _ _) | (simp [vI_one, vS_one, vB_one, vI_drop, vI_take, vS_drop, vS_take]; done) | (simp; exact List.all_eq_true.1 (vT_one (by first | exact capi_Key_one | exact capi_Addr_one | exact capi_Backend_one | exact cArr4_Int_one | exact csip_Hasher_one | exact coctet_Reader_one | exact cR23_Step_one | exact chealth_Rule_one | exact chealth_State_one | exact cregistry_row_one) _))) rfl) ?_
    conv => whnf
    let row : List api_Backend := c ++ [e]
    refine pk_apT capi_Backend_len (xs := c) (ys := [e]) rfl (by first | rfl | omega) (by first | rfl | omega | (simp; done) | (simp; omega) | (simp at *; omega)) (by first | rfl | omega | (simp; done) | (simp; omega) | (simp at *; omega)) ?_
    conv => whnf
    cases h; simp only [Sum.elim_inl, head58_1] at hc
    exact lrA0 hc [(0, 0), (2, 2), (3, 3), (4, 7)] rfl
  clear h; intro hb h; conv => whnf
  replace h := oreq.elim h; obtain ⟨hb, h⟩ := h
  refine req.intro (ap_req (of_decide_eq_true hb) (by first | rfl | omega | (simp; done) | (simp; omega) | (simp at *; omega)) rfl (by first | rfl | omega | (simp; done) | (simp; omega) | (simp at *; omega)) (by first | rfl | exact vI_one _ _ | exact vS_one _ | exact vB_one _ | exact vT_one (by first | exact capi_Key_one | exact capi_Addr_one | exact capi_Backend_one | exact cArr4_Int_one | exact csip_Hasher_one | exact coctet_Reader_one | exact cR23_Step_one | exact chealth_Rule_one | exact chealth_State_one | exact cregistry_row_one) _ | (rw [ofBytes_vI]; exact vI_one _ _) | (simp [vI_one, vS_one, vB_one, vI_drop, vI_take, vS_drop, vS_take]; done) | (simp; exact List.all_eq_true.1 (vT_one (by first | exact capi_Key_one | exact capi_Addr_one | exact capi_Backend_one | exact cArr4_Int_one | exact csip_Hasher_one | exact coctet_Reader_one | exact cR23_Step_one | exact chealth_Rule_one | exact chealth_State_one | exact cregistry_row_one) _))) rfl) ?_
  conv => whnf
  let row1 : List api_Backend := c ++ [api_Backend.mk e.ID e.Weight 1 e.Addr]
  refine pk_apT capi_Backend_len (xs := c) (ys := [api_Backend.mk e.ID e.Weight 1 e.Addr]) rfl (by first | rfl | omega) (by first | rfl | omega | (simp; done) | (simp; omega) | (simp at *; omega)) (by first | rfl | omega | (simp; done) | (simp; omega) | (simp at *; omega)) ?_
  conv => whnf
  cases h; simp only [Sum.elim_inl, head58_1] at hc
  exact lrA0 hc [(0, 0), (2, 2), (3, 3), (4, 7)] rfl
theorem leads58 (hS : SumsOK Try.prog (aget (sums58))) (k : api_Key) (last : Int) (l : List api_Backend) (res : saved_Record) (h : saved_OfF k last l = some res) :
    Leads Try.prog 58 1 ⟨⟨58, 34, [(0, .agg ⟨[.int .u64 k.A, .int .u64 k.B]⟩), (1, .int .i64 last), (2, .slice (some ⟨0, 0, none⟩) l.length 6)], [.code k58_31], [], false, none⟩, [], [(0, .row false (vT capi_Backend l))], 1⟩ (fun v H _ => Res 1 (rx58 res) v H) := by
  unfold saved_OfF at h
  refine ev_ok tab_ok hS true 3000 ?_
  conv => whnf
  have hl := loop58_1 hS _ _ _ res _ _ _ h rfl; simp only [head58_1] at hl
  refine Leads.nilC 3 3 6 ?_
  exact lrA0 hl [(0, 0), (2, 2), (3, 3), (4, 4)] rfl
theorem ok58 (hS : SumsOK Try.prog (aget (sums58))) : SumOK Try.prog 58 (s58 (saved_OfF)) := by
  refine SumOK.of_leads tab_ok (fun ar os r ha hr => ?_) ⟨Try.f58, rfl, by decide, rfl⟩
  replace hr : r58 (saved_OfF) ar (conts os) = some r := hr
  unfold r58 at hr
  generalize hc : conts os = C at hr
  replace hr := dV.elim hr; obtain ⟨v0, l1, y0, rfl, e0, hr⟩ := hr; obtain rfl := uvapi_Key_eq _ _ e0
  replace hr := dV.elim hr; obtain ⟨v1, l2, y1, rfl, e1, hr⟩ := hr; obtain rfl := asI_eq _ _ _ e1
  have hq := dSl.elim hr; clear hr; obtain ⟨c2, l3, C, y2, rfl, rfl, e2, hr⟩ := hq; obtain rfl := unT_eq unapi_Backend_eq e2
  replace hr := dFin hr; obtain ⟨rfl, rfl, x, h, rfl⟩ := hr
  obtain ⟨os, rfl, ha, hc⟩ := kinds_some ha hc
  obtain rfl := kinds_nil hc
  exact ⟨_, rfl, leads58 hS _ _ _ x h⟩
def saved_Of : api_Key → Int → (List api_Backend) → Option saved_Record := saved_OfF
theorem lift58 : SumOK Try.prog 58 (s58 saved_Of) := ok58 (SumsOK.of_tab trivial)
def slices_Equal_api_Backend_api_Backend_s1 (s1 : List api_Backend) (s2 : List api_Backend) (t13 : Int) : Option (Sum Int Bool) :=
  cond (decide (t13 < (s1.length : Int)))
    (
    oreq (decide ((0 : Int) ≤ t13 ∧ t13 < (s1.length : Int))) <|
    (s1[t13.toNat]?).bind fun (e : api_Backend) =>
    oreq (decide ((0 : Int) ≤ t13 ∧ t13 < (s2.length : Int))) <|
    (s2[t13.toNat]?).bind fun (e1 : api_Backend) =>
    let t := !((e.ID == e1.ID) && ((e.Weight == e1.Weight) && ((e.State == e1.State) && ((e.Addr.V6 == e1.Addr.V6) && ((e.Addr.Hi == e1.Addr.Hi) && ((e.Addr.Lo == e1.Addr.Lo) && true))))))
    cond (t)
      (
      some (.inr (false)))
      (
      some (.inl (wI .i64 (t13 + 1)))))
    (
    some (.inr (true)))
def slices_Equal_api_Backend_api_BackendF (s1 : List api_Backend) (s2 : List api_Backend) : Option Bool :=
  cond ((s1.length : Int) != (s2.length : Int))
    (
    some (false))
    (
    iter (fun st => slices_Equal_api_Backend_api_Backend_s1 s1 s2 st) FUEL 0)
def rx116 (x : Bool) : SRes := ⟨.bool x, [], [none, none]⟩
def r116 (g : (List api_Backend) → (List api_Backend) → Option Bool) : Dec := dSl 0 6 (unR 6 unapi_Backend) fun (y0 : List api_Backend) => dSl 1 6 (unR 6 unapi_Backend) fun (y1 : List api_Backend) => dEnd (ofG (g y0 y1) rx116)
theorem r116_c {g : (List api_Backend) → (List api_Backend) → Option Bool} {y0 : List api_Backend} {y1 : List api_Backend} {x : Bool} (hx : g y0 y1 = some x) : r116 g [.slice (some ⟨0, 0, none⟩) y0.length 6, .slice (some ⟨1, 0, none⟩) y1.length 6] [some (vT capi_Backend y0), some (vT capi_Backend y1)] = some (rx116 x) := (dSl_eq (unR_vT (by first | exact capi_Key_len | exact capi_Addr_len | exact capi_Backend_len | exact cArr4_Int_len | exact csip_Hasher_len | exact coctet_Reader_len | exact cR23_Step_len | exact chealth_Rule_len | exact chealth_State_len | exact cregistry_row_len) (by decide) unapi_Backend_c _)).trans ((dSl_eq (unR_vT (by first | exact capi_Key_len | exact capi_Addr_len | exact capi_Backend_len | exact cArr4_Int_len | exact csip_Hasher_len | exact coctet_Reader_len | exact cR23_Step_len | exact chealth_Rule_len | exact chealth_State_len | exact cregistry_row_len) (by decide) unapi_Backend_c _)).trans (ofG_eq hx))
def s116 (g : (List api_Backend) → (List api_Backend) → Option Bool) : Summ := ⟨[.sl 6, .sl 6], r116 g⟩
theorem r116_eq {g : (List api_Backend) → (List api_Backend) → Option Bool} {y0 : List api_Backend} {y1 : List api_Backend} {x : Bool} (hx : g y0 y1 = some x) : (s116 g).run [.slice (some ⟨0, 0, none⟩) y0.length 6, .slice (some ⟨1, 0, none⟩) y1.length 6] [some (vT capi_Backend y0), some (vT capi_Backend y1)] = some (rx116 x) := r116_c hx
abbrev sums116 : List (Nat × Summ) := []
def head116_1 (s1 : List api_Backend) (s2 : List api_Backend) (t13 : Int) : VM :=
  ⟨⟨116, 26, [(0, .slice (some ⟨0, 0, none⟩) s1.length 6), (1, .slice (some ⟨1, 0, none⟩) s2.length 6), (12, .int .i64 (s1.length : Int)), (13, .int .i64 t13)], [.code k116_20, .inLoop k116_20, .inBlock 0, .code k116_25], [], false, none⟩, [], [(0, .row false (vT capi_Backend s1)), (1, .row false (vT capi_Backend s2))], 2⟩
theorem loop116_1 (hS : SumsOK Try.prog (aget (sums116))) (s1 : List api_Backend) (s2 : List api_Backend) (res : Bool) : ∀ fuel (st : Int) (o : Bool), iter (fun st => slices_Equal_api_Backend_api_Backend_s1 s1 s2 st) fuel st = some o → (o = res) →
    Leads Try.prog 116 2 (head116_1 s1 s2 st) (fun v H _ => Res 2 (rx116 res) v H) := by
  intro fuel st o h hc
  refine iter_leads (head := fun st => head116_1 s1 s2 st) (C := fun o => (o = res)) ?_ fuel st o h hc
  clear h hc o st fuel
  intro t13 o h hc
  replace h : slices_Equal_api_Backend_api_Backend_s1 s1 s2 t13 = some o := h
  show Leads Try.prog 116 2 (head116_1 s1 s2 t13) (fun v H _ => Res 2 (rx116 res) v H)
  unfold slices_Equal_api_Backend_api_Backend_s1 at h
  refine ev_ok tab_ok hS true 3000 ?_
  conv => whnf
  refine br.h2 h ?_ ?_ ?_
  · rfl
  · clear h; intro hb h; conv => whnf
    all_goals (cases h; cases hc)
    all_goals exact Res.of [] rfl nw_0 (by decide) js_0 (wr_n (wr_n wr_0))
  clear h; intro hb h; conv => whnf
  replace h := oreq.elim h; obtain ⟨hb, h⟩ := h
  first | (refine req.intro hb ?_; conv => whnf) | skip
  replace h := obind.elim h; obtain ⟨e, hy, h⟩ := h
  refine ld_T capi_Backend_len hy (by first | omega | exact Nat.zero_add _ | exact congrArg (· + _) (Nat.zero_add _)) rfl ?_
  conv => whnf
  replace h := oreq.elim h; obtain ⟨hb, h⟩ := h
  first | (refine req.intro hb ?_; conv => whnf) | skip
  replace h := obind.elim h; obtain ⟨e1, hy, h⟩ := h
  refine ld_T capi_Backend_len hy (by first | omega | exact Nat.zero_add _ | exact congrArg (· + _) (Nat.zero_add _)) rfl ?_
  conv => whnf
  let t : Bool := !((e.ID == e1.ID) && ((e.Weight == e1.Weight) && ((e.State == e1.State) && ((e.Addr.V6 == e1.Addr.V6) && ((e.Addr.Hi == e1.Addr.Hi) && ((e.Addr.Lo == e1.Addr.Lo) && true))))))
  refine br.h h ?_ ?_ ?_
  · rfl
  · clear h; intro hb h; conv => whnf
    all_goals (cases h; cases hc)
    all_goals exact Res.of [] rfl nw_0 (by decide) js_0 (wr_n (wr_n wr_0))
  clear h; intro hb h; conv => whnf
  cases h; simp only [Sum.elim_inl, head116_1] at hc
  exact lrA0 hc [(0, 0), (1, 1)] rfl
theorem leads116 (hS : SumsOK Try.prog (aget (sums116))) (s1 : List api_Backend) (s2 : List api_Backend) (res : Bool) (h : slices_Equal_api_Backend_api_BackendF s1 s2 = some res) :
    Leads Try.prog 116 2 ⟨⟨116, 26, [(0, .slice (some ⟨0, 0, none⟩) s1.length 6), (1, .slice (some ⟨1, 0, none⟩) s2.length 6)], [.code k116_28], [], false, none⟩, [], [(0, .row false (vT capi_Backend s1)), (1, .row false (vT capi_Backend s2))], 2⟩ (fun v H _ => Res 2 (rx116 res) v H) := by
  unfold slices_Equal_api_Backend_api_BackendF at h
  refine ev_ok tab_ok hS true 3000 ?_
  conv => whnf
  refine br.h h ?_ ?_ ?_
  · rfl
  · clear h; intro hb h; conv => whnf
    all_goals (cases h)
    all_goals exact Res.of [] rfl nw_0 (by decide) js_0 (wr_n (wr_n wr_0))
  clear h; intro hb h; conv => whnf
  have hl := loop116_1 hS _ _ res _ _ _ h rfl; simp only [head116_1] at hl
  exact lrA0 hl [(0, 0), (1, 1)] rfl
theorem ok116 (hS : SumsOK Try.prog (aget (sums116))) : SumOK Try.prog 116 (s116 (slices_Equal_api_Backend_api_BackendF)) := by
  refine SumOK.of_leads tab_ok (fun ar os r ha hr => ?_) ⟨Try.f116, rfl, by decide, rfl⟩
  replace hr : r116 (slices_Equal_api_Backend_api_BackendF) ar (conts os) = some r := hr
  unfold r116 at hr
  generalize hc : conts os = C at hr
  have hq := dSl.elim hr; clear hr; obtain ⟨c0, l1, C, y0, rfl, rfl, e0, hr⟩ := hq; obtain rfl := unT_eq unapi_Backend_eq e0
  have hq := dSl.elim hr; clear hr; obtain ⟨c1, l2, C, y1, rfl, rfl, e1, hr⟩ := hq; obtain rfl := unT_eq unapi_Backend_eq e1
  replace hr := dFin hr; obtain ⟨rfl, rfl, x, h, rfl⟩ := hr
  obtain ⟨os, rfl, ha, hc⟩ := kinds_some ha hc
  obtain ⟨os, rfl, ha, hc⟩ := kinds_some ha hc
  obtain rfl := kinds_nil hc
  exact ⟨_, rfl, leads116 hS _ _ x h⟩
def slices_Equal_api_Backend_api_Backend : (List api_Backend) → (List api_Backend) → Option Bool := slices_Equal_api_Backend_api_BackendF
theorem lift116 : SumOK Try.prog 116 (s116 slices_Equal_api_Backend_api_Backend) := ok116 (SumsOK.of_tab trivial)
def saved_SameF (slices_Equal_api_Backend_api_Backend : (List api_Backend) → (List api_Backend) → Option Bool) (a : saved_Record) (b : saved_Record) : Option Bool :=
  let t := (a.Key.A == b.Key.A) && ((a.Key.B == b.Key.B) && true)
  cond (t)
    (
    cond (a.Last == b.Last)
      (
      (slices_Equal_api_Backend_api_Backend a.L b.L).bind fun b1 =>
      some (b1))
      (
      some (false)))
    (
    some (false))
def rx60 (x : Bool) : SRes := ⟨.bool x, [], [none, none]⟩
def r60 (g : saved_Record → saved_Record → Option Bool) : Dec := dTr 1 (udsaved_Record 0) fun (y0 : saved_Record) => dTr 1 (udsaved_Record 1) fun (y1 : saved_Record) => dEnd (ofG (g y0 y1) rx60)
theorem r60_c {g : saved_Record → saved_Record → Option Bool} {y0 : saved_Record} {y1 : saved_Record} {x : Bool} (hx : g y0 y1 = some x) : r60 g [.agg ⟨[.int .u64 y0.Key.A, .int .u64 y0.Key.B, .int .i64 y0.Last, .slice (some ⟨0, 0, none⟩) y0.L.length 6]⟩, .agg ⟨[.int .u64 y1.Key.A, .int .u64 y1.Key.B, .int .i64 y1.Last, .slice (some ⟨1, 0, none⟩) y1.L.length 6]⟩] [some (vT capi_Backend y0.L), some (vT capi_Backend y1.L)] = some (rx60 x) := (dTr_eq rfl rfl (udsaved_Record_c 0 _)).trans ((dTr_eq rfl rfl (udsaved_Record_c 1 _)).trans (ofG_eq hx))
def s60 (g : saved_Record → saved_Record → Option Bool) : Summ := ⟨[.tr [⟨none, 3, 0, 0, some 6⟩], .tr [⟨none, 3, 0, 0, some 6⟩]], r60 g⟩
theorem r60_eq {g : saved_Record → saved_Record → Option Bool} {y0 : saved_Record} {y1 : saved_Record} {x : Bool} (hx : g y0 y1 = some x) : (s60 g).run [.agg ⟨[.int .u64 y0.Key.A, .int .u64 y0.Key.B, .int .i64 y0.Last, .slice (some ⟨0, 0, none⟩) y0.L.length 6]⟩, .agg ⟨[.int .u64 y1.Key.A, .int .u64 y1.Key.B, .int .i64 y1.Last, .slice (some ⟨1, 0, none⟩) y1.L.length 6]⟩] [some (vT capi_Backend y0.L), some (vT capi_Backend y1.L)] = some (rx60 x) := r60_c hx
abbrev sums60 (slices_Equal_api_Backend_api_Backend : (List api_Backend) → (List api_Backend) → Option Bool) : List (Nat × Summ) := [(116, s116 slices_Equal_api_Backend_api_Backend)]
theorem leads60 (slices_Equal_api_Backend_api_Backend : (List api_Backend) → (List api_Backend) → Option Bool) (hS : SumsOK Try.prog (aget (sums60 slices_Equal_api_Backend_api_Backend))) (a : saved_Record) (b : saved_Record) (res : Bool) (h : saved_SameF slices_Equal_api_Backend_api_Backend a b = some res) :
    Leads Try.prog 60 2 ⟨⟨60, 24, [(0, .agg ⟨[.int .u64 a.Key.A, .int .u64 a.Key.B, .int .i64 a.Last, .slice (some ⟨0, 0, none⟩) a.L.length 6]⟩), (1, .agg ⟨[.int .u64 b.Key.A, .int .u64 b.Key.B, .int .i64 b.Last, .slice (some ⟨1, 0, none⟩) b.L.length 6]⟩)], [.code k60_3], [], false, none⟩, [], [(0, .row false (vT capi_Backend a.L)), (1, .row false (vT capi_Backend b.L))], 2⟩ (fun v H _ => Res 2 (rx60 res) v H) := by
  unfold saved_SameF at h
  refine ev_ok tab_ok hS true 3000 ?_
  conv => whnf
  let t : Bool := (a.Key.A == b.Key.A) && ((a.Key.B == b.Key.B) && true)
  refine br.h2 h ?_ ?_ ?_
  · rfl
  · clear h; intro hb h; conv => whnf
    all_goals (cases h)
    all_goals exact Res.of [] rfl nw_0 (by decide) js_0 (wr_n (wr_n wr_0))
  clear h; intro hb h; conv => whnf
  refine br.h2 h ?_ ?_ ?_
  · rfl
  · clear h; intro hb h; conv => whnf
    all_goals (cases h)
    all_goals exact Res.of [] rfl nw_0 (by decide) js_0 (wr_n (wr_n wr_0))
  clear h; intro hb h; conv => whnf
  replace h := obind.elim h; obtain ⟨b1, hy, h⟩ := h
  refine sumK.introF [] (sumRun_of (aqs := [.slice (some ⟨0, 0, none⟩) (a.L : List api_Backend).length 6, .slice (some ⟨1, 0, none⟩) (b.L : List api_Backend).length 6]) (ws := [.win 0 0 (a.L.length * 6) false, .win 1 0 (b.L.length * 6) false]) (n := 0) (m := 0) (t' := 4) (ra_cons (by first | rfl | exact ra_allT capi_Backend_len capi_Backend_flat rfl rfl (by first | rfl | omega) (by first | rfl | (simp; done)) | exact ra_slT capi_Backend_len capi_Backend_flat rfl rfl (by first | rfl | omega) (by first | rfl | omega) (by first | omega | (simp at *; omega))) rfl (ra_cons (by first | rfl | exact ra_allT capi_Backend_len capi_Backend_flat rfl rfl (by first | rfl | omega) (by first | rfl | (simp; done)) | exact ra_slT capi_Backend_len capi_Backend_flat rfl rfl (by first | rfl | omega) (by first | rfl | omega) (by first | omega | (simp at *; omega))) rfl ra_nil)) rfl (by rfl) (r116_eq hy) rfl rfl rfl rfl (wb_skip rfl (wb_skip rfl wb_nil)) an_nil rfl) ?_
  conv => whnf
  all_goals (cases h)
  all_goals exact Res.of [] rfl nw_0 (by decide) js_0 (wr_n (wr_n wr_0))
theorem ok60 (slices_Equal_api_Backend_api_Backend : (List api_Backend) → (List api_Backend) → Option Bool) (hS : SumsOK Try.prog (aget (sums60 slices_Equal_api_Backend_api_Backend))) : SumOK Try.prog 60 (s60 (saved_SameF slices_Equal_api_Backend_api_Backend)) := by
  refine SumOK.of_leads tab_ok (fun ar os r ha hr => ?_) ⟨Try.f60, rfl, by decide, rfl⟩
  replace hr : r60 (saved_SameF slices_Equal_api_Backend_api_Backend) ar (conts os) = some r := hr
  unfold r60 at hr
  generalize hc : conts os = C at hr
  have hq := dTr.elim hr; clear hr; obtain ⟨v0, l1, c0, C, y0, rfl, rfl, e0, hr⟩ := hq; obtain ⟨rfl, rfl⟩ := udsaved_Record_eq e0; simp only [List.nil_append, List.cons_append] at hc
  have hq := dTr.elim hr; clear hr; obtain ⟨v1, l2, c1, C, y1, rfl, rfl, e1, hr⟩ := hq; obtain ⟨rfl, rfl⟩ := udsaved_Record_eq e1; simp only [List.nil_append, List.cons_append] at hc
  replace hr := dFin hr; obtain ⟨rfl, rfl, x, h, rfl⟩ := hr
  obtain ⟨os, rfl, ha, hc⟩ := kinds_some ha hc
  obtain ⟨os, rfl, ha, hc⟩ := kinds_some ha hc
  obtain rfl := kinds_nil hc
  exact ⟨_, rfl, leads60 slices_Equal_api_Backend_api_Backend hS _ _ x h⟩
def saved_Same : saved_Record → saved_Record → Option Bool := saved_SameF slices_Equal_api_Backend_api_Backend
theorem lift60 : SumOK Try.prog 60 (s60 saved_Same) := ok60 slices_Equal_api_Backend_api_Backend (SumsOK.of_tab ⟨lift116, trivial⟩)
end Go.Vm.Code
namespace Go.Vm.Code
open Go Go.Vm
def scan {α σ ρ : Type} (f : α → σ → Sum σ ρ) (fin : σ → ρ) : List α → σ → ρ
  | [], s => fin s
  | a :: l, s => match f a s with
    | .inl s' => scan f fin l s'
    | .inr r => r
theorem iter_scan {α σ ρ S : Type} (L : List α) (f : α → σ → Sum σ ρ) (fin : σ → ρ) (emb : Nat → σ → S) (step : S → Option (Sum S ρ)) (I : Nat → σ → Prop)
    (h1 : ∀ i s (hi : i < L.length), I i s → (∀ s', f L[i] s = .inl s' → step (emb i s) = some (.inl (emb (i + 1) s')) ∧ I (i + 1) s') ∧ ∀ r, f L[i] s = .inr r → step (emb i s) = some (.inr r))
    (h2 : ∀ s, I L.length s → step (emb L.length s) = some (.inr (fin s))) : ∀ (d i : Nat) s n, i + d = L.length → d < n → I i s → iter step n (emb i s) = some (scan f fin (L.drop i) s)
  | 0, i, s, n, he, hn, hI => by
    obtain ⟨m, rfl⟩ : ∃ m, n = m + 1 := ⟨n - 1, by omega⟩
    have e : i = L.length := by omega
    subst e
    rw [iter, h2 s hI, List.drop_length]; rfl
  | d + 1, i, s, n, he, hn, hI => by
    obtain ⟨m, rfl⟩ : ∃ m, n = m + 1 := ⟨n - 1, by omega⟩
    have hi : i < L.length := by omega
    obtain ⟨g1, g2⟩ := h1 i s hi hI
    rw [iter, List.drop_eq_getElem_cons hi, scan]
    cases hf : f L[i] s with
    | inl s' =>
      obtain ⟨e1, e2⟩ := g1 s' hf
      rw [e1]
      exact iter_scan L f fin emb step I h1 h2 d (i + 1) s' m (by omega) (by omega) e2
    | inr r => rw [g2 r hf]
theorem iter_scan0 {α σ ρ S : Type} (L : List α) (f : α → σ → Sum σ ρ) (fin : σ → ρ) (emb : Nat → σ → S) (step : S → Option (Sum S ρ)) (I : Nat → σ → Prop)
    (h1 : ∀ i s (hi : i < L.length), I i s → (∀ s', f L[i] s = .inl s' → step (emb i s) = some (.inl (emb (i + 1) s')) ∧ I (i + 1) s') ∧ ∀ r, f L[i] s = .inr r → step (emb i s) = some (.inr r))
    (h2 : ∀ s, I L.length s → step (emb L.length s) = some (.inr (fin s))) {s : σ} (hl : L.length < 2 ^ 60) (hI : I 0 s) {x : S} (hx : x = emb 0 s) : iter step FUEL x = some (scan f fin L s) := by
  subst hx
  have := iter_scan L f fin emb step I h1 h2 L.length 0 s FUEL (by omega) (by rw [FUEL_eq]; omega) hI
  rwa [List.drop_zero] at this
def bkOK (b : api_Backend) (last top : Int) : Bool := decide (last < b.ID ∧ b.ID ≤ top ∧ 0 ≤ b.Weight ∧ b.Weight ≤ 1000 ∧ (b.State = 1 ∨ b.State = 3)) && adr b.Addr
def chn (top : Int) : List api_Backend → Int → Bool := scan (fun b last => if bkOK b last top = true then .inl b.ID else .inr false) (fun _ => true)
def rightB (r : saved_Record) : Bool := decide (0 ≤ r.Last ∧ r.Last ≤ 65535 ∧ r.L.length ≤ 64) && chn r.Last r.L 0
theorem chn_cons (top : Int) (b : api_Backend) (l : List api_Backend) (last : Int) : chn top (b :: l) last = (bkOK b last top && chn top l b.ID) := by
  unfold chn
  rw [scan]
  cases bkOK b last top <;> simp
theorem pright_eq (r : saved_Record) : saved_Right r = some (rightB r) := by
  unfold saved_Right saved_RightF rightB
  by_cases h1 : r.Last ≥ 0
  · rw [cond_p h1]
    by_cases h2 : r.Last ≤ 65535
    · rw [cond_p h2]
      by_cases h3 : (r.L.length : Int) ≤ 64
      · rw [cond_p h3, decide_eq_true ⟨h1, h2, by omega⟩, Bool.true_and]
        refine iter_scan0 r.L _ _ (fun i (s : Int) => ((i : Int), s)) _ (fun _ _ => True) ?_ ?_ (by omega) trivial rfl
        · intro i s hi _
          dsimp only
          have key : saved_Right_s1 addr_Right r i s = if bkOK r.L[i] s r.Last = true then some (.inl (((i + 1 : Nat) : Int), (r.L[i]).ID)) else some (.inr false) := by
            unfold saved_Right_s1 bkOK
            rw [cond_p (by omega), oreq_p (by omega), Int.toNat_natCast, List.getElem?_eq_getElem hi, Option.bind_some, decide_eq_true (show (i : Int) ≥ 0 by omega), wI64 (by omega) (by omega), tuRight_eq, show ((i + 1 : Nat) : Int) = (i : Int) + 1 by omega]
            simp only [Bool.not_true, Option.bind_some]
            generalize r.L[i] = b
            by_cases c1 : b.ID ≤ s
            · rw [cond_p c1, cond_p c1, decide_eq_false (by omega)]
              cases b.State == 1 <;> rfl
            rw [cond_n c1, cond_n c1]
            by_cases c2 : b.ID > r.Last
            · rw [cond_p c2, cond_p c2, decide_eq_false (by omega)]
              cases b.State == 1 <;> rfl
            rw [cond_n c2, cond_n c2]
            by_cases c3 : b.Weight < 0
            · rw [cond_p c3, cond_p c3, decide_eq_false (by omega)]
              cases b.State == 1 <;> rfl
            rw [cond_n c3, cond_n c3]
            by_cases c4 : b.Weight > 1000
            · rw [cond_p c4, cond_p c4, decide_eq_false (by omega)]
              cases b.State == 1 <;> rfl
            rw [cond_n c4, cond_n c4]
            by_cases c5 : b.State = 1
            · rw [show (b.State == 1) = true from by simpa using c5, cond_true, decide_eq_true (by omega)]
              cases adr b.Addr <;> rfl
            · rw [show (b.State == 1) = false from by simpa using c5, cond_false]
              by_cases c6 : b.State = 3
              · rw [show (b.State == 3) = true from by simpa using c6, decide_eq_true (by omega)]
                cases adr b.Addr <;> rfl
              · rw [show (b.State == 3) = false from by simpa using c6, decide_eq_false (by omega)]; rfl
          rw [key]
          cases bkOK r.L[i] s r.Last with
          | true => exact ⟨fun s' e => (by cases e; exact ⟨rfl, trivial⟩), fun q e => (by cases e)⟩
          | false => exact ⟨fun s' e => (by cases e), fun q e => (by cases e; rfl)⟩
        · intro s _
          dsimp only
          unfold saved_Right_s1
          rw [cond_n (by omega)]
      · rw [cond_n h3, decide_eq_false (by omega)]; rfl
    · rw [cond_n h2, decide_eq_false (by omega)]; rfl
  · rw [cond_n h1, decide_eq_false (by omega)]; rfl
def hash12 (s : List UInt8) : Int := hashR tak finQ s.length (newV ⟨1, 2⟩).s s
theorem hash12_rng (s : List UInt8) : 0 ≤ hash12 s ∧ hash12 s < 2 ^ 64 := hashR_rng tak finQ finQ_rng _ _ _ _ (Nat.le_refl _)
def sealS (s : List UInt8) : List UInt8 := be (hash12 s).toNat 8
theorem sealS_len (s : List UInt8) : (sealS s).length = 8 := by simp [sealS]
theorem pseal_eq {s : List UInt8} (h : s.length < 2 ^ 40) : saved_seal s = some (sealS s) := by
  unfold saved_seal saved_sealF
  rw [Hash_R (by omega), Option.bind_some]
  show (octet_Put (hash12 s) 8).bind _ = _
  rw [octet_Put_eq (hash12_rng s).1, Option.bind_some]
  unfold putS; rw [if_pos (by decide)]; rfl
def encB (b : api_Backend) : List UInt8 := be b.ID.toNat 2 ++ be b.Weight.toNat 2 ++ be b.State.toNat 1 ++ be (adB b.Addr).length 1 ++ adB b.Addr
def encH (r : saved_Record) : List UInt8 := [67, 76, 75, 49] ++ be r.Key.A.toNat 8 ++ be r.Key.B.toNat 8 ++ be r.Last.toNat 2 ++ be r.L.length 1
def body (r : saved_Record) : List UInt8 := encH r ++ r.L.flatMap encB
def putR (r : saved_Record) : List UInt8 × Int := if rightB r = true then (body r ++ sealS (body r), 0) else ([], 1)
def recOK (r : saved_Record) : Prop := (0 ≤ r.Key.A ∧ r.Key.A < 2 ^ 64) ∧ (0 ≤ r.Key.B ∧ r.Key.B < 2 ^ 64) ∧ ∀ b ∈ r.L, inU b.Addr
theorem encB_len (b : api_Backend) : (encB b).length ≤ 22 := by
  have := adB_len b.Addr
  simp [encB]; omega
theorem scan_flat {ρ : Type} (fin : List UInt8 → ρ) : ∀ (L : List api_Backend) (s : List UInt8), scan (fun b s => (.inl (s ++ encB b) : Sum (List UInt8) ρ)) fin L s = fin (s ++ L.flatMap encB)
  | [], s => by simp [scan]
  | b :: L, s => by rw [scan]; simp only []; rw [scan_flat fin L]; simp
theorem chn_all {top : Int} : ∀ {l : List api_Backend} {last : Int}, chn top l last = true → ∀ b ∈ l, last < b.ID ∧ b.ID ≤ top ∧ 0 ≤ b.Weight ∧ b.Weight ≤ 1000 ∧ (b.State = 1 ∨ b.State = 3) ∧ adr b.Addr = true
  | [], last, h, b, hb => by cases hb
  | a :: l, last, h, b, hb => by
    rw [chn_cons, Bool.and_eq_true] at h
    have h1 := h.1
    unfold bkOK at h1
    rw [Bool.and_eq_true, decide_eq_true_iff] at h1
    rcases List.mem_cons.1 hb with rfl | hb
    · obtain ⟨⟨c1, c2, c3, c4, c5⟩, c6⟩ := h1
      exact ⟨c1, c2, c3, c4, c5, c6⟩
    · obtain ⟨c1, c2, c3, c4, c5, c6⟩ := chn_all h.2 b hb
      exact ⟨by omega, c2, c3, c4, c5, c6⟩
theorem be42 {x y : Int} (hx : 0 ≤ x ∧ x ≤ 65535) (hy : 0 ≤ y ∧ y ≤ 65535) : putS (iorI .u64 (wI .u64 ((wI .u64 x) * 2 ^ 16)) (wI .u64 y)) 4 = be x.toNat 2 ++ be y.toNat 2 := by
  rw [wU64 (n := x) (by omega) (by omega), wU64 (n := y) (by omega) (by omega), wU64 (n := x * 2 ^ 16) (by omega) (by omega), iorU64_low 16 (by omega) (by omega) (by omega) (by omega) (by omega)]
  unfold putS
  rw [if_pos (by decide)]
  obtain ⟨a, rfl⟩ := Int.eq_ofNat_of_zero_le hx.1
  obtain ⟨b, rfl⟩ := Int.eq_ofNat_of_zero_le hy.1
  show be ((a : Int) * 2 ^ 16 + (b : Int)).toNat (2 + 2) = _
  have e1 : ((a : Int) * 2 ^ 16 + (b : Int)).toNat = a * 65536 + b := by omega
  rw [e1, be_split, show (a * 65536 + b) / 256 ^ 2 = a by omega, ← be_mod (a * 65536 + b) 2, show (a * 65536 + b) % 256 ^ 2 = b by omega]
  simp
theorem be21 {x y : Int} (hx : 0 ≤ x ∧ x ≤ 255) (hy : 0 ≤ y ∧ y ≤ 255) : putS (iorI .u64 (wI .u64 ((wI .u64 x) * 2 ^ 8)) (wI .u64 y)) 2 = be x.toNat 1 ++ be y.toNat 1 := by
  rw [wU64 (n := x) (by omega) (by omega), wU64 (n := y) (by omega) (by omega), wU64 (n := x * 2 ^ 8) (by omega) (by omega), iorU64_low 8 (by omega) (by omega) (by omega) (by omega) (by omega)]
  unfold putS
  rw [if_pos (by decide)]
  obtain ⟨a, rfl⟩ := Int.eq_ofNat_of_zero_le hx.1
  obtain ⟨b, rfl⟩ := Int.eq_ofNat_of_zero_le hy.1
  show be ((a : Int) * 2 ^ 8 + (b : Int)).toNat (1 + 1) = _
  have e1 : ((a : Int) * 2 ^ 8 + (b : Int)).toNat = a * 256 + b := by omega
  rw [e1, be_split, show (a * 256 + b) / 256 ^ 1 = a by omega, ← be_mod (a * 256 + b) 1, show (a * 256 + b) % 256 ^ 1 = b by omega]
  simp
theorem pput_eq {r : saved_Record} (hr : recOK r) : saved_Put r = some (putR r) := by
  unfold saved_Put saved_PutF putR
  rw [pright_eq, Option.bind_some]
  cases hR : rightB r with
  | false => rfl
  | true =>
  have h := hR
  unfold rightB at h
  rw [Bool.and_eq_true, decide_eq_true_iff] at h
  obtain ⟨⟨l0, l1, l2⟩, hc⟩ := h
  have hall := chn_all hc
  obtain ⟨⟨a0, a1⟩, ⟨b0, b1⟩, hadr⟩ := hr
  simp only [Bool.not_true, cond_false]
  rw [octet_Put_eq a0, Option.bind_some, octet_Put_eq b0, Option.bind_some, wU64 (n := r.Last) (by omega) (by omega), octet_Put_eq l0, Option.bind_some, wU64 (n := (r.L.length : Int)) (by omega) (by omega), octet_Put_eq (by omega), Option.bind_some]
  simp only [putS, show (1 : Int) ≤ 8 ∧ (8 : Int) ≤ 8 from by decide, show (1 : Int) ≤ 2 ∧ (2 : Int) ≤ 8 from by decide, show (1 : Int) ≤ 1 ∧ (1 : Int) ≤ 8 from by decide, and_self, ↓reduceIte, Int.toNat_natCast, show (8 : Int).toNat = 8 from rfl, show (2 : Int).toNat = 2 from rfl, show (1 : Int).toNat = 1 from rfl]
  rw [oreq_p (by simp), oreq_p (by simp), oreq_p (by simp), oreq_p (by simp)]
  have e0 := iter_scan0 r.L (fun b s => (.inl (s ++ encB b) : Sum (List UInt8) (List UInt8 × Int))) (fun s => (s ++ sealS s, (0 : Int))) (fun i (s : List UInt8) => ((i : Int), s)) (fun st => saved_Put_s1 addr_Put octet_Put saved_seal r st.1 st.2) (fun i s => s.length ≤ 100 + 22 * i) (s := encH r) ?_ ?_ (by omega) (by simp [encH]) rfl
  · rw [scan_flat] at e0
    exact e0
  · intro i s hi hs
    dsimp only
    refine ⟨fun s' e => ?_, fun q e => (by cases e)⟩
    cases e
    obtain ⟨c1, c2, c3, c4, c5, c6⟩ := hall _ (List.getElem_mem hi)
    have hu := hadr _ (List.getElem_mem hi)
    have hlb := encB_len r.L[i]
    refine ⟨?_, by simp only [List.length_append]; omega⟩
    unfold saved_Put_s1
    rw [cond_p (by omega), oreq_p (by omega), Int.toNat_natCast, List.getElem?_eq_getElem hi, Option.bind_some]
    generalize r.L[i] = b at *
    have hal := adB_len b.Addr
    rw [tuPut_eq hu c6, Option.bind_some]
    simp only []
    rw [octet_Put_eq (by rw [wU64 (n := b.ID) (by omega) (by omega), wU64 (n := b.Weight) (by omega) (by omega), wU64 (n := b.ID * 2 ^ 16) (by omega) (by omega), iorU64_low 16 (by omega) (by omega) (by omega) (by omega) (by omega)]; omega), be42 (by omega) (by omega), Option.bind_some]
    rw [octet_Put_eq (by rw [wU64 (n := b.State) (by omega) (by omega), wU64 (n := ((adB b.Addr).length : Int)) (by omega) (by omega), wU64 (n := b.State * 2 ^ 8) (by omega) (by omega), iorU64_low 8 (by omega) (by omega) (by omega) (by omega) (by omega)]; omega), be21 (by omega) (by omega), Option.bind_some]
    rw [oreq_p (by simp; omega), oreq_p (by simp; omega), oreq_p (by simp; omega), wI64 (by omega) (by omega), Int.toNat_natCast]
    congr 3
    simp [encB]
  · intro s hs
    dsimp only
    unfold saved_Put_s1
    rw [cond_n (by omega), pseal_eq (by omega), Option.bind_some, oreq_p (by rw [sealS_len]; omega)]
end Go.Vm.Code
namespace Go.Vm.Code
open Go Go.Vm Go.Proofs
set_option maxRecDepth 100000
set_option maxHeartbeats 4000000
set_option linter.unusedVariables false
def addr_GetF (octet_Get : (List UInt8) → Int → Int → Option (Int × Bool)) (s : List UInt8) : Option (api_Addr × Bool) :=
  cond ((s.length : Int) == 4)
    (
    (octet_Get s 0 4).bind fun xg =>
    some ((api_Addr.mk false 0 xg.1, true)))
    (
    cond ((s.length : Int) == 16)
      (
      (octet_Get s 0 8).bind fun xg1 =>
      (octet_Get s 8 8).bind fun xg2 =>
      some ((api_Addr.mk true xg1.1 xg2.1, true)))
      (
      some ((api_Addr.mk false 0 0, false))))
def rx138 (x : api_Addr × Bool) : SRes := ⟨.tuple ⟨[.agg ⟨[.bool x.1.V6, .int .u64 x.1.Hi, .int .u64 x.1.Lo]⟩, .bool x.2]⟩, [], []⟩
def r138 (g : (List UInt8) → Option (api_Addr × Bool)) : Dec := dV asS fun (y0 : List UInt8) => dEnd (ofG (g y0) rx138)
theorem r138_c {g : (List UInt8) → Option (api_Addr × Bool)} {y0 : List UInt8} {x : api_Addr × Bool} (hx : g y0 = some x) : r138 g [.string ⟨⟨y0⟩⟩] [] = some (rx138 x) := (dV_eq (asS_c)).trans (ofG_eq hx)
def s138 (g : (List UInt8) → Option (api_Addr × Bool)) : Summ := ⟨[.v], r138 g⟩
theorem r138_eq {g : (List UInt8) → Option (api_Addr × Bool)} {y0 : List UInt8} {x : api_Addr × Bool} (hx : g y0 = some x) : (s138 g).run [.string ⟨⟨y0⟩⟩] [] = some (rx138 x) := r138_c hx
abbrev sums138 (octet_Get : (List UInt8) → Int → Int → Option (Int × Bool)) : List (Nat × Summ) := [(99, s99 octet_Get)]
theorem leads138 (octet_Get : (List UInt8) → Int → Int → Option (Int × Bool)) (hS : SumsOK Try.prog (aget (sums138 octet_Get))) (s : List UInt8) (res : api_Addr × Bool) (h : addr_GetF octet_Get s = some res) :
    Leads Try.prog 138 0 ⟨⟨138, 35, [(0, .string ⟨⟨s⟩⟩)], [.code k138_25], [], false, none⟩, [], [], 0⟩ (fun v H _ => Res 0 (rx138 res) v H) := by
  unfold addr_GetF at h
  refine ev_ok tab_ok hS true 3000 ?_
  conv => whnf
  refine br.h h ?_ ?_ ?_
  · rfl
  · clear h; intro hb h; conv => whnf
    replace h := obind.elim h; obtain ⟨xg, hy, h⟩ := h
    refine sumK.q rfl rfl (r99_eq hy) rfl rfl rfl ?_
    conv => whnf
    all_goals (cases h; exact Res.z rfl rfl rfl)
  clear h; intro hb h; conv => whnf
  refine br.h2 h ?_ ?_ ?_
  · rfl
  · clear h; intro hb h; conv => whnf
    all_goals (cases h; exact Res.z rfl rfl rfl)
  clear h; intro hb h; conv => whnf
  replace h := obind.elim h; obtain ⟨xg1, hy, h⟩ := h
  refine sumK.q rfl rfl (r99_eq hy) rfl rfl rfl ?_
  conv => whnf
  replace h := obind.elim h; obtain ⟨xg2, hy, h⟩ := h
  refine sumK.q rfl rfl (r99_eq hy) rfl rfl rfl ?_
  conv => whnf
  all_goals (cases h; exact Res.z rfl rfl rfl)
theorem ok138 (octet_Get : (List UInt8) → Int → Int → Option (Int × Bool)) (hS : SumsOK Try.prog (aget (sums138 octet_Get))) : SumOK Try.prog 138 (s138 (addr_GetF octet_Get)) := by
  refine SumOK.of_leads tab_ok (fun ar os r ha hr => ?_) ⟨Try.f138, rfl, by decide, rfl⟩
  replace hr : r138 (addr_GetF octet_Get) ar (conts os) = some r := hr
  unfold r138 at hr
  generalize hc : conts os = C at hr
  replace hr := dV.elim hr; obtain ⟨v0, l1, y0, rfl, e0, hr⟩ := hr; obtain rfl := asS_eq _ _ e0
  replace hr := dFin hr; obtain ⟨rfl, rfl, x, h, rfl⟩ := hr
  obtain rfl := kinds_nil hc
  exact ⟨_, rfl, leads138 octet_Get hS _ x h⟩
def addr_Get : (List UInt8) → Option (api_Addr × Bool) := addr_GetF octet_Get
theorem lift138 : SumOK Try.prog 138 (s138 addr_Get) := ok138 octet_Get (SumsOK.of_tab ⟨lift99, trivial⟩)
def saved_backendF (addr_Get : (List UInt8) → Option (api_Addr × Bool)) (octet_Reader_Num : octet_Reader → Int → Option (Int × octet_Reader)) (octet_Reader_Text : octet_Reader → Int → Option ((List UInt8) × octet_Reader)) (ra0 : octet_Reader) : Option (api_Backend × Bool × octet_Reader) :=
  (octet_Reader_Num ra0 2).bind fun n =>
  (octet_Reader_Num n.2 2).bind fun n1 =>
  (octet_Reader_Num n1.2 1).bind fun n2 =>
  (octet_Reader_Num n2.2 1).bind fun n3 =>
  (octet_Reader_Text n3.2 n3.1).bind fun t =>
  (addr_Get t.1).bind fun xg =>
  some ((api_Backend.mk n.1 n1.1 n2.1 xg.1, xg.2, t.2))
def rx101 (x : api_Backend × Bool × octet_Reader) : SRes := ⟨.tuple ⟨[.agg ⟨[.int .i64 x.1.ID, .int .i64 x.1.Weight, .int .i64 x.1.State, .bool x.1.Addr.V6, .int .u64 x.1.Addr.Hi, .int .u64 x.1.Addr.Lo]⟩, .bool x.2.1]⟩, [], [some [.string ⟨⟨x.2.2.s⟩⟩, .bool x.2.2.made, .bool x.2.2.bad]]⟩
def r101 (g : octet_Reader → Option (api_Backend × Bool × octet_Reader)) : Dec := dPt 0 unoctet_Reader fun (y0 : octet_Reader) => dEnd (ofG (g y0) rx101)
theorem r101_c {g : octet_Reader → Option (api_Backend × Bool × octet_Reader)} {y0 : octet_Reader} {x : api_Backend × Bool × octet_Reader} (hx : g y0 = some x) : r101 g [.pointer (some ⟨0, 0, none⟩)] [some [.string ⟨⟨y0.s⟩⟩, .bool y0.made, .bool y0.bad]] = some (rx101 x) := (dPt_eq (unoctet_Reader_c _)).trans (ofG_eq hx)
def s101 (g : octet_Reader → Option (api_Backend × Bool × octet_Reader)) : Summ := ⟨[.pt 3], r101 g⟩
theorem r101_eq {g : octet_Reader → Option (api_Backend × Bool × octet_Reader)} {y0 : octet_Reader} {x : api_Backend × Bool × octet_Reader} (hx : g y0 = some x) : (s101 g).run [.pointer (some ⟨0, 0, none⟩)] [some [.string ⟨⟨y0.s⟩⟩, .bool y0.made, .bool y0.bad]] = some (rx101 x) := r101_c hx
abbrev sums101 (addr_Get : (List UInt8) → Option (api_Addr × Bool)) (octet_Reader_Num : octet_Reader → Int → Option (Int × octet_Reader)) (octet_Reader_Text : octet_Reader → Int → Option ((List UInt8) × octet_Reader)) : List (Nat × Summ) := [(138, s138 addr_Get), (100, s100 octet_Reader_Num), (97, s97 octet_Reader_Text)]
theorem leads101 (addr_Get : (List UInt8) → Option (api_Addr × Bool)) (octet_Reader_Num : octet_Reader → Int → Option (Int × octet_Reader)) (octet_Reader_Text : octet_Reader → Int → Option ((List UInt8) × octet_Reader)) (hS : SumsOK Try.prog (aget (sums101 addr_Get octet_Reader_Num octet_Reader_Text))) (ra0 : octet_Reader) (res : api_Backend × Bool × octet_Reader) (h : saved_backendF addr_Get octet_Reader_Num octet_Reader_Text ra0 = some res) :
    Leads Try.prog 101 1 ⟨⟨101, 26, [(0, .pointer (some ⟨0, 0, none⟩))], [.code k101_9], [], false, none⟩, [], [(0, .cells [.string ⟨⟨ra0.s⟩⟩, .bool ra0.made, .bool ra0.bad])], 1⟩ (fun v H _ => Res 1 (rx101 res) v H) := by
  unfold saved_backendF at h
  refine ev_ok tab_ok hS true 3000 ?_
  conv => whnf
  replace h := obind.elim h; obtain ⟨n, hy, h⟩ := h
  refine sumK.introF [0] (sumRun_of (aqs := [.pointer (some ⟨0, 0, none⟩), .int .i64 2]) (ws := [.win 0 0 3 true]) (n := 0) (m := 0) (t' := 2) (ra_cons rfl rfl (ra_cons rfl rfl ra_nil)) rfl (by rfl) (r100_eq hy) rfl rfl rfl rfl (wb_win rfl rfl rfl ⟨rfl, Nat.le_of_ble_eq_true rfl⟩ rfl rfl wb_nil) an_nil rfl) ?_
  conv => whnf
  replace h := obind.elim h; obtain ⟨n1, hy, h⟩ := h
  refine sumK.introF [0] (sumRun_of (aqs := [.pointer (some ⟨0, 0, none⟩), .int .i64 2]) (ws := [.win 0 0 3 true]) (n := 0) (m := 0) (t' := 2) (ra_cons rfl rfl (ra_cons rfl rfl ra_nil)) rfl (by rfl) (r100_eq hy) rfl rfl rfl rfl (wb_win rfl rfl rfl ⟨rfl, Nat.le_of_ble_eq_true rfl⟩ rfl rfl wb_nil) an_nil rfl) ?_
  conv => whnf
  replace h := obind.elim h; obtain ⟨n2, hy, h⟩ := h
  refine sumK.introF [0] (sumRun_of (aqs := [.pointer (some ⟨0, 0, none⟩), .int .i64 1]) (ws := [.win 0 0 3 true]) (n := 0) (m := 0) (t' := 2) (ra_cons rfl rfl (ra_cons rfl rfl ra_nil)) rfl (by rfl) (r100_eq hy) rfl rfl rfl rfl (wb_win rfl rfl rfl ⟨rfl, Nat.le_of_ble_eq_true rfl⟩ rfl rfl wb_nil) an_nil rfl) ?_
  conv => whnf
  replace h := obind.elim h; obtain ⟨n3, hy, h⟩ := h
  refine sumK.introF [0] (sumRun_of (aqs := [.pointer (some ⟨0, 0, none⟩), .int .i64 1]) (ws := [.win 0 0 3 true]) (n := 0) (m := 0) (t' := 3) (ra_cons rfl rfl (ra_cons rfl rfl ra_nil)) rfl (by rfl) (r100_eq hy) rfl rfl rfl rfl (wb_win rfl rfl rfl ⟨rfl, Nat.le_of_ble_eq_true rfl⟩ rfl rfl wb_nil) an_nil rfl) ?_
  conv => whnf
  replace h := obind.elim h; obtain ⟨t, hy, h⟩ := h
  refine sumK.introF [0] (sumRun_of (aqs := [.pointer (some ⟨0, 0, none⟩), .int .i64 n3.1]) (ws := [.win 0 0 3 true]) (n := 0) (m := 0) (t' := 3) (ra_cons rfl rfl (ra_cons rfl rfl ra_nil)) rfl (by rfl) (r97_eq hy) rfl rfl rfl rfl (wb_win rfl rfl rfl ⟨rfl, Nat.le_of_ble_eq_true rfl⟩ rfl rfl wb_nil) an_nil rfl) ?_
  conv => whnf
  replace h := obind.elim h; obtain ⟨xg, hy, h⟩ := h
  refine sumK.q rfl rfl (r138_eq hy) rfl rfl rfl ?_
  conv => whnf
  all_goals (cases h)
  all_goals exact Res.of [] rfl nw_0 (by decide) js_0 (wr_s (rfl) (hs_cells rfl) wr_0)
theorem ok101 (addr_Get : (List UInt8) → Option (api_Addr × Bool)) (octet_Reader_Num : octet_Reader → Int → Option (Int × octet_Reader)) (octet_Reader_Text : octet_Reader → Int → Option ((List UInt8) × octet_Reader)) (hS : SumsOK Try.prog (aget (sums101 addr_Get octet_Reader_Num octet_Reader_Text))) : SumOK Try.prog 101 (s101 (saved_backendF addr_Get octet_Reader_Num octet_Reader_Text)) := by
  refine SumOK.of_leads tab_ok (fun ar os r ha hr => ?_) ⟨Try.f101, rfl, by decide, rfl⟩
  replace hr : r101 (saved_backendF addr_Get octet_Reader_Num octet_Reader_Text) ar (conts os) = some r := hr
  unfold r101 at hr
  generalize hc : conts os = C at hr
  have hq := dPt.elim hr; clear hr; obtain ⟨c0, l1, C, y0, rfl, rfl, e0, hr⟩ := hq; obtain rfl := unoctet_Reader_eq _ _ e0
  replace hr := dFin hr; obtain ⟨rfl, rfl, x, h, rfl⟩ := hr
  obtain ⟨os, rfl, ha, hc⟩ := kinds_some ha hc
  obtain rfl := kinds_nil hc
  exact ⟨_, rfl, leads101 addr_Get octet_Reader_Num octet_Reader_Text hS _ x h⟩
def saved_backend : octet_Reader → Option (api_Backend × Bool × octet_Reader) := saved_backendF addr_Get octet_Reader_Num octet_Reader_Text
theorem lift101 : SumOK Try.prog 101 (s101 saved_backend) := ok101 addr_Get octet_Reader_Num octet_Reader_Text (SumsOK.of_tab ⟨lift138, lift100, lift97, trivial⟩)
def octet_Reader_RestF (octet_Reader_Bad : octet_Reader → Option (Bool × octet_Reader)) (octet_Reader_Text : octet_Reader → Int → Option ((List UInt8) × octet_Reader)) (ra0 : octet_Reader) : Option ((List UInt8) × octet_Reader) :=
  (octet_Reader_Bad ra0).bind fun b =>
  cond (b.1)
    (
    some (([], b.2)))
    (
    (octet_Reader_Text b.2 (b.2.s.length : Int)).bind fun t =>
    some ((t.1, t.2)))
def rx103 (x : (List UInt8) × octet_Reader) : SRes := ⟨.string ⟨⟨x.1⟩⟩, [], [some [.string ⟨⟨x.2.s⟩⟩, .bool x.2.made, .bool x.2.bad]]⟩
def r103 (g : octet_Reader → Option ((List UInt8) × octet_Reader)) : Dec := dPt 0 unoctet_Reader fun (y0 : octet_Reader) => dEnd (ofG (g y0) rx103)
theorem r103_c {g : octet_Reader → Option ((List UInt8) × octet_Reader)} {y0 : octet_Reader} {x : (List UInt8) × octet_Reader} (hx : g y0 = some x) : r103 g [.pointer (some ⟨0, 0, none⟩)] [some [.string ⟨⟨y0.s⟩⟩, .bool y0.made, .bool y0.bad]] = some (rx103 x) := (dPt_eq (unoctet_Reader_c _)).trans (ofG_eq hx)
def s103 (g : octet_Reader → Option ((List UInt8) × octet_Reader)) : Summ := ⟨[.pt 3], r103 g⟩
theorem r103_eq {g : octet_Reader → Option ((List UInt8) × octet_Reader)} {y0 : octet_Reader} {x : (List UInt8) × octet_Reader} (hx : g y0 = some x) : (s103 g).run [.pointer (some ⟨0, 0, none⟩)] [some [.string ⟨⟨y0.s⟩⟩, .bool y0.made, .bool y0.bad]] = some (rx103 x) := r103_c hx
abbrev sums103 (octet_Reader_Bad : octet_Reader → Option (Bool × octet_Reader)) (octet_Reader_Text : octet_Reader → Int → Option ((List UInt8) × octet_Reader)) : List (Nat × Summ) := [(102, s102 octet_Reader_Bad), (97, s97 octet_Reader_Text)]
theorem leads103 (octet_Reader_Bad : octet_Reader → Option (Bool × octet_Reader)) (octet_Reader_Text : octet_Reader → Int → Option ((List UInt8) × octet_Reader)) (hS : SumsOK Try.prog (aget (sums103 octet_Reader_Bad octet_Reader_Text))) (ra0 : octet_Reader) (res : (List UInt8) × octet_Reader) (h : octet_Reader_RestF octet_Reader_Bad octet_Reader_Text ra0 = some res) :
    Leads Try.prog 103 1 ⟨⟨103, 12, [(0, .pointer (some ⟨0, 0, none⟩))], [.code k103_9], [], false, none⟩, [], [(0, .cells [.string ⟨⟨ra0.s⟩⟩, .bool ra0.made, .bool ra0.bad])], 1⟩ (fun v H _ => Res 1 (rx103 res) v H) := by
  unfold octet_Reader_RestF at h
  refine ev_ok tab_ok hS true 3000 ?_
  conv => whnf
  replace h := obind.elim h; obtain ⟨b, hy, h⟩ := h
  refine sumK.introF [0] (sumRun_of (aqs := [.pointer (some ⟨0, 0, none⟩)]) (ws := [.win 0 0 3 true]) (n := 0) (m := 0) (t' := 1) (ra_cons rfl rfl ra_nil) rfl (by rfl) (r102_eq hy) rfl rfl rfl rfl (wb_win rfl rfl rfl ⟨rfl, Nat.le_of_ble_eq_true rfl⟩ rfl rfl wb_nil) an_nil rfl) ?_
  conv => whnf
  refine br.h h ?_ ?_ ?_
  · rfl
  · clear h; intro hb h; conv => whnf
    all_goals (cases h)
    all_goals exact Res.of [] rfl nw_0 (by decide) js_0 (wr_s (rfl) (hs_cells rfl) wr_0)
  clear h; intro hb h; conv => whnf
  replace h := obind.elim h; obtain ⟨t, hy, h⟩ := h
  refine sumK.introF [0] (sumRun_of (aqs := [.pointer (some ⟨0, 0, none⟩), .int .i64 (b.2.s.length : Int)]) (ws := [.win 0 0 3 true]) (n := 0) (m := 0) (t' := 1) (ra_cons rfl rfl (ra_cons rfl rfl ra_nil)) rfl (by rfl) (r97_eq hy) rfl rfl rfl rfl (wb_win rfl rfl rfl ⟨rfl, Nat.le_of_ble_eq_true rfl⟩ rfl rfl wb_nil) an_nil rfl) ?_
  conv => whnf
  all_goals (cases h)
  all_goals exact Res.of [] rfl nw_0 (by decide) js_0 (wr_s (rfl) (hs_cells rfl) wr_0)
theorem ok103 (octet_Reader_Bad : octet_Reader → Option (Bool × octet_Reader)) (octet_Reader_Text : octet_Reader → Int → Option ((List UInt8) × octet_Reader)) (hS : SumsOK Try.prog (aget (sums103 octet_Reader_Bad octet_Reader_Text))) : SumOK Try.prog 103 (s103 (octet_Reader_RestF octet_Reader_Bad octet_Reader_Text)) := by
  refine SumOK.of_leads tab_ok (fun ar os r ha hr => ?_) ⟨Try.f103, rfl, by decide, rfl⟩
  replace hr : r103 (octet_Reader_RestF octet_Reader_Bad octet_Reader_Text) ar (conts os) = some r := hr
  unfold r103 at hr
  generalize hc : conts os = C at hr
  have hq := dPt.elim hr; clear hr; obtain ⟨c0, l1, C, y0, rfl, rfl, e0, hr⟩ := hq; obtain rfl := unoctet_Reader_eq _ _ e0
  replace hr := dFin hr; obtain ⟨rfl, rfl, x, h, rfl⟩ := hr
  obtain ⟨os, rfl, ha, hc⟩ := kinds_some ha hc
  obtain rfl := kinds_nil hc
  exact ⟨_, rfl, leads103 octet_Reader_Bad octet_Reader_Text hS _ x h⟩
def octet_Reader_Rest : octet_Reader → Option ((List UInt8) × octet_Reader) := octet_Reader_RestF octet_Reader_Bad octet_Reader_Text
theorem lift103 : SumOK Try.prog 103 (s103 octet_Reader_Rest) := ok103 octet_Reader_Bad octet_Reader_Text (SumsOK.of_tab ⟨lift102, lift97, trivial⟩)
def saved_Get_s1 (octet_Reader_Bad : octet_Reader → Option (Bool × octet_Reader)) (octet_Reader_Rest : octet_Reader → Option ((List UInt8) × octet_Reader)) (saved_Right : saved_Record → Option Bool) (saved_backend : octet_Reader → Option (api_Backend × Bool × octet_Reader)) (xg : Int × Bool) (xg1 : Int × Bool) (n1 : Int × octet_Reader) (n2 : Int × octet_Reader) (good : Bool) (t60 : Int) (xr : List UInt8) (xr1 : Bool) (xr2 : Bool) (c : List api_Backend) : Option (Sum (Bool × Int × (List UInt8) × Bool × Bool × (List api_Backend)) (saved_Record × Int)) :=
  cond (decide (t60 < n2.1))
    (
    (saved_backend (octet_Reader.mk xr xr1 xr2)).bind fun b =>
    cond (good)
      (
      oreq (decide ((c.length + 1) * 48 ≤ 2 ^ 47)) <|
      let row := c ++ [b.1]
      some (.inl (b.2.1, wI .i64 (t60 + 1), b.2.2.s, b.2.2.made, b.2.2.bad, row)))
      (
      oreq (decide ((c.length + 1) * 48 ≤ 2 ^ 47)) <|
      let row1 := c ++ [b.1]
      some (.inl (false, wI .i64 (t60 + 1), b.2.2.s, b.2.2.made, b.2.2.bad, row1))))
    (
    (octet_Reader_Bad (octet_Reader.mk xr xr1 xr2)).bind fun b1 =>
    cond (b1.1)
      (
      some (.inr ((saved_Record.mk (api_Key.mk 0 0) 0 [], 2))))
      (
      (octet_Reader_Rest b1.2).bind fun xr3 =>
      cond (!(xr3.1 == []))
        (
        some (.inr ((saved_Record.mk (api_Key.mk 0 0) 0 [], 3))))
        (
        cond (!good)
          (
          some (.inr ((saved_Record.mk (api_Key.mk 0 0) 0 [], 3))))
          (
          (saved_Right (saved_Record.mk (api_Key.mk xg.1 xg1.1) n1.1 c)).bind fun xr4 =>
          cond (!xr4)
            (
            some (.inr ((saved_Record.mk (api_Key.mk 0 0) 0 [], 1))))
            (
            some (.inr ((saved_Record.mk (api_Key.mk xg.1 xg1.1) n1.1 c, 0))))))))
def saved_GetF (octet_Get : (List UInt8) → Int → Int → Option (Int × Bool)) (octet_New : (List UInt8) → Option octet_Reader) (octet_Reader_Bad : octet_Reader → Option (Bool × octet_Reader)) (octet_Reader_Num : octet_Reader → Int → Option (Int × octet_Reader)) (octet_Reader_Rest : octet_Reader → Option ((List UInt8) × octet_Reader)) (octet_Reader_Text : octet_Reader → Int → Option ((List UInt8) × octet_Reader)) (saved_Right : saved_Record → Option Bool) (saved_backend : octet_Reader → Option (api_Backend × Bool × octet_Reader)) (saved_seal : (List UInt8) → Option (List UInt8)) (s : List UInt8) : Option (saved_Record × Int) :=
  cond (decide ((s.length : Int) < 31))
    (
    some ((saved_Record.mk (api_Key.mk 0 0) 0 [], 2)))
    (
    oreq (decide ((0 : Int) ≤ (wI .i64 ((s.length : Int) - 8)) ∧ (wI .i64 ((s.length : Int) - 8)) ≤ (s.length : Int))) <|
    let t := s.take (wI .i64 ((s.length : Int) - 8)).toNat
    oreq (decide ((0 : Int) ≤ (wI .i64 ((s.length : Int) - 8)) ∧ (wI .i64 ((s.length : Int) - 8)) ≤ (s.length : Int))) <|
    let t1 := (s.drop (wI .i64 ((s.length : Int) - 8)).toNat).take (s.length - (wI .i64 ((s.length : Int) - 8)).toNat)
    (octet_New t).bind fun n =>
    (octet_Reader_Text n 4).bind fun t2 =>
    cond (!(t2.1 == [67, 76, 75, 49]))
      (
      some ((saved_Record.mk (api_Key.mk 0 0) 0 [], 3)))
      (
      (saved_seal t).bind fun s1 =>
      cond (!(s1 == t1))
        (
        some ((saved_Record.mk (api_Key.mk 0 0) 0 [], 4)))
        (
        (octet_Reader_Text t2.2 8).bind fun t3 =>
        (octet_Get t3.1 0 8).bind fun xg =>
        (octet_Reader_Text t3.2 8).bind fun t4 =>
        (octet_Get t4.1 0 8).bind fun xg1 =>
        (octet_Reader_Num t4.2 2).bind fun n1 =>
        (octet_Reader_Num n1.2 1).bind fun n2 =>
        iter (fun st => saved_Get_s1 octet_Reader_Bad octet_Reader_Rest saved_Right saved_backend xg xg1 n1 n2 st.1 st.2.1 st.2.2.1 st.2.2.2.1 st.2.2.2.2.1 st.2.2.2.2.2) FUEL (true, 0, n2.2.s, n2.2.made, n2.2.bad, []))))
def rx48 (x : saved_Record × Int) : SRes := ⟨.tuple ⟨[.agg ⟨[.int .u64 x.1.Key.A, .int .u64 x.1.Key.B, .int .i64 x.1.Last, .slice (some ⟨0, 0, none⟩) x.1.L.length 6]⟩, .int .i64 x.2]⟩, [(vT capi_Backend x.1.L)], []⟩
def r48 (g : (List UInt8) → Option (saved_Record × Int)) : Dec := dV asS fun (y0 : List UInt8) => dEnd (ofG (g y0) rx48)
theorem r48_c {g : (List UInt8) → Option (saved_Record × Int)} {y0 : List UInt8} {x : saved_Record × Int} (hx : g y0 = some x) : r48 g [.string ⟨⟨y0⟩⟩] [] = some (rx48 x) := (dV_eq (asS_c)).trans (ofG_eq hx)
def s48 (g : (List UInt8) → Option (saved_Record × Int)) : Summ := ⟨[.v], r48 g⟩
theorem r48_eq {g : (List UInt8) → Option (saved_Record × Int)} {y0 : List UInt8} {x : saved_Record × Int} (hx : g y0 = some x) : (s48 g).run [.string ⟨⟨y0⟩⟩] [] = some (rx48 x) := r48_c hx
abbrev sums48 (octet_Get : (List UInt8) → Int → Int → Option (Int × Bool)) (octet_New : (List UInt8) → Option octet_Reader) (octet_Reader_Bad : octet_Reader → Option (Bool × octet_Reader)) (octet_Reader_Num : octet_Reader → Int → Option (Int × octet_Reader)) (octet_Reader_Rest : octet_Reader → Option ((List UInt8) × octet_Reader)) (octet_Reader_Text : octet_Reader → Int → Option ((List UInt8) × octet_Reader)) (saved_Right : saved_Record → Option Bool) (saved_backend : octet_Reader → Option (api_Backend × Bool × octet_Reader)) (saved_seal : (List UInt8) → Option (List UInt8)) : List (Nat × Summ) := [(99, s99 octet_Get), (96, s96 octet_New), (102, s102 octet_Reader_Bad), (100, s100 octet_Reader_Num), (103, s103 octet_Reader_Rest), (97, s97 octet_Reader_Text), (56, s56 saved_Right), (101, s101 saved_backend), (98, s98 saved_seal)]
def head48_1 (xg : Int × Bool) (xg1 : Int × Bool) (n1 : Int × octet_Reader) (n2 : Int × octet_Reader) (good : Bool) (t60 : Int) (xr : List UInt8) (xr1 : Bool) (xr2 : Bool) (c : List api_Backend) : VM :=
  ⟨⟨48, 97, [(2, .pointer (some ⟨0, 0, none⟩)), (6, .pointer (some ⟨12, 0, none⟩)), (7, .pointer (some ⟨13, 0, none⟩)), (8, .bool good), (59, .int .i64 n2.1), (60, .int .i64 t60)], [.code k48_36, .inLoop k48_36, .inBlock 1, .code k48_58], [], false, none⟩, [], [(0, .cells [.int .u64 0, .int .u64 0, .int .i64 0, .slice none 0 0]), (12, .row true [.string ⟨⟨xr⟩⟩, .bool xr1, .bool xr2]), (13, .cells [.int .u64 xg.1, .int .u64 xg1.1, .int .i64 n1.1, .slice (some ⟨14, 0, none⟩) c.length 6]), (14, .row true (vT capi_Backend c))], 15⟩
theorem loop48_1 (octet_Get : (List UInt8) → Int → Int → Option (Int × Bool)) (octet_New : (List UInt8) → Option octet_Reader) (octet_Reader_Bad : octet_Reader → Option (Bool × octet_Reader)) (octet_Reader_Num : octet_Reader → Int → Option (Int × octet_Reader)) (octet_Reader_Rest : octet_Reader → Option ((List UInt8) × octet_Reader)) (octet_Reader_Text : octet_Reader → Int → Option ((List UInt8) × octet_Reader)) (saved_Right : saved_Record → Option Bool) (saved_backend : octet_Reader → Option (api_Backend × Bool × octet_Reader)) (saved_seal : (List UInt8) → Option (List UInt8)) (hS : SumsOK Try.prog (aget (sums48 octet_Get octet_New octet_Reader_Bad octet_Reader_Num octet_Reader_Rest octet_Reader_Text saved_Right saved_backend saved_seal))) (xg : Int × Bool) (xg1 : Int × Bool) (n1 : Int × octet_Reader) (n2 : Int × octet_Reader) (res : saved_Record × Int) : ∀ fuel (st : Bool × Int × (List UInt8) × Bool × Bool × (List api_Backend)) (o : saved_Record × Int), iter (fun st => saved_Get_s1 octet_Reader_Bad octet_Reader_Rest saved_Right saved_backend xg xg1 n1 n2 st.1 st.2.1 st.2.2.1 st.2.2.2.1 st.2.2.2.2.1 st.2.2.2.2.2) fuel st = some o → (o = res) →
    Leads Try.prog 48 0 (head48_1 xg xg1 n1 n2 st.1 st.2.1 st.2.2.1 st.2.2.2.1 st.2.2.2.2.1 st.2.2.2.2.2) (fun v H t => ∃ v' H' t', NilW v H t v' H' t' ∧ Res 0 (rx48 res) v' H') := by
  intro fuel st o h hc
  refine iter_leads (head := fun st => head48_1 xg xg1 n1 n2 st.1 st.2.1 st.2.2.1 st.2.2.2.1 st.2.2.2.2.1 st.2.2.2.2.2) (C := fun o => (o = res)) ?_ fuel st o h hc
  clear h hc o st fuel
  intro st o h hc
  obtain ⟨good, t60, xr, xr1, xr2, c⟩ := st
  replace h : saved_Get_s1 octet_Reader_Bad octet_Reader_Rest saved_Right saved_backend xg xg1 n1 n2 good t60 xr xr1 xr2 c = some o := h
  show Leads Try.prog 48 0 (head48_1 xg xg1 n1 n2 good t60 xr xr1 xr2 c) (fun v H t => ∃ v' H' t', NilW v H t v' H' t' ∧ Res 0 (rx48 res) v' H')
  unfold saved_Get_s1 at h
  refine ev_ok tab_ok hS true 3000 ?_
  conv => whnf
  refine br.h h ?_ ?_ ?_
  · rfl
  · clear h; intro hb h; conv => whnf
    replace h := obind.elim h; obtain ⟨b, hy, h⟩ := h
    refine sumK.introF [12] (sumRun_of (aqs := [.pointer (some ⟨0, 0, none⟩)]) (ws := [.win 12 0 3 true]) (n := 0) (m := 0) (t' := 15) (ra_cons rfl rfl ra_nil) rfl (by rfl) (r101_eq hy) rfl rfl rfl rfl (wb_win rfl rfl rfl ⟨rfl, Nat.le_of_ble_eq_true rfl⟩ rfl rfl wb_nil) an_nil rfl) ?_
    conv => whnf
    refine br.h h ?_ ?_ ?_
    · rfl
    · clear h; intro hb h; conv => whnf
      replace h := oreq.elim h; obtain ⟨hb, h⟩ := h
      refine req.intro (ap_req (of_decide_eq_true hb) (by first | rfl | omega | (simp; done) | (simp; omega) | (simp at *; omega)) rfl (by first | rfl | omega | (simp; done) | (simp; omega) | (simp at *; omega)) (by first | rfl | exact vI_one _ _ | exact vS_one _ | exact vB_one _ | exact vT_one (by first | exact capi_Key_one | exact capi_Addr_one | exact capi_Backend_one | exact cArr4_Int_one | exact csip_Hasher_one | exact coctet_Reader_one | exact cR23_Step_one | exact chealth_Rule_one | exact chealth_State_one | exact cregistry_row_one) _ | (rw [ofBytes_vI]; exact vI_one _ _) | (simp [vI_one, vS_one, vB_one, vI_drop, vI_take, vS_drop, vS_take]; done) | (simp; exact List.all_eq_true.1 (vT_one (by first | exact capi_Key_one | exact capi_Addr_one | exact capi_Backend_one | exact cArr4_Int_one | exact csip_Hasher_one | exact coctet_Reader_one | exact cR23_Step_one | exact chealth_Rule_one | exact chealth_State_one | exact cregistry_row_one) _))) rfl) ?_
      conv => whnf
      let row : List api_Backend := c ++ [b.1]
      refine pk_apT capi_Backend_len (xs := c) (ys := [b.1]) rfl (by first | rfl | omega) (by first | rfl | omega | (simp; done) | (simp; omega) | (simp at *; omega)) (by first | rfl | omega | (simp; done) | (simp; omega) | (simp at *; omega)) ?_
      conv => whnf
      cases h; simp only [Sum.elim_inl, head48_1] at hc
      exact lrA0 hc [(0, 0), (12, 12), (13, 13), (14, 17)] rfl
    clear h; intro hb h; conv => whnf
    replace h := oreq.elim h; obtain ⟨hb, h⟩ := h
    refine req.intro (ap_req (of_decide_eq_true hb) (by first | rfl | omega | (simp; done) | (simp; omega) | (simp at *; omega)) rfl (by first | rfl | omega | (simp; done) | (simp; omega) | (simp at *; omega)) (by first | rfl | exact vI_one _ _ | exact vS_one _ | exact vB_one _ | exact vT_one (by first | exact capi_Key_one | exact capi_Addr_one | exact capi_Backend_one | exact cArr4_Int_one | exact csip_Hasher_one | exact coctet_Reader_one | exact cR23_Step_one | exact chealth_Rule_one | exact chealth_State_one | exact cregistry_row_one) _ | (rw [ofBytes_vI]; exact vI_one _ _) | (simp [vI_one, vS_one, vB_one, vI_drop, vI_take, vS_drop, vS_take]; done) | (simp; exact List.all_eq_true.1 (vT_one (by first | exact capi_Key_one | exact capi_Addr_one | exact capi_Backend_one | exact cArr4_Int_one | exact csip_Hasher_one | exact coctet_Reader_one | exact cR23_Step_one | exact chealth_Rule_one | exact chealth_State_one | exact cregistry_row_one) _))) rfl) ?_
    conv => whnf
    let row1 : List api_Backend := c ++ [b.1]
    refine pk_apT capi_Backend_len (xs := c) (ys := [b.1]) rfl (by first | rfl | omega) (by first | rfl | omega | (simp; done) | (simp; omega) | (simp at *; omega)) (by first | rfl | omega | (simp; done) | (simp; omega) | (simp at *; omega)) ?_
    conv => whnf
    cases h; simp only [Sum.elim_inl, head48_1] at hc
    exact lrA0 hc [(0, 0), (12, 12), (13, 13), (14, 17)] rfl
  clear h; intro hb h; conv => whnf
  replace h := obind.elim h; obtain ⟨b1, hy, h⟩ := h
  refine sumK.introF [12] (sumRun_of (aqs := [.pointer (some ⟨0, 0, none⟩)]) (ws := [.win 12 0 3 true]) (n := 0) (m := 0) (t' := 15) (ra_cons rfl rfl ra_nil) rfl (by rfl) (r102_eq hy) rfl rfl rfl rfl (wb_win rfl rfl rfl ⟨rfl, Nat.le_of_ble_eq_true rfl⟩ rfl rfl wb_nil) an_nil rfl) ?_
  conv => whnf
  refine br.h h ?_ ?_ ?_
  · rfl
  · clear h; intro hb h; conv => whnf
    all_goals (cases h; cases hc)
    all_goals exact ⟨_, _, _, (.val (.tup (.cons (.agg (.cons (.same _) (.cons (.same _) (.cons (.same _) (.cons (.nil _ _) .nil))))) (.cons (.same _) .nil))) (.refl _ _ _)), Res.of [15] rfl (nw_s (rn_T capi_Backend_flat) (hs_row rfl) nw_0) (by decide) (js_l (by decide) js_0) wr_0⟩
  clear h; intro hb h; conv => whnf
  replace h := obind.elim h; obtain ⟨xr3, hy, h⟩ := h
  refine sumK.introF [12] (sumRun_of (aqs := [.pointer (some ⟨0, 0, none⟩)]) (ws := [.win 12 0 3 true]) (n := 0) (m := 0) (t' := 15) (ra_cons rfl rfl ra_nil) rfl (by rfl) (r103_eq hy) rfl rfl rfl rfl (wb_win rfl rfl rfl ⟨rfl, Nat.le_of_ble_eq_true rfl⟩ rfl rfl wb_nil) an_nil rfl) ?_
  conv => whnf
  refine br.h h ?_ ?_ ?_
  · rfl
  · clear h; intro hb h; conv => whnf
    all_goals (cases h; cases hc)
    all_goals exact ⟨_, _, _, (.val (.tup (.cons (.agg (.cons (.same _) (.cons (.same _) (.cons (.same _) (.cons (.nil _ _) .nil))))) (.cons (.same _) .nil))) (.refl _ _ _)), Res.of [15] rfl (nw_s (rn_T capi_Backend_flat) (hs_row rfl) nw_0) (by decide) (js_l (by decide) js_0) wr_0⟩
  clear h; intro hb h; conv => whnf
  refine br.h h ?_ ?_ ?_
  · rfl
  · clear h; intro hb h; conv => whnf
    all_goals (cases h; cases hc)
    all_goals exact ⟨_, _, _, (.val (.tup (.cons (.agg (.cons (.same _) (.cons (.same _) (.cons (.same _) (.cons (.nil _ _) .nil))))) (.cons (.same _) .nil))) (.refl _ _ _)), Res.of [15] rfl (nw_s (rn_T capi_Backend_flat) (hs_row rfl) nw_0) (by decide) (js_l (by decide) js_0) wr_0⟩
  clear h; intro hb h; conv => whnf
  replace h := obind.elim h; obtain ⟨xr4, hy, h⟩ := h
  refine sumK.introF [] (sumRun_of (aqs := [.agg ⟨[.int .u64 (saved_Record.mk (api_Key.mk xg.1 xg1.1) n1.1 c).Key.A, .int .u64 (saved_Record.mk (api_Key.mk xg.1 xg1.1) n1.1 c).Key.B, .int .i64 (saved_Record.mk (api_Key.mk xg.1 xg1.1) n1.1 c).Last, .slice (some ⟨0, 0, none⟩) (saved_Record.mk (api_Key.mk xg.1 xg1.1) n1.1 c).L.length 6]⟩]) (ws := [.blk 14 false]) (n := 0) (m := 0) (t' := 15) (ra_cons (ra_tr rfl rfl (vp_at rfl rfl (rn_T capi_Backend_flat) rfl vp_nil) rfl) rfl ra_nil) rfl (by rfl) (r56_eq hy) rfl rfl rfl rfl (wb_skip rfl wb_nil) an_nil rfl) ?_
  conv => whnf
  refine br.h h ?_ ?_ ?_
  · rfl
  · clear h; intro hb h; conv => whnf
    all_goals (cases h; cases hc)
    all_goals exact ⟨_, _, _, (.val (.tup (.cons (.agg (.cons (.same _) (.cons (.same _) (.cons (.same _) (.cons (.nil _ _) .nil))))) (.cons (.same _) .nil))) (.refl _ _ _)), Res.of [15] rfl (nw_s (rn_T capi_Backend_flat) (hs_row rfl) nw_0) (by decide) (js_l (by decide) js_0) wr_0⟩
  clear h; intro hb h; conv => whnf
  all_goals (cases h; cases hc)
  all_goals exact ⟨_, _, _, (.refl _ _ _), Res.of [14] rfl (nw_s (rn_T capi_Backend_flat) (hs_row rfl) nw_0) (by decide) (js_l (by decide) js_0) wr_0⟩
theorem leads48 (octet_Get : (List UInt8) → Int → Int → Option (Int × Bool)) (octet_New : (List UInt8) → Option octet_Reader) (octet_Reader_Bad : octet_Reader → Option (Bool × octet_Reader)) (octet_Reader_Num : octet_Reader → Int → Option (Int × octet_Reader)) (octet_Reader_Rest : octet_Reader → Option ((List UInt8) × octet_Reader)) (octet_Reader_Text : octet_Reader → Int → Option ((List UInt8) × octet_Reader)) (saved_Right : saved_Record → Option Bool) (saved_backend : octet_Reader → Option (api_Backend × Bool × octet_Reader)) (saved_seal : (List UInt8) → Option (List UInt8)) (hS : SumsOK Try.prog (aget (sums48 octet_Get octet_New octet_Reader_Bad octet_Reader_Num octet_Reader_Rest octet_Reader_Text saved_Right saved_backend saved_seal))) (s : List UInt8) (res : saved_Record × Int) (h : saved_GetF octet_Get octet_New octet_Reader_Bad octet_Reader_Num octet_Reader_Rest octet_Reader_Text saved_Right saved_backend saved_seal s = some res) :
    Leads Try.prog 48 0 ⟨⟨48, 97, [(0, .string ⟨⟨s⟩⟩)], [.code k48_69], [], false, none⟩, [], [], 0⟩ (fun v H _ => Res 0 (rx48 res) v H) := by
  refine Leads.nilW (R := fun v' H' => Res 0 (rx48 res) v' H') ?_
  unfold saved_GetF at h
  refine ev_ok tab_ok hS true 3000 ?_
  conv => whnf
  refine br.h h ?_ ?_ ?_
  · rfl
  · clear h; intro hb h; conv => whnf
    all_goals (cases h)
    all_goals exact ⟨_, _, _, (.val (.tup (.cons (.agg (.cons (.same _) (.cons (.same _) (.cons (.same _) (.cons (.nil _ _) .nil))))) (.cons (.same _) .nil))) (.refl _ _ _)), Res.of [1] rfl (nw_s (rn_T capi_Backend_flat) (hs_row rfl) nw_0) (by decide) (js_l (by decide) js_0) wr_0⟩
  clear h; intro hb h; conv => whnf
  replace h := oreq.elim h; obtain ⟨hb, h⟩ := h
  first | (refine req.intro hb ?_; conv => whnf) | skip
  let t : List UInt8 := s.take (wI .i64 ((s.length : Int) - 8)).toNat
  replace h := oreq.elim h; obtain ⟨hb, h⟩ := h
  first | (refine req.intro hb ?_; conv => whnf) | skip
  let t1 : List UInt8 := (s.drop (wI .i64 ((s.length : Int) - 8)).toNat).take (s.length - (wI .i64 ((s.length : Int) - 8)).toNat)
  replace h := obind.elim h; obtain ⟨n, hy, h⟩ := h
  refine sumK.introF [12] (sumRun_of (aqs := [.string ⟨⟨t⟩⟩]) (ws := []) (n := 1) (m := 0) (t' := 13) (ra_cons rfl rfl ra_nil) rfl (by rfl) (r96_eq hy) rfl rfl rfl rfl wb_nil (an_cons (rfl) an_nil) rfl) ?_
  conv => whnf
  replace h := obind.elim h; obtain ⟨t2, hy, h⟩ := h
  refine sumK.introF [12] (sumRun_of (aqs := [.pointer (some ⟨0, 0, none⟩), .int .i64 4]) (ws := [.win 12 0 3 true]) (n := 0) (m := 0) (t' := 13) (ra_cons rfl rfl (ra_cons rfl rfl ra_nil)) rfl (by rfl) (r97_eq hy) rfl rfl rfl rfl (wb_win rfl rfl rfl ⟨rfl, Nat.le_of_ble_eq_true rfl⟩ rfl rfl wb_nil) an_nil rfl) ?_
  conv => whnf
  refine br.h h ?_ ?_ ?_
  · rfl
  · clear h; intro hb h; conv => whnf
    all_goals (cases h)
    all_goals exact ⟨_, _, _, (.val (.tup (.cons (.agg (.cons (.same _) (.cons (.same _) (.cons (.same _) (.cons (.nil _ _) .nil))))) (.cons (.same _) .nil))) (.refl _ _ _)), Res.of [13] rfl (nw_s (rn_T capi_Backend_flat) (hs_row rfl) nw_0) (by decide) (js_l (by decide) js_0) wr_0⟩
  clear h; intro hb h; conv => whnf
  replace h := obind.elim h; obtain ⟨s1, hy, h⟩ := h
  refine sumK.q rfl rfl (r98_eq hy) rfl rfl rfl ?_
  conv => whnf
  refine br.h h ?_ ?_ ?_
  · rfl
  · clear h; intro hb h; conv => whnf
    all_goals (cases h)
    all_goals exact ⟨_, _, _, (.val (.tup (.cons (.agg (.cons (.same _) (.cons (.same _) (.cons (.same _) (.cons (.nil _ _) .nil))))) (.cons (.same _) .nil))) (.refl _ _ _)), Res.of [13] rfl (nw_s (rn_T capi_Backend_flat) (hs_row rfl) nw_0) (by decide) (js_l (by decide) js_0) wr_0⟩
  clear h; intro hb h; conv => whnf
  replace h := obind.elim h; obtain ⟨t3, hy, h⟩ := h
  refine sumK.introF [12] (sumRun_of (aqs := [.pointer (some ⟨0, 0, none⟩), .int .i64 8]) (ws := [.win 12 0 3 true]) (n := 0) (m := 0) (t' := 14) (ra_cons rfl rfl (ra_cons rfl rfl ra_nil)) rfl (by rfl) (r97_eq hy) rfl rfl rfl rfl (wb_win rfl rfl rfl ⟨rfl, Nat.le_of_ble_eq_true rfl⟩ rfl rfl wb_nil) an_nil rfl) ?_
  conv => whnf
  replace h := obind.elim h; obtain ⟨xg, hy, h⟩ := h
  refine sumK.q rfl rfl (r99_eq hy) rfl rfl rfl ?_
  conv => whnf
  replace h := obind.elim h; obtain ⟨t4, hy, h⟩ := h
  refine sumK.introF [12] (sumRun_of (aqs := [.pointer (some ⟨0, 0, none⟩), .int .i64 8]) (ws := [.win 12 0 3 true]) (n := 0) (m := 0) (t' := 14) (ra_cons rfl rfl (ra_cons rfl rfl ra_nil)) rfl (by rfl) (r97_eq hy) rfl rfl rfl rfl (wb_win rfl rfl rfl ⟨rfl, Nat.le_of_ble_eq_true rfl⟩ rfl rfl wb_nil) an_nil rfl) ?_
  conv => whnf
  replace h := obind.elim h; obtain ⟨xg1, hy, h⟩ := h
  refine sumK.q rfl rfl (r99_eq hy) rfl rfl rfl ?_
  conv => whnf
  replace h := obind.elim h; obtain ⟨n1, hy, h⟩ := h
  refine sumK.introF [12] (sumRun_of (aqs := [.pointer (some ⟨0, 0, none⟩), .int .i64 2]) (ws := [.win 12 0 3 true]) (n := 0) (m := 0) (t' := 14) (ra_cons rfl rfl (ra_cons rfl rfl ra_nil)) rfl (by rfl) (r100_eq hy) rfl rfl rfl rfl (wb_win rfl rfl rfl ⟨rfl, Nat.le_of_ble_eq_true rfl⟩ rfl rfl wb_nil) an_nil rfl) ?_
  conv => whnf
  replace h := obind.elim h; obtain ⟨n2, hy, h⟩ := h
  refine sumK.introF [12] (sumRun_of (aqs := [.pointer (some ⟨0, 0, none⟩), .int .i64 1]) (ws := [.win 12 0 3 true]) (n := 0) (m := 0) (t' := 14) (ra_cons rfl rfl (ra_cons rfl rfl ra_nil)) rfl (by rfl) (r100_eq hy) rfl rfl rfl rfl (wb_win rfl rfl rfl ⟨rfl, Nat.le_of_ble_eq_true rfl⟩ rfl rfl wb_nil) an_nil rfl) ?_
  conv => whnf
  have hl := loop48_1 octet_Get octet_New octet_Reader_Bad octet_Reader_Num octet_Reader_Rest octet_Reader_Text saved_Right saved_backend saved_seal hS _ _ _ _ res _ _ _ h rfl; simp only [head48_1] at hl
  refine Leads.nilC 13 3 6 ?_
  exact lrA0 hl [(0, 0), (12, 12), (13, 13), (14, 14)] rfl
theorem ok48 (octet_Get : (List UInt8) → Int → Int → Option (Int × Bool)) (octet_New : (List UInt8) → Option octet_Reader) (octet_Reader_Bad : octet_Reader → Option (Bool × octet_Reader)) (octet_Reader_Num : octet_Reader → Int → Option (Int × octet_Reader)) (octet_Reader_Rest : octet_Reader → Option ((List UInt8) × octet_Reader)) (octet_Reader_Text : octet_Reader → Int → Option ((List UInt8) × octet_Reader)) (saved_Right : saved_Record → Option Bool) (saved_backend : octet_Reader → Option (api_Backend × Bool × octet_Reader)) (saved_seal : (List UInt8) → Option (List UInt8)) (hS : SumsOK Try.prog (aget (sums48 octet_Get octet_New octet_Reader_Bad octet_Reader_Num octet_Reader_Rest octet_Reader_Text saved_Right saved_backend saved_seal))) : SumOK Try.prog 48 (s48 (saved_GetF octet_Get octet_New octet_Reader_Bad octet_Reader_Num octet_Reader_Rest octet_Reader_Text saved_Right saved_backend saved_seal)) := by
  refine SumOK.of_leads tab_ok (fun ar os r ha hr => ?_) ⟨Try.f48, rfl, by decide, rfl⟩
  replace hr : r48 (saved_GetF octet_Get octet_New octet_Reader_Bad octet_Reader_Num octet_Reader_Rest octet_Reader_Text saved_Right saved_backend saved_seal) ar (conts os) = some r := hr
  unfold r48 at hr
  generalize hc : conts os = C at hr
  replace hr := dV.elim hr; obtain ⟨v0, l1, y0, rfl, e0, hr⟩ := hr; obtain rfl := asS_eq _ _ e0
  replace hr := dFin hr; obtain ⟨rfl, rfl, x, h, rfl⟩ := hr
  obtain rfl := kinds_nil hc
  exact ⟨_, rfl, leads48 octet_Get octet_New octet_Reader_Bad octet_Reader_Num octet_Reader_Rest octet_Reader_Text saved_Right saved_backend saved_seal hS _ x h⟩
def saved_Get : (List UInt8) → Option (saved_Record × Int) := saved_GetF octet_Get octet_New octet_Reader_Bad octet_Reader_Num octet_Reader_Rest octet_Reader_Text saved_Right saved_backend saved_seal
theorem lift48 : SumOK Try.prog 48 (s48 saved_Get) := ok48 octet_Get octet_New octet_Reader_Bad octet_Reader_Num octet_Reader_Rest octet_Reader_Text saved_Right saved_backend saved_seal (SumsOK.of_tab ⟨lift99, lift96, lift102, lift100, lift103, lift97, lift56, lift101, lift98, trivial⟩)
end Go.Vm.Code
namespace Go.Vm.Code
open Go Go.Vm
def addrG (a : List UInt8) : api_Addr × Bool :=
  if a.length = 4 then (⟨false, 0, ((valL a : Nat) : Int)⟩, true) else if a.length = 16 then (⟨true, ((valL (a.take 8) : Nat) : Int), ((valL (a.drop 8) : Nat) : Int)⟩, true) else (⟨false, 0, 0⟩, false)
theorem getS_all {a : List UInt8} {k : Nat} (hk : 1 ≤ k) (h8 : k ≤ 8) (h : a.length = k) : getS a 0 (k : Int) = (((valL a : Nat) : Int), true) := by
  rw [getS_at (by omega) (by omega) (by omega) (by omega)]
  simp only [Int.toNat_natCast, show (0 : Int).toNat = 0 from rfl, List.drop_zero]
  rw [List.take_of_length_le (by omega)]
theorem agetG {a : List UInt8} (G : List UInt8 → Int → Int → Option (Int × Bool)) (hG : ∀ p k, G a p k = some (getS a p k)) :
    cond ((a.length : Int) == 4) ((G a 0 4).bind fun xg => some ((api_Addr.mk false 0 xg.1, true)))
      (cond ((a.length : Int) == 16) ((G a 0 8).bind fun xg1 => (G a 8 8).bind fun xg2 => some ((api_Addr.mk true xg1.1 xg2.1, true))) (some ((api_Addr.mk false 0 0, false)))) = some (addrG a) := by
  unfold addrG
  by_cases h4 : a.length = 4
  · rw [show ((a.length : Int) == 4) = true from by rw [beq_iff_eq]; omega, cond_true, hG, Option.bind_some, show getS a 0 4 = _ from getS_all (k := 4) (by decide) (by decide) h4, if_pos h4]
  · rw [show ((a.length : Int) == 4) = false from by rw [beq_eq_false_iff_ne]; omega, cond_false, if_neg h4]
    by_cases h16 : a.length = 16
    · rw [show ((a.length : Int) == 16) = true from by rw [beq_iff_eq]; omega, cond_true, hG, Option.bind_some, hG, Option.bind_some, getS_at (by omega) (by omega) (by omega) (by omega), getS_at (by omega) (by omega) (by omega) (by omega), if_pos h16]
      simp only [show (0 : Int).toNat = 0 from rfl, show (8 : Int).toNat = 8 from rfl, List.drop_zero]
      rw [List.take_of_length_le (l := a.drop 8) (by rw [List.length_drop]; omega)]
    · rw [show ((a.length : Int) == 16) = false from by rw [beq_eq_false_iff_ne]; omega, cond_false, if_neg h16]
theorem paget_eq {a : List UInt8} (h : a.length < 2 ^ 40) : addr_Get a = some (addrG a) := by
  unfold addr_Get addr_GetF
  exact agetG octet_Get (fun p k => octet_Get_eq (by omega))
def alen (s : List UInt8) : Nat := valL ((s.drop 5).take 1)
def adrS (s : List UInt8) : List UInt8 := (s.drop 6).take (alen s)
def rec1 (s : List UInt8) : api_Backend := ⟨((valL (s.take 2) : Nat) : Int), ((valL ((s.drop 2).take 2) : Nat) : Int), ((valL ((s.drop 4).take 1) : Nat) : Int), (addrG (adrS s)).1⟩
def recs : Nat → List UInt8 → Option (List api_Backend × Bool × List UInt8)
  | 0, s => some ([], true, s)
  | n + 1, s => if s.length < 6 then none else if s.length < 6 + alen s then none else
    match recs n (s.drop (6 + alen s)) with
    | none => none
    | some (l, g, r) => some (rec1 s :: l, (addrG (adrS s)).2 && g, r)
theorem rdn_ok {s : List UInt8} {k : Nat} (h0 : 1 ≤ k) (h7 : k ≤ 7) (h : k ≤ s.length) : rdn ⟨s, true, false⟩ (k : Int) = ((valL (s.take k) : Nat) : Int) := by
  unfold rdn
  rw [if_neg (by omega), rdt_ok (by omega) (by omega), Int.toNat_natCast]
theorem rdr_bd (s : List UInt8) (m : Bool) (k : Int) : rdr ⟨s, m, true⟩ k = ⟨s, true, true⟩ := by unfold rdr; rw [if_pos (.inl rfl)]
theorem rdr_short {s : List UInt8} {k : Int} (h : k > s.length) : rdr ⟨s, true, false⟩ k = ⟨s, true, true⟩ := by unfold rdr; rw [if_pos (.inr (.inr h))]
def bkd (r : octet_Reader) : api_Backend × Bool × octet_Reader :=
  let r1 := rdr r 2; let r2 := rdr r1 2; let r3 := rdr r2 1; let r4 := rdr r3 1
  (⟨rdn r 2, rdn r1 2, rdn r2 1, (addrG (rdt r4 (rdn r3 1))).1⟩, (addrG (rdt r4 (rdn r3 1))).2, rdr r4 (rdn r3 1))
theorem rdr_le (r : octet_Reader) (k : Int) : (rdr r k).s.length ≤ r.s.length := by unfold rdr; split <;> simp
theorem pbackend_eq {r : octet_Reader} (h : r.made = true) (hl : r.s.length < 2 ^ 40) : saved_backend r = some (bkd r) := by
  unfold saved_backend saved_backendF bkd
  have l1 := rdr_le r 2; have l2 := rdr_le (rdr r 2) 2; have l3 := rdr_le (rdr (rdr r 2) 2) 1; have l4 := rdr_le (rdr (rdr (rdr r 2) 2) 1) 1
  rw [rNum_eq h (by omega), Option.bind_some, if_neg (by decide)]
  simp only []
  rw [rNum_eq (rdr_made _ _) (by omega), Option.bind_some, if_neg (by decide)]
  simp only []
  rw [rNum_eq (rdr_made _ _) (by omega), Option.bind_some, if_neg (by decide)]
  simp only []
  rw [rNum_eq (rdr_made _ _) (by omega), Option.bind_some, if_neg (by decide)]
  simp only []
  rw [rText_eq (rdr_made _ _), Option.bind_some]
  simp only []
  rw [paget_eq (by have := rdt_len (rdr (rdr (rdr (rdr r 2) 2) 1) 1) (rdn (rdr (rdr (rdr r 2) 2) 1) 1); omega), Option.bind_some]
theorem bkd_bad (s : List UInt8) : (bkd ⟨s, true, true⟩).2.2 = ⟨s, true, true⟩ := by
  unfold bkd; simp only [rdr_bd]
theorem bkd_short {s : List UInt8} (h : s.length < 6 ∨ s.length < 6 + alen s) : ∃ s', (bkd ⟨s, true, false⟩).2.2 = ⟨s', true, true⟩ ∧ s'.length ≤ s.length := by
  unfold bkd
  simp only []
  by_cases h2 : s.length < 2
  · rw [rdr_short (by omega)]; simp only [rdr_bd]; exact ⟨_, rfl, Nat.le_refl _⟩
  rw [rdr_ok (by omega) (by omega)]
  have e1 : (2 : Int).toNat = 2 := rfl
  have e2 : (1 : Int).toNat = 1 := rfl
  by_cases h4 : s.length < 4
  · rw [e1, rdr_short (s := s.drop 2) (by rw [List.length_drop]; omega)]; simp only [rdr_bd]; exact ⟨_, rfl, by simp⟩
  rw [e1, rdr_ok (s := s.drop 2) (by omega) (by rw [List.length_drop]; omega), e1, List.drop_drop]
  by_cases h5 : s.length < 5
  · rw [rdr_short (s := s.drop (2 + 2)) (by rw [List.length_drop]; omega)]; simp only [rdr_bd]; exact ⟨_, rfl, by simp⟩
  rw [rdr_ok (s := s.drop (2 + 2)) (by omega) (by rw [List.length_drop]; omega), e2, List.drop_drop]
  by_cases h6 : s.length < 6
  · rw [rdr_short (s := s.drop (2 + 2 + 1)) (by rw [List.length_drop]; omega)]; simp only [rdr_bd]; exact ⟨_, rfl, by simp⟩
  rw [rdr_ok (s := s.drop (2 + 2 + 1)) (by omega) (by rw [List.length_drop]; omega), e2, List.drop_drop]
  rw [show rdn ⟨s.drop (2 + 2 + 1), true, false⟩ 1 = ((alen s : Nat) : Int) from rdn_ok (k := 1) (by decide) (by decide) (by rw [List.length_drop]; omega)]
  rw [rdr_short (s := s.drop (2 + 2 + 1 + 1)) (by rw [List.length_drop]; omega)]
  exact ⟨_, rfl, by simp⟩
theorem bkd_ok {s : List UInt8} (h : 6 + alen s ≤ s.length) : bkd ⟨s, true, false⟩ = (rec1 s, (addrG (adrS s)).2, ⟨s.drop (6 + alen s), true, false⟩) := by
  unfold bkd
  have e1 : (2 : Int).toNat = 2 := rfl
  have e2 : (1 : Int).toNat = 1 := rfl
  simp only []
  rw [rdr_ok (s := s) (by omega) (by omega), e1, rdr_ok (s := s.drop 2) (by omega) (by rw [List.length_drop]; omega), e1, List.drop_drop, rdr_ok (s := s.drop (2 + 2)) (by omega) (by rw [List.length_drop]; omega), e2, List.drop_drop,
    rdr_ok (s := s.drop (2 + 2 + 1)) (by omega) (by rw [List.length_drop]; omega), e2, List.drop_drop]
  rw [show rdn ⟨s.drop (2 + 2 + 1), true, false⟩ 1 = ((alen s : Nat) : Int) from rdn_ok (k := 1) (by decide) (by decide) (by rw [List.length_drop]; omega)]
  rw [show rdn ⟨s.drop (2 + 2), true, false⟩ 1 = _ from rdn_ok (k := 1) (by decide) (by decide) (by rw [List.length_drop]; omega), show rdn ⟨s.drop 2, true, false⟩ 2 = _ from rdn_ok (k := 2) (by decide) (by decide) (by rw [List.length_drop]; omega), show rdn ⟨s, true, false⟩ 2 = _ from rdn_ok (k := 2) (by decide) (by decide) (by omega)]
  rw [rdt_ok (s := s.drop (2 + 2 + 1 + 1)) (by omega) (by rw [List.length_drop]; omega), rdr_ok (s := s.drop (2 + 2 + 1 + 1)) (by omega) (by rw [List.length_drop]; omega), Int.toNat_natCast, List.drop_drop]
  rfl
def zeroR : saved_Record := ⟨⟨0, 0⟩, 0, []⟩
def finG (A B last : Int) (o : Option (List api_Backend × Bool × List UInt8)) (c : List api_Backend) (g : Bool) : saved_Record × Int :=
  match o with
  | none => (zeroR, 2)
  | some (l, g', r) => if r ≠ [] ∨ (g && g') = false then (zeroR, 3) else if rightB ⟨⟨A, B⟩, last, c ++ l⟩ = true then (⟨⟨A, B⟩, last, c ++ l⟩, 0) else (zeroR, 1)
theorem prest_eq {r : octet_Reader} (h : r.made = true) (hb : r.bad = false) : octet_Reader_Rest r = some (r.s, rdr r (r.s.length : Int)) := by
  unfold octet_Reader_Rest octet_Reader_RestF
  rw [rBad_eq h, Option.bind_some, hb]
  simp only [cond_false]
  rw [rText_eq h, Option.bind_some]
  obtain ⟨s, m, b⟩ := r
  simp only at h hb
  subst h; subst hb
  rw [rdt_ok (by omega) (by simp only []; omega), Int.toNat_natCast, List.take_of_length_le (Nat.le_refl _)]
theorem pget_end {xg xg1 : Int × Bool} {n1 n2 : Int × octet_Reader} {good : Bool} {i : Int} {s : List UInt8} {b : Bool} {c : List api_Backend} (hi : ¬ i < n2.1) :
    saved_Get_s1 octet_Reader_Bad octet_Reader_Rest saved_Right saved_backend xg xg1 n1 n2 good i s true b c = some (.inr (if b = true then (zeroR, 2) else finG xg.1 xg1.1 n1.1 (some ([], true, s)) c good)) := by
  unfold saved_Get_s1
  rw [cond_n hi, rBad_eq rfl, Option.bind_some]
  cases b with
  | true => rfl
  | false =>
    simp only [cond_false]
    rw [prest_eq rfl rfl, Option.bind_some]
    unfold finG
    simp only [Bool.and_true, List.append_nil]
    by_cases hs : s = []
    · rw [show (s == []) = true from by simp [hs]]
      cases good with
      | false => simp [zeroR]
      | true =>
        simp only [Bool.not_true, cond_false]
        rw [pright_eq, Option.bind_some]
        cases hR : rightB ⟨⟨xg.1, xg1.1⟩, n1.1, c⟩ <;> simp [hs, zeroR]
    · rw [show (s == []) = false from by simpa using hs]
      simp [hs, zeroR]
theorem pget_bad {xg xg1 : Int × Bool} {n1 n2 : Int × octet_Reader} (hn : n2.1 < 256) {s : List UInt8} (hs : s.length < 2 ^ 40) : ∀ (d : Nat) (i : Int) (n : Nat) (good : Bool) (c : List api_Backend), 0 ≤ i → i + d = n2.1 → d < n → c.length ≤ i →
    iter (fun st => saved_Get_s1 octet_Reader_Bad octet_Reader_Rest saved_Right saved_backend xg xg1 n1 n2 st.1 st.2.1 st.2.2.1 st.2.2.2.1 st.2.2.2.2.1 st.2.2.2.2.2) n (good, i, s, true, true, c) = some (zeroR, 2)
  | 0, i, n, good, c, h0, he, hd, hc => by
    obtain ⟨m, rfl⟩ : ∃ m, n = m + 1 := ⟨n - 1, by omega⟩
    rw [iter]
    simp only []
    rw [pget_end (by omega), if_pos rfl]
  | d + 1, i, n, good, c, h0, he, hd, hc => by
    obtain ⟨m, rfl⟩ : ∃ m, n = m + 1 := ⟨n - 1, by omega⟩
    rw [iter]
    simp only []
    unfold saved_Get_s1
    rw [cond_p (by omega), pbackend_eq rfl hs, Option.bind_some, bkd_bad]
    cases good
    · simp only [cond_true, cond_false]; rw [oreq_p (by omega), wI64 (by omega) (by omega)]
      exact pget_bad (xg := xg) (xg1 := xg1) (n1 := n1) hn hs d (i + 1) m false (c ++ [(bkd ⟨s, true, true⟩).1]) (by omega) (by omega) (by omega) (by simp; omega)
    · simp only [cond_true, cond_false]; rw [oreq_p (by omega), wI64 (by omega) (by omega)]
      exact pget_bad (xg := xg) (xg1 := xg1) (n1 := n1) hn hs d (i + 1) m (bkd ⟨s, true, true⟩).2.1 (c ++ [(bkd ⟨s, true, true⟩).1]) (by omega) (by omega) (by omega) (by simp; omega)
theorem pget_loop {xg xg1 : Int × Bool} {n1 n2 : Int × octet_Reader} (hn : n2.1 < 256) : ∀ (d : Nat) (i : Int) (n : Nat) (good : Bool) (c : List api_Backend) (s : List UInt8), 0 ≤ i → i + d = n2.1 → d < n → c.length ≤ i → s.length < 2 ^ 40 →
    iter (fun st => saved_Get_s1 octet_Reader_Bad octet_Reader_Rest saved_Right saved_backend xg xg1 n1 n2 st.1 st.2.1 st.2.2.1 st.2.2.2.1 st.2.2.2.2.1 st.2.2.2.2.2) n (good, i, s, true, false, c) = some (finG xg.1 xg1.1 n1.1 (recs d s) c good)
  | 0, i, n, good, c, s, h0, he, hd, hc, hs => by
    obtain ⟨m, rfl⟩ : ∃ m, n = m + 1 := ⟨n - 1, by omega⟩
    rw [iter]
    simp only []
    rw [pget_end (by omega), if_neg (by decide)]; rfl
  | d + 1, i, n, good, c, s, h0, he, hd, hc, hs => by
    obtain ⟨m, rfl⟩ : ∃ m, n = m + 1 := ⟨n - 1, by omega⟩
    rw [iter]
    simp only []
    unfold saved_Get_s1
    rw [cond_p (by omega), pbackend_eq rfl hs, Option.bind_some]
    by_cases hsh : s.length < 6 ∨ s.length < 6 + alen s
    · obtain ⟨s', e, hl⟩ := bkd_short hsh
      have hrec : recs (d + 1) s = none := by
        simp only [recs]
        rcases hsh with h | h
        · rw [if_pos h]
        · by_cases h6 : s.length < 6
          · rw [if_pos h6]
          · rw [if_neg h6, if_pos h]
      rw [e, hrec]
      cases good
      · simp only [cond_true, cond_false]; rw [oreq_p (by omega), wI64 (by omega) (by omega)]
        exact pget_bad (xg := xg) (xg1 := xg1) (n1 := n1) hn (by omega) d (i + 1) m false (c ++ [(bkd ⟨s, true, false⟩).1]) (by omega) (by omega) (by omega) (by simp; omega)
      · simp only [cond_true, cond_false]; rw [oreq_p (by omega), wI64 (by omega) (by omega)]
        exact pget_bad (xg := xg) (xg1 := xg1) (n1 := n1) hn (by omega) d (i + 1) m (bkd ⟨s, true, false⟩).2.1 (c ++ [(bkd ⟨s, true, false⟩).1]) (by omega) (by omega) (by omega) (by simp; omega)
    · rw [bkd_ok (by omega)]
      have hrec : recs (d + 1) s = match recs d (s.drop (6 + alen s)) with | none => none | some (l, g, r) => some (rec1 s :: l, (addrG (adrS s)).2 && g, r) := by
        simp only [recs]; rw [if_neg (by omega), if_neg (by omega)]
      have fin : ∀ g : Bool, finG xg.1 xg1.1 n1.1 (recs d (s.drop (6 + alen s))) (c ++ [rec1 s]) (g && (addrG (adrS s)).2) = finG xg.1 xg1.1 n1.1 (recs (d + 1) s) c g := by
        intro g
        rw [hrec]
        cases recs d (s.drop (6 + alen s)) with
        | none => rfl
        | some q =>
          obtain ⟨l, g', r⟩ := q
          unfold finG
          simp only [Bool.and_assoc, List.append_assoc, List.singleton_append]
      cases good
      · simp only [cond_true, cond_false]; rw [oreq_p (by omega), wI64 (by omega) (by omega)]
        have := pget_loop (xg := xg) (xg1 := xg1) (n1 := n1) hn d (i + 1) m false (c ++ [rec1 s]) (s.drop (6 + alen s)) (by omega) (by omega) (by omega) (by simp; omega) (by rw [List.length_drop]; omega)
        rw [show finG xg.1 xg1.1 n1.1 (recs d (s.drop (6 + alen s))) (c ++ [rec1 s]) false = _ from fin false] at this
        exact this
      · simp only [cond_true, cond_false]; rw [oreq_p (by omega), wI64 (by omega) (by omega)]
        have := pget_loop (xg := xg) (xg1 := xg1) (n1 := n1) hn d (i + 1) m (addrG (adrS s)).2 (c ++ [rec1 s]) (s.drop (6 + alen s)) (by omega) (by omega) (by omega) (by simp; omega) (by rw [List.length_drop]; omega)
        have f := fin true
        rw [Bool.true_and] at f
        rw [f] at this
        exact this
def getR (s : List UInt8) : saved_Record × Int :=
  if s.length < 31 then (zeroR, 2) else
  if s.take 4 ≠ [67, 76, 75, 49] then (zeroR, 3) else
  if sealS (s.take (s.length - 8)) ≠ s.drop (s.length - 8) then (zeroR, 4) else
  finG ((valL ((s.drop 4).take 8) : Nat) : Int) ((valL ((s.drop 12).take 8) : Nat) : Int) ((valL ((s.drop 20).take 2) : Nat) : Int) (recs (valL ((s.drop 22).take 1)) ((s.take (s.length - 8)).drop 23)) [] true
theorem take_in {s : List UInt8} {a n m : Nat} (h : a + n ≤ m) : ((s.take m).drop a).take n = (s.drop a).take n := by
  rw [List.drop_take, List.take_take, Nat.min_eq_left (by omega)]
theorem pgetR_eq {s : List UInt8} (h : s.length < 2 ^ 30) : saved_Get s = some (getR s) := by
  unfold saved_Get saved_GetF getR
  by_cases h1 : (s.length : Int) < 31
  · rw [cond_p h1, if_pos (by omega)]; rfl
  rw [cond_n h1, if_neg (by omega), wI64 (by omega) (by omega), oreq_p (by omega), oreq_p (by omega)]
  have en : ((s.length : Int) - 8).toNat = s.length - 8 := by omega
  simp only [en]
  have e8 : (s.drop (s.length - 8)).take (s.length - (s.length - 8)) = s.drop (s.length - 8) := List.take_of_length_le (by rw [List.length_drop]; exact Nat.le_refl _)
  have hbl : (s.take (s.length - 8)).length = s.length - 8 := by rw [List.length_take]; omega
  rw [e8]
  obtain ⟨bd, hbd⟩ : ∃ bd, s.take (s.length - 8) = bd := ⟨_, rfl⟩
  have tk : ∀ a n, a + n ≤ 23 → (bd.drop a).take n = (s.drop a).take n := fun a n hh => by rw [← hbd]; exact take_in (by omega)
  rw [hbd] at hbl ⊢
  rw [rNew_eq, Option.bind_some, rText_eq rfl, Option.bind_some, rdt_ok (s := bd) (by omega) (by omega), rdr_ok (s := bd) (by omega) (by omega)]
  simp only [show (4 : Int).toNat = 4 from rfl]
  have t4 := tk 0 4 (by omega)
  rw [List.drop_zero, List.drop_zero] at t4
  rw [t4]
  by_cases h3 : s.take 4 = [67, 76, 75, 49]
  · rw [show (s.take 4 == [67, 76, 75, 49]) = true from by rw [beq_iff_eq]; exact h3, if_neg (by simpa using h3)]
    simp only [Bool.not_true, cond_false]
    rw [pseal_eq (by omega), Option.bind_some]
    by_cases h4 : sealS bd = s.drop (s.length - 8)
    · rw [show (sealS bd == s.drop (s.length - 8)) = true from by rw [beq_iff_eq]; exact h4, if_neg (by simpa using h4)]
      simp only [Bool.not_true, cond_false]
      have e8' : (8 : Int).toNat = 8 := rfl
      have e2' : (2 : Int).toNat = 2 := rfl
      have e1' : (1 : Int).toNat = 1 := rfl
      rw [rText_eq rfl, Option.bind_some, rdt_ok (s := bd.drop 4) (by omega) (by rw [List.length_drop]; omega), rdr_ok (s := bd.drop 4) (by omega) (by rw [List.length_drop]; omega)]
      simp only [e8', List.drop_drop]
      rw [octet_Get_eq (by rw [List.length_take]; omega), Option.bind_some, show getS ((bd.drop 4).take 8) 0 8 = _ from getS_all (k := 8) (by decide) (by decide) (by rw [List.length_take, List.length_drop]; omega)]
      rw [rText_eq rfl, Option.bind_some, rdt_ok (s := bd.drop (4 + 8)) (by omega) (by rw [List.length_drop]; omega), rdr_ok (s := bd.drop (4 + 8)) (by omega) (by rw [List.length_drop]; omega)]
      simp only [e8', List.drop_drop]
      rw [octet_Get_eq (by rw [List.length_take]; omega), Option.bind_some, show getS ((bd.drop (4 + 8)).take 8) 0 8 = _ from getS_all (k := 8) (by decide) (by decide) (by rw [List.length_take, List.length_drop]; omega)]
      rw [rNum_eq rfl (by simp only [List.length_drop]; omega), Option.bind_some, if_neg (by decide), show rdn ⟨bd.drop (4 + 8 + 8), true, false⟩ 2 = _ from rdn_ok (k := 2) (by decide) (by decide) (by rw [List.length_drop]; omega), rdr_ok (s := bd.drop (4 + 8 + 8)) (by omega) (by rw [List.length_drop]; omega)]
      simp only [e2', List.drop_drop]
      rw [rNum_eq rfl (by simp only [List.length_drop]; omega), Option.bind_some, if_neg (by decide), show rdn ⟨bd.drop (4 + 8 + 8 + 2), true, false⟩ 1 = _ from rdn_ok (k := 1) (by decide) (by decide) (by rw [List.length_drop]; omega), rdr_ok (s := bd.drop (4 + 8 + 8 + 2)) (by omega) (by rw [List.length_drop]; omega)]
      simp only [e1', List.drop_drop]
      have hv : valL ((bd.drop (4 + 8 + 8 + 2)).take 1) < 256 := val_take_lt _ (by decide)
      rw [show (4 + 8 : Nat) = 12 from rfl, show (12 + 8 : Nat) = 20 from rfl, show (20 + 2 : Nat) = 22 from rfl, show (22 + 1 : Nat) = 23 from rfl] at *
      rw [tk 4 8 (by omega), tk 12 8 (by omega), tk 20 2 (by omega), tk 22 1 (by omega)] at *
      exact pget_loop (by simp only []; omega) (valL ((s.drop 22).take 1)) 0 FUEL true [] (bd.drop 23) (by omega) (by simp only []; omega) (by rw [FUEL_eq]; omega) (by simp) (by rw [List.length_drop]; omega)
    · rw [show (sealS bd == s.drop (s.length - 8)) = false from by rw [beq_eq_false_iff_ne]; exact h4, if_pos h4]; rfl
  · rw [show (s.take 4 == [67, 76, 75, 49]) = false from by rw [beq_eq_false_iff_ne]; exact h3, if_pos h3]; rfl
def ofB (b : api_Backend) : api_Backend := if b.State = 3 then b else ⟨b.ID, b.Weight, 1, b.Addr⟩
def ofL (l : List api_Backend) : List api_Backend := (l.filter fun b => !decide (b.State = 4)).map ofB
theorem scan_of {ρ : Type} (fin : List api_Backend → ρ) : ∀ (l c : List api_Backend), scan (fun b c => (.inl (if b.State = 4 then c else c ++ [ofB b]) : Sum (List api_Backend) ρ)) fin l c = fin (c ++ ofL l)
  | [], c => by simp [scan, ofL]
  | b :: l, c => by
    rw [scan]; simp only []; rw [scan_of fin l]
    by_cases h : b.State = 4 <;> simp [ofL, h]
theorem pof_eq {k : api_Key} {last : Int} {l : List api_Backend} (hl : l.length < 2 ^ 30) : saved_Of k last l = some ⟨k, last, ofL l⟩ := by
  unfold saved_Of saved_OfF
  have e0 := iter_scan0 l (fun b c => (.inl (if b.State = 4 then c else c ++ [ofB b]) : Sum (List api_Backend) saved_Record)) (fun c => saved_Record.mk k last c) (fun i (c : List api_Backend) => ((i : Int), c)) (fun st => saved_Of_s1 k last l st.1 st.2) (fun i c => c.length ≤ i) (s := []) ?_ ?_ (by omega) (by simp) rfl
  · rw [scan_of] at e0; exact e0
  · intro i c hi hc
    dsimp only
    refine ⟨fun s' e => ?_, fun q e => (by cases e)⟩
    cases e
    refine ⟨?_, by split <;> (try simp) <;> omega⟩
    unfold saved_Of_s1
    rw [cond_p (by omega), oreq_p (by omega), Int.toNat_natCast, List.getElem?_eq_getElem hi, Option.bind_some, wI64 (by omega) (by omega)]
    generalize l[i] = b
    by_cases h4 : b.State = 4
    · rw [show (b.State == 4) = true from by simpa using h4, cond_true, if_pos h4]; rfl
    · rw [show (b.State == 4) = false from by simpa using h4, cond_false, if_neg h4, oreq_p (by omega), oreq_p (by omega)]
      unfold ofB
      by_cases h3 : b.State = 3
      · rw [show (b.State == 3) = true from by simpa using h3, if_pos h3]; rfl
      · rw [show (b.State == 3) = false from by simpa using h3, if_neg h3]; rfl
  · intro c _
    dsimp only
    unfold saved_Of_s1
    rw [cond_n (by omega)]
end Go.Vm.Code
namespace Go.Vm.Code
open Go Go.Vm Go.Proofs
set_option maxRecDepth 100000
set_option maxHeartbeats 4000000
set_option linter.unusedVariables false
def law55_awakeF (saved_Get : (List UInt8) → Option (saved_Record × Int)) (saved_Of : api_Key → Int → (List api_Backend) → Option saved_Record) (saved_Put : saved_Record → Option ((List UInt8) × Int)) (saved_Right : saved_Record → Option Bool) : Option Bool :=
  (saved_Put (saved_Record.mk (api_Key.mk 0 0) 0 [])).bind fun p =>
  (saved_Get []).bind fun xg =>
  (saved_Of (api_Key.mk 0 0) 3 [api_Backend.mk 1 0 2 (api_Addr.mk false 0 0), api_Backend.mk 2 0 4 (api_Addr.mk false 0 0), api_Backend.mk 3 0 3 (api_Addr.mk false 0 0)]).bind fun xo =>
  cond (p.2 == 0)
    (
    cond ((p.1.length : Int) == 31)
      (
      cond (xg.2 == 2)
        (
        cond ((xo.L.length : Int) == 2)
          (
          oreq (decide ((0 : Int) ≤ (0 : Int) ∧ (0 : Int) < (xo.L.length : Int))) <|
          (xo.L[0]?).bind fun (e : api_Backend) =>
          cond (e.State == 1)
            (
            (saved_Right xo).bind fun xr =>
            some (xr))
            (
            some (false)))
          (
          some (false)))
        (
        some (false)))
      (
      some (false)))
    (
    some (false))
def rx47 (x : Bool) : SRes := ⟨.bool x, [], []⟩
def r47 (g : Option Bool) : Dec := dEnd (ofG (g) rx47)
theorem r47_c {g : Option Bool} {x : Bool} (hx : g = some x) : r47 g [] [] = some (rx47 x) := ofG_eq hx
def s47 (g : Option Bool) : Summ := ⟨[], r47 g⟩
theorem r47_eq {g : Option Bool} {x : Bool} (hx : g = some x) : (s47 g).run [] [] = some (rx47 x) := r47_c hx
abbrev sums47 (saved_Get : (List UInt8) → Option (saved_Record × Int)) (saved_Of : api_Key → Int → (List api_Backend) → Option saved_Record) (saved_Put : saved_Record → Option ((List UInt8) × Int)) (saved_Right : saved_Record → Option Bool) : List (Nat × Summ) := [(48, s48 saved_Get), (58, s58 saved_Of), (53, s53 saved_Put), (56, s56 saved_Right)]
theorem leads47 (saved_Get : (List UInt8) → Option (saved_Record × Int)) (saved_Of : api_Key → Int → (List api_Backend) → Option saved_Record) (saved_Put : saved_Record → Option ((List UInt8) × Int)) (saved_Right : saved_Record → Option Bool) (hS : SumsOK Try.prog (aget (sums47 saved_Get saved_Of saved_Put saved_Right))) (res : Bool) (h : law55_awakeF saved_Get saved_Of saved_Put saved_Right = some res) :
    Leads Try.prog 47 0 ⟨⟨47, 50, [], [.code k47_9], [], false, none⟩, [], [], 0⟩ (fun v H _ => Res 0 (rx47 res) v H) := by
  unfold law55_awakeF at h
  refine ev_ok tab_ok hS true 3000 ?_
  conv => whnf
  replace h := obind.elim h; obtain ⟨p, hy, h⟩ := h
  refine sumK.introF [] (sumRun_of (aqs := [.agg ⟨[.int .u64 (saved_Record.mk (api_Key.mk 0 0) 0 []).Key.A, .int .u64 (saved_Record.mk (api_Key.mk 0 0) 0 []).Key.B, .int .i64 (saved_Record.mk (api_Key.mk 0 0) 0 []).Last, .slice (some ⟨0, 0, none⟩) (saved_Record.mk (api_Key.mk 0 0) 0 []).L.length 6]⟩]) (ws := [.emp false]) (n := 0) (m := 1) (t' := 1) (ra_cons (ra_tr rfl rfl (vp_emp vp_nil) rfl) rfl ra_nil) rfl (by rfl) (r53_eq hy) rfl rfl rfl rfl (wb_skip rfl wb_nil) an_nil rfl) ?_
  conv => whnf
  replace h := obind.elim h; obtain ⟨xg, hy, h⟩ := h
  refine sumK.introF [] (sumRun_of (aqs := [.string ⟨⟨[]⟩⟩]) (ws := []) (n := 1) (m := 0) (t' := 2) (ra_cons rfl rfl ra_nil) rfl (by rfl) (r48_eq hy) rfl rfl rfl rfl wb_nil (an_cons (rn_T capi_Backend_flat) an_nil) rfl) ?_
  conv => whnf
  replace h := obind.elim h; obtain ⟨xo, hy, h⟩ := h
  refine sumK.introF [] (sumRun_of (aqs := [.agg ⟨[.int .u64 0, .int .u64 0]⟩, .int .i64 3, .slice (some ⟨0, 0, none⟩) ([api_Backend.mk 1 0 2 (api_Addr.mk false 0 0), api_Backend.mk 2 0 4 (api_Addr.mk false 0 0), api_Backend.mk 3 0 3 (api_Addr.mk false 0 0)] : List api_Backend).length 6]) (ws := [.win 3 0 (3 * 6) false]) (n := 1) (m := 0) (t' := 5) (ra_cons rfl rfl (ra_cons rfl rfl (ra_cons (by first | rfl | exact ra_allT capi_Backend_len capi_Backend_flat rfl rfl (by first | rfl | omega) (by first | rfl | (simp; done)) | exact ra_slT capi_Backend_len capi_Backend_flat rfl rfl (by first | rfl | omega) (by first | rfl | omega) (by first | omega | (simp at *; omega))) rfl ra_nil))) rfl (by rfl) (r58_eq hy) rfl rfl rfl rfl (wb_skip rfl wb_nil) (an_cons (rn_T capi_Backend_flat) an_nil) rfl) ?_
  conv => whnf
  refine br.h2 h ?_ ?_ ?_
  · rfl
  · clear h; intro hb h; conv => whnf
    all_goals (cases h; exact Res.z rfl rfl rfl)
  clear h; intro hb h; conv => whnf
  refine br.h2 h ?_ ?_ ?_
  · rfl
  · clear h; intro hb h; conv => whnf
    all_goals (cases h; exact Res.z rfl rfl rfl)
  clear h; intro hb h; conv => whnf
  refine br.h2 h ?_ ?_ ?_
  · rfl
  · clear h; intro hb h; conv => whnf
    all_goals (cases h; exact Res.z rfl rfl rfl)
  clear h; intro hb h; conv => whnf
  refine br.h2 h ?_ ?_ ?_
  · rfl
  · clear h; intro hb h; conv => whnf
    all_goals (cases h; exact Res.z rfl rfl rfl)
  clear h; intro hb h; conv => whnf
  replace h := oreq.elim h; obtain ⟨hb, h⟩ := h
  first | (refine req.intro hb ?_; conv => whnf) | skip
  replace h := obind.elim h; obtain ⟨e, hy, h⟩ := h
  refine rd.T (j := 2) capi_Backend_len hy (by first | omega | exact Nat.zero_add _ | exact congrArg (· + _) (Nat.zero_add _)) (by decide) rfl ?_
  conv => whnf
  refine br.h2 h ?_ ?_ ?_
  · rfl
  · clear h; intro hb h; conv => whnf
    all_goals (cases h; exact Res.z rfl rfl rfl)
  clear h; intro hb h; conv => whnf
  replace h := obind.elim h; obtain ⟨xr, hy, h⟩ := h
  refine sumK.introF [] (sumRun_of (aqs := [.agg ⟨[.int .u64 xo.Key.A, .int .u64 xo.Key.B, .int .i64 xo.Last, .slice (some ⟨0, 0, none⟩) xo.L.length 6]⟩]) (ws := [.blk 4 false]) (n := 0) (m := 0) (t' := 6) (ra_cons (ra_tr rfl rfl (vp_at rfl rfl (rn_T capi_Backend_flat) rfl vp_nil) rfl) rfl ra_nil) rfl (by rfl) (r56_eq hy) rfl rfl rfl rfl (wb_skip rfl wb_nil) an_nil rfl) ?_
  conv => whnf
  all_goals (cases h; exact Res.z rfl rfl rfl)
theorem ok47 (saved_Get : (List UInt8) → Option (saved_Record × Int)) (saved_Of : api_Key → Int → (List api_Backend) → Option saved_Record) (saved_Put : saved_Record → Option ((List UInt8) × Int)) (saved_Right : saved_Record → Option Bool) (hS : SumsOK Try.prog (aget (sums47 saved_Get saved_Of saved_Put saved_Right))) : SumOK Try.prog 47 (s47 (law55_awakeF saved_Get saved_Of saved_Put saved_Right)) := by
  refine SumOK.of_leads tab_ok (fun ar os r ha hr => ?_) ⟨Try.f47, rfl, by decide, rfl⟩
  replace hr : r47 (law55_awakeF saved_Get saved_Of saved_Put saved_Right) ar (conts os) = some r := hr
  unfold r47 at hr
  generalize hc : conts os = C at hr
  replace hr := dFin hr; obtain ⟨rfl, rfl, x, h, rfl⟩ := hr
  obtain rfl := kinds_nil hc
  exact ⟨_, rfl, leads47 saved_Get saved_Of saved_Put saved_Right hS x h⟩
def law55_awake : Option Bool := law55_awakeF saved_Get saved_Of saved_Put saved_Right
theorem lift47 : SumOK Try.prog 47 (s47 law55_awake) := ok47 saved_Get saved_Of saved_Put saved_Right (SumsOK.of_tab ⟨lift48, lift58, lift53, lift56, trivial⟩)
end Go.Vm.Code
namespace Go.Vm.Code
open Go Go.Vm
def bkEq (a b : api_Backend) : Bool := (a.ID == b.ID) && ((a.Weight == b.Weight) && ((a.State == b.State) && ((a.Addr.V6 == b.Addr.V6) && ((a.Addr.Hi == b.Addr.Hi) && ((a.Addr.Lo == b.Addr.Lo) && true)))))
theorem bkEq_eq (a b : api_Backend) : bkEq a b = decide (a = b) := by
  rw [Bool.eq_iff_iff, decide_eq_true_iff]
  unfold bkEq
  constructor
  · intro h
    simp only [Bool.and_true, Bool.and_eq_true, beq_iff_eq] at h
    obtain ⟨h1, h2, h3, h4, h5, h6⟩ := h
    exact api_Backend.ext h1 h2 h3 (api_Addr.ext h4 h5 h6)
  · rintro rfl; simp
theorem eqL {a b : List api_Backend} (hl : a.length < 2 ^ 60) (step : Int → Option (Sum Int Bool))
    (h1 : ∀ i (hi : i < a.length) (hb : i < b.length), step (i : Int) = if bkEq a[i] b[i] = true then some (.inl ((i + 1 : Nat) : Int)) else some (.inr false)) (h2 : step (a.length : Int) = some (.inr true)) (hab : a.length = b.length) : iter step FUEL 0 = some (decide (a = b)) := by
  refine iter_eq (fun _ => decide (a = b)) (fun (s : Int) => 0 ≤ s ∧ s ≤ a.length ∧ ∀ j : Nat, (j : Int) < s → a[j]? = b[j]?) (fun s => ((a.length : Int) - s).toNat) ?_ FUEL 0 ⟨by omega, by omega, fun j hj => by omega⟩ (by rw [FUEL_eq]; omega)
  rintro s ⟨g0, g1, g2⟩
  obtain ⟨i, rfl⟩ := Int.eq_ofNat_of_zero_le g0
  rcases Nat.lt_or_ge i a.length with hi | hi
  · rw [h1 i hi (by omega), bkEq_eq]
    by_cases he : a[i] = b[i]
    · right
      rw [decide_eq_true he, if_pos rfl]
      refine ⟨_, rfl, ⟨by omega, by omega, fun j hj => ?_⟩, by omega, by trivial⟩
      rcases Nat.lt_or_ge j i with h | h
      · exact g2 j (by omega)
      · have : j = i := by omega
        subst this
        rw [List.getElem?_eq_getElem hi, List.getElem?_eq_getElem (show j < b.length by omega), he]
    · left
      rw [decide_eq_false he, if_neg (by decide), decide_eq_false]
      rintro rfl
      exact he rfl
  · left
    have : i = a.length := by omega
    subst this
    rw [h2, decide_eq_true]
    apply List.ext_getElem?
    intro j
    rcases Nat.lt_or_ge j a.length with h | h
    · exact g2 j (by omega)
    · rw [List.getElem?_eq_none (by omega), List.getElem?_eq_none (by omega)]
theorem slEq_eq {a b : List api_Backend} (hl : a.length < 2 ^ 60) : slices_Equal_api_Backend_api_Backend a b = some (decide (a = b)) := by
  unfold slices_Equal_api_Backend_api_Backend slices_Equal_api_Backend_api_BackendF
  by_cases hab : a.length = b.length
  · rw [show ((a.length : Int) != (b.length : Int)) = false from by rw [bne_eq_false_iff_eq]; omega, cond_false]
    refine eqL hl _ (fun i hi hb => ?_) ?_ hab
    · unfold slices_Equal_api_Backend_api_Backend_s1
      rw [cond_p (by omega), oreq_p ⟨by omega, by omega⟩, Int.toNat_natCast, List.getElem?_eq_getElem hi, Option.bind_some, oreq_p ⟨by omega, by omega⟩, List.getElem?_eq_getElem hb, Option.bind_some, wI64 (by omega) (by omega), show (i : Int) + 1 = ((i + 1 : Nat) : Int) by omega]
      show cond (!bkEq a[i] b[i]) _ _ = _
      cases bkEq a[i] b[i] <;> rfl
    · unfold slices_Equal_api_Backend_api_Backend_s1
      rw [cond_n (by omega)]
  · rw [show ((a.length : Int) != (b.length : Int)) = true from by rw [bne_iff_ne]; omega, cond_true, decide_eq_false]
    rintro rfl; exact hab rfl
theorem keyEq (a b : api_Key) : ((a.A == b.A) && ((a.B == b.B) && true)) = decide (a = b) := by
  rw [Bool.eq_iff_iff, decide_eq_true_iff]
  constructor
  · intro h
    simp only [Bool.and_true, Bool.and_eq_true, beq_iff_eq] at h
    exact api_Key.ext h.1 h.2
  · rintro rfl; simp
theorem psame_eq {a b : saved_Record} (hl : a.L.length < 2 ^ 60) : saved_Same a b = some (decide (a = b)) := by
  unfold saved_Same saved_SameF
  simp only [keyEq]
  by_cases h1 : a.Key = b.Key
  · rw [decide_eq_true h1, cond_true]
    by_cases h2 : a.Last = b.Last
    · rw [show (a.Last == b.Last) = true from by simpa using h2, cond_true, slEq_eq hl]
      simp only [Option.bind_some]
      congr 1
      rw [decide_eq_decide]
      exact ⟨fun h => saved_Record.ext h1 h2 h, fun h => by rw [h]⟩
    · rw [show (a.Last == b.Last) = false from by simpa using h2, cond_false, decide_eq_false]
      rintro rfl; exact h2 rfl
  · rw [decide_eq_false h1, cond_false, decide_eq_false]
    rintro rfl; exact h1 rfl
theorem awake55 : law55_awake = some true := by decide +kernel
theorem valI {n : Int} {k : Nat} (h0 : 0 ≤ n) (h : n.toNat < 256 ^ k) : ((valL (be n.toNat k) : Nat) : Int) = n := by
  rw [val_be_lt h]; omega
theorem addr_back {a : api_Addr} (hu : inU a) (hr : adr a = true) : addrG (adB a) = (a, true) ∧ ((adB a).length = 4 ∨ (adB a).length = 16) := by
  obtain ⟨v, hi, lo⟩ := a
  obtain ⟨⟨u1, u2⟩, u3, u4⟩ := hu
  simp only at u1 u2 u3 u4
  unfold adr at hr
  unfold addrG adB
  cases v with
  | true =>
    have hl : (be hi.toNat 8 ++ be lo.toNat 8).length = 16 := by simp
    simp only [cond_true]
    rw [if_neg (by omega), if_pos hl]
    refine ⟨?_, .inr hl⟩
    rw [List.take_left' (by simp), List.drop_left' (by simp), valI u1 (by omega), valI u3 (by omega)]
  | false =>
    simp only [Bool.false_or, Bool.and_eq_true, decide_eq_true_iff] at hr
    have hl : (be lo.toNat 4).length = 4 := by simp
    simp only [cond_false]
    rw [if_pos hl, valI u3 (by omega)]
    exact ⟨by rw [hr.1], .inl hl⟩
structure bkFit (b : api_Backend) : Prop where
  id : 0 ≤ b.ID ∧ b.ID ≤ 65535
  w : 0 ≤ b.Weight ∧ b.Weight ≤ 1000
  st : 0 ≤ b.State ∧ b.State ≤ 255
  u : inU b.Addr
  a : adr b.Addr = true
theorem enc_parts {b : api_Backend} (h : bkFit b) (rest : List UInt8) : 6 + alen (encB b ++ rest) ≤ (encB b ++ rest).length ∧ rec1 (encB b ++ rest) = b ∧ (addrG (adrS (encB b ++ rest))).2 = true ∧ (encB b ++ rest).drop (6 + alen (encB b ++ rest)) = rest := by
  obtain ⟨g1, g2⟩ := addr_back h.u h.a
  have hid := h.id; have hw := h.w; have hst := h.st
  obtain ⟨ad, had⟩ : ∃ ad, adB b.Addr = ad := ⟨_, rfl⟩
  have hal : ad.length ≤ 16 := by rw [← had]; exact adB_len _
  have e : encB b ++ rest = be b.ID.toNat 2 ++ (be b.Weight.toNat 2 ++ (be b.State.toNat 1 ++ (be ad.length 1 ++ (ad ++ rest)))) := by simp [encB, had]
  rw [had] at g1
  obtain ⟨s, hs⟩ : ∃ s, encB b ++ rest = s := ⟨_, rfl⟩
  rw [hs] at e ⊢
  have d2 : s.drop 2 = be b.Weight.toNat 2 ++ (be b.State.toNat 1 ++ (be ad.length 1 ++ (ad ++ rest))) := by rw [e]; exact List.drop_left' (by simp)
  have d4 : s.drop 4 = be b.State.toNat 1 ++ (be ad.length 1 ++ (ad ++ rest)) := by
    rw [show (4 : Nat) = 2 + 2 from rfl, ← List.drop_drop, d2]; exact List.drop_left' (by simp)
  have d5 : s.drop 5 = be ad.length 1 ++ (ad ++ rest) := by
    rw [show (5 : Nat) = 4 + 1 from rfl, ← List.drop_drop, d4]; exact List.drop_left' (by simp)
  have d6 : s.drop 6 = ad ++ rest := by
    rw [show (6 : Nat) = 5 + 1 from rfl, ← List.drop_drop, d5]; exact List.drop_left' (by simp)
  have hlen : alen s = ad.length := by
    unfold alen
    rw [d5, List.take_left' (by simp), val_be_lt (by omega)]
  have hadr : adrS s = ad := by
    unfold adrS
    rw [d6, hlen, List.take_left' rfl]
  refine ⟨?_, ?_, ?_, ?_⟩
  · rw [hlen, e]; simp; omega
  · unfold rec1
    rw [hadr, g1, d2, d4, List.take_left' (by simp), List.take_left' (by simp), e, List.take_left' (by simp), valI hid.1 (by omega), valI hw.1 (by omega), valI hst.1 (by omega)]
  · rw [hadr, g1]
  · rw [hlen, ← List.drop_drop, d6, List.drop_left' rfl]
theorem recs_flat : ∀ (L : List api_Backend), (∀ b ∈ L, bkFit b) → recs L.length (L.flatMap encB) = some (L, true, [])
  | [], _ => rfl
  | b :: L, h => by
    obtain ⟨e1, e2, e3, e4⟩ := enc_parts (h b (by simp)) (L.flatMap encB)
    rw [List.length_cons, List.flatMap_cons, recs, if_neg (by omega), if_neg (by omega), e4, recs_flat L (fun c hc => h c (by simp [hc]))]
    simp [e2, e3]
theorem right_fit {r : saved_Record} (hr : recOK r) (h : rightB r = true) : (0 ≤ r.Last ∧ r.Last ≤ 65535) ∧ r.L.length ≤ 64 ∧ ∀ b ∈ r.L, bkFit b := by
  unfold rightB at h
  rw [Bool.and_eq_true, decide_eq_true_iff] at h
  obtain ⟨⟨l0, l1, l2⟩, hc⟩ := h
  refine ⟨⟨l0, l1⟩, l2, fun b hb => ?_⟩
  obtain ⟨c1, c2, c3, c4, c5, c6⟩ := chn_all hc b hb
  exact ⟨⟨by omega, by omega⟩, ⟨c3, c4⟩, ⟨by omega, by omega⟩, hr.2.2 b hb, c6⟩
theorem body_len {r : saved_Record} (h : r.L.length ≤ 64) : (body r).length ≤ 23 + 64 * 22 := by
  have : ∀ L : List api_Backend, (L.flatMap encB).length ≤ L.length * 22 := by
    intro L
    induction L with
    | nil => simp
    | cons b L ih => have := encB_len b; simp only [List.flatMap_cons, List.length_append, List.length_cons]; omega
  have := this r.L
  unfold body encH
  simp only [List.length_append, be_len, List.length_cons, List.length_nil]
  omega
theorem get_put {r : saved_Record} (hr : recOK r) (h : rightB r = true) : getR (body r ++ sealS (body r)) = (r, 0) := by
  obtain ⟨hl, h64, hfit⟩ := right_fit hr h
  obtain ⟨⟨a0, a1⟩, ⟨b0, b1⟩, -⟩ := hr
  obtain ⟨F, hF⟩ : ∃ F, r.L.flatMap encB = F := ⟨_, rfl⟩
  have eb : body r = [67, 76, 75, 49] ++ (be r.Key.A.toNat 8 ++ (be r.Key.B.toNat 8 ++ (be r.Last.toNat 2 ++ (be r.L.length 1 ++ F)))) := by simp [body, encH, hF]
  obtain ⟨t, ht⟩ : ∃ t, body r = t := ⟨_, rfl⟩
  rw [ht] at eb ⊢
  have htl : t.length = 23 + F.length := by rw [eb]; simp; omega
  have hsl := sealS_len t
  have len : (t ++ sealS t).length - 8 = t.length := by simp [hsl]
  unfold getR
  rw [if_neg (by simp [hsl]; omega), len, List.take_left' rfl, List.drop_left' rfl]
  have pre : ∀ a n, a + n ≤ 23 → ((t ++ sealS t).drop a).take n = (t.drop a).take n := fun a n hh => by
    rw [List.drop_append_of_le_length (by omega), List.take_append_of_le_length (by rw [List.length_drop]; omega)]
  have p0 := pre 0 4 (by omega)
  rw [List.drop_zero, List.drop_zero] at p0
  rw [p0, pre 4 8 (by omega), pre 12 8 (by omega), pre 20 2 (by omega), pre 22 1 (by omega)]
  have d4 : t.drop 4 = be r.Key.A.toNat 8 ++ (be r.Key.B.toNat 8 ++ (be r.Last.toNat 2 ++ (be r.L.length 1 ++ F))) := by rw [eb]; exact List.drop_left' (by simp)
  have d12 : t.drop 12 = be r.Key.B.toNat 8 ++ (be r.Last.toNat 2 ++ (be r.L.length 1 ++ F)) := by
    rw [show (12 : Nat) = 4 + 8 from rfl, ← List.drop_drop, d4]; exact List.drop_left' (by simp)
  have d20 : t.drop 20 = be r.Last.toNat 2 ++ (be r.L.length 1 ++ F) := by
    rw [show (20 : Nat) = 12 + 8 from rfl, ← List.drop_drop, d12]; exact List.drop_left' (by simp)
  have d22 : t.drop 22 = be r.L.length 1 ++ F := by
    rw [show (22 : Nat) = 20 + 2 from rfl, ← List.drop_drop, d20]; exact List.drop_left' (by simp)
  have d23 : t.drop 23 = F := by
    rw [show (23 : Nat) = 22 + 1 from rfl, ← List.drop_drop, d22]; exact List.drop_left' (by simp)
  have t4 : t.take 4 = [67, 76, 75, 49] := by rw [eb]; exact List.take_left' (by simp)
  rw [t4, if_neg (by simp), if_neg (by simp), d4, d12, d20, d22, d23, List.take_left' (by simp), List.take_left' (by simp), List.take_left' (by simp), List.take_left' (by simp), valI a0 (by omega), valI b0 (by omega), valI hl.1 (by omega), val_be_lt (by omega), ← hF, recs_flat r.L hfit]
  unfold finG
  simp only [Bool.and_self, List.nil_append]
  rw [if_neg (by simp), if_pos (show rightB ⟨⟨r.Key.A, r.Key.B⟩, r.Last, r.L⟩ = true from h)]
end Go.Vm.Code
namespace Go.Vm.Code
open Go Go.Vm Go.Proofs
set_option maxRecDepth 100000
set_option maxHeartbeats 4000000
set_option linter.unusedVariables false
def health_withinF (n : Int) (low : Int) (high : Int) : Option Bool :=
  cond (decide (low ≤ n))
    (
    some (decide (n ≤ high)))
    (
    some (false))
def rx121 (x : Bool) : SRes := ⟨.bool x, [], []⟩
def r121 (g : Int → Int → Int → Option Bool) : Dec := dV (asI .i64) fun (y0 : Int) => dV (asI .i64) fun (y1 : Int) => dV (asI .i64) fun (y2 : Int) => dEnd (ofG (g y0 y1 y2) rx121)
theorem r121_c {g : Int → Int → Int → Option Bool} {y0 : Int} {y1 : Int} {y2 : Int} {x : Bool} (hx : g y0 y1 y2 = some x) : r121 g [.int .i64 y0, .int .i64 y1, .int .i64 y2] [] = some (rx121 x) := (dV_eq (asI_c _)).trans ((dV_eq (asI_c _)).trans ((dV_eq (asI_c _)).trans (ofG_eq hx)))
def s121 (g : Int → Int → Int → Option Bool) : Summ := ⟨[.v, .v, .v], r121 g⟩
theorem r121_eq {g : Int → Int → Int → Option Bool} {y0 : Int} {y1 : Int} {y2 : Int} {x : Bool} (hx : g y0 y1 y2 = some x) : (s121 g).run [.int .i64 y0, .int .i64 y1, .int .i64 y2] [] = some (rx121 x) := r121_c hx
abbrev sums121 : List (Nat × Summ) := []
theorem leads121 (hS : SumsOK Try.prog (aget (sums121))) (n : Int) (low : Int) (high : Int) (res : Bool) (h : health_withinF n low high = some res) :
    Leads Try.prog 121 0 ⟨⟨121, 15, [(0, .int .i64 n), (1, .int .i64 low), (2, .int .i64 high)], [.code k121_3], [], false, none⟩, [], [], 0⟩ (fun v H _ => Res 0 (rx121 res) v H) := by
  unfold health_withinF at h
  refine ev_ok tab_ok hS true 3000 ?_
  conv => whnf
  refine br.h h ?_ ?_ ?_
  · rfl
  · clear h; intro hb h; conv => whnf
    all_goals (cases h; exact Res.z rfl rfl rfl)
  clear h; intro hb h; conv => whnf
  all_goals (cases h; exact Res.z rfl rfl rfl)
theorem ok121 (hS : SumsOK Try.prog (aget (sums121))) : SumOK Try.prog 121 (s121 (health_withinF)) := by
  refine SumOK.of_leads tab_ok (fun ar os r ha hr => ?_) ⟨Try.f121, rfl, by decide, rfl⟩
  replace hr : r121 (health_withinF) ar (conts os) = some r := hr
  unfold r121 at hr
  generalize hc : conts os = C at hr
  replace hr := dV.elim hr; obtain ⟨v0, l1, y0, rfl, e0, hr⟩ := hr; obtain rfl := asI_eq _ _ _ e0
  replace hr := dV.elim hr; obtain ⟨v1, l2, y1, rfl, e1, hr⟩ := hr; obtain rfl := asI_eq _ _ _ e1
  replace hr := dV.elim hr; obtain ⟨v2, l3, y2, rfl, e2, hr⟩ := hr; obtain rfl := asI_eq _ _ _ e2
  replace hr := dFin hr; obtain ⟨rfl, rfl, x, h, rfl⟩ := hr
  obtain rfl := kinds_nil hc
  exact ⟨_, rfl, leads121 hS _ _ _ x h⟩
def health_within : Int → Int → Int → Option Bool := health_withinF
theorem lift121 : SumOK Try.prog 121 (s121 health_within) := ok121 (SumsOK.of_tab trivial)
def health_RightF (health_within : Int → Int → Int → Option Bool) (ra0 : health_Rule) : Option Bool :=
  (health_within ra0.Rise 1 100).bind fun w =>
  cond (w)
    (
    (health_within ra0.Fall 1 100).bind fun w1 =>
    some (w1))
    (
    some (false))
def rx69 (x : Bool) : SRes := ⟨.bool x, [], []⟩
def r69 (g : health_Rule → Option Bool) : Dec := dV uvhealth_Rule fun (y0 : health_Rule) => dEnd (ofG (g y0) rx69)
theorem r69_c {g : health_Rule → Option Bool} {y0 : health_Rule} {x : Bool} (hx : g y0 = some x) : r69 g [.agg ⟨[.int .i64 y0.Rise, .int .i64 y0.Fall]⟩] [] = some (rx69 x) := (dV_eq (uvhealth_Rule_c _)).trans (ofG_eq hx)
def s69 (g : health_Rule → Option Bool) : Summ := ⟨[.v], r69 g⟩
theorem r69_eq {g : health_Rule → Option Bool} {y0 : health_Rule} {x : Bool} (hx : g y0 = some x) : (s69 g).run [.agg ⟨[.int .i64 y0.Rise, .int .i64 y0.Fall]⟩] [] = some (rx69 x) := r69_c hx
abbrev sums69 (health_within : Int → Int → Int → Option Bool) : List (Nat × Summ) := [(121, s121 health_within)]
theorem leads69 (health_within : Int → Int → Int → Option Bool) (hS : SumsOK Try.prog (aget (sums69 health_within))) (ra0 : health_Rule) (res : Bool) (h : health_RightF health_within ra0 = some res) :
    Leads Try.prog 69 0 ⟨⟨69, 11, [(0, .agg ⟨[.int .i64 ra0.Rise, .int .i64 ra0.Fall]⟩)], [.code k69_3], [], false, none⟩, [], [], 0⟩ (fun v H _ => Res 0 (rx69 res) v H) := by
  unfold health_RightF at h
  refine ev_ok tab_ok hS true 3000 ?_
  conv => whnf
  replace h := obind.elim h; obtain ⟨w, hy, h⟩ := h
  refine sumK.q rfl rfl (r121_eq hy) rfl rfl rfl ?_
  conv => whnf
  refine br.h2 h ?_ ?_ ?_
  · rfl
  · clear h; intro hb h; conv => whnf
    all_goals (cases h; exact Res.z rfl rfl rfl)
  clear h; intro hb h; conv => whnf
  replace h := obind.elim h; obtain ⟨w1, hy, h⟩ := h
  refine sumK.q rfl rfl (r121_eq hy) rfl rfl rfl ?_
  conv => whnf
  all_goals (cases h; exact Res.z rfl rfl rfl)
theorem ok69 (health_within : Int → Int → Int → Option Bool) (hS : SumsOK Try.prog (aget (sums69 health_within))) : SumOK Try.prog 69 (s69 (health_RightF health_within)) := by
  refine SumOK.of_leads tab_ok (fun ar os r ha hr => ?_) ⟨Try.f69, rfl, by decide, rfl⟩
  replace hr : r69 (health_RightF health_within) ar (conts os) = some r := hr
  unfold r69 at hr
  generalize hc : conts os = C at hr
  replace hr := dV.elim hr; obtain ⟨v0, l1, y0, rfl, e0, hr⟩ := hr; obtain rfl := uvhealth_Rule_eq _ _ e0
  replace hr := dFin hr; obtain ⟨rfl, rfl, x, h, rfl⟩ := hr
  obtain rfl := kinds_nil hc
  exact ⟨_, rfl, leads69 health_within hS _ x h⟩
def health_Right : health_Rule → Option Bool := health_RightF health_within
theorem lift69 : SumOK Try.prog 69 (s69 health_Right) := ok69 health_within (SumsOK.of_tab ⟨lift121, trivial⟩)
def registry_Registry_givenF (health_Right : health_Rule → Option Bool) (ga0 : registry_Registry) : Option Bool :=
  (health_Right ga0.rule).bind fun xr =>
  some (xr)
def rx70 (x : Bool) : SRes := ⟨.bool x, [], [none, none]⟩
def r70 (g : registry_Registry → Option Bool) : Dec := dTr 2 (udregistry_Registry 0) fun (y0 : registry_Registry) => dEnd (ofG (g y0) rx70)
theorem r70_c {g : registry_Registry → Option Bool} {y0 : registry_Registry} {x : Bool} (hx : g y0 = some x) : r70 g [.pointer (some ⟨0, 0, none⟩)] [some [.int .i64 y0.rule.Rise, .int .i64 y0.rule.Fall, .slice (some ⟨1, 0, none⟩) y0.rows.length 9, .int .i64 y0.last, .int .i64 y0.version], some (vT cregistry_row y0.rows)] = some (rx70 x) := (dTr_eq rfl rfl (udregistry_Registry_c 0 _)).trans (ofG_eq hx)
def s70 (g : registry_Registry → Option Bool) : Summ := ⟨[.tr [⟨none, 0, 0, 0, none⟩, ⟨some 0, 2, 0, 0, some 9⟩]], r70 g⟩
theorem r70_eq {g : registry_Registry → Option Bool} {y0 : registry_Registry} {x : Bool} (hx : g y0 = some x) : (s70 g).run [.pointer (some ⟨0, 0, none⟩)] [some [.int .i64 y0.rule.Rise, .int .i64 y0.rule.Fall, .slice (some ⟨1, 0, none⟩) y0.rows.length 9, .int .i64 y0.last, .int .i64 y0.version], some (vT cregistry_row y0.rows)] = some (rx70 x) := r70_c hx
abbrev sums70 (health_Right : health_Rule → Option Bool) : List (Nat × Summ) := [(69, s69 health_Right)]
theorem leads70 (health_Right : health_Rule → Option Bool) (hS : SumsOK Try.prog (aget (sums70 health_Right))) (ga0 : registry_Registry) (res : Bool) (h : registry_Registry_givenF health_Right ga0 = some res) :
    Leads Try.prog 70 2 ⟨⟨70, 12, [(0, .pointer (some ⟨0, 0, none⟩))], [.code k70_3], [], false, none⟩, [], [(0, .row false [.int .i64 ga0.rule.Rise, .int .i64 ga0.rule.Fall, .slice (some ⟨1, 0, none⟩) ga0.rows.length 9, .int .i64 ga0.last, .int .i64 ga0.version]), (1, .row false (vT cregistry_row ga0.rows))], 2⟩ (fun v H _ => Res 2 (rx70 res) v H) := by
  unfold registry_Registry_givenF at h
  refine ev_ok tab_ok hS true 3000 ?_
  conv => whnf
  replace h := obind.elim h; obtain ⟨xr, hy, h⟩ := h
  refine sumK.q rfl rfl (r69_eq hy) rfl rfl rfl ?_
  conv => whnf
  all_goals (cases h)
  all_goals exact Res.of [] rfl nw_0 (by decide) js_0 (wr_n (wr_n wr_0))
theorem ok70 (health_Right : health_Rule → Option Bool) (hS : SumsOK Try.prog (aget (sums70 health_Right))) : SumOK Try.prog 70 (s70 (registry_Registry_givenF health_Right)) := by
  refine SumOK.of_leads tab_ok (fun ar os r ha hr => ?_) ⟨Try.f70, rfl, by decide, rfl⟩
  replace hr : r70 (registry_Registry_givenF health_Right) ar (conts os) = some r := hr
  unfold r70 at hr
  generalize hc : conts os = C at hr
  have hq := dTr.elim hr; clear hr; obtain ⟨v0, l1, c0, C, y0, rfl, rfl, e0, hr⟩ := hq; obtain ⟨rfl, rfl⟩ := udregistry_Registry_eq e0; simp only [List.nil_append, List.cons_append] at hc
  replace hr := dFin hr; obtain ⟨rfl, rfl, x, h, rfl⟩ := hr
  obtain ⟨os, rfl, ha, hc⟩ := kinds_some ha hc
  obtain ⟨os, rfl, ha, hc⟩ := kinds_some ha hc
  obtain rfl := kinds_nil hc
  exact ⟨_, rfl, leads70 health_Right hS _ x h⟩
def registry_Registry_given : registry_Registry → Option Bool := registry_Registry_givenF health_Right
theorem lift70 : SumOK Try.prog 70 (s70 registry_Registry_given) := ok70 health_Right (SumsOK.of_tab ⟨lift69, trivial⟩)
def registry_weighsF (n : Int) : Option Bool :=
  cond (decide (0 ≤ n))
    (
    some (decide (n ≤ 1000)))
    (
    some (false))
def rx81 (x : Bool) : SRes := ⟨.bool x, [], []⟩
def r81 (g : Int → Option Bool) : Dec := dV (asI .i64) fun (y0 : Int) => dEnd (ofG (g y0) rx81)
theorem r81_c {g : Int → Option Bool} {y0 : Int} {x : Bool} (hx : g y0 = some x) : r81 g [.int .i64 y0] [] = some (rx81 x) := (dV_eq (asI_c _)).trans (ofG_eq hx)
def s81 (g : Int → Option Bool) : Summ := ⟨[.v], r81 g⟩
theorem r81_eq {g : Int → Option Bool} {y0 : Int} {x : Bool} (hx : g y0 = some x) : (s81 g).run [.int .i64 y0] [] = some (rx81 x) := r81_c hx
abbrev sums81 : List (Nat × Summ) := []
theorem leads81 (hS : SumsOK Try.prog (aget (sums81))) (n : Int) (res : Bool) (h : registry_weighsF n = some res) :
    Leads Try.prog 81 0 ⟨⟨81, 9, [(0, .int .i64 n)], [.code k81_3], [], false, none⟩, [], [], 0⟩ (fun v H _ => Res 0 (rx81 res) v H) := by
  unfold registry_weighsF at h
  refine ev_ok tab_ok hS true 3000 ?_
  conv => whnf
  refine br.h h ?_ ?_ ?_
  · rfl
  · clear h; intro hb h; conv => whnf
    all_goals (cases h; exact Res.z rfl rfl rfl)
  clear h; intro hb h; conv => whnf
  all_goals (cases h; exact Res.z rfl rfl rfl)
theorem ok81 (hS : SumsOK Try.prog (aget (sums81))) : SumOK Try.prog 81 (s81 (registry_weighsF)) := by
  refine SumOK.of_leads tab_ok (fun ar os r ha hr => ?_) ⟨Try.f81, rfl, by decide, rfl⟩
  replace hr : r81 (registry_weighsF) ar (conts os) = some r := hr
  unfold r81 at hr
  generalize hc : conts os = C at hr
  replace hr := dV.elim hr; obtain ⟨v0, l1, y0, rfl, e0, hr⟩ := hr; obtain rfl := asI_eq _ _ _ e0
  replace hr := dFin hr; obtain ⟨rfl, rfl, x, h, rfl⟩ := hr
  obtain rfl := kinds_nil hc
  exact ⟨_, rfl, leads81 hS _ x h⟩
def registry_weighs : Int → Option Bool := registry_weighsF
theorem lift81 : SumOK Try.prog 81 (s81 registry_weighs) := ok81 (SumsOK.of_tab trivial)
def registry_Registry_AddF (addr_Right : api_Addr → Option Bool) (registry_Registry_given : registry_Registry → Option Bool) (registry_weighs : Int → Option Bool) (ga0 : registry_Registry) (weight : Int) (a : api_Addr) : Option (Int × Int × registry_Registry) :=
  (registry_Registry_given ga0).bind fun xg =>
  cond (!xg)
    (
    some ((0, 1, ga0)))
    (
    (registry_weighs weight).bind fun w =>
    cond (!w)
      (
      some ((0, 1, ga0)))
      (
      (addr_Right a).bind fun xr =>
      cond (!xr)
        (
        some ((0, 1, ga0)))
        (
        cond ((ga0.rows.length : Int) == 64)
          (
          some ((0, 9, ga0)))
          (
          cond (ga0.last == 65535)
            (
            some ((0, 9, ga0)))
            (
            oreq (decide ((ga0.rows.length + 1) * 72 ≤ 2 ^ 47)) <|
            let row := ga0.rows ++ [registry_row.mk (api_Backend.mk (wI .i64 (ga0.last + 1)) weight 0 a) false (health_State.mk true 0)]
            some ((wI .i64 (ga0.last + 1), 0, registry_Registry.mk ga0.rule row (wI .i64 (ga0.last + 1)) (wI .i64 (ga0.version + 1)))))))))
def rx26 (x : Int × Int × registry_Registry) : SRes := ⟨.tuple ⟨[.int .i64 x.1, .int .i64 x.2.1]⟩, [(vT cregistry_row x.2.2.rows)], [some [.int .i64 x.2.2.rule.Rise, .int .i64 x.2.2.rule.Fall, .slice (some ⟨0, 0, none⟩) x.2.2.rows.length 9, .int .i64 x.2.2.last, .int .i64 x.2.2.version], none]⟩
def r26 (g : registry_Registry → Int → api_Addr → Option (Int × Int × registry_Registry)) : Dec := dTr 2 (udregistry_Registry 0) fun (y0 : registry_Registry) => dV (asI .i64) fun (y1 : Int) => dV uvapi_Addr fun (y2 : api_Addr) => dEnd (ofG (g y0 y1 y2) rx26)
theorem r26_c {g : registry_Registry → Int → api_Addr → Option (Int × Int × registry_Registry)} {y0 : registry_Registry} {y1 : Int} {y2 : api_Addr} {x : Int × Int × registry_Registry} (hx : g y0 y1 y2 = some x) : r26 g [.pointer (some ⟨0, 0, none⟩), .int .i64 y1, .agg ⟨[.bool y2.V6, .int .u64 y2.Hi, .int .u64 y2.Lo]⟩] [some [.int .i64 y0.rule.Rise, .int .i64 y0.rule.Fall, .slice (some ⟨1, 0, none⟩) y0.rows.length 9, .int .i64 y0.last, .int .i64 y0.version], some (vT cregistry_row y0.rows)] = some (rx26 x) := (dTr_eq rfl rfl (udregistry_Registry_c 0 _)).trans ((dV_eq (asI_c _)).trans ((dV_eq (uvapi_Addr_c _)).trans (ofG_eq hx)))
def s26 (g : registry_Registry → Int → api_Addr → Option (Int × Int × registry_Registry)) : Summ := ⟨[.tr [⟨none, 0, 0, 1, none⟩, ⟨some 0, 2, 0, 2, some 9⟩], .v, .v], r26 g⟩
theorem r26_eq {g : registry_Registry → Int → api_Addr → Option (Int × Int × registry_Registry)} {y0 : registry_Registry} {y1 : Int} {y2 : api_Addr} {x : Int × Int × registry_Registry} (hx : g y0 y1 y2 = some x) : (s26 g).run [.pointer (some ⟨0, 0, none⟩), .int .i64 y1, .agg ⟨[.bool y2.V6, .int .u64 y2.Hi, .int .u64 y2.Lo]⟩] [some [.int .i64 y0.rule.Rise, .int .i64 y0.rule.Fall, .slice (some ⟨1, 0, none⟩) y0.rows.length 9, .int .i64 y0.last, .int .i64 y0.version], some (vT cregistry_row y0.rows)] = some (rx26 x) := r26_c hx
abbrev sums26 (addr_Right : api_Addr → Option Bool) (registry_Registry_given : registry_Registry → Option Bool) (registry_weighs : Int → Option Bool) : List (Nat × Summ) := [(82, s82 addr_Right), (70, s70 registry_Registry_given), (81, s81 registry_weighs)]
theorem leads26 (addr_Right : api_Addr → Option Bool) (registry_Registry_given : registry_Registry → Option Bool) (registry_weighs : Int → Option Bool) (hS : SumsOK Try.prog (aget (sums26 addr_Right registry_Registry_given registry_weighs))) (ga0 : registry_Registry) (weight : Int) (a : api_Addr) (res : Int × Int × registry_Registry) (h : registry_Registry_AddF addr_Right registry_Registry_given registry_weighs ga0 weight a = some res) :
    Leads Try.prog 26 2 ⟨⟨26, 72, [(0, .pointer (some ⟨0, 0, none⟩)), (1, .int .i64 weight), (2, .agg ⟨[.bool a.V6, .int .u64 a.Hi, .int .u64 a.Lo]⟩)], [.code k26_21], [], false, none⟩, [], [(0, .cells [.int .i64 ga0.rule.Rise, .int .i64 ga0.rule.Fall, .slice (some ⟨1, 0, none⟩) ga0.rows.length 9, .int .i64 ga0.last, .int .i64 ga0.version]), (1, .row true (vT cregistry_row ga0.rows))], 2⟩ (fun v H _ => Res 2 (rx26 res) v H) := by
  unfold registry_Registry_AddF at h
  refine ev_ok tab_ok hS true 3000 ?_
  conv => whnf
  replace h := obind.elim h; obtain ⟨xg, hy, h⟩ := h
  refine sumK.introF [] (sumRun_of (aqs := [.pointer (some ⟨0, 0, none⟩)]) (ws := [.blk 0 false, .blk 1 false]) (n := 0) (m := 0) (t' := 3) (ra_cons (ra_tr rfl rfl (vp_at rfl rfl rfl rfl (vp_at rfl rfl (rn_T cregistry_row_flat) rfl vp_nil)) rfl) rfl ra_nil) rfl (by rfl) (r70_eq hy) rfl rfl rfl rfl (wb_skip rfl (wb_skip rfl wb_nil)) an_nil rfl) ?_
  conv => whnf
  refine br.h h ?_ ?_ ?_
  · rfl
  · clear h; intro hb h; conv => whnf
    all_goals (cases h)
    all_goals exact Res.of [1] rfl (nw_s (rn_T cregistry_row_flat) (hs_row rfl) nw_0) (by decide) (js_r rfl js_0) (wr_s (rfl) (hs_cells rfl) (wr_n wr_0))
  clear h; intro hb h; conv => whnf
  replace h := obind.elim h; obtain ⟨w, hy, h⟩ := h
  refine sumK.q rfl rfl (r81_eq hy) rfl rfl rfl ?_
  conv => whnf
  refine br.h h ?_ ?_ ?_
  · rfl
  · clear h; intro hb h; conv => whnf
    all_goals (cases h)
    all_goals exact Res.of [1] rfl (nw_s (rn_T cregistry_row_flat) (hs_row rfl) nw_0) (by decide) (js_r rfl js_0) (wr_s (rfl) (hs_cells rfl) (wr_n wr_0))
  clear h; intro hb h; conv => whnf
  replace h := obind.elim h; obtain ⟨xr, hy, h⟩ := h
  refine sumK.q rfl rfl (r82_eq hy) rfl rfl rfl ?_
  conv => whnf
  refine br.h h ?_ ?_ ?_
  · rfl
  · clear h; intro hb h; conv => whnf
    all_goals (cases h)
    all_goals exact Res.of [1] rfl (nw_s (rn_T cregistry_row_flat) (hs_row rfl) nw_0) (by decide) (js_r rfl js_0) (wr_s (rfl) (hs_cells rfl) (wr_n wr_0))
  clear h; intro hb h; conv => whnf
  refine br.h h ?_ ?_ ?_
  · rfl
  · clear h; intro hb h; conv => whnf
    all_goals (cases h)
    all_goals exact Res.of [1] rfl (nw_s (rn_T cregistry_row_flat) (hs_row rfl) nw_0) (by decide) (js_r rfl js_0) (wr_s (rfl) (hs_cells rfl) (wr_n wr_0))
  clear h; intro hb h; conv => whnf
  refine br.h h ?_ ?_ ?_
  · rfl
  · clear h; intro hb h; conv => whnf
    all_goals (cases h)
    all_goals exact Res.of [1] rfl (nw_s (rn_T cregistry_row_flat) (hs_row rfl) nw_0) (by decide) (js_r rfl js_0) (wr_s (rfl) (hs_cells rfl) (wr_n wr_0))
  clear h; intro hb h; conv => whnf
  replace h := oreq.elim h; obtain ⟨hb, h⟩ := h
  refine req.intro (ap_req (of_decide_eq_true hb) (by first | rfl | omega | (simp; done) | (simp; omega) | (simp at *; omega)) rfl (by first | rfl | omega | (simp; done) | (simp; omega) | (simp at *; omega)) (by first | rfl | exact vI_one _ _ | exact vS_one _ | exact vB_one _ | exact vT_one (by first | exact capi_Key_one | exact capi_Addr_one | exact capi_Backend_one | exact cArr4_Int_one | exact csip_Hasher_one | exact coctet_Reader_one | exact cR23_Step_one | exact chealth_Rule_one | exact chealth_State_one | exact cregistry_row_one) _ | (rw [ofBytes_vI]; exact vI_one _ _) | (simp [vI_one, vS_one, vB_one, vI_drop, vI_take, vS_drop, vS_take]; done) | (simp; exact List.all_eq_true.1 (vT_one (by first | exact capi_Key_one | exact capi_Addr_one | exact capi_Backend_one | exact cArr4_Int_one | exact csip_Hasher_one | exact coctet_Reader_one | exact cR23_Step_one | exact chealth_Rule_one | exact chealth_State_one | exact cregistry_row_one) _))) rfl) ?_
  conv => whnf
  let row : List registry_row := ga0.rows ++ [registry_row.mk (api_Backend.mk (wI .i64 (ga0.last + 1)) weight 0 a) false (health_State.mk true 0)]
  refine pk_apT cregistry_row_len (xs := ga0.rows) (ys := [registry_row.mk (api_Backend.mk (wI .i64 (ga0.last + 1)) weight 0 a) false (health_State.mk true 0)]) rfl (by first | rfl | omega) (by first | rfl | omega | (simp; done) | (simp; omega) | (simp at *; omega)) (by first | rfl | omega | (simp; done) | (simp; omega) | (simp at *; omega)) ?_
  conv => whnf
  all_goals (cases h)
  all_goals exact Res.of [19] rfl (nw_s (rn_T cregistry_row_flat) (hs_row rfl) nw_0) (by decide) (js_l (by decide) js_0) (wr_s (rfl) (hs_cells rfl) (wr_n wr_0))
theorem ok26 (addr_Right : api_Addr → Option Bool) (registry_Registry_given : registry_Registry → Option Bool) (registry_weighs : Int → Option Bool) (hS : SumsOK Try.prog (aget (sums26 addr_Right registry_Registry_given registry_weighs))) : SumOK Try.prog 26 (s26 (registry_Registry_AddF addr_Right registry_Registry_given registry_weighs)) := by
  refine SumOK.of_leads tab_ok (fun ar os r ha hr => ?_) ⟨Try.f26, rfl, by decide, rfl⟩
  replace hr : r26 (registry_Registry_AddF addr_Right registry_Registry_given registry_weighs) ar (conts os) = some r := hr
  unfold r26 at hr
  generalize hc : conts os = C at hr
  have hq := dTr.elim hr; clear hr; obtain ⟨v0, l1, c0, C, y0, rfl, rfl, e0, hr⟩ := hq; obtain ⟨rfl, rfl⟩ := udregistry_Registry_eq e0; simp only [List.nil_append, List.cons_append] at hc
  replace hr := dV.elim hr; obtain ⟨v1, l2, y1, rfl, e1, hr⟩ := hr; obtain rfl := asI_eq _ _ _ e1
  replace hr := dV.elim hr; obtain ⟨v2, l3, y2, rfl, e2, hr⟩ := hr; obtain rfl := uvapi_Addr_eq _ _ e2
  replace hr := dFin hr; obtain ⟨rfl, rfl, x, h, rfl⟩ := hr
  obtain ⟨os, rfl, ha, hc⟩ := kinds_some ha hc
  obtain ⟨os, rfl, ha, hc⟩ := kinds_some ha hc
  obtain rfl := kinds_nil hc
  exact ⟨_, rfl, leads26 addr_Right registry_Registry_given registry_weighs hS _ _ _ x h⟩
def registry_Registry_Add : registry_Registry → Int → api_Addr → Option (Int × Int × registry_Registry) := registry_Registry_AddF addr_Right registry_Registry_given registry_weighs
theorem lift26 : SumOK Try.prog 26 (s26 registry_Registry_Add) := ok26 addr_Right registry_Registry_given registry_weighs (SumsOK.of_tab ⟨lift82, lift70, lift81, trivial⟩)
def registry_Registry_find_1F (ra0 : registry_row) (ida1 : Int) : Option Int :=
  let t := if (if 65536 < ida1 then 65536 else ida1) > 0 then if 65536 < ida1 then 65536 else ida1 else 0
  some (wI .i64 (ra0.Backend.ID - t))
def rx123 (x : Int) : SRes := ⟨.int .i64 x, [], []⟩
def r123 (g : registry_row → Int → Option Int) : Dec := dV uvregistry_row fun (y0 : registry_row) => dV (asI .i64) fun (y1 : Int) => dEnd (ofG (g y0 y1) rx123)
theorem r123_c {g : registry_row → Int → Option Int} {y0 : registry_row} {y1 : Int} {x : Int} (hx : g y0 y1 = some x) : r123 g [.agg ⟨[.int .i64 y0.Backend.ID, .int .i64 y0.Backend.Weight, .int .i64 y0.Backend.State, .bool y0.Backend.Addr.V6, .int .u64 y0.Backend.Addr.Hi, .int .u64 y0.Backend.Addr.Lo, .bool y0.drains, .bool y0.health.Up, .int .i64 y0.health.Run]⟩, .int .i64 y1] [] = some (rx123 x) := (dV_eq (uvregistry_row_c _)).trans ((dV_eq (asI_c _)).trans (ofG_eq hx))
def s123 (g : registry_row → Int → Option Int) : Summ := ⟨[.v, .v], r123 g⟩
theorem r123_eq {g : registry_row → Int → Option Int} {y0 : registry_row} {y1 : Int} {x : Int} (hx : g y0 y1 = some x) : (s123 g).run [.agg ⟨[.int .i64 y0.Backend.ID, .int .i64 y0.Backend.Weight, .int .i64 y0.Backend.State, .bool y0.Backend.Addr.V6, .int .u64 y0.Backend.Addr.Hi, .int .u64 y0.Backend.Addr.Lo, .bool y0.drains, .bool y0.health.Up, .int .i64 y0.health.Run]⟩, .int .i64 y1] [] = some (rx123 x) := r123_c hx
abbrev sums123 : List (Nat × Summ) := []
theorem leads123 (hS : SumsOK Try.prog (aget (sums123))) (ra0 : registry_row) (ida1 : Int) (res : Int) (h : registry_Registry_find_1F ra0 ida1 = some res) :
    Leads Try.prog 123 0 ⟨⟨123, 12, [(0, .agg ⟨[.int .i64 ra0.Backend.ID, .int .i64 ra0.Backend.Weight, .int .i64 ra0.Backend.State, .bool ra0.Backend.Addr.V6, .int .u64 ra0.Backend.Addr.Hi, .int .u64 ra0.Backend.Addr.Lo, .bool ra0.drains, .bool ra0.health.Up, .int .i64 ra0.health.Run]⟩), (1, .int .i64 ida1)], [.code k123_3], [], false, none⟩, [], [], 0⟩ (fun v H _ => Res 0 (rx123 res) v H) := by
  unfold registry_Registry_find_1F at h
  refine ev_ok tab_ok hS true 3000 ?_
  conv => whnf
  let t : Int := if (if 65536 < ida1 then 65536 else ida1) > 0 then if 65536 < ida1 then 65536 else ida1 else 0
  all_goals (cases h; exact Res.z rfl rfl rfl)
theorem ok123 (hS : SumsOK Try.prog (aget (sums123))) : SumOK Try.prog 123 (s123 (registry_Registry_find_1F)) := by
  refine SumOK.of_leads tab_ok (fun ar os r ha hr => ?_) ⟨Try.f123, rfl, by decide, rfl⟩
  replace hr : r123 (registry_Registry_find_1F) ar (conts os) = some r := hr
  unfold r123 at hr
  generalize hc : conts os = C at hr
  replace hr := dV.elim hr; obtain ⟨v0, l1, y0, rfl, e0, hr⟩ := hr; obtain rfl := uvregistry_row_eq _ _ e0
  replace hr := dV.elim hr; obtain ⟨v1, l2, y1, rfl, e1, hr⟩ := hr; obtain rfl := asI_eq _ _ _ e1
  replace hr := dFin hr; obtain ⟨rfl, rfl, x, h, rfl⟩ := hr
  obtain rfl := kinds_nil hc
  exact ⟨_, rfl, leads123 hS _ _ x h⟩
def registry_Registry_find_1 : registry_row → Int → Option Int := registry_Registry_find_1F
theorem lift123 : SumOK Try.prog 123 (s123 registry_Registry_find_1) := ok123 (SumsOK.of_tab trivial)
def registry_Registry_find_s1 (registry_Registry_find_1 : registry_row → Int → Option Int) (ga0 : registry_Registry) (ida1 : Int) (i : Int) (xj : Int) : Option (Sum (Int × Int) (Int × Bool)) :=
  cond (decide (i < xj))
    (
    let t := (wI .u64 (wI .i64 (i + xj))).fdiv (2 ^ 1)
    oreq (decide ((0 : Int) ≤ (wI .i64 t) ∧ (wI .i64 t) < (ga0.rows.length : Int))) <|
    (ga0.rows[(wI .i64 t).toNat]?).bind fun (e : registry_row) =>
    (registry_Registry_find_1 e ida1).bind fun x1 =>
    cond (decide (x1 < 0))
      (
      some (.inl (wI .i64 ((wI .i64 t) + 1), xj)))
      (
      some (.inl (i, wI .i64 t))))
    (
    cond (decide (i < (ga0.rows.length : Int)))
      (
      oreq (decide ((0 : Int) ≤ i ∧ i < (ga0.rows.length : Int))) <|
      (ga0.rows[i.toNat]?).bind fun (e1 : registry_row) =>
      (registry_Registry_find_1 e1 ida1).bind fun x11 =>
      some (.inr ((i, x11 == 0))))
      (
      some (.inr ((i, false)))))
def registry_Registry_findF (registry_Registry_find_1 : registry_row → Int → Option Int) (ga0 : registry_Registry) (ida1 : Int) : Option (Int × Bool) :=
  iter (fun st => registry_Registry_find_s1 registry_Registry_find_1 ga0 ida1 st.1 st.2) FUEL (0, (ga0.rows.length : Int))
def rx71 (x : Int × Bool) : SRes := ⟨.tuple ⟨[.int .i64 x.1, .bool x.2]⟩, [], [none, none]⟩
def r71 (g : registry_Registry → Int → Option (Int × Bool)) : Dec := dTr 2 (udregistry_Registry 0) fun (y0 : registry_Registry) => dV (asI .i64) fun (y1 : Int) => dEnd (ofG (g y0 y1) rx71)
theorem r71_c {g : registry_Registry → Int → Option (Int × Bool)} {y0 : registry_Registry} {y1 : Int} {x : Int × Bool} (hx : g y0 y1 = some x) : r71 g [.pointer (some ⟨0, 0, none⟩), .int .i64 y1] [some [.int .i64 y0.rule.Rise, .int .i64 y0.rule.Fall, .slice (some ⟨1, 0, none⟩) y0.rows.length 9, .int .i64 y0.last, .int .i64 y0.version], some (vT cregistry_row y0.rows)] = some (rx71 x) := (dTr_eq rfl rfl (udregistry_Registry_c 0 _)).trans ((dV_eq (asI_c _)).trans (ofG_eq hx))
def s71 (g : registry_Registry → Int → Option (Int × Bool)) : Summ := ⟨[.tr [⟨none, 0, 0, 0, none⟩, ⟨some 0, 2, 0, 0, some 9⟩], .v], r71 g⟩
theorem r71_eq {g : registry_Registry → Int → Option (Int × Bool)} {y0 : registry_Registry} {y1 : Int} {x : Int × Bool} (hx : g y0 y1 = some x) : (s71 g).run [.pointer (some ⟨0, 0, none⟩), .int .i64 y1] [some [.int .i64 y0.rule.Rise, .int .i64 y0.rule.Fall, .slice (some ⟨1, 0, none⟩) y0.rows.length 9, .int .i64 y0.last, .int .i64 y0.version], some (vT cregistry_row y0.rows)] = some (rx71 x) := r71_c hx
abbrev sums71 (registry_Registry_find_1 : registry_row → Int → Option Int) : List (Nat × Summ) := [(123, s123 registry_Registry_find_1)]
def head71_1 (ga0 : registry_Registry) (ida1 : Int) (i : Int) (xj : Int) : VM :=
  ⟨⟨122, 49, [(0, .slice (some ⟨1, 0, none⟩) ga0.rows.length 9), (1, .int .i64 ida1), (2, .func (.func 123) ⟨[]⟩ ⟨[]⟩), (8, .int .i64 (ga0.rows.length : Int)), (9, .int .i64 i), (10, .int .i64 xj)], [.code k122_14, .inLoop k122_14, .inBlock 0, .code k122_18], [], false, none⟩, [⟨71, 14, [], [.inReg (opsD k71_1 5), .code .ret], [], false, none⟩], [(0, .row false [.int .i64 ga0.rule.Rise, .int .i64 ga0.rule.Fall, .slice (some ⟨1, 0, none⟩) ga0.rows.length 9, .int .i64 ga0.last, .int .i64 ga0.version]), (1, .row false (vT cregistry_row ga0.rows))], 2⟩
theorem loop71_1 (registry_Registry_find_1 : registry_row → Int → Option Int) (hS : SumsOK Try.prog (aget (sums71 registry_Registry_find_1))) (ga0 : registry_Registry) (ida1 : Int) (res : Int × Bool) : ∀ fuel (st : Int × Int) (o : Int × Bool), iter (fun st => registry_Registry_find_s1 registry_Registry_find_1 ga0 ida1 st.1 st.2) fuel st = some o → (o = res) →
    Leads Try.prog 71 2 (head71_1 ga0 ida1 st.1 st.2) (fun v H _ => Res 2 (rx71 res) v H) := by
  intro fuel st o h hc
  refine iter_leads (head := fun st => head71_1 ga0 ida1 st.1 st.2) (C := fun o => (o = res)) ?_ fuel st o h hc
  clear h hc o st fuel
  intro st o h hc
  obtain ⟨i, xj⟩ := st
  replace h : registry_Registry_find_s1 registry_Registry_find_1 ga0 ida1 i xj = some o := h
  show Leads Try.prog 71 2 (head71_1 ga0 ida1 i xj) (fun v H _ => Res 2 (rx71 res) v H)
  unfold registry_Registry_find_s1 at h
  refine ev_ok tab_ok hS true 3000 ?_
  conv => whnf
  refine br.h2 h ?_ ?_ ?_
  · rfl
  · clear h; intro hb h; conv => whnf
    refine br.h2 h ?_ ?_ ?_
    · rfl
    · clear h; intro hb h; conv => whnf
      all_goals (cases h; cases hc)
      all_goals exact Res.of [] rfl nw_0 (by decide) js_0 (wr_n (wr_n wr_0))
    clear h; intro hb h; conv => whnf
    replace h := oreq.elim h; obtain ⟨hb, h⟩ := h
    first | (refine req.intro hb ?_; conv => whnf) | skip
    replace h := obind.elim h; obtain ⟨e1, hy, h⟩ := h
    refine ld_T cregistry_row_len hy (by first | omega | exact Nat.zero_add _ | exact congrArg (· + _) (Nat.zero_add _)) rfl ?_
    conv => whnf
    replace h := obind.elim h; obtain ⟨x11, hy, h⟩ := h
    refine sumK.q rfl rfl (r123_eq hy) rfl rfl rfl ?_
    conv => whnf
    all_goals (cases h; cases hc)
    all_goals exact Res.of [] rfl nw_0 (by decide) js_0 (wr_n (wr_n wr_0))
  clear h; intro hb h; conv => whnf
  let t : Int := (wI .u64 (wI .i64 (i + xj))).fdiv (2 ^ 1)
  replace h := oreq.elim h; obtain ⟨hb, h⟩ := h
  first | (refine req.intro hb ?_; conv => whnf) | skip
  replace h := obind.elim h; obtain ⟨e, hy, h⟩ := h
  refine ld_T cregistry_row_len hy (by first | omega | exact Nat.zero_add _ | exact congrArg (· + _) (Nat.zero_add _)) rfl ?_
  conv => whnf
  replace h := obind.elim h; obtain ⟨x1, hy, h⟩ := h
  refine sumK.q rfl rfl (r123_eq hy) rfl rfl rfl ?_
  conv => whnf
  refine br.h h ?_ ?_ ?_
  · rfl
  · clear h; intro hb h; conv => whnf
    cases h; simp only [Sum.elim_inl, head71_1] at hc
    exact lrA1 hc [(0, 0), (1, 1)] rfl
  clear h; intro hb h; conv => whnf
  cases h; simp only [Sum.elim_inl, head71_1] at hc
  exact lrA1 hc [(0, 0), (1, 1)] rfl
theorem leads71 (registry_Registry_find_1 : registry_row → Int → Option Int) (hS : SumsOK Try.prog (aget (sums71 registry_Registry_find_1))) (ga0 : registry_Registry) (ida1 : Int) (res : Int × Bool) (h : registry_Registry_findF registry_Registry_find_1 ga0 ida1 = some res) :
    Leads Try.prog 71 2 ⟨⟨71, 14, [(0, .pointer (some ⟨0, 0, none⟩)), (1, .int .i64 ida1)], [.code k71_3], [], false, none⟩, [], [(0, .row false [.int .i64 ga0.rule.Rise, .int .i64 ga0.rule.Fall, .slice (some ⟨1, 0, none⟩) ga0.rows.length 9, .int .i64 ga0.last, .int .i64 ga0.version]), (1, .row false (vT cregistry_row ga0.rows))], 2⟩ (fun v H _ => Res 2 (rx71 res) v H) := by
  unfold registry_Registry_findF at h
  refine ev_ok tab_ok hS true 3000 ?_
  conv => whnf
  have hl := loop71_1 registry_Registry_find_1 hS _ _ res _ _ _ h rfl; simp only [head71_1] at hl
  exact lrA1 hl [(0, 0), (1, 1)] rfl
theorem ok71 (registry_Registry_find_1 : registry_row → Int → Option Int) (hS : SumsOK Try.prog (aget (sums71 registry_Registry_find_1))) : SumOK Try.prog 71 (s71 (registry_Registry_findF registry_Registry_find_1)) := by
  refine SumOK.of_leads tab_ok (fun ar os r ha hr => ?_) ⟨Try.f71, rfl, by decide, rfl⟩
  replace hr : r71 (registry_Registry_findF registry_Registry_find_1) ar (conts os) = some r := hr
  unfold r71 at hr
  generalize hc : conts os = C at hr
  have hq := dTr.elim hr; clear hr; obtain ⟨v0, l1, c0, C, y0, rfl, rfl, e0, hr⟩ := hq; obtain ⟨rfl, rfl⟩ := udregistry_Registry_eq e0; simp only [List.nil_append, List.cons_append] at hc
  replace hr := dV.elim hr; obtain ⟨v1, l2, y1, rfl, e1, hr⟩ := hr; obtain rfl := asI_eq _ _ _ e1
  replace hr := dFin hr; obtain ⟨rfl, rfl, x, h, rfl⟩ := hr
  obtain ⟨os, rfl, ha, hc⟩ := kinds_some ha hc
  obtain ⟨os, rfl, ha, hc⟩ := kinds_some ha hc
  obtain rfl := kinds_nil hc
  exact ⟨_, rfl, leads71 registry_Registry_find_1 hS _ _ x h⟩
def registry_Registry_find : registry_Registry → Int → Option (Int × Bool) := registry_Registry_findF registry_Registry_find_1
theorem lift71 : SumOK Try.prog 71 (s71 registry_Registry_find) := ok71 registry_Registry_find_1 (SumsOK.of_tab ⟨lift123, trivial⟩)
def registry_Registry_Remove_s1 (ga0 : registry_Registry) (ida1 : Int) (i : Int) (xj : Int) (s1 : List registry_row) : Option (Sum (Int × Int × (List registry_row)) (Int × registry_Registry)) :=
  cond (decide (xj < (s1.length : Int)))
    (
    oreq (decide ((0 : Int) ≤ xj ∧ xj < (s1.length : Int))) <|
    (s1[xj.toNat]?).bind fun (e1 : registry_row) =>
    cond (!(e1.Backend.ID == ida1))
      (
      oreq (decide ((0 : Int) ≤ i ∧ i < (s1.length : Int))) <|
      oreq (decide (i.toNat < s1.length)) <|
      let row := s1.set i.toNat e1
      some (.inl (wI .i64 (i + 1), wI .i64 (xj + 1), row)))
      (
      some (.inl (i, wI .i64 (xj + 1), s1))))
    (
    oreq (decide ((0 : Int) ≤ i ∧ i ≤ (s1.length : Int))) <|
    oreq (decide (i.toNat + (s1.length - i.toNat) = s1.length)) <|
    let row1 := s1.take i.toNat
    oreq (decide ((0 : Int) ≤ i ∧ i ≤ (s1.length : Int))) <|
    some (.inr ((0, registry_Registry.mk ga0.rule row1 ga0.last (wI .i64 (ga0.version + 1))))))
def registry_Registry_Remove_s2 (ga0 : registry_Registry) (ida1 : Int) (t8 : Int) : Option (Sum Int (Int × registry_Registry)) :=
  cond (decide (t8 < (ga0.rows.length : Int)))
    (
    oreq (decide ((0 : Int) ≤ t8 ∧ t8 < (ga0.rows.length : Int))) <|
    (ga0.rows[t8.toNat]?).bind fun (e : registry_row) =>
    cond (e.Backend.ID == ida1)
      (
      cond (t8 == (-1))
        (
        some (.inr ((0, registry_Registry.mk ga0.rule ga0.rows ga0.last (wI .i64 (ga0.version + 1))))))
        (
        (iter (fun st => registry_Registry_Remove_s1 ga0 ida1 st.1 st.2.1 st.2.2) FUEL (t8, wI .i64 (t8 + 1), ga0.rows)).bind fun o => some (.inr (o))))
      (
      some (.inl (wI .i64 (t8 + 1)))))
    (
    some (.inr ((0, registry_Registry.mk ga0.rule ga0.rows ga0.last (wI .i64 (ga0.version + 1))))))
def registry_Registry_RemoveF (registry_Registry_find : registry_Registry → Int → Option (Int × Bool)) (registry_Registry_given : registry_Registry → Option Bool) (ga0 : registry_Registry) (ida1 : Int) : Option (Int × registry_Registry) :=
  (registry_Registry_given ga0).bind fun xg =>
  cond (!xg)
    (
    some ((1, ga0)))
    (
    (registry_Registry_find ga0 ida1).bind fun f =>
    cond (!f.2)
      (
      some ((13, ga0)))
      (
      oreq (decide ((0 : Int) ≤ f.1 ∧ f.1 < (ga0.rows.length : Int))) <|
      iter (fun st => registry_Registry_Remove_s2 ga0 ida1 st) FUEL 0))
def rx27 (x : Int × registry_Registry) : SRes := ⟨.int .i64 x.1, [(vT cregistry_row x.2.rows)], [some [.int .i64 x.2.rule.Rise, .int .i64 x.2.rule.Fall, .slice (some ⟨0, 0, none⟩) x.2.rows.length 9, .int .i64 x.2.last, .int .i64 x.2.version], none]⟩
def r27 (g : registry_Registry → Int → Option (Int × registry_Registry)) : Dec := dTr 2 (udregistry_Registry 0) fun (y0 : registry_Registry) => dV (asI .i64) fun (y1 : Int) => dEnd (ofG (g y0 y1) rx27)
theorem r27_c {g : registry_Registry → Int → Option (Int × registry_Registry)} {y0 : registry_Registry} {y1 : Int} {x : Int × registry_Registry} (hx : g y0 y1 = some x) : r27 g [.pointer (some ⟨0, 0, none⟩), .int .i64 y1] [some [.int .i64 y0.rule.Rise, .int .i64 y0.rule.Fall, .slice (some ⟨1, 0, none⟩) y0.rows.length 9, .int .i64 y0.last, .int .i64 y0.version], some (vT cregistry_row y0.rows)] = some (rx27 x) := (dTr_eq rfl rfl (udregistry_Registry_c 0 _)).trans ((dV_eq (asI_c _)).trans (ofG_eq hx))
def s27 (g : registry_Registry → Int → Option (Int × registry_Registry)) : Summ := ⟨[.tr [⟨none, 0, 0, 1, none⟩, ⟨some 0, 2, 0, 2, some 9⟩], .v], r27 g⟩
theorem r27_eq {g : registry_Registry → Int → Option (Int × registry_Registry)} {y0 : registry_Registry} {y1 : Int} {x : Int × registry_Registry} (hx : g y0 y1 = some x) : (s27 g).run [.pointer (some ⟨0, 0, none⟩), .int .i64 y1] [some [.int .i64 y0.rule.Rise, .int .i64 y0.rule.Fall, .slice (some ⟨1, 0, none⟩) y0.rows.length 9, .int .i64 y0.last, .int .i64 y0.version], some (vT cregistry_row y0.rows)] = some (rx27 x) := r27_c hx
abbrev sums27 (registry_Registry_find : registry_Registry → Int → Option (Int × Bool)) (registry_Registry_given : registry_Registry → Option Bool) : List (Nat × Summ) := [(71, s71 registry_Registry_find), (70, s70 registry_Registry_given)]
def head27_1 (ga0 : registry_Registry) (ida1 : Int) (i : Int) (xj : Int) (s1 : List registry_row) : VM :=
  ⟨⟨85, 42, [(0, .slice (some ⟨1, 0, none⟩) s1.length 9), (1, .func (.func 86) ⟨[]⟩ ⟨[.pointer (some ⟨2, 0, none⟩)]⟩), (5, .int .i64 i), (6, .int .i64 xj)], [.code k85_22, .inLoop k85_22, .inBlock 0, .code k85_29], [], false, none⟩, [⟨27, 21, [(5, .int .i64 0), (11, .pointer (some ⟨0, 0, none⟩))], [.inReg (opsD k27_3 6), .code k27_7], [], false, none⟩], [(0, .cells [.int .i64 ga0.rule.Rise, .int .i64 ga0.rule.Fall, .slice (some ⟨1, 0, none⟩) s1.length 9, .int .i64 ga0.last, .int .i64 (wI .i64 (ga0.version + 1))]), (1, .row true (vT cregistry_row s1)), (2, .cells [.int .i64 ida1])], 4⟩
def head27_2 (ga0 : registry_Registry) (ida1 : Int) (t8 : Int) : VM :=
  ⟨⟨127, 19, [(0, .slice (some ⟨1, 0, none⟩) ga0.rows.length 9), (1, .func (.func 86) ⟨[]⟩ ⟨[.pointer (some ⟨2, 0, none⟩)]⟩), (7, .int .i64 (ga0.rows.length : Int)), (8, .int .i64 t8)], [.code k127_15, .inLoop k127_15, .inBlock 0, .code k127_20], [], false, none⟩, [⟨85, 42, [(0, .slice (some ⟨1, 0, none⟩) ga0.rows.length 9), (1, .func (.func 86) ⟨[]⟩ ⟨[.pointer (some ⟨2, 0, none⟩)]⟩)], [.inReg (opsD k85_1 2), .code k85_31], [], false, none⟩, ⟨27, 21, [(5, .int .i64 0), (11, .pointer (some ⟨0, 0, none⟩))], [.inReg (opsD k27_3 6), .code k27_7], [], false, none⟩], [(0, .cells [.int .i64 ga0.rule.Rise, .int .i64 ga0.rule.Fall, .slice (some ⟨1, 0, none⟩) ga0.rows.length 9, .int .i64 ga0.last, .int .i64 (wI .i64 (ga0.version + 1))]), (1, .row true (vT cregistry_row ga0.rows)), (2, .cells [.int .i64 ida1])], 3⟩
theorem loop27_1 (registry_Registry_find : registry_Registry → Int → Option (Int × Bool)) (registry_Registry_given : registry_Registry → Option Bool) (hS : SumsOK Try.prog (aget (sums27 registry_Registry_find registry_Registry_given))) (ga0 : registry_Registry) (ida1 : Int) (res : Int × registry_Registry) : ∀ fuel (st : Int × Int × (List registry_row)) (o : Int × registry_Registry), iter (fun st => registry_Registry_Remove_s1 ga0 ida1 st.1 st.2.1 st.2.2) fuel st = some o → (o = res) →
    Leads Try.prog 27 2 (head27_1 ga0 ida1 st.1 st.2.1 st.2.2) (fun v H _ => Res 2 (rx27 res) v H) := by
  intro fuel st o h hc
  refine iter_leads (head := fun st => head27_1 ga0 ida1 st.1 st.2.1 st.2.2) (C := fun o => (o = res)) ?_ fuel st o h hc
  clear h hc o st fuel
  intro st o h hc
  obtain ⟨i, xj, s1⟩ := st
  replace h : registry_Registry_Remove_s1 ga0 ida1 i xj s1 = some o := h
  show Leads Try.prog 27 2 (head27_1 ga0 ida1 i xj s1) (fun v H _ => Res 2 (rx27 res) v H)
  unfold registry_Registry_Remove_s1 at h
  refine ev_ok tab_ok hS true 3000 ?_
  conv => whnf
  refine br.h2 h ?_ ?_ ?_
  · rfl
  · clear h; intro hb h; conv => whnf
    replace h := oreq.elim h; obtain ⟨hb, h⟩ := h
    first | (refine req.intro hb ?_; conv => whnf) | skip
    replace h := oreq.elim h; obtain ⟨hb, h⟩ := h
    refine clr_T cregistry_row_len hb (by first | rfl | omega) ⟨rfl, rfl, rfl⟩ ?_
    conv => whnf
    let row1 : List registry_row := s1.take i.toNat
    have hcut : i.toNat = row1.length := cut_len hb
    conv => whnf
    replace h := oreq.elim h; obtain ⟨hb, h⟩ := h
    first | (refine req.intro hb ?_; conv => whnf) | skip
    try rw [show i.toNat = row1.length from hcut]
    try rw [show s1.take row1.length = row1 from (congrArg (fun n => s1.take n) hcut).symm]
    conv => whnf
    all_goals (cases h; cases hc)
    all_goals exact Res.of [1] rfl (nw_s (rn_T cregistry_row_flat) (hs_row rfl) nw_0) (by decide) (js_r rfl js_0) (wr_s (rfl) (hs_cells rfl) (wr_n wr_0))
  clear h; intro hb h; conv => whnf
  replace h := oreq.elim h; obtain ⟨hb, h⟩ := h
  first | (refine req.intro hb ?_; conv => whnf) | skip
  replace h := obind.elim h; obtain ⟨e1, hy, h⟩ := h
  refine ld_T cregistry_row_len hy (by first | omega | exact Nat.zero_add _ | exact congrArg (· + _) (Nat.zero_add _)) rfl ?_
  conv => whnf
  refine br.h2 h ?_ ?_ ?_
  · rfl
  · clear h; intro hb h; conv => whnf
    cases h; simp only [Sum.elim_inl, head27_1] at hc
    exact lrA1 hc [(0, 0), (1, 1), (2, 2)] rfl
  clear h; intro hb h; conv => whnf
  replace h := oreq.elim h; obtain ⟨hb, h⟩ := h
  first | (refine req.intro hb ?_; conv => whnf) | skip
  replace h := oreq.elim h; obtain ⟨hb, h⟩ := h
  refine st_TN cregistry_row_len hb (by omega) rfl rfl rfl ?_
  conv => whnf
  let row : List registry_row := s1.set i.toNat e1
  try rw [show s1.length = row.length from (List.length_set ..).symm]
  conv => whnf
  cases h; simp only [Sum.elim_inl, head27_1] at hc
  exact lrA1 hc [(0, 0), (1, 1), (2, 2)] rfl
theorem loop27_2 (registry_Registry_find : registry_Registry → Int → Option (Int × Bool)) (registry_Registry_given : registry_Registry → Option Bool) (hS : SumsOK Try.prog (aget (sums27 registry_Registry_find registry_Registry_given))) (ga0 : registry_Registry) (ida1 : Int) (res : Int × registry_Registry) : ∀ fuel (st : Int) (o : Int × registry_Registry), iter (fun st => registry_Registry_Remove_s2 ga0 ida1 st) fuel st = some o → (o = res) →
    Leads Try.prog 27 2 (head27_2 ga0 ida1 st) (fun v H _ => Res 2 (rx27 res) v H) := by
  intro fuel st o h hc
  refine iter_leads (head := fun st => head27_2 ga0 ida1 st) (C := fun o => (o = res)) ?_ fuel st o h hc
  clear h hc o st fuel
  intro t8 o h hc
  replace h : registry_Registry_Remove_s2 ga0 ida1 t8 = some o := h
  show Leads Try.prog 27 2 (head27_2 ga0 ida1 t8) (fun v H _ => Res 2 (rx27 res) v H)
  unfold registry_Registry_Remove_s2 at h
  refine ev_ok tab_ok hS true 3000 ?_
  conv => whnf
  refine br.h2 h ?_ ?_ ?_
  · rfl
  · clear h; intro hb h; conv => whnf
    all_goals (cases h; cases hc)
    all_goals exact Res.of [1] rfl (nw_s (rn_T cregistry_row_flat) (hs_row rfl) nw_0) (by decide) (js_r rfl js_0) (wr_s (rfl) (hs_cells rfl) (wr_n wr_0))
  clear h; intro hb h; conv => whnf
  replace h := oreq.elim h; obtain ⟨hb, h⟩ := h
  first | (refine req.intro hb ?_; conv => whnf) | skip
  replace h := obind.elim h; obtain ⟨e, hy, h⟩ := h
  refine ld_T cregistry_row_len hy (by first | omega | exact Nat.zero_add _ | exact congrArg (· + _) (Nat.zero_add _)) rfl ?_
  conv => whnf
  refine br.h2 h ?_ ?_ ?_
  · rfl
  · clear h; intro hb h; conv => whnf
    cases h; simp only [Sum.elim_inl, head27_2] at hc
    exact lrA1 hc [(0, 0), (1, 1), (2, 2)] rfl
  clear h; intro hb h; conv => whnf
  refine br.h h ?_ ?_ ?_
  · rfl
  · clear h; intro hb h; conv => whnf
    all_goals (cases h; cases hc)
    all_goals exact Res.of [1] rfl (nw_s (rn_T cregistry_row_flat) (hs_row rfl) nw_0) (by decide) (js_r rfl js_0) (wr_s (rfl) (hs_cells rfl) (wr_n wr_0))
  clear h; intro hb h; conv => whnf
  obtain ⟨y, hy, h2⟩ := obind.elim h; cases h2
  have hl := loop27_1 registry_Registry_find registry_Registry_given hS _ _ res _ _ _ hy hc; simp only [head27_1] at hl
  exact lrA1 hl [(0, 0), (1, 1), (2, 2)] rfl
theorem leads27 (registry_Registry_find : registry_Registry → Int → Option (Int × Bool)) (registry_Registry_given : registry_Registry → Option Bool) (hS : SumsOK Try.prog (aget (sums27 registry_Registry_find registry_Registry_given))) (ga0 : registry_Registry) (ida1 : Int) (res : Int × registry_Registry) (h : registry_Registry_RemoveF registry_Registry_find registry_Registry_given ga0 ida1 = some res) :
    Leads Try.prog 27 2 ⟨⟨27, 21, [(0, .pointer (some ⟨0, 0, none⟩)), (1, .int .i64 ida1)], [.code k27_10], [], false, none⟩, [], [(0, .cells [.int .i64 ga0.rule.Rise, .int .i64 ga0.rule.Fall, .slice (some ⟨1, 0, none⟩) ga0.rows.length 9, .int .i64 ga0.last, .int .i64 ga0.version]), (1, .row true (vT cregistry_row ga0.rows))], 2⟩ (fun v H _ => Res 2 (rx27 res) v H) := by
  unfold registry_Registry_RemoveF at h
  refine ev_ok tab_ok hS true 3000 ?_
  conv => whnf
  replace h := obind.elim h; obtain ⟨xg, hy, h⟩ := h
  refine sumK.introF [] (sumRun_of (aqs := [.pointer (some ⟨0, 0, none⟩)]) (ws := [.blk 0 false, .blk 1 false]) (n := 0) (m := 0) (t' := 3) (ra_cons (ra_tr rfl rfl (vp_at rfl rfl rfl rfl (vp_at rfl rfl (rn_T cregistry_row_flat) rfl vp_nil)) rfl) rfl ra_nil) rfl (by rfl) (r70_eq hy) rfl rfl rfl rfl (wb_skip rfl (wb_skip rfl wb_nil)) an_nil rfl) ?_
  conv => whnf
  refine br.h h ?_ ?_ ?_
  · rfl
  · clear h; intro hb h; conv => whnf
    all_goals (cases h)
    all_goals exact Res.of [1] rfl (nw_s (rn_T cregistry_row_flat) (hs_row rfl) nw_0) (by decide) (js_r rfl js_0) (wr_s (rfl) (hs_cells rfl) (wr_n wr_0))
  clear h; intro hb h; conv => whnf
  replace h := obind.elim h; obtain ⟨f, hy, h⟩ := h
  refine sumK.introF [] (sumRun_of (aqs := [.pointer (some ⟨0, 0, none⟩), .int .i64 ida1]) (ws := [.blk 0 false, .blk 1 false]) (n := 0) (m := 0) (t' := 3) (ra_cons (ra_tr rfl rfl (vp_at rfl rfl rfl rfl (vp_at rfl rfl (rn_T cregistry_row_flat) rfl vp_nil)) rfl) rfl (ra_cons rfl rfl ra_nil)) rfl (by rfl) (r71_eq hy) rfl rfl rfl rfl (wb_skip rfl (wb_skip rfl wb_nil)) an_nil rfl) ?_
  conv => whnf
  refine br.h h ?_ ?_ ?_
  · rfl
  · clear h; intro hb h; conv => whnf
    all_goals (cases h)
    all_goals exact Res.of [1] rfl (nw_s (rn_T cregistry_row_flat) (hs_row rfl) nw_0) (by decide) (js_r rfl js_0) (wr_s (rfl) (hs_cells rfl) (wr_n wr_0))
  clear h; intro hb h; conv => whnf
  replace h := oreq.elim h; obtain ⟨hb, h⟩ := h
  first | (refine req.intro hb ?_; conv => whnf) | skip
  have hl := loop27_2 registry_Registry_find registry_Registry_given hS _ _ res _ _ _ h rfl; simp only [head27_2] at hl
  exact lrA1 hl [(0, 0), (1, 1), (2, 2)] rfl
theorem ok27 (registry_Registry_find : registry_Registry → Int → Option (Int × Bool)) (registry_Registry_given : registry_Registry → Option Bool) (hS : SumsOK Try.prog (aget (sums27 registry_Registry_find registry_Registry_given))) : SumOK Try.prog 27 (s27 (registry_Registry_RemoveF registry_Registry_find registry_Registry_given)) := by
  refine SumOK.of_leads tab_ok (fun ar os r ha hr => ?_) ⟨Try.f27, rfl, by decide, rfl⟩
  replace hr : r27 (registry_Registry_RemoveF registry_Registry_find registry_Registry_given) ar (conts os) = some r := hr
  unfold r27 at hr
  generalize hc : conts os = C at hr
  have hq := dTr.elim hr; clear hr; obtain ⟨v0, l1, c0, C, y0, rfl, rfl, e0, hr⟩ := hq; obtain ⟨rfl, rfl⟩ := udregistry_Registry_eq e0; simp only [List.nil_append, List.cons_append] at hc
  replace hr := dV.elim hr; obtain ⟨v1, l2, y1, rfl, e1, hr⟩ := hr; obtain rfl := asI_eq _ _ _ e1
  replace hr := dFin hr; obtain ⟨rfl, rfl, x, h, rfl⟩ := hr
  obtain ⟨os, rfl, ha, hc⟩ := kinds_some ha hc
  obtain ⟨os, rfl, ha, hc⟩ := kinds_some ha hc
  obtain rfl := kinds_nil hc
  exact ⟨_, rfl, leads27 registry_Registry_find registry_Registry_given hS _ _ x h⟩
def registry_Registry_Remove : registry_Registry → Int → Option (Int × registry_Registry) := registry_Registry_RemoveF registry_Registry_find registry_Registry_given
theorem lift27 : SumOK Try.prog 27 (s27 registry_Registry_Remove) := ok27 registry_Registry_find registry_Registry_given (SumsOK.of_tab ⟨lift71, lift70, trivial⟩)
def registry_row_toldF (ra0 : registry_row) : Option api_Backend :=
  cond (ra0.drains)
    (
    some (api_Backend.mk ra0.Backend.ID ra0.Backend.Weight 3 ra0.Backend.Addr))
    (
    cond (ra0.health.Up)
      (
      some (api_Backend.mk ra0.Backend.ID ra0.Backend.Weight 1 ra0.Backend.Addr))
      (
      some (api_Backend.mk ra0.Backend.ID ra0.Backend.Weight 2 ra0.Backend.Addr)))
def rx72 (x : api_Backend) : SRes := ⟨.agg ⟨[.int .i64 x.ID, .int .i64 x.Weight, .int .i64 x.State, .bool x.Addr.V6, .int .u64 x.Addr.Hi, .int .u64 x.Addr.Lo]⟩, [], []⟩
def r72 (g : registry_row → Option api_Backend) : Dec := dV uvregistry_row fun (y0 : registry_row) => dEnd (ofG (g y0) rx72)
theorem r72_c {g : registry_row → Option api_Backend} {y0 : registry_row} {x : api_Backend} (hx : g y0 = some x) : r72 g [.agg ⟨[.int .i64 y0.Backend.ID, .int .i64 y0.Backend.Weight, .int .i64 y0.Backend.State, .bool y0.Backend.Addr.V6, .int .u64 y0.Backend.Addr.Hi, .int .u64 y0.Backend.Addr.Lo, .bool y0.drains, .bool y0.health.Up, .int .i64 y0.health.Run]⟩] [] = some (rx72 x) := (dV_eq (uvregistry_row_c _)).trans (ofG_eq hx)
def s72 (g : registry_row → Option api_Backend) : Summ := ⟨[.v], r72 g⟩
theorem r72_eq {g : registry_row → Option api_Backend} {y0 : registry_row} {x : api_Backend} (hx : g y0 = some x) : (s72 g).run [.agg ⟨[.int .i64 y0.Backend.ID, .int .i64 y0.Backend.Weight, .int .i64 y0.Backend.State, .bool y0.Backend.Addr.V6, .int .u64 y0.Backend.Addr.Hi, .int .u64 y0.Backend.Addr.Lo, .bool y0.drains, .bool y0.health.Up, .int .i64 y0.health.Run]⟩] [] = some (rx72 x) := r72_c hx
abbrev sums72 : List (Nat × Summ) := []
theorem leads72 (hS : SumsOK Try.prog (aget (sums72))) (ra0 : registry_row) (res : api_Backend) (h : registry_row_toldF ra0 = some res) :
    Leads Try.prog 72 0 ⟨⟨72, 17, [(0, .agg ⟨[.int .i64 ra0.Backend.ID, .int .i64 ra0.Backend.Weight, .int .i64 ra0.Backend.State, .bool ra0.Backend.Addr.V6, .int .u64 ra0.Backend.Addr.Hi, .int .u64 ra0.Backend.Addr.Lo, .bool ra0.drains, .bool ra0.health.Up, .int .i64 ra0.health.Run]⟩)], [.code k72_16], [], false, none⟩, [], [], 0⟩ (fun v H _ => Res 0 (rx72 res) v H) := by
  unfold registry_row_toldF at h
  refine ev_ok tab_ok hS true 3000 ?_
  conv => whnf
  refine br.h h ?_ ?_ ?_
  · rfl
  · clear h; intro hb h; conv => whnf
    all_goals (cases h; exact Res.z rfl rfl rfl)
  clear h; intro hb h; conv => whnf
  refine br.h h ?_ ?_ ?_
  · rfl
  · clear h; intro hb h; conv => whnf
    all_goals (cases h; exact Res.z rfl rfl rfl)
  clear h; intro hb h; conv => whnf
  all_goals (cases h; exact Res.z rfl rfl rfl)
theorem ok72 (hS : SumsOK Try.prog (aget (sums72))) : SumOK Try.prog 72 (s72 (registry_row_toldF)) := by
  refine SumOK.of_leads tab_ok (fun ar os r ha hr => ?_) ⟨Try.f72, rfl, by decide, rfl⟩
  replace hr : r72 (registry_row_toldF) ar (conts os) = some r := hr
  unfold r72 at hr
  generalize hc : conts os = C at hr
  replace hr := dV.elim hr; obtain ⟨v0, l1, y0, rfl, e0, hr⟩ := hr; obtain rfl := uvregistry_row_eq _ _ e0
  replace hr := dFin hr; obtain ⟨rfl, rfl, x, h, rfl⟩ := hr
  obtain rfl := kinds_nil hc
  exact ⟨_, rfl, leads72 hS _ x h⟩
def registry_row_told : registry_row → Option api_Backend := registry_row_toldF
theorem lift72 : SumOK Try.prog 72 (s72 registry_row_told) := ok72 (SumsOK.of_tab trivial)
def registry_Registry_List_s1 (registry_row_told : registry_row → Option api_Backend) (ga0 : registry_Registry) (t14 : Int) (out1 : List api_Backend) : Option (Sum (Int × (List api_Backend)) (List api_Backend)) :=
  cond (decide (t14 < (ga0.rows.length : Int)))
    (
    oreq (decide ((0 : Int) ≤ t14 ∧ t14 < (ga0.rows.length : Int))) <|
    (ga0.rows[t14.toNat]?).bind fun (e : registry_row) =>
    (registry_row_told e).bind fun t =>
    oreq (decide ((out1.length + 1) * 48 ≤ 2 ^ 47)) <|
    let row := out1 ++ [t]
    some (.inl (wI .i64 (t14 + 1), row)))
    (
    some (.inr (out1)))
def registry_Registry_ListF (registry_Registry_given : registry_Registry → Option Bool) (registry_row_told : registry_row → Option api_Backend) (ga0 : registry_Registry) : Option (List api_Backend) :=
  (registry_Registry_given ga0).bind fun xg =>
  cond (!xg)
    (
    some ([]))
    (
    iter (fun st => registry_Registry_List_s1 registry_row_told ga0 st.1 st.2) FUEL (0, []))
def rx22 (x : List api_Backend) : SRes := ⟨.slice (some ⟨0, 0, none⟩) x.length 6, [(vT capi_Backend x)], [none, none]⟩
def r22 (g : registry_Registry → Option (List api_Backend)) : Dec := dTr 2 (udregistry_Registry 0) fun (y0 : registry_Registry) => dEnd (ofG (g y0) rx22)
theorem r22_c {g : registry_Registry → Option (List api_Backend)} {y0 : registry_Registry} {x : List api_Backend} (hx : g y0 = some x) : r22 g [.pointer (some ⟨0, 0, none⟩)] [some [.int .i64 y0.rule.Rise, .int .i64 y0.rule.Fall, .slice (some ⟨1, 0, none⟩) y0.rows.length 9, .int .i64 y0.last, .int .i64 y0.version], some (vT cregistry_row y0.rows)] = some (rx22 x) := (dTr_eq rfl rfl (udregistry_Registry_c 0 _)).trans (ofG_eq hx)
def s22 (g : registry_Registry → Option (List api_Backend)) : Summ := ⟨[.tr [⟨none, 0, 0, 0, none⟩, ⟨some 0, 2, 0, 0, some 9⟩]], r22 g⟩
theorem r22_eq {g : registry_Registry → Option (List api_Backend)} {y0 : registry_Registry} {x : List api_Backend} (hx : g y0 = some x) : (s22 g).run [.pointer (some ⟨0, 0, none⟩)] [some [.int .i64 y0.rule.Rise, .int .i64 y0.rule.Fall, .slice (some ⟨1, 0, none⟩) y0.rows.length 9, .int .i64 y0.last, .int .i64 y0.version], some (vT cregistry_row y0.rows)] = some (rx22 x) := r22_c hx
abbrev sums22 (registry_Registry_given : registry_Registry → Option Bool) (registry_row_told : registry_row → Option api_Backend) : List (Nat × Summ) := [(70, s70 registry_Registry_given), (72, s72 registry_row_told)]
def head22_1 (ga0 : registry_Registry) (t14 : Int) (out1 : List api_Backend) : VM :=
  ⟨⟨22, 25, [(3, .slice (some ⟨2, 0, none⟩) out1.length 6), (12, .slice (some ⟨1, 0, none⟩) ga0.rows.length 9), (13, .int .i64 (ga0.rows.length : Int)), (14, .int .i64 t14)], [.code k22_17, .inLoop k22_17, .inBlock 0, .code k22_22], [], false, none⟩, [], [(0, .row false [.int .i64 ga0.rule.Rise, .int .i64 ga0.rule.Fall, .slice (some ⟨1, 0, none⟩) ga0.rows.length 9, .int .i64 ga0.last, .int .i64 ga0.version]), (1, .row false (vT cregistry_row ga0.rows)), (2, .row true (vT capi_Backend out1))], 3⟩
theorem loop22_1 (registry_Registry_given : registry_Registry → Option Bool) (registry_row_told : registry_row → Option api_Backend) (hS : SumsOK Try.prog (aget (sums22 registry_Registry_given registry_row_told))) (ga0 : registry_Registry) (res : List api_Backend) : ∀ fuel (st : Int × (List api_Backend)) (o : List api_Backend), iter (fun st => registry_Registry_List_s1 registry_row_told ga0 st.1 st.2) fuel st = some o → (o = res) →
    Leads Try.prog 22 2 (head22_1 ga0 st.1 st.2) (fun v H t => ∃ v' H' t', NilW v H t v' H' t' ∧ Res 2 (rx22 res) v' H') := by
  intro fuel st o h hc
  refine iter_leads (head := fun st => head22_1 ga0 st.1 st.2) (C := fun o => (o = res)) ?_ fuel st o h hc
  clear h hc o st fuel
  intro st o h hc
  obtain ⟨t14, out1⟩ := st
  replace h : registry_Registry_List_s1 registry_row_told ga0 t14 out1 = some o := h
  show Leads Try.prog 22 2 (head22_1 ga0 t14 out1) (fun v H t => ∃ v' H' t', NilW v H t v' H' t' ∧ Res 2 (rx22 res) v' H')
  unfold registry_Registry_List_s1 at h
  refine ev_ok tab_ok hS true 3000 ?_
  conv => whnf
  refine br.h2 h ?_ ?_ ?_
  · rfl
  · clear h; intro hb h; conv => whnf
    all_goals (cases h; cases hc)
    all_goals exact ⟨_, _, _, (.refl _ _ _), Res.of [2] rfl (nw_s (rn_T capi_Backend_flat) (hs_row rfl) nw_0) (by decide) (js_l (by decide) js_0) (wr_n (wr_n wr_0))⟩
  clear h; intro hb h; conv => whnf
  replace h := oreq.elim h; obtain ⟨hb, h⟩ := h
  first | (refine req.intro hb ?_; conv => whnf) | skip
  replace h := obind.elim h; obtain ⟨e, hy, h⟩ := h
  refine ld_T cregistry_row_len hy (by first | omega | exact Nat.zero_add _ | exact congrArg (· + _) (Nat.zero_add _)) rfl ?_
  conv => whnf
  replace h := obind.elim h; obtain ⟨t, hy, h⟩ := h
  refine sumK.q rfl rfl (r72_eq hy) rfl rfl rfl ?_
  conv => whnf
  replace h := oreq.elim h; obtain ⟨hb, h⟩ := h
  refine req.intro (ap_req (of_decide_eq_true hb) (by first | rfl | omega | (simp; done) | (simp; omega) | (simp at *; omega)) rfl (by first | rfl | omega | (simp; done) | (simp; omega) | (simp at *; omega)) (by first | rfl | exact vI_one _ _ | exact vS_one _ | exact vB_one _ | exact vT_one (by first | exact capi_Key_one | exact capi_Addr_one | exact capi_Backend_one | exact cArr4_Int_one | exact csip_Hasher_one | exact coctet_Reader_one | exact cR23_Step_one | exact chealth_Rule_one | exact chealth_State_one | exact cregistry_row_one) _ | (rw [ofBytes_vI]; exact vI_one _ _) | (simp [vI_one, vS_one, vB_one, vI_drop, vI_take, vS_drop, vS_take]; done) | (simp; exact List.all_eq_true.1 (vT_one (by first | exact capi_Key_one | exact capi_Addr_one | exact capi_Backend_one | exact cArr4_Int_one | exact csip_Hasher_one | exact coctet_Reader_one | exact cR23_Step_one | exact chealth_Rule_one | exact chealth_State_one | exact cregistry_row_one) _))) rfl) ?_
  conv => whnf
  let row : List api_Backend := out1 ++ [t]
  refine pk_apT capi_Backend_len (xs := out1) (ys := [t]) rfl (by first | rfl | omega) (by first | rfl | omega | (simp; done) | (simp; omega) | (simp at *; omega)) (by first | rfl | omega | (simp; done) | (simp; omega) | (simp at *; omega)) ?_
  conv => whnf
  cases h; simp only [Sum.elim_inl, head22_1] at hc
  exact lrA0 hc [(0, 0), (1, 1), (2, 5)] rfl
theorem leads22 (registry_Registry_given : registry_Registry → Option Bool) (registry_row_told : registry_row → Option api_Backend) (hS : SumsOK Try.prog (aget (sums22 registry_Registry_given registry_row_told))) (ga0 : registry_Registry) (res : List api_Backend) (h : registry_Registry_ListF registry_Registry_given registry_row_told ga0 = some res) :
    Leads Try.prog 22 2 ⟨⟨22, 25, [(0, .pointer (some ⟨0, 0, none⟩))], [.code k22_26], [], false, none⟩, [], [(0, .row false [.int .i64 ga0.rule.Rise, .int .i64 ga0.rule.Fall, .slice (some ⟨1, 0, none⟩) ga0.rows.length 9, .int .i64 ga0.last, .int .i64 ga0.version]), (1, .row false (vT cregistry_row ga0.rows))], 2⟩ (fun v H _ => Res 2 (rx22 res) v H) := by
  refine Leads.nilW (R := fun v' H' => Res 2 (rx22 res) v' H') ?_
  unfold registry_Registry_ListF at h
  refine ev_ok tab_ok hS true 3000 ?_
  conv => whnf
  replace h := obind.elim h; obtain ⟨xg, hy, h⟩ := h
  refine sumK.introF [] (sumRun_of (aqs := [.pointer (some ⟨0, 0, none⟩)]) (ws := [.blk 0 false, .blk 1 false]) (n := 0) (m := 0) (t' := 2) (ra_cons (ra_tr rfl rfl (vp_at rfl rfl rfl rfl (vp_at rfl rfl (rn_T cregistry_row_flat) rfl vp_nil)) rfl) rfl ra_nil) rfl (by rfl) (r70_eq hy) rfl rfl rfl rfl (wb_skip rfl (wb_skip rfl wb_nil)) an_nil rfl) ?_
  conv => whnf
  refine br.h h ?_ ?_ ?_
  · rfl
  · clear h; intro hb h; conv => whnf
    all_goals (cases h)
    all_goals exact ⟨_, _, _, (.val (.nil _ _) (.refl _ _ _)), Res.of [2] rfl (nw_s (rn_T capi_Backend_flat) (hs_row rfl) nw_0) (by decide) (js_l (by decide) js_0) (wr_n (wr_n wr_0))⟩
  clear h; intro hb h; conv => whnf
  have hl := loop22_1 registry_Registry_given registry_row_told hS _ res _ _ _ h rfl; simp only [head22_1] at hl
  refine Leads.nilT 3 6 ?_
  exact lrA0 hl [(0, 0), (1, 1), (2, 2)] rfl
theorem ok22 (registry_Registry_given : registry_Registry → Option Bool) (registry_row_told : registry_row → Option api_Backend) (hS : SumsOK Try.prog (aget (sums22 registry_Registry_given registry_row_told))) : SumOK Try.prog 22 (s22 (registry_Registry_ListF registry_Registry_given registry_row_told)) := by
  refine SumOK.of_leads tab_ok (fun ar os r ha hr => ?_) ⟨Try.f22, rfl, by decide, rfl⟩
  replace hr : r22 (registry_Registry_ListF registry_Registry_given registry_row_told) ar (conts os) = some r := hr
  unfold r22 at hr
  generalize hc : conts os = C at hr
  have hq := dTr.elim hr; clear hr; obtain ⟨v0, l1, c0, C, y0, rfl, rfl, e0, hr⟩ := hq; obtain ⟨rfl, rfl⟩ := udregistry_Registry_eq e0; simp only [List.nil_append, List.cons_append] at hc
  replace hr := dFin hr; obtain ⟨rfl, rfl, x, h, rfl⟩ := hr
  obtain ⟨os, rfl, ha, hc⟩ := kinds_some ha hc
  obtain ⟨os, rfl, ha, hc⟩ := kinds_some ha hc
  obtain rfl := kinds_nil hc
  exact ⟨_, rfl, leads22 registry_Registry_given registry_row_told hS _ x h⟩
def registry_Registry_List : registry_Registry → Option (List api_Backend) := registry_Registry_ListF registry_Registry_given registry_row_told
theorem lift22 : SumOK Try.prog 22 (s22 registry_Registry_List) := ok22 registry_Registry_given registry_row_told (SumsOK.of_tab ⟨lift70, lift72, trivial⟩)
end Go.Vm.Code
namespace Go.Vm.Code
open Go Go.Vm
theorem iter_build {β ρ : Type} (F : Nat → β) (N : Nat) (step : Int × List β → Option (Sum (Int × List β) ρ)) (fin : List β → ρ)
    (h1 : ∀ i : Nat, i < N → ∀ out : List β, out.length = i → step ((i : Int), out) = some (.inl (((i + 1 : Nat) : Int), out ++ [F i])))
    (h2 : ∀ out : List β, out.length = N → step ((N : Int), out) = some (.inr (fin out))) {n : Nat} (hn : N < n) : iter step n (0, []) = some (fin ((List.range N).map F)) := by
  refine iter_eq (fun _ => fin ((List.range N).map F)) (fun s => ∃ i : Nat, i ≤ N ∧ s = ((i : Int), (List.range i).map F)) (fun s => N - s.1.toNat) ?_ n _ ⟨0, Nat.zero_le _, rfl⟩ (by simp; omega)
  rintro s ⟨i, hi, rfl⟩
  rcases Nat.lt_or_ge i N with h | h
  · right
    refine ⟨_, h1 i h _ (by simp), ⟨i + 1, h, ?_⟩, ?_, rfl⟩
    · rw [List.range_succ, List.map_append]; rfl
    · simp only [Int.toNat_natCast]; omega
  · left
    have e : i = N := by omega
    subst e
    exact h2 _ (by simp)
theorem range_map {α β : Type} (L : List α) (f : α → β) (F : Nat → β) (h : ∀ i (hi : i < L.length), F i = f L[i]) : (List.range L.length).map F = L.map f := by
  apply List.ext_getElem
  · simp
  · intro i h1 h2
    simp only [List.length_map, List.length_range] at h1
    simp [h i h1]
def rid (r : registry_row) : Int := r.Backend.ID
def tld (r : registry_row) : api_Backend := ⟨r.Backend.ID, r.Backend.Weight, if r.drains then 3 else if r.health.Up then 1 else 2, r.Backend.Addr⟩
theorem told_eq (r : registry_row) : registry_row_told r = some (tld r) := by
  unfold registry_row_told registry_row_toldF tld
  cases r.drains <;> cases r.health.Up <;> rfl
def ruleB (r : health_Rule) : Bool := decide (1 ≤ r.Rise ∧ r.Rise ≤ 100 ∧ 1 ≤ r.Fall ∧ r.Fall ≤ 100)
theorem within_eq (n a b : Int) : health_within n a b = some (decide (a ≤ n ∧ n ≤ b)) := by
  unfold health_within health_withinF
  by_cases h : a ≤ n
  · rw [cond_p h]; simp [h]
  · rw [cond_n h]; simp [h]
theorem hright_eq (r : health_Rule) : health_Right r = some (ruleB r) := by
  unfold health_Right health_RightF ruleB
  rw [within_eq, within_eq, Option.bind_some, Option.bind_some]
  by_cases h : 1 ≤ r.Rise ∧ r.Rise ≤ 100
  · rw [cond_p h]; simp [h]
  · rw [cond_n h]; simp; omega
def weighB (n : Int) : Bool := decide (0 ≤ n ∧ n ≤ 1000)
theorem weighs_eq (n : Int) : registry_weighs n = some (weighB n) := by
  unfold registry_weighs registry_weighsF weighB
  by_cases h : 0 ≤ n
  · rw [cond_p h]; simp [h]
  · rw [cond_n h]; simp [h]
def adrB (a : api_Addr) : Bool := a.V6 || (a.Hi == 0 && decide (a.Lo < 4294967296))
theorem aright_eq (a : api_Addr) : addr_Right a = some (adrB a) := by
  unfold addr_Right addr_RightF adrB
  cases a.V6
  · cases a.Hi == 0 <;> rfl
  · rfl
structure RI (N : Int) (g : registry_Registry) : Prop where
  rule : ruleB g.rule = true
  len : g.rows.length ≤ 64
  last0 : 0 ≤ g.last
  last1 : g.last ≤ 65535
  ver0 : 0 ≤ g.version
  ver1 : g.version ≤ N
  ids : ∀ i ∈ g.rows.map rid, 1 ≤ i ∧ i ≤ g.last
  up : (g.rows.map rid).Pairwise (· < ·)
theorem RI.id_at {N : Int} {g : registry_Registry} (h : RI N g) {k : Nat} {r : registry_row} (hk : g.rows[k]? = some r) : 1 ≤ r.Backend.ID ∧ r.Backend.ID ≤ g.last :=
  h.ids _ (List.mem_map.2 ⟨r, List.mem_of_getElem? hk, rfl⟩)
theorem RI.lt {N : Int} {g : registry_Registry} (h : RI N g) {j k : Nat} {q r : registry_row} (hj : g.rows[j]? = some q) (hk : g.rows[k]? = some r) (hjk : j < k) : q.Backend.ID < r.Backend.ID := by
  obtain ⟨h1, e1⟩ := List.getElem?_eq_some_iff.1 hj
  obtain ⟨h2, e2⟩ := List.getElem?_eq_some_iff.1 hk
  have := List.pairwise_iff_getElem.1 h.up j k (by simpa) (by simpa) hjk
  simpa [rid, e1, e2] using this
theorem given_eq {N : Int} {g : registry_Registry} (h : RI N g) : registry_Registry_given g = some true := by
  unfold registry_Registry_given registry_Registry_givenF
  rw [hright_eq, Option.bind_some, h.rule]
theorem find1_eq {r : registry_row} {id : Int} (h1 : 1 ≤ r.Backend.ID) (h2 : r.Backend.ID ≤ 65535) : ∃ x, registry_Registry_find_1 r id = some x ∧ (x < 0 ↔ r.Backend.ID < id) ∧ (x = 0 ↔ r.Backend.ID = id) := by
  unfold registry_Registry_find_1 registry_Registry_find_1F
  have e : ∀ t : Int, 0 ≤ t → t ≤ 65536 → wI .i64 (r.Backend.ID - t) = r.Backend.ID - t := fun t _ _ => wI64 (by omega) (by omega)
  refine ⟨_, rfl, ?_⟩
  by_cases h : 65536 < id
  · simp only [h, ↓reduceIte, show (65536 : Int) > 0 from by decide]
    rw [e _ (by omega) (by omega)]; omega
  · by_cases h0 : id > 0
    · simp only [h, h0, ↓reduceIte]
      rw [e _ (by omega) (by omega)]; omega
    · simp only [h, h0, ↓reduceIte]
      rw [e _ (by omega) (by omega)]; omega
def lowN (rows : List registry_row) (id : Int) : Nat := (rows.takeWhile fun r => decide (r.Backend.ID < id)).length
theorem lowN_le (rows : List registry_row) (id : Int) : lowN rows id ≤ rows.length := (List.takeWhile_sublist _).length_le
theorem lowN_iff {id : Int} : ∀ {rows : List registry_row}, (rows.map rid).Pairwise (· < ·) → ∀ {k : Nat} {r : registry_row}, rows[k]? = some r → (r.Backend.ID < id ↔ k < lowN rows id)
  | [], _, k, r, h => by simp at h
  | q :: rows, hp, k, r, h => by
    rw [List.map_cons, List.pairwise_cons] at hp
    unfold lowN
    by_cases hq : q.Backend.ID < id
    · rw [List.takeWhile_cons_of_pos (by simpa using hq), List.length_cons]
      cases k with
      | zero => simp at h; subst h; simp [hq]
      | succ k => have := lowN_iff (id := id) hp.2 (k := k) (by simpa using h); unfold lowN at this; omega
    · rw [List.takeWhile_cons_of_neg (by simpa using hq)]
      cases k with
      | zero => simp at h; subst h; simp [hq]
      | succ k =>
        have hm : r ∈ rows := List.mem_of_getElem? (by simpa using h)
        have := hp.1 _ (List.mem_map.2 ⟨r, hm, rfl⟩)
        simp only [rid] at this
        simp; omega
theorem find_eq {N : Int} {g : registry_Registry} (h : RI N g) (id : Int) : registry_Registry_find g id = some ((lowN g.rows id : Int), match g.rows[lowN g.rows id]? with | some r => decide (r.Backend.ID = id) | none => false) := by
  unfold registry_Registry_find registry_Registry_findF
  have hl := lowN_le g.rows id
  have hlen := h.len
  refine iter_eq (fun _ => ((lowN g.rows id : Int), match g.rows[lowN g.rows id]? with | some r => decide (r.Backend.ID = id) | none => false))
    (fun (s : Int × Int) => 0 ≤ s.1 ∧ s.1 ≤ lowN g.rows id ∧ (lowN g.rows id : Int) ≤ s.2 ∧ s.2 ≤ g.rows.length) (fun (s : Int × Int) => (s.2 - s.1).toNat) ?_ FUEL (0, (g.rows.length : Int)) ⟨by simp, by simp, by simpa using hl, by simp⟩ (by rw [FUEL_eq]; simp only []; omega)
  rintro ⟨i, j⟩ ⟨h0, h1, h2, h3⟩
  simp only at h0 h1 h2 h3
  dsimp only
  unfold registry_Registry_find_s1
  by_cases hij : i < j
  · right
    rw [cond_p hij]
    have et : wI .i64 ((wI .u64 (wI .i64 (i + j))).fdiv (2 ^ 1)) = (i + j) / 2 := by
      rw [wI64 (n := i + j) (by omega) (by omega), wU64 (by omega) (by omega), fdivP, wI64 (by omega) (by omega)]; rfl
    simp only [et]
    obtain ⟨m, hm⟩ := Int.eq_ofNat_of_zero_le (show 0 ≤ (i + j) / 2 by omega)
    rw [hm, oreq_p ⟨by omega, by omega⟩]
    have hlt : m < g.rows.length := by omega
    rw [Int.toNat_natCast, List.getElem?_eq_getElem hlt, Option.bind_some]
    have hk := List.getElem?_eq_getElem hlt
    have hid := h.id_at hk
    obtain ⟨x, hx, hx1, hx2⟩ := find1_eq (id := id) hid.1 (by have := h.last1; omega)
    rw [hx, Option.bind_some]
    have hiff := lowN_iff (id := id) h.up hk
    by_cases hc : x < 0
    · rw [cond_p hc]
      have hml : m < lowN g.rows id := hiff.1 (hx1.1 hc)
      refine ⟨_, rfl, ⟨?_, ?_, h2, h3⟩, ?_, by trivial⟩
      · simp only []; rw [wI64 (by omega) (by omega)]; omega
      · simp only []; rw [wI64 (by omega) (by omega)]; omega
      · simp only []; rw [wI64 (by omega) (by omega)]; omega
    · rw [cond_n hc]
      have hml : ¬ m < lowN g.rows id := fun e => hc (hx1.2 (hiff.2 e))
      exact ⟨_, rfl, ⟨h0, h1, by simp only []; omega, by simp only []; omega⟩, by simp only []; omega, by trivial⟩
  · left
    rw [cond_n hij]
    have ei : i = lowN g.rows id := by omega
    subst ei
    by_cases hlt : lowN g.rows id < g.rows.length
    · rw [cond_p (by omega), oreq_p ⟨by omega, by omega⟩, Int.toNat_natCast, List.getElem?_eq_getElem hlt, Option.bind_some]
      have hk := List.getElem?_eq_getElem hlt
      have hid := h.id_at hk
      obtain ⟨x, hx, hx1, hx2⟩ := find1_eq (id := id) hid.1 (by have := h.last1; omega)
      rw [hx, Option.bind_some]
      congr 3
      rw [Bool.eq_iff_iff]; simp [hx2]
    · rw [cond_n (by omega), List.getElem?_eq_none (by omega)]
theorem find_yes {N : Int} {g : registry_Registry} (h : RI N g) {k : Nat} {r : registry_row} (hk : g.rows[k]? = some r) : registry_Registry_find g r.Backend.ID = some ((k : Int), true) := by
  have h1 := lowN_iff (id := r.Backend.ID) h.up hk
  have e : lowN g.rows r.Backend.ID = k := by
    rcases Nat.lt_trichotomy (lowN g.rows r.Backend.ID) k with hl | hl | hl
    · exfalso
      have hkl : k < g.rows.length := (List.getElem?_eq_some_iff.1 hk).1
      have hq := List.getElem?_eq_getElem (show lowN g.rows r.Backend.ID < g.rows.length by omega)
      have := (lowN_iff (id := r.Backend.ID) h.up hq).1 (h.lt hq hk hl)
      omega
    · exact hl
    · exfalso; have := h1.2 hl; omega
  rw [find_eq h, e, hk]; simp
theorem find_no {N : Int} {g : registry_Registry} (h : RI N g) {id : Int} (hn : ∀ (k : Nat) r, g.rows[k]? = some r → r.Backend.ID ≠ id) : ∃ i, registry_Registry_find g id = some (i, false) := by
  rw [find_eq h]
  refine ⟨(lowN g.rows id : Int), ?_⟩
  congr 2
  split
  · rename_i r hr; simpa using hn _ _ hr
  · rfl
end Go.Vm.Code
namespace Go.Vm.Code
open Go Go.Vm Go.Proofs
set_option maxRecDepth 100000
set_option maxHeartbeats 4000000
set_option linter.unusedVariables false
def registry_Registry_DrainF (registry_Registry_find : registry_Registry → Int → Option (Int × Bool)) (registry_Registry_given : registry_Registry → Option Bool) (ga0 : registry_Registry) (ida1 : Int) (on : Bool) : Option (Int × registry_Registry) :=
  (registry_Registry_given ga0).bind fun xg =>
  cond (!xg)
    (
    some ((1, ga0)))
    (
    (registry_Registry_find ga0 ida1).bind fun f =>
    cond (!f.2)
      (
      some ((13, ga0)))
      (
      oreq (decide ((0 : Int) ≤ f.1 ∧ f.1 < (ga0.rows.length : Int))) <|
      (ga0.rows[f.1.toNat]?).bind fun (e : registry_row) =>
      cond (e.drains == on)
        (
        some ((11, ga0)))
        (
        let row := ga0.rows.set f.1.toNat (registry_row.mk e.Backend on e.health)
        some ((0, registry_Registry.mk ga0.rule row ga0.last (wI .i64 (ga0.version + 1)))))))
def rx28 (x : Int × registry_Registry) : SRes := ⟨.int .i64 x.1, [(vT cregistry_row x.2.rows)], [some [.int .i64 x.2.rule.Rise, .int .i64 x.2.rule.Fall, .slice (some ⟨0, 0, none⟩) x.2.rows.length 9, .int .i64 x.2.last, .int .i64 x.2.version], none]⟩
def r28 (g : registry_Registry → Int → Bool → Option (Int × registry_Registry)) : Dec := dTr 2 (udregistry_Registry 0) fun (y0 : registry_Registry) => dV (asI .i64) fun (y1 : Int) => dV asB fun (y2 : Bool) => dEnd (ofG (g y0 y1 y2) rx28)
theorem r28_c {g : registry_Registry → Int → Bool → Option (Int × registry_Registry)} {y0 : registry_Registry} {y1 : Int} {y2 : Bool} {x : Int × registry_Registry} (hx : g y0 y1 y2 = some x) : r28 g [.pointer (some ⟨0, 0, none⟩), .int .i64 y1, .bool y2] [some [.int .i64 y0.rule.Rise, .int .i64 y0.rule.Fall, .slice (some ⟨1, 0, none⟩) y0.rows.length 9, .int .i64 y0.last, .int .i64 y0.version], some (vT cregistry_row y0.rows)] = some (rx28 x) := (dTr_eq rfl rfl (udregistry_Registry_c 0 _)).trans ((dV_eq (asI_c _)).trans ((dV_eq (asB_c)).trans (ofG_eq hx)))
def s28 (g : registry_Registry → Int → Bool → Option (Int × registry_Registry)) : Summ := ⟨[.tr [⟨none, 0, 0, 1, none⟩, ⟨some 0, 2, 0, 2, some 9⟩], .v, .v], r28 g⟩
theorem r28_eq {g : registry_Registry → Int → Bool → Option (Int × registry_Registry)} {y0 : registry_Registry} {y1 : Int} {y2 : Bool} {x : Int × registry_Registry} (hx : g y0 y1 y2 = some x) : (s28 g).run [.pointer (some ⟨0, 0, none⟩), .int .i64 y1, .bool y2] [some [.int .i64 y0.rule.Rise, .int .i64 y0.rule.Fall, .slice (some ⟨1, 0, none⟩) y0.rows.length 9, .int .i64 y0.last, .int .i64 y0.version], some (vT cregistry_row y0.rows)] = some (rx28 x) := r28_c hx
abbrev sums28 (registry_Registry_find : registry_Registry → Int → Option (Int × Bool)) (registry_Registry_given : registry_Registry → Option Bool) : List (Nat × Summ) := [(71, s71 registry_Registry_find), (70, s70 registry_Registry_given)]
theorem leads28 (registry_Registry_find : registry_Registry → Int → Option (Int × Bool)) (registry_Registry_given : registry_Registry → Option Bool) (hS : SumsOK Try.prog (aget (sums28 registry_Registry_find registry_Registry_given))) (ga0 : registry_Registry) (ida1 : Int) (on : Bool) (res : Int × registry_Registry) (h : registry_Registry_DrainF registry_Registry_find registry_Registry_given ga0 ida1 on = some res) :
    Leads Try.prog 28 2 ⟨⟨28, 11, [(0, .pointer (some ⟨0, 0, none⟩)), (1, .int .i64 ida1), (2, .bool on)], [.code k28_3], [], false, none⟩, [], [(0, .cells [.int .i64 ga0.rule.Rise, .int .i64 ga0.rule.Fall, .slice (some ⟨1, 0, none⟩) ga0.rows.length 9, .int .i64 ga0.last, .int .i64 ga0.version]), (1, .row true (vT cregistry_row ga0.rows))], 2⟩ (fun v H _ => Res 2 (rx28 res) v H) := by
  unfold registry_Registry_DrainF at h
  refine ev_ok tab_ok hS true 3000 ?_
  conv => whnf
  replace h := obind.elim h; obtain ⟨xg, hy, h⟩ := h
  refine sumK.introF [] (sumRun_of (aqs := [.pointer (some ⟨0, 0, none⟩)]) (ws := [.blk 0 false, .blk 1 false]) (n := 0) (m := 0) (t' := 3) (ra_cons (ra_tr rfl rfl (vp_at rfl rfl rfl rfl (vp_at rfl rfl (rn_T cregistry_row_flat) rfl vp_nil)) rfl) rfl ra_nil) rfl (by rfl) (r70_eq hy) rfl rfl rfl rfl (wb_skip rfl (wb_skip rfl wb_nil)) an_nil rfl) ?_
  conv => whnf
  refine br.h h ?_ ?_ ?_
  · rfl
  · clear h; intro hb h; conv => whnf
    all_goals (cases h)
    all_goals exact Res.of [1] rfl (nw_s (rn_T cregistry_row_flat) (hs_row rfl) nw_0) (by decide) (js_r rfl js_0) (wr_s (rfl) (hs_cells rfl) (wr_n wr_0))
  clear h; intro hb h; conv => whnf
  replace h := obind.elim h; obtain ⟨f, hy, h⟩ := h
  refine sumK.introF [] (sumRun_of (aqs := [.pointer (some ⟨0, 0, none⟩), .int .i64 ida1]) (ws := [.blk 0 false, .blk 1 false]) (n := 0) (m := 0) (t' := 3) (ra_cons (ra_tr rfl rfl (vp_at rfl rfl rfl rfl (vp_at rfl rfl (rn_T cregistry_row_flat) rfl vp_nil)) rfl) rfl (ra_cons rfl rfl ra_nil)) rfl (by rfl) (r71_eq hy) rfl rfl rfl rfl (wb_skip rfl (wb_skip rfl wb_nil)) an_nil rfl) ?_
  conv => whnf
  refine br.h h ?_ ?_ ?_
  · rfl
  · clear h; intro hb h; conv => whnf
    all_goals (cases h)
    all_goals exact Res.of [1] rfl (nw_s (rn_T cregistry_row_flat) (hs_row rfl) nw_0) (by decide) (js_r rfl js_0) (wr_s (rfl) (hs_cells rfl) (wr_n wr_0))
  clear h; intro hb h; conv => whnf
  replace h := oreq.elim h; obtain ⟨hb, h⟩ := h
  first | (refine req.intro hb ?_; conv => whnf) | skip
  replace h := obind.elim h; obtain ⟨e, hy, h⟩ := h
  refine rd.T (j := 6) cregistry_row_len hy (by first | omega | exact Nat.zero_add _ | exact congrArg (· + _) (Nat.zero_add _)) (by decide) rfl ?_
  conv => whnf
  refine br.h h ?_ ?_ ?_
  · rfl
  · clear h; intro hb h; conv => whnf
    all_goals (cases h)
    all_goals exact Res.of [1] rfl (nw_s (rn_T cregistry_row_flat) (hs_row rfl) nw_0) (by decide) (js_r rfl js_0) (wr_s (rfl) (hs_cells rfl) (wr_n wr_0))
  clear h; intro hb h; conv => whnf
  refine st_T (i := f.1.toNat) (x := e) (x' := registry_row.mk e.Backend on e.health) (j := 6) cregistry_row_len (by assumption) (by first | omega | exact Nat.zero_add _ | exact congrArg (· + _) (Nat.zero_add _)) (by decide) ⟨rfl, rfl⟩ rfl ?_
  conv => whnf
  let row : List registry_row := ga0.rows.set f.1.toNat (registry_row.mk e.Backend on e.health)
  try rw [show ga0.rows.length = row.length from (List.length_set ..).symm]
  conv => whnf
  all_goals (cases h)
  all_goals exact Res.of [1] rfl (nw_s (rn_T cregistry_row_flat) (hs_row rfl) nw_0) (by decide) (js_r rfl js_0) (wr_s (rfl) (hs_cells rfl) (wr_n wr_0))
theorem ok28 (registry_Registry_find : registry_Registry → Int → Option (Int × Bool)) (registry_Registry_given : registry_Registry → Option Bool) (hS : SumsOK Try.prog (aget (sums28 registry_Registry_find registry_Registry_given))) : SumOK Try.prog 28 (s28 (registry_Registry_DrainF registry_Registry_find registry_Registry_given)) := by
  refine SumOK.of_leads tab_ok (fun ar os r ha hr => ?_) ⟨Try.f28, rfl, by decide, rfl⟩
  replace hr : r28 (registry_Registry_DrainF registry_Registry_find registry_Registry_given) ar (conts os) = some r := hr
  unfold r28 at hr
  generalize hc : conts os = C at hr
  have hq := dTr.elim hr; clear hr; obtain ⟨v0, l1, c0, C, y0, rfl, rfl, e0, hr⟩ := hq; obtain ⟨rfl, rfl⟩ := udregistry_Registry_eq e0; simp only [List.nil_append, List.cons_append] at hc
  replace hr := dV.elim hr; obtain ⟨v1, l2, y1, rfl, e1, hr⟩ := hr; obtain rfl := asI_eq _ _ _ e1
  replace hr := dV.elim hr; obtain ⟨v2, l3, y2, rfl, e2, hr⟩ := hr; obtain rfl := asB_eq _ _ e2
  replace hr := dFin hr; obtain ⟨rfl, rfl, x, h, rfl⟩ := hr
  obtain ⟨os, rfl, ha, hc⟩ := kinds_some ha hc
  obtain ⟨os, rfl, ha, hc⟩ := kinds_some ha hc
  obtain rfl := kinds_nil hc
  exact ⟨_, rfl, leads28 registry_Registry_find registry_Registry_given hS _ _ _ x h⟩
def registry_Registry_Drain : registry_Registry → Int → Bool → Option (Int × registry_Registry) := registry_Registry_DrainF registry_Registry_find registry_Registry_given
theorem lift28 : SumOK Try.prog 28 (s28 registry_Registry_Drain) := ok28 registry_Registry_find registry_Registry_given (SumsOK.of_tab ⟨lift71, lift70, trivial⟩)
def registry_Registry_WeightF (registry_Registry_find : registry_Registry → Int → Option (Int × Bool)) (registry_Registry_given : registry_Registry → Option Bool) (registry_weighs : Int → Option Bool) (ga0 : registry_Registry) (ida1 : Int) (weight : Int) : Option (Int × registry_Registry) :=
  (registry_Registry_given ga0).bind fun xg =>
  cond (!xg)
    (
    some ((1, ga0)))
    (
    (registry_Registry_find ga0 ida1).bind fun f =>
    cond (!f.2)
      (
      some ((13, ga0)))
      (
      oreq (decide ((0 : Int) ≤ f.1 ∧ f.1 < (ga0.rows.length : Int))) <|
      (registry_weighs weight).bind fun w =>
      cond (!w)
        (
        some ((1, ga0)))
        (
        (ga0.rows[f.1.toNat]?).bind fun (e : registry_row) =>
        let row := ga0.rows.set f.1.toNat (registry_row.mk (api_Backend.mk e.Backend.ID weight e.Backend.State e.Backend.Addr) e.drains e.health)
        some ((0, registry_Registry.mk ga0.rule row ga0.last (wI .i64 (ga0.version + 1)))))))
def rx29 (x : Int × registry_Registry) : SRes := ⟨.int .i64 x.1, [(vT cregistry_row x.2.rows)], [some [.int .i64 x.2.rule.Rise, .int .i64 x.2.rule.Fall, .slice (some ⟨0, 0, none⟩) x.2.rows.length 9, .int .i64 x.2.last, .int .i64 x.2.version], none]⟩
def r29 (g : registry_Registry → Int → Int → Option (Int × registry_Registry)) : Dec := dTr 2 (udregistry_Registry 0) fun (y0 : registry_Registry) => dV (asI .i64) fun (y1 : Int) => dV (asI .i64) fun (y2 : Int) => dEnd (ofG (g y0 y1 y2) rx29)
theorem r29_c {g : registry_Registry → Int → Int → Option (Int × registry_Registry)} {y0 : registry_Registry} {y1 : Int} {y2 : Int} {x : Int × registry_Registry} (hx : g y0 y1 y2 = some x) : r29 g [.pointer (some ⟨0, 0, none⟩), .int .i64 y1, .int .i64 y2] [some [.int .i64 y0.rule.Rise, .int .i64 y0.rule.Fall, .slice (some ⟨1, 0, none⟩) y0.rows.length 9, .int .i64 y0.last, .int .i64 y0.version], some (vT cregistry_row y0.rows)] = some (rx29 x) := (dTr_eq rfl rfl (udregistry_Registry_c 0 _)).trans ((dV_eq (asI_c _)).trans ((dV_eq (asI_c _)).trans (ofG_eq hx)))
def s29 (g : registry_Registry → Int → Int → Option (Int × registry_Registry)) : Summ := ⟨[.tr [⟨none, 0, 0, 1, none⟩, ⟨some 0, 2, 0, 2, some 9⟩], .v, .v], r29 g⟩
theorem r29_eq {g : registry_Registry → Int → Int → Option (Int × registry_Registry)} {y0 : registry_Registry} {y1 : Int} {y2 : Int} {x : Int × registry_Registry} (hx : g y0 y1 y2 = some x) : (s29 g).run [.pointer (some ⟨0, 0, none⟩), .int .i64 y1, .int .i64 y2] [some [.int .i64 y0.rule.Rise, .int .i64 y0.rule.Fall, .slice (some ⟨1, 0, none⟩) y0.rows.length 9, .int .i64 y0.last, .int .i64 y0.version], some (vT cregistry_row y0.rows)] = some (rx29 x) := r29_c hx
abbrev sums29 (registry_Registry_find : registry_Registry → Int → Option (Int × Bool)) (registry_Registry_given : registry_Registry → Option Bool) (registry_weighs : Int → Option Bool) : List (Nat × Summ) := [(71, s71 registry_Registry_find), (70, s70 registry_Registry_given), (81, s81 registry_weighs)]
theorem leads29 (registry_Registry_find : registry_Registry → Int → Option (Int × Bool)) (registry_Registry_given : registry_Registry → Option Bool) (registry_weighs : Int → Option Bool) (hS : SumsOK Try.prog (aget (sums29 registry_Registry_find registry_Registry_given registry_weighs))) (ga0 : registry_Registry) (ida1 : Int) (weight : Int) (res : Int × registry_Registry) (h : registry_Registry_WeightF registry_Registry_find registry_Registry_given registry_weighs ga0 ida1 weight = some res) :
    Leads Try.prog 29 2 ⟨⟨29, 11, [(0, .pointer (some ⟨0, 0, none⟩)), (1, .int .i64 ida1), (2, .int .i64 weight)], [.code k29_3], [], false, none⟩, [], [(0, .cells [.int .i64 ga0.rule.Rise, .int .i64 ga0.rule.Fall, .slice (some ⟨1, 0, none⟩) ga0.rows.length 9, .int .i64 ga0.last, .int .i64 ga0.version]), (1, .row true (vT cregistry_row ga0.rows))], 2⟩ (fun v H _ => Res 2 (rx29 res) v H) := by
  unfold registry_Registry_WeightF at h
  refine ev_ok tab_ok hS true 3000 ?_
  conv => whnf
  replace h := obind.elim h; obtain ⟨xg, hy, h⟩ := h
  refine sumK.introF [] (sumRun_of (aqs := [.pointer (some ⟨0, 0, none⟩)]) (ws := [.blk 0 false, .blk 1 false]) (n := 0) (m := 0) (t' := 3) (ra_cons (ra_tr rfl rfl (vp_at rfl rfl rfl rfl (vp_at rfl rfl (rn_T cregistry_row_flat) rfl vp_nil)) rfl) rfl ra_nil) rfl (by rfl) (r70_eq hy) rfl rfl rfl rfl (wb_skip rfl (wb_skip rfl wb_nil)) an_nil rfl) ?_
  conv => whnf
  refine br.h h ?_ ?_ ?_
  · rfl
  · clear h; intro hb h; conv => whnf
    all_goals (cases h)
    all_goals exact Res.of [1] rfl (nw_s (rn_T cregistry_row_flat) (hs_row rfl) nw_0) (by decide) (js_r rfl js_0) (wr_s (rfl) (hs_cells rfl) (wr_n wr_0))
  clear h; intro hb h; conv => whnf
  replace h := obind.elim h; obtain ⟨f, hy, h⟩ := h
  refine sumK.introF [] (sumRun_of (aqs := [.pointer (some ⟨0, 0, none⟩), .int .i64 ida1]) (ws := [.blk 0 false, .blk 1 false]) (n := 0) (m := 0) (t' := 3) (ra_cons (ra_tr rfl rfl (vp_at rfl rfl rfl rfl (vp_at rfl rfl (rn_T cregistry_row_flat) rfl vp_nil)) rfl) rfl (ra_cons rfl rfl ra_nil)) rfl (by rfl) (r71_eq hy) rfl rfl rfl rfl (wb_skip rfl (wb_skip rfl wb_nil)) an_nil rfl) ?_
  conv => whnf
  refine br.h h ?_ ?_ ?_
  · rfl
  · clear h; intro hb h; conv => whnf
    all_goals (cases h)
    all_goals exact Res.of [1] rfl (nw_s (rn_T cregistry_row_flat) (hs_row rfl) nw_0) (by decide) (js_r rfl js_0) (wr_s (rfl) (hs_cells rfl) (wr_n wr_0))
  clear h; intro hb h; conv => whnf
  replace h := oreq.elim h; obtain ⟨hb, h⟩ := h
  first | (refine req.intro hb ?_; conv => whnf) | skip
  replace h := obind.elim h; obtain ⟨w, hy, h⟩ := h
  refine sumK.q rfl rfl (r81_eq hy) rfl rfl rfl ?_
  conv => whnf
  refine br.h h ?_ ?_ ?_
  · rfl
  · clear h; intro hb h; conv => whnf
    all_goals (cases h)
    all_goals exact Res.of [1] rfl (nw_s (rn_T cregistry_row_flat) (hs_row rfl) nw_0) (by decide) (js_r rfl js_0) (wr_s (rfl) (hs_cells rfl) (wr_n wr_0))
  clear h; intro hb h; conv => whnf
  replace h := obind.elim h; obtain ⟨e, hy, h⟩ := h
  refine st_T (x' := registry_row.mk (api_Backend.mk e.Backend.ID weight e.Backend.State e.Backend.Addr) e.drains e.health) (j := 1) cregistry_row_len hy (by first | omega | exact Nat.zero_add _ | exact congrArg (· + _) (Nat.zero_add _)) (by decide) ⟨rfl, rfl⟩ rfl ?_
  conv => whnf
  let row : List registry_row := ga0.rows.set f.1.toNat (registry_row.mk (api_Backend.mk e.Backend.ID weight e.Backend.State e.Backend.Addr) e.drains e.health)
  try rw [show ga0.rows.length = row.length from (List.length_set ..).symm]
  conv => whnf
  all_goals (cases h)
  all_goals exact Res.of [1] rfl (nw_s (rn_T cregistry_row_flat) (hs_row rfl) nw_0) (by decide) (js_r rfl js_0) (wr_s (rfl) (hs_cells rfl) (wr_n wr_0))
theorem ok29 (registry_Registry_find : registry_Registry → Int → Option (Int × Bool)) (registry_Registry_given : registry_Registry → Option Bool) (registry_weighs : Int → Option Bool) (hS : SumsOK Try.prog (aget (sums29 registry_Registry_find registry_Registry_given registry_weighs))) : SumOK Try.prog 29 (s29 (registry_Registry_WeightF registry_Registry_find registry_Registry_given registry_weighs)) := by
  refine SumOK.of_leads tab_ok (fun ar os r ha hr => ?_) ⟨Try.f29, rfl, by decide, rfl⟩
  replace hr : r29 (registry_Registry_WeightF registry_Registry_find registry_Registry_given registry_weighs) ar (conts os) = some r := hr
  unfold r29 at hr
  generalize hc : conts os = C at hr
  have hq := dTr.elim hr; clear hr; obtain ⟨v0, l1, c0, C, y0, rfl, rfl, e0, hr⟩ := hq; obtain ⟨rfl, rfl⟩ := udregistry_Registry_eq e0; simp only [List.nil_append, List.cons_append] at hc
  replace hr := dV.elim hr; obtain ⟨v1, l2, y1, rfl, e1, hr⟩ := hr; obtain rfl := asI_eq _ _ _ e1
  replace hr := dV.elim hr; obtain ⟨v2, l3, y2, rfl, e2, hr⟩ := hr; obtain rfl := asI_eq _ _ _ e2
  replace hr := dFin hr; obtain ⟨rfl, rfl, x, h, rfl⟩ := hr
  obtain ⟨os, rfl, ha, hc⟩ := kinds_some ha hc
  obtain ⟨os, rfl, ha, hc⟩ := kinds_some ha hc
  obtain rfl := kinds_nil hc
  exact ⟨_, rfl, leads29 registry_Registry_find registry_Registry_given registry_weighs hS _ _ _ x h⟩
def registry_Registry_Weight : registry_Registry → Int → Int → Option (Int × registry_Registry) := registry_Registry_WeightF registry_Registry_find registry_Registry_given registry_weighs
theorem lift29 : SumOK Try.prog 29 (s29 registry_Registry_Weight) := ok29 registry_Registry_find registry_Registry_given registry_weighs (SumsOK.of_tab ⟨lift71, lift70, lift81, trivial⟩)
def health_NeedF (health_Right : health_Rule → Option Bool) (health_within : Int → Int → Int → Option Bool) (ra0 : health_Rule) (s : health_State) : Option Int :=
  (health_Right ra0).bind fun xr =>
  cond (!xr)
    (
    some (0))
    (
    (health_within s.Run 0 1048576).bind fun w =>
    cond (!w)
      (
      some (0))
      (
      cond (s.Up)
        (
        let t := if (wI .i64 (ra0.Fall - s.Run)) > 1 then wI .i64 (ra0.Fall - s.Run) else 1
        some (t))
        (
        let t1 := if (wI .i64 (ra0.Rise - s.Run)) > 1 then wI .i64 (ra0.Rise - s.Run) else 1
        some (t1))))
def rx128 (x : Int) : SRes := ⟨.int .i64 x, [], []⟩
def r128 (g : health_Rule → health_State → Option Int) : Dec := dV uvhealth_Rule fun (y0 : health_Rule) => dV uvhealth_State fun (y1 : health_State) => dEnd (ofG (g y0 y1) rx128)
theorem r128_c {g : health_Rule → health_State → Option Int} {y0 : health_Rule} {y1 : health_State} {x : Int} (hx : g y0 y1 = some x) : r128 g [.agg ⟨[.int .i64 y0.Rise, .int .i64 y0.Fall]⟩, .agg ⟨[.bool y1.Up, .int .i64 y1.Run]⟩] [] = some (rx128 x) := (dV_eq (uvhealth_Rule_c _)).trans ((dV_eq (uvhealth_State_c _)).trans (ofG_eq hx))
def s128 (g : health_Rule → health_State → Option Int) : Summ := ⟨[.v, .v], r128 g⟩
theorem r128_eq {g : health_Rule → health_State → Option Int} {y0 : health_Rule} {y1 : health_State} {x : Int} (hx : g y0 y1 = some x) : (s128 g).run [.agg ⟨[.int .i64 y0.Rise, .int .i64 y0.Fall]⟩, .agg ⟨[.bool y1.Up, .int .i64 y1.Run]⟩] [] = some (rx128 x) := r128_c hx
abbrev sums128 (health_Right : health_Rule → Option Bool) (health_within : Int → Int → Int → Option Bool) : List (Nat × Summ) := [(69, s69 health_Right), (121, s121 health_within)]
theorem leads128 (health_Right : health_Rule → Option Bool) (health_within : Int → Int → Int → Option Bool) (hS : SumsOK Try.prog (aget (sums128 health_Right health_within))) (ra0 : health_Rule) (s : health_State) (res : Int) (h : health_NeedF health_Right health_within ra0 s = some res) :
    Leads Try.prog 128 0 ⟨⟨128, 30, [(0, .agg ⟨[.int .i64 ra0.Rise, .int .i64 ra0.Fall]⟩), (1, .agg ⟨[.bool s.Up, .int .i64 s.Run]⟩)], [.code k128_15], [], false, none⟩, [], [], 0⟩ (fun v H _ => Res 0 (rx128 res) v H) := by
  unfold health_NeedF at h
  refine ev_ok tab_ok hS true 3000 ?_
  conv => whnf
  replace h := obind.elim h; obtain ⟨xr, hy, h⟩ := h
  refine sumK.q rfl rfl (r69_eq hy) rfl rfl rfl ?_
  conv => whnf
  refine br.h h ?_ ?_ ?_
  · rfl
  · clear h; intro hb h; conv => whnf
    all_goals (cases h; exact Res.z rfl rfl rfl)
  clear h; intro hb h; conv => whnf
  replace h := obind.elim h; obtain ⟨w, hy, h⟩ := h
  refine sumK.q rfl rfl (r121_eq hy) rfl rfl rfl ?_
  conv => whnf
  refine br.h h ?_ ?_ ?_
  · rfl
  · clear h; intro hb h; conv => whnf
    all_goals (cases h; exact Res.z rfl rfl rfl)
  clear h; intro hb h; conv => whnf
  refine br.h h ?_ ?_ ?_
  · rfl
  · clear h; intro hb h; conv => whnf
    let t : Int := if (wI .i64 (ra0.Fall - s.Run)) > 1 then wI .i64 (ra0.Fall - s.Run) else 1
    all_goals (cases h; exact Res.z rfl rfl rfl)
  clear h; intro hb h; conv => whnf
  let t1 : Int := if (wI .i64 (ra0.Rise - s.Run)) > 1 then wI .i64 (ra0.Rise - s.Run) else 1
  all_goals (cases h; exact Res.z rfl rfl rfl)
theorem ok128 (health_Right : health_Rule → Option Bool) (health_within : Int → Int → Int → Option Bool) (hS : SumsOK Try.prog (aget (sums128 health_Right health_within))) : SumOK Try.prog 128 (s128 (health_NeedF health_Right health_within)) := by
  refine SumOK.of_leads tab_ok (fun ar os r ha hr => ?_) ⟨Try.f128, rfl, by decide, rfl⟩
  replace hr : r128 (health_NeedF health_Right health_within) ar (conts os) = some r := hr
  unfold r128 at hr
  generalize hc : conts os = C at hr
  replace hr := dV.elim hr; obtain ⟨v0, l1, y0, rfl, e0, hr⟩ := hr; obtain rfl := uvhealth_Rule_eq _ _ e0
  replace hr := dV.elim hr; obtain ⟨v1, l2, y1, rfl, e1, hr⟩ := hr; obtain rfl := uvhealth_State_eq _ _ e1
  replace hr := dFin hr; obtain ⟨rfl, rfl, x, h, rfl⟩ := hr
  obtain rfl := kinds_nil hc
  exact ⟨_, rfl, leads128 health_Right health_within hS _ _ x h⟩
def health_Need : health_Rule → health_State → Option Int := health_NeedF health_Right health_within
theorem lift128 : SumOK Try.prog 128 (s128 health_Need) := ok128 health_Right health_within (SumsOK.of_tab ⟨lift69, lift121, trivial⟩)
def health_PutF (health_Need : health_Rule → health_State → Option Int) (ra0 : health_Rule) (s : health_State) (good : Bool) : Option (health_State × Bool) :=
  (health_Need ra0 s).bind fun n =>
  cond (n == 0)
    (
    some ((s, false)))
    (
    cond (n == 1)
      (
      some ((health_State.mk good 0, !(good == s.Up))))
      (
      cond (good == s.Up)
        (
        some ((health_State.mk s.Up 0, false)))
        (
        some ((health_State.mk s.Up (wI .i64 (s.Run + 1)), false)))))
def rx90 (x : health_State × Bool) : SRes := ⟨.tuple ⟨[.agg ⟨[.bool x.1.Up, .int .i64 x.1.Run]⟩, .bool x.2]⟩, [], []⟩
def r90 (g : health_Rule → health_State → Bool → Option (health_State × Bool)) : Dec := dV uvhealth_Rule fun (y0 : health_Rule) => dV uvhealth_State fun (y1 : health_State) => dV asB fun (y2 : Bool) => dEnd (ofG (g y0 y1 y2) rx90)
theorem r90_c {g : health_Rule → health_State → Bool → Option (health_State × Bool)} {y0 : health_Rule} {y1 : health_State} {y2 : Bool} {x : health_State × Bool} (hx : g y0 y1 y2 = some x) : r90 g [.agg ⟨[.int .i64 y0.Rise, .int .i64 y0.Fall]⟩, .agg ⟨[.bool y1.Up, .int .i64 y1.Run]⟩, .bool y2] [] = some (rx90 x) := (dV_eq (uvhealth_Rule_c _)).trans ((dV_eq (uvhealth_State_c _)).trans ((dV_eq (asB_c)).trans (ofG_eq hx)))
def s90 (g : health_Rule → health_State → Bool → Option (health_State × Bool)) : Summ := ⟨[.v, .v, .v], r90 g⟩
theorem r90_eq {g : health_Rule → health_State → Bool → Option (health_State × Bool)} {y0 : health_Rule} {y1 : health_State} {y2 : Bool} {x : health_State × Bool} (hx : g y0 y1 y2 = some x) : (s90 g).run [.agg ⟨[.int .i64 y0.Rise, .int .i64 y0.Fall]⟩, .agg ⟨[.bool y1.Up, .int .i64 y1.Run]⟩, .bool y2] [] = some (rx90 x) := r90_c hx
abbrev sums90 (health_Need : health_Rule → health_State → Option Int) : List (Nat × Summ) := [(128, s128 health_Need)]
theorem leads90 (health_Need : health_Rule → health_State → Option Int) (hS : SumsOK Try.prog (aget (sums90 health_Need))) (ra0 : health_Rule) (s : health_State) (good : Bool) (res : health_State × Bool) (h : health_PutF health_Need ra0 s good = some res) :
    Leads Try.prog 90 0 ⟨⟨90, 32, [(0, .agg ⟨[.int .i64 ra0.Rise, .int .i64 ra0.Fall]⟩), (1, .agg ⟨[.bool s.Up, .int .i64 s.Run]⟩), (2, .bool good)], [.code k90_23], [], false, none⟩, [], [], 0⟩ (fun v H _ => Res 0 (rx90 res) v H) := by
  unfold health_PutF at h
  refine ev_ok tab_ok hS true 3000 ?_
  conv => whnf
  replace h := obind.elim h; obtain ⟨n, hy, h⟩ := h
  refine sumK.q rfl rfl (r128_eq hy) rfl rfl rfl ?_
  conv => whnf
  refine br.h h ?_ ?_ ?_
  · rfl
  · clear h; intro hb h; conv => whnf
    all_goals (cases h; exact Res.z rfl rfl rfl)
  clear h; intro hb h; conv => whnf
  refine br.h h ?_ ?_ ?_
  · rfl
  · clear h; intro hb h; conv => whnf
    all_goals (cases h; exact Res.z rfl rfl rfl)
  clear h; intro hb h; conv => whnf
  refine br.h h ?_ ?_ ?_
  · rfl
  · clear h; intro hb h; conv => whnf
    all_goals (cases h; exact Res.z rfl rfl rfl)
  clear h; intro hb h; conv => whnf
  all_goals (cases h; exact Res.z rfl rfl rfl)
theorem ok90 (health_Need : health_Rule → health_State → Option Int) (hS : SumsOK Try.prog (aget (sums90 health_Need))) : SumOK Try.prog 90 (s90 (health_PutF health_Need)) := by
  refine SumOK.of_leads tab_ok (fun ar os r ha hr => ?_) ⟨Try.f90, rfl, by decide, rfl⟩
  replace hr : r90 (health_PutF health_Need) ar (conts os) = some r := hr
  unfold r90 at hr
  generalize hc : conts os = C at hr
  replace hr := dV.elim hr; obtain ⟨v0, l1, y0, rfl, e0, hr⟩ := hr; obtain rfl := uvhealth_Rule_eq _ _ e0
  replace hr := dV.elim hr; obtain ⟨v1, l2, y1, rfl, e1, hr⟩ := hr; obtain rfl := uvhealth_State_eq _ _ e1
  replace hr := dV.elim hr; obtain ⟨v2, l3, y2, rfl, e2, hr⟩ := hr; obtain rfl := asB_eq _ _ e2
  replace hr := dFin hr; obtain ⟨rfl, rfl, x, h, rfl⟩ := hr
  obtain rfl := kinds_nil hc
  exact ⟨_, rfl, leads90 health_Need hS _ _ _ x h⟩
def health_Put : health_Rule → health_State → Bool → Option (health_State × Bool) := health_PutF health_Need
theorem lift90 : SumOK Try.prog 90 (s90 health_Put) := ok90 health_Need (SumsOK.of_tab ⟨lift128, trivial⟩)
def registry_Registry_ProbeF (health_Put : health_Rule → health_State → Bool → Option (health_State × Bool)) (registry_Registry_find : registry_Registry → Int → Option (Int × Bool)) (registry_Registry_given : registry_Registry → Option Bool) (ga0 : registry_Registry) (ida1 : Int) (good : Bool) : Option (Bool × Int × registry_Registry) :=
  (registry_Registry_given ga0).bind fun xg =>
  cond (!xg)
    (
    some ((false, 1, ga0)))
    (
    (registry_Registry_find ga0 ida1).bind fun f =>
    cond (!f.2)
      (
      some ((false, 13, ga0)))
      (
      oreq (decide ((0 : Int) ≤ f.1 ∧ f.1 < (ga0.rows.length : Int))) <|
      (ga0.rows[f.1.toNat]?).bind fun (e : registry_row) =>
      (health_Put ga0.rule e.health good).bind fun p =>
      let row := ga0.rows.set f.1.toNat (registry_row.mk e.Backend e.drains p.1)
      cond (!p.2)
        (
        some ((p.2, 0, registry_Registry.mk ga0.rule row ga0.last ga0.version)))
        (
        some ((p.2, 0, registry_Registry.mk ga0.rule row ga0.last (wI .i64 (ga0.version + 1)))))))
def rx30 (x : Bool × Int × registry_Registry) : SRes := ⟨.tuple ⟨[.bool x.1, .int .i64 x.2.1]⟩, [(vT cregistry_row x.2.2.rows)], [some [.int .i64 x.2.2.rule.Rise, .int .i64 x.2.2.rule.Fall, .slice (some ⟨0, 0, none⟩) x.2.2.rows.length 9, .int .i64 x.2.2.last, .int .i64 x.2.2.version], none]⟩
def r30 (g : registry_Registry → Int → Bool → Option (Bool × Int × registry_Registry)) : Dec := dTr 2 (udregistry_Registry 0) fun (y0 : registry_Registry) => dV (asI .i64) fun (y1 : Int) => dV asB fun (y2 : Bool) => dEnd (ofG (g y0 y1 y2) rx30)
theorem r30_c {g : registry_Registry → Int → Bool → Option (Bool × Int × registry_Registry)} {y0 : registry_Registry} {y1 : Int} {y2 : Bool} {x : Bool × Int × registry_Registry} (hx : g y0 y1 y2 = some x) : r30 g [.pointer (some ⟨0, 0, none⟩), .int .i64 y1, .bool y2] [some [.int .i64 y0.rule.Rise, .int .i64 y0.rule.Fall, .slice (some ⟨1, 0, none⟩) y0.rows.length 9, .int .i64 y0.last, .int .i64 y0.version], some (vT cregistry_row y0.rows)] = some (rx30 x) := (dTr_eq rfl rfl (udregistry_Registry_c 0 _)).trans ((dV_eq (asI_c _)).trans ((dV_eq (asB_c)).trans (ofG_eq hx)))
def s30 (g : registry_Registry → Int → Bool → Option (Bool × Int × registry_Registry)) : Summ := ⟨[.tr [⟨none, 0, 0, 1, none⟩, ⟨some 0, 2, 0, 2, some 9⟩], .v, .v], r30 g⟩
theorem r30_eq {g : registry_Registry → Int → Bool → Option (Bool × Int × registry_Registry)} {y0 : registry_Registry} {y1 : Int} {y2 : Bool} {x : Bool × Int × registry_Registry} (hx : g y0 y1 y2 = some x) : (s30 g).run [.pointer (some ⟨0, 0, none⟩), .int .i64 y1, .bool y2] [some [.int .i64 y0.rule.Rise, .int .i64 y0.rule.Fall, .slice (some ⟨1, 0, none⟩) y0.rows.length 9, .int .i64 y0.last, .int .i64 y0.version], some (vT cregistry_row y0.rows)] = some (rx30 x) := r30_c hx
abbrev sums30 (health_Put : health_Rule → health_State → Bool → Option (health_State × Bool)) (registry_Registry_find : registry_Registry → Int → Option (Int × Bool)) (registry_Registry_given : registry_Registry → Option Bool) : List (Nat × Summ) := [(90, s90 health_Put), (71, s71 registry_Registry_find), (70, s70 registry_Registry_given)]
theorem leads30 (health_Put : health_Rule → health_State → Bool → Option (health_State × Bool)) (registry_Registry_find : registry_Registry → Int → Option (Int × Bool)) (registry_Registry_given : registry_Registry → Option Bool) (hS : SumsOK Try.prog (aget (sums30 health_Put registry_Registry_find registry_Registry_given))) (ga0 : registry_Registry) (ida1 : Int) (good : Bool) (res : Bool × Int × registry_Registry) (h : registry_Registry_ProbeF health_Put registry_Registry_find registry_Registry_given ga0 ida1 good = some res) :
    Leads Try.prog 30 2 ⟨⟨30, 18, [(0, .pointer (some ⟨0, 0, none⟩)), (1, .int .i64 ida1), (2, .bool good)], [.code k30_12], [], false, none⟩, [], [(0, .cells [.int .i64 ga0.rule.Rise, .int .i64 ga0.rule.Fall, .slice (some ⟨1, 0, none⟩) ga0.rows.length 9, .int .i64 ga0.last, .int .i64 ga0.version]), (1, .row true (vT cregistry_row ga0.rows))], 2⟩ (fun v H _ => Res 2 (rx30 res) v H) := by
  unfold registry_Registry_ProbeF at h
  refine ev_ok tab_ok hS true 3000 ?_
  conv => whnf
  replace h := obind.elim h; obtain ⟨xg, hy, h⟩ := h
  refine sumK.introF [] (sumRun_of (aqs := [.pointer (some ⟨0, 0, none⟩)]) (ws := [.blk 0 false, .blk 1 false]) (n := 0) (m := 0) (t' := 5) (ra_cons (ra_tr rfl rfl (vp_at rfl rfl rfl rfl (vp_at rfl rfl (rn_T cregistry_row_flat) rfl vp_nil)) rfl) rfl ra_nil) rfl (by rfl) (r70_eq hy) rfl rfl rfl rfl (wb_skip rfl (wb_skip rfl wb_nil)) an_nil rfl) ?_
  conv => whnf
  refine br.h h ?_ ?_ ?_
  · rfl
  · clear h; intro hb h; conv => whnf
    all_goals (cases h)
    all_goals exact Res.of [1] rfl (nw_s (rn_T cregistry_row_flat) (hs_row rfl) nw_0) (by decide) (js_r rfl js_0) (wr_s (rfl) (hs_cells rfl) (wr_n wr_0))
  clear h; intro hb h; conv => whnf
  replace h := obind.elim h; obtain ⟨f, hy, h⟩ := h
  refine sumK.introF [] (sumRun_of (aqs := [.pointer (some ⟨0, 0, none⟩), .int .i64 ida1]) (ws := [.blk 0 false, .blk 1 false]) (n := 0) (m := 0) (t' := 5) (ra_cons (ra_tr rfl rfl (vp_at rfl rfl rfl rfl (vp_at rfl rfl (rn_T cregistry_row_flat) rfl vp_nil)) rfl) rfl (ra_cons rfl rfl ra_nil)) rfl (by rfl) (r71_eq hy) rfl rfl rfl rfl (wb_skip rfl (wb_skip rfl wb_nil)) an_nil rfl) ?_
  conv => whnf
  refine br.h h ?_ ?_ ?_
  · rfl
  · clear h; intro hb h; conv => whnf
    all_goals (cases h)
    all_goals exact Res.of [1] rfl (nw_s (rn_T cregistry_row_flat) (hs_row rfl) nw_0) (by decide) (js_r rfl js_0) (wr_s (rfl) (hs_cells rfl) (wr_n wr_0))
  clear h; intro hb h; conv => whnf
  replace h := oreq.elim h; obtain ⟨hb, h⟩ := h
  first | (refine req.intro hb ?_; conv => whnf) | skip
  replace h := obind.elim h; obtain ⟨e, hy, h⟩ := h
  refine ld_TP (j := 7) cregistry_row_len hy (by first | omega | exact Nat.zero_add _ | exact congrArg (· + _) (Nat.zero_add _)) (by decide) ?_
  conv => whnf
  replace h := obind.elim h; obtain ⟨p, hy, h⟩ := h
  refine sumK.q rfl rfl (r90_eq hy) rfl rfl rfl ?_
  conv => whnf
  refine st_TP (i := f.1.toNat) (x := e) (x' := registry_row.mk e.Backend e.drains p.1) (j := 7) cregistry_row_len (by assumption) (by first | omega | exact Nat.zero_add _ | exact congrArg (· + _) (Nat.zero_add _)) (by decide) rfl rfl rfl ?_
  conv => whnf
  let row : List registry_row := ga0.rows.set f.1.toNat (registry_row.mk e.Backend e.drains p.1)
  try rw [show ga0.rows.length = row.length from (List.length_set ..).symm]
  conv => whnf
  refine br.h h ?_ ?_ ?_
  · rfl
  · clear h; intro hb h; conv => whnf
    all_goals (cases h)
    all_goals exact Res.of [1] rfl (nw_s (rn_T cregistry_row_flat) (hs_row rfl) nw_0) (by decide) (js_r rfl js_0) (wr_s (rfl) (hs_cells rfl) (wr_n wr_0))
  clear h; intro hb h; conv => whnf
  all_goals (cases h)
  all_goals exact Res.of [1] rfl (nw_s (rn_T cregistry_row_flat) (hs_row rfl) nw_0) (by decide) (js_r rfl js_0) (wr_s (rfl) (hs_cells rfl) (wr_n wr_0))
theorem ok30 (health_Put : health_Rule → health_State → Bool → Option (health_State × Bool)) (registry_Registry_find : registry_Registry → Int → Option (Int × Bool)) (registry_Registry_given : registry_Registry → Option Bool) (hS : SumsOK Try.prog (aget (sums30 health_Put registry_Registry_find registry_Registry_given))) : SumOK Try.prog 30 (s30 (registry_Registry_ProbeF health_Put registry_Registry_find registry_Registry_given)) := by
  refine SumOK.of_leads tab_ok (fun ar os r ha hr => ?_) ⟨Try.f30, rfl, by decide, rfl⟩
  replace hr : r30 (registry_Registry_ProbeF health_Put registry_Registry_find registry_Registry_given) ar (conts os) = some r := hr
  unfold r30 at hr
  generalize hc : conts os = C at hr
  have hq := dTr.elim hr; clear hr; obtain ⟨v0, l1, c0, C, y0, rfl, rfl, e0, hr⟩ := hq; obtain ⟨rfl, rfl⟩ := udregistry_Registry_eq e0; simp only [List.nil_append, List.cons_append] at hc
  replace hr := dV.elim hr; obtain ⟨v1, l2, y1, rfl, e1, hr⟩ := hr; obtain rfl := asI_eq _ _ _ e1
  replace hr := dV.elim hr; obtain ⟨v2, l3, y2, rfl, e2, hr⟩ := hr; obtain rfl := asB_eq _ _ e2
  replace hr := dFin hr; obtain ⟨rfl, rfl, x, h, rfl⟩ := hr
  obtain ⟨os, rfl, ha, hc⟩ := kinds_some ha hc
  obtain ⟨os, rfl, ha, hc⟩ := kinds_some ha hc
  obtain rfl := kinds_nil hc
  exact ⟨_, rfl, leads30 health_Put registry_Registry_find registry_Registry_given hS _ _ _ x h⟩
def registry_Registry_Probe : registry_Registry → Int → Bool → Option (Bool × Int × registry_Registry) := registry_Registry_ProbeF health_Put registry_Registry_find registry_Registry_given
theorem lift30 : SumOK Try.prog 30 (s30 registry_Registry_Probe) := ok30 health_Put registry_Registry_find registry_Registry_given (SumsOK.of_tab ⟨lift90, lift71, lift70, trivial⟩)
end Go.Vm.Code
namespace Go.Vm.Code
open Go Go.Vm
def noB : api_Backend := ⟨0, 0, 0, ⟨false, 0, 0⟩⟩
def updR (g : registry_Registry) (k : Nat) (r : registry_row) (dv : Int) : registry_Registry := ⟨g.rule, g.rows.set k r, g.last, g.version + dv⟩
def newRow (id w : Int) (a : api_Addr) : registry_row := ⟨⟨id, w, 0, a⟩, false, ⟨true, 0⟩⟩
def putH (r : health_Rule) (s : health_State) (good : Bool) : health_State × Bool :=
  if ruleB r = true ∧ 0 ≤ s.Run ∧ s.Run ≤ 1048576 then
    if good = s.Up then (⟨s.Up, 0⟩, false)
    else if s.Run + 1 ≥ (if s.Up then r.Fall else r.Rise) then (⟨good, 0⟩, true) else (⟨s.Up, s.Run + 1⟩, false)
  else (s, false)
theorem RI.mono {N M : Int} {g : registry_Registry} (h : RI N g) (hm : N ≤ M) : RI M g := { h with ver1 := Int.le_trans h.ver1 hm }
theorem ids_set {rows : List registry_row} {k : Nat} {r q : registry_row} (hk : rows[k]? = some r) (hq : q.Backend.ID = r.Backend.ID) : (rows.set k q).map rid = rows.map rid := by
  apply List.ext_getElem?
  intro i
  rw [List.getElem?_map, List.getElem?_map, List.getElem?_set]
  split
  · rename_i e; subst e
    split
    · rw [hk]; simp [rid, hq]
    · rename_i hl; rw [List.getElem?_eq_none (by omega)]
  · rfl
theorem RI.upd {N : Int} {g : registry_Registry} (h : RI N g) {k : Nat} {r q : registry_row} (hk : g.rows[k]? = some r) (hq : q.Backend.ID = r.Backend.ID) {dv : Int} (h0 : 0 ≤ dv) (h1 : dv ≤ 1) : RI (N + 1) (updR g k q dv) := by
  have e := ids_set hk hq
  have hv0 := h.ver0; have hv1 := h.ver1
  exact { rule := h.rule, len := by simpa [updR] using h.len, last0 := h.last0, last1 := h.last1, ver0 := by show 0 ≤ g.version + dv; omega, ver1 := by show g.version + dv ≤ N + 1; omega,
          ids := by show ∀ i ∈ (g.rows.set k q).map rid, _; rw [e]; exact h.ids, up := by show ((g.rows.set k q).map rid).Pairwise _; rw [e]; exact h.up }
def addG (g : registry_Registry) (w : Int) (a : api_Addr) : Int × Int × registry_Registry :=
  if weighB w = true ∧ adrB a = true then
    if g.rows.length = 64 ∨ g.last = 65535 then (0, 9, g) else (g.last + 1, 0, ⟨g.rule, g.rows ++ [newRow (g.last + 1) w a], g.last + 1, g.version + 1⟩)
  else (0, 1, g)
theorem add_eq {N : Int} {g : registry_Registry} (h : RI N g) (hN : N < 2 ^ 40) (w : Int) (a : api_Addr) : registry_Registry_Add g w a = some (addG g w a) := by
  unfold registry_Registry_Add registry_Registry_AddF addG
  rw [given_eq h, Option.bind_some, weighs_eq, Option.bind_some, aright_eq, Option.bind_some]
  have hl := h.len; have h0 := h.last0; have h1 := h.last1; have v0 := h.ver0; have v1 := h.ver1
  cases hw : weighB w with
  | false => rfl
  | true =>
  cases ha : adrB a with
  | false => rfl
  | true =>
  simp only [Bool.not_true, cond_false, and_self, ↓reduceIte]
  by_cases e1 : g.rows.length = 64
  · rw [show ((g.rows.length : Int) == 64) = true from by rw [beq_iff_eq]; omega, cond_true, if_pos (.inl e1)]
  · rw [show ((g.rows.length : Int) == 64) = false from by rw [beq_eq_false_iff_ne]; omega, cond_false]
    by_cases e2 : g.last = 65535
    · rw [show (g.last == 65535) = true from by rw [beq_iff_eq]; exact e2, cond_true, if_pos (.inr e2)]
    · rw [show (g.last == 65535) = false from by rw [beq_eq_false_iff_ne]; exact e2, cond_false, if_neg (by omega), oreq_p (by omega), wI64 (by omega) (by omega), wI64 (n := g.version + 1) (by omega) (by omega)]; rfl
theorem add_RI {N : Int} {g : registry_Registry} (h : RI N g) (w : Int) (a : api_Addr) : RI (N + 1) (addG g w a).2.2 := by
  unfold addG
  split
  · split
    · exact h.mono (by omega)
    · rename_i hn
      have hl := h.len; have h0 := h.last0; have h1 := h.last1; have v0 := h.ver0; have v1 := h.ver1
      refine { rule := h.rule, len := by simp; omega, last0 := by show 0 ≤ g.last + 1; omega, last1 := by show g.last + 1 ≤ 65535; omega, ver0 := by show 0 ≤ g.version + 1; omega, ver1 := by show g.version + 1 ≤ N + 1; omega, ids := ?_, up := ?_ }
      · intro i hi
        simp only [List.map_append, List.map_cons, List.map_nil, List.mem_append, List.mem_singleton] at hi
        show 1 ≤ i ∧ i ≤ g.last + 1
        rcases hi with hi | hi
        · have := h.ids i hi; omega
        · subst hi; simp only [rid, newRow]; omega
      · simp only [List.map_append, List.map_cons, List.map_nil]
        rw [List.pairwise_append]
        refine ⟨h.up, List.pairwise_singleton .., fun i hi j hj => ?_⟩
        have := h.ids i hi
        simp only [List.mem_singleton] at hj
        subst hj; simp only [rid, newRow]; omega
  · exact h.mono (by omega)
theorem drain_yes {N : Int} {g : registry_Registry} (h : RI N g) (hN : N < 2 ^ 40) {k : Nat} {r : registry_row} (hk : g.rows[k]? = some r) (on : Bool) :
    registry_Registry_Drain g r.Backend.ID on = some (if r.drains = on then (11, g) else (0, updR g k ⟨r.Backend, on, r.health⟩ 1)) := by
  unfold registry_Registry_Drain registry_Registry_DrainF
  have v0 := h.ver0; have v1 := h.ver1
  have hl := (List.getElem?_eq_some_iff.1 hk).1
  rw [given_eq h, Option.bind_some, find_yes h hk, Option.bind_some]
  simp only [Bool.not_true, cond_false]
  rw [oreq_p ⟨by omega, by omega⟩, Int.toNat_natCast, hk, Option.bind_some]
  by_cases e : r.drains = on
  · rw [show (r.drains == on) = true from by simpa using e, cond_true, if_pos e]
  · rw [show (r.drains == on) = false from by simpa using e, cond_false, if_neg e, wI64 (by omega) (by omega)]; rfl
theorem drain_no {N : Int} {g : registry_Registry} (h : RI N g) {id : Int} (hn : ∀ (k : Nat) r, g.rows[k]? = some r → r.Backend.ID ≠ id) (on : Bool) : registry_Registry_Drain g id on = some (13, g) := by
  unfold registry_Registry_Drain registry_Registry_DrainF
  obtain ⟨i, hi⟩ := find_no h hn
  rw [given_eq h, Option.bind_some, hi, Option.bind_some]; rfl
theorem weight_yes {N : Int} {g : registry_Registry} (h : RI N g) (hN : N < 2 ^ 40) {k : Nat} {r : registry_row} (hk : g.rows[k]? = some r) (w : Int) :
    registry_Registry_Weight g r.Backend.ID w = some (if weighB w then (0, updR g k ⟨⟨r.Backend.ID, w, r.Backend.State, r.Backend.Addr⟩, r.drains, r.health⟩ 1) else (1, g)) := by
  unfold registry_Registry_Weight registry_Registry_WeightF
  have v0 := h.ver0; have v1 := h.ver1
  have hl := (List.getElem?_eq_some_iff.1 hk).1
  rw [given_eq h, Option.bind_some, find_yes h hk, Option.bind_some]
  simp only [Bool.not_true, cond_false]
  rw [oreq_p ⟨by omega, by omega⟩, Int.toNat_natCast, hk, weighs_eq, Option.bind_some]
  cases hw : weighB w with
  | false => rfl
  | true => simp only [Bool.not_true, cond_false, Option.bind_some]; rw [wI64 (by omega) (by omega)]; rfl
theorem weight_no {N : Int} {g : registry_Registry} (h : RI N g) {id : Int} (hn : ∀ (k : Nat) r, g.rows[k]? = some r → r.Backend.ID ≠ id) (w : Int) : registry_Registry_Weight g id w = some (13, g) := by
  unfold registry_Registry_Weight registry_Registry_WeightF
  obtain ⟨i, hi⟩ := find_no h hn
  rw [given_eq h, Option.bind_some, hi, Option.bind_some]; rfl
theorem hput_eq (r : health_Rule) (s : health_State) (good : Bool) : health_Put r s good = some (putH r s good) := by
  unfold health_Put health_PutF health_Need health_NeedF putH
  rw [hright_eq, Option.bind_some, within_eq, Option.bind_some]
  cases hr : ruleB r with
  | false => rfl
  | true =>
  simp only [ruleB, decide_eq_true_eq] at hr
  by_cases hs : 0 ≤ s.Run ∧ s.Run ≤ 1048576
  · rw [decide_eq_true hs]
    simp only [Bool.not_true, cond_false, true_and]
    rw [if_pos hs, wI64 (n := r.Fall - s.Run) (by omega) (by omega), wI64 (n := r.Rise - s.Run) (by omega) (by omega), wI64 (n := s.Run + 1) (by omega) (by omega)]
    have key : ∀ must : Int, (do
        let n ← some (if must - s.Run > 1 then must - s.Run else 1)
        cond (n == 0) (some (s, false)) (cond (n == 1) (some (health_State.mk good 0, !(good == s.Up))) (cond (good == s.Up) (some (health_State.mk s.Up 0, false)) (some (health_State.mk s.Up (s.Run + 1), false))))) =
        some (if good = s.Up then ((⟨s.Up, 0⟩ : health_State), false) else if s.Run + 1 ≥ must then (⟨good, 0⟩, true) else (⟨s.Up, s.Run + 1⟩, false)) := by
      intro must
      by_cases hm : must - s.Run > 1
      · rw [if_pos hm]
        simp only [Option.bind_eq_bind, Option.bind_some]
        rw [show (must - s.Run == 0) = false from by rw [beq_eq_false_iff_ne]; omega, show (must - s.Run == 1) = false from by rw [beq_eq_false_iff_ne]; omega, cond_false, cond_false, if_neg (show ¬ s.Run + 1 ≥ must by omega)]
        cases good <;> cases s.Up <;> simp
      · rw [if_neg hm, if_pos (show s.Run + 1 ≥ must by omega)]
        simp only [Option.bind_eq_bind, Option.bind_some]
        cases good <;> cases s.Up <;> simp
    cases hu : s.Up with
    | true => have := key r.Fall; simp only [hu] at this; simpa using this
    | false => have := key r.Rise; simp only [hu] at this; simpa using this
  · rw [decide_eq_false hs]; simp only [Bool.not_true, Bool.not_false, cond_false, cond_true, Option.bind_some, hs, and_false, ↓reduceIte]; rfl
theorem probe_yes {N : Int} {g : registry_Registry} (h : RI N g) (hN : N < 2 ^ 40) {k : Nat} {r : registry_row} (hk : g.rows[k]? = some r) (good : Bool) :
    registry_Registry_Probe g r.Backend.ID good = some ((putH g.rule r.health good).2, 0, updR g k ⟨r.Backend, r.drains, (putH g.rule r.health good).1⟩ (if (putH g.rule r.health good).2 then 1 else 0)) := by
  unfold registry_Registry_Probe registry_Registry_ProbeF
  have v0 := h.ver0; have v1 := h.ver1
  have hl := (List.getElem?_eq_some_iff.1 hk).1
  rw [given_eq h, Option.bind_some, find_yes h hk, Option.bind_some]
  simp only [Bool.not_true, cond_false]
  rw [oreq_p ⟨by omega, by omega⟩, Int.toNat_natCast, hk, Option.bind_some, hput_eq, Option.bind_some]
  cases (putH g.rule r.health good).2 with
  | false => simp only [Bool.not_false, cond_true, updR, Bool.false_eq_true, ↓reduceIte, Int.add_zero]
  | true => simp only [Bool.not_true, cond_false, updR, ↓reduceIte]; rw [wI64 (by omega) (by omega)]
theorem probe_no {N : Int} {g : registry_Registry} (h : RI N g) {id : Int} (hn : ∀ (k : Nat) r, g.rows[k]? = some r → r.Backend.ID ≠ id) (good : Bool) : registry_Registry_Probe g id good = some (false, 13, g) := by
  unfold registry_Registry_Probe registry_Registry_ProbeF
  obtain ⟨i, hi⟩ := find_no h hn
  rw [given_eq h, Option.bind_some, hi, Option.bind_some]; rfl
theorem list_eq {N : Int} {g : registry_Registry} (h : RI N g) : registry_Registry_List g = some (g.rows.map tld) := by
  unfold registry_Registry_List registry_Registry_ListF
  have hlen := h.len
  rw [given_eq h, Option.bind_some]
  simp only [Bool.not_true, cond_false]
  have := iter_build (fun i => tld (g.rows.getD i ⟨noB, false, ⟨false, 0⟩⟩)) g.rows.length (fun st => registry_Registry_List_s1 registry_row_told g st.1 st.2) (fun o => o) (n := FUEL) ?_ ?_ (by rw [FUEL_eq]; omega)
  · rw [this]
    congr 1
    exact range_map _ _ _ (fun i hi => by rw [List.getD_eq_getElem?_getD, List.getElem?_eq_getElem hi]; rfl)
  · intro i hi out ho
    simp only []
    unfold registry_Registry_List_s1
    rw [cond_p (by omega), oreq_p ⟨by omega, by omega⟩, Int.toNat_natCast, List.getD_eq_getElem?_getD, List.getElem?_eq_getElem hi, Option.bind_some, told_eq, Option.bind_some, oreq_p (by omega), wI64 (by omega) (by omega)]
    rfl
  · intro out ho
    simp only []
    unfold registry_Registry_List_s1
    rw [cond_n (by omega)]
def remG (g : registry_Registry) (k : Nat) : registry_Registry := ⟨g.rule, g.rows.eraseIdx k, g.last, g.version + 1⟩
theorem rem_RI {N : Int} {g : registry_Registry} (h : RI N g) (k : Nat) : RI (N + 1) (remG g k) := by
  have hs : ((g.rows.eraseIdx k).map rid).Sublist (g.rows.map rid) := (List.eraseIdx_sublist _ _).map _
  have v0 := h.ver0; have v1 := h.ver1; have hl := h.len
  refine { rule := h.rule, len := ?_, last0 := h.last0, last1 := h.last1, ver0 := by show 0 ≤ g.version + 1; omega, ver1 := by show g.version + 1 ≤ N + 1; omega, ids := fun i hi => h.ids i (hs.subset hi), up := h.up.sublist hs }
  have := (List.eraseIdx_sublist g.rows k).length_le
  show (g.rows.eraseIdx k).length ≤ 64
  omega
theorem rem_inner {N : Int} {g : registry_Registry} (h : RI N g) (hN : N < 2 ^ 40) {k : Nat} {r : registry_row} (hk : g.rows[k]? = some r) :
    iter (fun st => registry_Registry_Remove_s1 g r.Backend.ID st.1 st.2.1 st.2.2) FUEL ((k : Int), wI .i64 ((k : Int) + 1), g.rows) = some (0, remG g k) := by
  have hl := (List.getElem?_eq_some_iff.1 hk).1
  have hlen := h.len; have v0 := h.ver0; have v1 := h.ver1
  rw [wI64 (by omega) (by omega)]
  refine iter_eq (fun _ => (0, remG g k)) (fun (s : Int × Int × List registry_row) => ∃ j : Nat, k < j ∧ j ≤ g.rows.length ∧ s.1 = (j : Int) - 1 ∧ s.2.1 = j ∧ s.2.2.length = g.rows.length ∧ (∀ m, m < j - 1 → s.2.2[m]? = (g.rows.eraseIdx k)[m]?) ∧ ∀ m, j ≤ m → s.2.2[m]? = g.rows[m]?)
    (fun s => g.rows.length - s.2.1.toNat) ?_ FUEL ((k : Int), (k : Int) + 1, g.rows) ⟨k + 1, by omega, by omega, by simp only []; omega, by simp, rfl, fun m hm => ?_, fun m hm => rfl⟩ (by rw [FUEL_eq]; simp only []; omega)
  · rintro ⟨i, xj, s⟩ ⟨j, h1, h2, h3, h4, h5, h6, h7⟩
    simp only at h3 h4 h5 h6 h7
    subst h3; subst h4
    dsimp only
    unfold registry_Registry_Remove_s1
    rcases Nat.lt_or_ge j g.rows.length with hlt | hge
    · right
      have hj : s[j]? = some g.rows[j] := by rw [h7 j (Nat.le_refl _), List.getElem?_eq_getElem hlt]
      have hne : ((g.rows[j]).Backend.ID == r.Backend.ID) = false := by
        rw [beq_eq_false_iff_ne]
        have := h.lt hk (List.getElem?_eq_getElem hlt) h1
        omega
      rw [cond_p (by omega), oreq_p ⟨by omega, by omega⟩, Int.toNat_natCast, hj, Option.bind_some, hne]
      simp only [Bool.not_false, cond_true]
      rw [oreq_p ⟨by omega, by omega⟩, oreq_p (by omega), wI64 (by omega) (by omega), wI64 (by omega) (by omega)]
      refine ⟨_, rfl, ⟨j + 1, by omega, by omega, by simp only []; omega, by simp only []; omega, by simpa using h5, fun m hm => ?_, fun m hm => ?_⟩, by simp only []; omega, by trivial⟩
      · simp only []
        have et : ((j : Int) - 1).toNat = j - 1 := by omega
        rw [et, List.getElem?_set]
        split
        · rename_i e; subst e
          rw [if_pos (by omega), List.getElem?_eraseIdx, if_neg (by omega), show j - 1 + 1 = j by omega, List.getElem?_eq_getElem hlt]
        · exact h6 m (by omega)
      · simp only []
        rw [List.getElem?_set, if_neg (by omega)]
        exact h7 m (by omega)
    · left
      have e : j = g.rows.length := by omega
      have et : ((j : Int) - 1).toNat = j - 1 := by omega
      rw [cond_n (by omega), oreq_p ⟨by omega, by omega⟩, et, oreq_p (by omega), oreq_p ⟨by omega, by omega⟩, wI64 (by omega) (by omega)]
      have : s.take (j - 1) = g.rows.eraseIdx k := by
        apply List.ext_getElem?
        intro m
        rw [List.getElem?_take]
        split
        · rename_i hm; exact h6 m hm
        · rw [List.getElem?_eq_none]
          rw [List.length_eraseIdx, if_pos hl]; omega
      rw [this]; rfl
  · simp only [Nat.add_sub_cancel] at hm
    rw [List.getElem?_eraseIdx, if_pos hm]
theorem remove_yes {N : Int} {g : registry_Registry} (h : RI N g) (hN : N < 2 ^ 40) {k : Nat} {r : registry_row} (hk : g.rows[k]? = some r) : registry_Registry_Remove g r.Backend.ID = some (0, remG g k) := by
  unfold registry_Registry_Remove registry_Registry_RemoveF
  have hl := (List.getElem?_eq_some_iff.1 hk).1
  have hlen := h.len
  rw [given_eq h, Option.bind_some, find_yes h hk, Option.bind_some]
  simp only [Bool.not_true, cond_false]
  rw [oreq_p ⟨by omega, by omega⟩]
  refine iter_eq (fun _ => (0, remG g k)) (fun (s : Int) => 0 ≤ s ∧ s ≤ k) (fun s => ((k : Int) - s).toNat) ?_ FUEL 0 ⟨by omega, by omega⟩ (by rw [FUEL_eq]; omega)
  rintro s ⟨h0, h1⟩
  obtain ⟨i, rfl⟩ := Int.eq_ofNat_of_zero_le h0
  unfold registry_Registry_Remove_s2
  have hi : i < g.rows.length := by omega
  rw [cond_p (by omega), oreq_p ⟨by omega, by omega⟩, Int.toNat_natCast, List.getElem?_eq_getElem hi, Option.bind_some]
  rcases Nat.lt_or_ge i k with hlt | hge
  · right
    have hne : ((g.rows[i]).Backend.ID == r.Backend.ID) = false := by
      rw [beq_eq_false_iff_ne]
      have := h.lt (List.getElem?_eq_getElem hi) hk hlt
      omega
    rw [hne, cond_false, wI64 (by omega) (by omega)]
    exact ⟨_, rfl, ⟨by omega, by omega⟩, by omega, by trivial⟩
  · left
    have e : i = k := by omega
    subst e
    have er : g.rows[i] = r := by rw [List.getElem?_eq_getElem hi] at hk; exact Option.some.inj hk
    rw [er, show (r.Backend.ID == r.Backend.ID) = true from by simp, cond_true, show ((i : Int) == -1) = false from by rw [beq_eq_false_iff_ne]; omega, cond_false, rem_inner h hN hk, Option.bind_some]
theorem remove_no {N : Int} {g : registry_Registry} (h : RI N g) {id : Int} (hn : ∀ (k : Nat) r, g.rows[k]? = some r → r.Backend.ID ≠ id) : registry_Registry_Remove g id = some (13, g) := by
  unfold registry_Registry_Remove registry_Registry_RemoveF
  obtain ⟨i, hi⟩ := find_no h hn
  rw [given_eq h, Option.bind_some, hi, Option.bind_some]; rfl
theorem rid_dec (g : registry_Registry) (id : Int) : (∃ (k : Nat) (r : registry_row), g.rows[k]? = some r ∧ r.Backend.ID = id) ∨ ∀ (k : Nat) r, g.rows[k]? = some r → r.Backend.ID ≠ id := by
  by_cases h : ∃ (k : Nat) (r : registry_row), g.rows[k]? = some r ∧ r.Backend.ID = id
  · exact .inl h
  · exact .inr fun k r hk he => h ⟨k, r, hk, he⟩
end Go.Vm.Code
