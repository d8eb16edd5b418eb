import Derived.Test.YtadhjooghfdloaaNRegistryPlaysd
namespace Go.Vm.Code
open Go Go.Vm Go.Proofs
set_option maxRecDepth 100000
set_option maxHeartbeats 4000000
set_option linter.unusedVariables false
def registry_Registry_Reset_nilF (registry_Registry_given : registry_Registry → Option Bool) (registry_Registry_given_nil : Option Bool) : Option Unit :=
  (registry_Registry_given_nil).bind fun n =>
  cond (!n)
    (
    some (()))
    (
    none)
def rx31n (x : Unit) : SRes := ⟨.tuple ⟨[]⟩, [], [none, none]⟩
def r31n (g : Option Unit) : Dec := dNl 2 <| dEnd (ofG (g) rx31n)
theorem r31n_c {g : Option Unit} {x : Unit} (hx : g = some x) : r31n g [.pointer none] [none, none] = some (rx31n x) := (dNl_2).trans (ofG_eq hx)
abbrev sums31n (registry_Registry_given : registry_Registry → Option Bool) (registry_Registry_given_nil : Option Bool) : List (Nat × Summ) := [(70, s70 registry_Registry_given registry_Registry_given_nil)]
theorem leads31n (registry_Registry_given : registry_Registry → Option Bool) (registry_Registry_given_nil : Option Bool) (hS : SumsOK Try.prog (aget (sums31n registry_Registry_given registry_Registry_given_nil))) (res : Unit) (h : registry_Registry_Reset_nilF registry_Registry_given registry_Registry_given_nil = some res) :
    Leads Try.prog 31 2 ⟨⟨31, 30, [(0, .pointer none)], [.code k31_19], [], false, none⟩, [], [], 2⟩ (fun v H _ => Res 2 (rx31n res) v H) := by
  unfold registry_Registry_Reset_nilF at h
  refine ev_ok tab_ok hS true 3000 ?_
  conv => whnf
  replace h := obind.elim h; obtain ⟨n, hy, h⟩ := h
  refine sumK.introF [] (sumRun_of (aqs := [.pointer none]) (ws := [.no, .no]) (n := 0) (m := 0) (t' := 2) (ra_cons rfl rfl ra_nil) rfl (by rfl) (r70n_eq hy) rfl rfl rfl rfl (wb_skip rfl (wb_skip rfl wb_nil)) an_nil rfl) ?_
  conv => whnf
  refine br.h h ?_ ?_ ?_
  · rfl
  · clear h; intro hb h; conv => whnf
    all_goals (cases h)
    all_goals exact Res.of [] rfl nw_0 (by decide) js_0 (wr_n (wr_n wr_0))
  clear h; intro hb h; conv => whnf
  cases h
def registry_Registry_Reset_s1 (ga0 : registry_Registry) (t10 : Int) (t11 : Int) (c : List registry_row) : Option (Sum (Int × Int × (List registry_row)) registry_Registry) :=
  cond (decide (t11 < t10))
    (
    oreq (decide ((0 : Int) ≤ t11 ∧ t11 < (c.length : Int))) <|
    (c[t11.toNat]?).bind fun (e : registry_row) =>
    let row := c.set t11.toNat (registry_row.mk e.Backend e.drains (health_State.mk true 0))
    some (.inl (t10, wI .i64 (t11 + 1), row)))
    (
    some (.inr (registry_Registry.mk ga0.rule c ga0.last (wI .i64 (ga0.version + 1)))))
def registry_Registry_ResetF (registry_Registry_given : registry_Registry → Option Bool) (registry_Registry_given_nil : Option Bool) (ga0 : registry_Registry) : Option registry_Registry :=
  (registry_Registry_given ga0).bind fun xg =>
  cond (!xg)
    (
    some (ga0))
    (
    iter (fun st => registry_Registry_Reset_s1 ga0 st.1 st.2.1 st.2.2) FUEL ((ga0.rows.length : Int), 0, ga0.rows))
def rx31 (x : registry_Registry) : SRes := ⟨.tuple ⟨[]⟩, [(vT cregistry_row x.rows)], [some [.int .i64 x.rule.Rise, .int .i64 x.rule.Fall, .slice (some ⟨0, 0, none⟩) x.rows.length 9, .int .i64 x.last, .int .i64 x.version], none]⟩
def r31 (g : registry_Registry → Option registry_Registry) : Dec := dTr 2 (udregistry_Registry 0) fun (y0 : registry_Registry) => dEnd (ofG (g y0) rx31)
theorem r31_c {g : registry_Registry → Option registry_Registry} {y0 : registry_Registry} {x : registry_Registry} (hx : g y0 = some x) : r31 g [.pointer (some ⟨0, 0, none⟩)] [some [.int .i64 y0.rule.Rise, .int .i64 y0.rule.Fall, .slice (some ⟨1, 0, none⟩) y0.rows.length 9, .int .i64 y0.last, .int .i64 y0.version], some (vT cregistry_row y0.rows)] = some (rx31 x) := (dTr_eq rfl rfl (udregistry_Registry_c 0 _)).trans (ofG_eq hx)
def s31 (g : registry_Registry → Option registry_Registry) (g2 : Option Unit) : Summ := ⟨[.tr [⟨none, 0, 0, 1, none⟩, ⟨some 0, 2, 0, 2, some 9⟩]], pickN 0 (r31 g) (r31n g2)⟩
theorem r31_eq {g : registry_Registry → Option registry_Registry} {g2 : Option Unit} {y0 : registry_Registry} {x : registry_Registry} (hx : g y0 = some x) : (s31 g g2).run [.pointer (some ⟨0, 0, none⟩)] [some [.int .i64 y0.rule.Rise, .int .i64 y0.rule.Fall, .slice (some ⟨1, 0, none⟩) y0.rows.length 9, .int .i64 y0.last, .int .i64 y0.version], some (vT cregistry_row y0.rows)] = some (rx31 x) := r31_c hx
theorem r31n_eq {g2 : registry_Registry → Option registry_Registry} {g : Option Unit} {x : Unit} (hx : g = some x) : (s31 g2 g).run [.pointer none] [none, none] = some (rx31n x) := r31n_c hx
abbrev sums31 (registry_Registry_given : registry_Registry → Option Bool) (registry_Registry_given_nil : Option Bool) : List (Nat × Summ) := [(70, s70 registry_Registry_given registry_Registry_given_nil)]
def head31_1 (ga0 : registry_Registry) (t10 : Int) (t11 : Int) (c : List registry_row) : VM :=
  ⟨⟨31, 30, [(0, .pointer (some ⟨0, 0, none⟩)), (10, .int .i64 t10), (11, .int .i64 t11)], [.code k31_13, .inLoop k31_13, .inBlock 0, .code k31_17], [], false, none⟩, [], [(0, .cells [.int .i64 ga0.rule.Rise, .int .i64 ga0.rule.Fall, .slice (some ⟨1, 0, none⟩) c.length 9, .int .i64 ga0.last, .int .i64 ga0.version]), (1, .row true (vT cregistry_row c))], 2⟩
theorem loop31_1 (registry_Registry_given : registry_Registry → Option Bool) (registry_Registry_given_nil : Option Bool) (hS : SumsOK Try.prog (aget (sums31 registry_Registry_given registry_Registry_given_nil))) (ga0 : registry_Registry) (res : registry_Registry) : ∀ fuel (st : Int × Int × (List registry_row)) (o : registry_Registry), iter (fun st => registry_Registry_Reset_s1 ga0 st.1 st.2.1 st.2.2) fuel st = some o → (o = res) →
    Leads Try.prog 31 2 (head31_1 ga0 st.1 st.2.1 st.2.2) (fun v H _ => Res 2 (rx31 res) v H) := by
  intro fuel st o h hc
  refine iter_leads (head := fun st => head31_1 ga0 st.1 st.2.1 st.2.2) (C := fun o => (o = res)) ?_ fuel st o h hc
  clear h hc o st fuel
  intro st o h hc
  obtain ⟨t10, t11, c⟩ := st
  replace h : registry_Registry_Reset_s1 ga0 t10 t11 c = some o := h
  show Leads Try.prog 31 2 (head31_1 ga0 t10 t11 c) (fun v H _ => Res 2 (rx31 res) v H)
  unfold registry_Registry_Reset_s1 at h
  refine ev_ok tab_ok hS true 3000 ?_
  conv => whnf
  refine br.h2 h ?_ ?_ ?_
  · rfl
  · clear h; intro hb h; conv => whnf
    all_goals (cases h; cases hc)
    all_goals exact Res.of [1] rfl (nw_s (rn_T cregistry_row_flat) (hs_row rfl) nw_0) (by decide) (js_r rfl js_0) (wr_s (rfl) (hs_cells rfl) (wr_n wr_0))
  clear h; intro hb h; conv => whnf
  replace h := oreq.elim h; obtain ⟨hb, h⟩ := h
  first | (refine req.intro hb ?_; conv => whnf) | skip
  replace h := obind.elim h; obtain ⟨e, hy, h⟩ := h
  refine st_TP (x' := registry_row.mk e.Backend e.drains (health_State.mk true 0)) (j := 7) cregistry_row_len hy (by first | omega | exact Nat.zero_add _ | exact congrArg (· + _) (Nat.zero_add _)) (by decide) rfl rfl rfl ?_
  conv => whnf
  let row : List registry_row := c.set t11.toNat (registry_row.mk e.Backend e.drains (health_State.mk true 0))
  try rw [show c.length = row.length from (List.length_set ..).symm]
  conv => whnf
  cases h; simp only [Sum.elim_inl, head31_1] at hc
  refine Leads.re hc [(0, 0), (1, 1)] rfl ?_ ?_ <;> (repeat' first | exact trivial | refine ⟨⟨_, rfl, rfl⟩, ?_⟩ | refine ⟨⟨_, _, rfl, rfl, .rowF (vI_flat _ _) id⟩, ?_⟩ | refine ⟨⟨_, _, rfl, rfl, .rowF (vS_flat _) id⟩, ?_⟩ | refine ⟨⟨_, _, rfl, rfl, .rowF (vB_flat _) id⟩, ?_⟩ | refine ⟨⟨_, _, rfl, rfl, .rowF (vT_flat (by first | exact chealth_Rule_flat | exact capi_Addr_flat | exact cR23_Step_flat | exact capi_Backend_flat | exact chealth_State_flat | exact cregistry_row_flat | exact cR23_Row_flat) _) id⟩, ?_⟩ | refine ⟨⟨_, _, rfl, rfl, .tyF (vI_flat _ _)⟩, ?_⟩ | refine ⟨⟨_, _, rfl, rfl, .ty rfl⟩, ?_⟩ | refine ⟨⟨_, _, rfl, rfl, .cells rfl⟩, ?_⟩ | refine ⟨⟨_, _, rfl, rfl, .row rfl id⟩, ?_⟩ | refine ⟨⟨_, _, rfl, rfl, .cr rfl⟩, ?_⟩ | refine ⟨⟨_, _, rfl, rfl, .rc rfl⟩, ?_⟩ | refine ⟨⟨_, _, rfl, rfl, .marks⟩, ?_⟩ | refine ⟨⟨_, _, rfl, rfl, .siter _ _⟩, ?_⟩ | refine ⟨⟨_, _, rfl, rfl, .loop rfl rfl rfl rfl (by repeat' first | exact trivial | refine ⟨rfl, ?_⟩) rfl rfl rfl rfl⟩, ?_⟩)
theorem leads31 (registry_Registry_given : registry_Registry → Option Bool) (registry_Registry_given_nil : Option Bool) (hS : SumsOK Try.prog (aget (sums31 registry_Registry_given registry_Registry_given_nil))) (ga0 : registry_Registry) (res : registry_Registry) (h : registry_Registry_ResetF registry_Registry_given registry_Registry_given_nil ga0 = some res) :
    Leads Try.prog 31 2 ⟨⟨31, 30, [(0, .pointer (some ⟨0, 0, none⟩))], [.code k31_19], [], false, none⟩, [], [(0, .cells [.int .i64 ga0.rule.Rise, .int .i64 ga0.rule.Fall, .slice (some ⟨1, 0, none⟩) ga0.rows.length 9, .int .i64 ga0.last, .int .i64 ga0.version]), (1, .row true (vT cregistry_row ga0.rows))], 2⟩ (fun v H _ => Res 2 (rx31 res) v H) := by
  unfold registry_Registry_ResetF at h
  refine ev_ok tab_ok hS true 3000 ?_
  conv => whnf
  replace h := obind.elim h; obtain ⟨xg, hy, h⟩ := h
  refine sumK.introF [] (sumRun_of (aqs := [.pointer (some ⟨0, 0, none⟩)]) (ws := [.blk 0 false, .blk 1 false]) (n := 0) (m := 0) (t' := 2) (ra_cons (ra_tr rfl rfl (vp_at rfl rfl rfl rfl (vp_at rfl rfl (rn_T cregistry_row_flat) rfl vp_nil)) rfl) rfl ra_nil) rfl (by rfl) (r70_eq hy) rfl rfl rfl rfl (wb_skip rfl (wb_skip rfl wb_nil)) an_nil rfl) ?_
  conv => whnf
  refine br.h h ?_ ?_ ?_
  · rfl
  · clear h; intro hb h; conv => whnf
    all_goals (cases h)
    all_goals exact Res.of [1] rfl (nw_s (rn_T cregistry_row_flat) (hs_row rfl) nw_0) (by decide) (js_r rfl js_0) (wr_s (rfl) (hs_cells rfl) (wr_n wr_0))
  clear h; intro hb h; conv => whnf
  have hl := loop31_1 registry_Registry_given registry_Registry_given_nil hS _ res _ _ _ h rfl; simp only [head31_1] at hl
  refine Leads.re hl [(0, 0), (1, 1)] rfl ?_ ?_ <;> (repeat' first | exact trivial | refine ⟨⟨_, rfl, rfl⟩, ?_⟩ | refine ⟨⟨_, _, rfl, rfl, .rowF (vI_flat _ _) id⟩, ?_⟩ | refine ⟨⟨_, _, rfl, rfl, .rowF (vS_flat _) id⟩, ?_⟩ | refine ⟨⟨_, _, rfl, rfl, .rowF (vB_flat _) id⟩, ?_⟩ | refine ⟨⟨_, _, rfl, rfl, .rowF (vT_flat (by first | exact chealth_Rule_flat | exact capi_Addr_flat | exact cR23_Step_flat | exact capi_Backend_flat | exact chealth_State_flat | exact cregistry_row_flat | exact cR23_Row_flat) _) id⟩, ?_⟩ | refine ⟨⟨_, _, rfl, rfl, .tyF (vI_flat _ _)⟩, ?_⟩ | refine ⟨⟨_, _, rfl, rfl, .ty rfl⟩, ?_⟩ | refine ⟨⟨_, _, rfl, rfl, .cells rfl⟩, ?_⟩ | refine ⟨⟨_, _, rfl, rfl, .row rfl id⟩, ?_⟩ | refine ⟨⟨_, _, rfl, rfl, .cr rfl⟩, ?_⟩ | refine ⟨⟨_, _, rfl, rfl, .rc rfl⟩, ?_⟩ | refine ⟨⟨_, _, rfl, rfl, .marks⟩, ?_⟩ | refine ⟨⟨_, _, rfl, rfl, .siter _ _⟩, ?_⟩ | refine ⟨⟨_, _, rfl, rfl, .loop rfl rfl rfl rfl (by repeat' first | exact trivial | refine ⟨rfl, ?_⟩) rfl rfl rfl rfl⟩, ?_⟩)
theorem ok31 (registry_Registry_given : registry_Registry → Option Bool) (registry_Registry_given_nil : Option Bool) (hS : SumsOK Try.prog (aget (sums31 registry_Registry_given registry_Registry_given_nil))) (hS2 : SumsOK Try.prog (aget (sums31n registry_Registry_given registry_Registry_given_nil))) : SumOK Try.prog 31 (s31 (registry_Registry_ResetF registry_Registry_given registry_Registry_given_nil) (registry_Registry_Reset_nilF registry_Registry_given registry_Registry_given_nil)) := by
  refine SumOK.of_leads tab_ok (fun ar os r ha hr => ?_) ⟨Try.f31, rfl, by decide, rfl⟩
  have hp := pickN.elim hr; clear hr; rcases hp with hr | hr
  · skip
    replace hr : r31 (registry_Registry_ResetF registry_Registry_given registry_Registry_given_nil) ar (conts os) = some r := hr
    unfold r31 at hr
    generalize hc : conts os = C at hr
    have hq := dTr.elim hr; clear hr; obtain ⟨v0, l1, c0, C, y0, rfl, rfl, e0, hr⟩ := hq; obtain ⟨rfl, rfl⟩ := udregistry_Registry_eq e0; simp only [List.nil_append, List.cons_append] at hc
    replace hr := dFin hr; obtain ⟨rfl, rfl, x, h, rfl⟩ := hr
    obtain ⟨os, rfl, ha, hc⟩ := kinds_some ha hc
    obtain ⟨os, rfl, ha, hc⟩ := kinds_some ha hc
    obtain rfl := kinds_nil hc
    exact ⟨_, rfl, leads31 registry_Registry_given registry_Registry_given_nil hS _ x h⟩
  · skip
    replace hr : r31n (registry_Registry_Reset_nilF registry_Registry_given registry_Registry_given_nil) ar (conts os) = some r := hr
    unfold r31n at hr
    generalize hc : conts os = C at hr
    have hq := dNl.elim hr; clear hr; obtain ⟨l1, C, rfl, rfl, hr⟩ := hq; simp only [List.replicate, List.nil_append, List.cons_append] at hc
    replace hr := dFin hr; obtain ⟨rfl, rfl, x, h, rfl⟩ := hr
    obtain ⟨os, rfl, ha, hc⟩ := kinds_none ha hc
    obtain ⟨os, rfl, ha, hc⟩ := kinds_none ha hc
    obtain rfl := kinds_nil hc
    exact ⟨_, rfl, leads31n registry_Registry_given registry_Registry_given_nil hS2 x h⟩
def registry_Registry_Reset : registry_Registry → Option registry_Registry := registry_Registry_ResetF registry_Registry_given registry_Registry_given_nil
def registry_Registry_Reset_nil : Option Unit := registry_Registry_Reset_nilF registry_Registry_given registry_Registry_given_nil
theorem lift31 : SumOK Try.prog 31 (s31 registry_Registry_Reset registry_Registry_Reset_nil) := ok31 registry_Registry_given registry_Registry_given_nil (SumsOK.of_tab ⟨lift70, trivial⟩) (SumsOK.of_tab ⟨lift70, trivial⟩)
def registry_Registry_Version_nilF (registry_Registry_given : registry_Registry → Option Bool) (registry_Registry_given_nil : Option Bool) : Option Int :=
  (registry_Registry_given_nil).bind fun n =>
  cond (!n)
    (
    some (0))
    (
    none)
def rx24n (x : Int) : SRes := ⟨.int .i64 x, [], [none, none]⟩
def r24n (g : Option Int) : Dec := dNl 2 <| dEnd (ofG (g) rx24n)
theorem r24n_c {g : Option Int} {x : Int} (hx : g = some x) : r24n g [.pointer none] [none, none] = some (rx24n x) := (dNl_2).trans (ofG_eq hx)
abbrev sums24n (registry_Registry_given : registry_Registry → Option Bool) (registry_Registry_given_nil : Option Bool) : List (Nat × Summ) := [(70, s70 registry_Registry_given registry_Registry_given_nil)]
theorem leads24n (registry_Registry_given : registry_Registry → Option Bool) (registry_Registry_given_nil : Option Bool) (hS : SumsOK Try.prog (aget (sums24n registry_Registry_given registry_Registry_given_nil))) (res : Int) (h : registry_Registry_Version_nilF registry_Registry_given registry_Registry_given_nil = some res) :
    Leads Try.prog 24 2 ⟨⟨24, 10, [(0, .pointer none)], [.code k24_9], [], false, none⟩, [], [], 2⟩ (fun v H _ => Res 2 (rx24n res) v H) := by
  unfold registry_Registry_Version_nilF at h
  refine ev_ok tab_ok hS true 3000 ?_
  conv => whnf
  replace h := obind.elim h; obtain ⟨n, hy, h⟩ := h
  refine sumK.introF [] (sumRun_of (aqs := [.pointer none]) (ws := [.no, .no]) (n := 0) (m := 0) (t' := 2) (ra_cons rfl rfl ra_nil) rfl (by rfl) (r70n_eq hy) rfl rfl rfl rfl (wb_skip rfl (wb_skip rfl wb_nil)) an_nil rfl) ?_
  conv => whnf
  refine br.h h ?_ ?_ ?_
  · rfl
  · clear h; intro hb h; conv => whnf
    all_goals (cases h)
    all_goals exact Res.of [] rfl nw_0 (by decide) js_0 (wr_n (wr_n wr_0))
  clear h; intro hb h; conv => whnf
  cases h
def registry_Registry_VersionF (registry_Registry_given : registry_Registry → Option Bool) (registry_Registry_given_nil : Option Bool) (ga0 : registry_Registry) : Option Int :=
  (registry_Registry_given ga0).bind fun xg =>
  cond (!xg)
    (
    some (0))
    (
    some (ga0.version))
def rx24 (x : Int) : SRes := ⟨.int .i64 x, [], [none, none]⟩
def r24 (g : registry_Registry → Option Int) : Dec := dTr 2 (udregistry_Registry 0) fun (y0 : registry_Registry) => dEnd (ofG (g y0) rx24)
theorem r24_c {g : registry_Registry → Option Int} {y0 : registry_Registry} {x : Int} (hx : g y0 = some x) : r24 g [.pointer (some ⟨0, 0, none⟩)] [some [.int .i64 y0.rule.Rise, .int .i64 y0.rule.Fall, .slice (some ⟨1, 0, none⟩) y0.rows.length 9, .int .i64 y0.last, .int .i64 y0.version], some (vT cregistry_row y0.rows)] = some (rx24 x) := (dTr_eq rfl rfl (udregistry_Registry_c 0 _)).trans (ofG_eq hx)
def s24 (g : registry_Registry → Option Int) (g2 : Option Int) : Summ := ⟨[.tr [⟨none, 0, 0, 0, none⟩, ⟨some 0, 2, 0, 0, some 9⟩]], pickN 0 (r24 g) (r24n g2)⟩
theorem r24_eq {g : registry_Registry → Option Int} {g2 : Option Int} {y0 : registry_Registry} {x : Int} (hx : g y0 = some x) : (s24 g g2).run [.pointer (some ⟨0, 0, none⟩)] [some [.int .i64 y0.rule.Rise, .int .i64 y0.rule.Fall, .slice (some ⟨1, 0, none⟩) y0.rows.length 9, .int .i64 y0.last, .int .i64 y0.version], some (vT cregistry_row y0.rows)] = some (rx24 x) := r24_c hx
theorem r24n_eq {g2 : registry_Registry → Option Int} {g : Option Int} {x : Int} (hx : g = some x) : (s24 g2 g).run [.pointer none] [none, none] = some (rx24n x) := r24n_c hx
abbrev sums24 (registry_Registry_given : registry_Registry → Option Bool) (registry_Registry_given_nil : Option Bool) : List (Nat × Summ) := [(70, s70 registry_Registry_given registry_Registry_given_nil)]
theorem leads24 (registry_Registry_given : registry_Registry → Option Bool) (registry_Registry_given_nil : Option Bool) (hS : SumsOK Try.prog (aget (sums24 registry_Registry_given registry_Registry_given_nil))) (ga0 : registry_Registry) (res : Int) (h : registry_Registry_VersionF registry_Registry_given registry_Registry_given_nil ga0 = some res) :
    Leads Try.prog 24 2 ⟨⟨24, 10, [(0, .pointer (some ⟨0, 0, none⟩))], [.code k24_9], [], false, none⟩, [], [(0, .row false [.int .i64 ga0.rule.Rise, .int .i64 ga0.rule.Fall, .slice (some ⟨1, 0, none⟩) ga0.rows.length 9, .int .i64 ga0.last, .int .i64 ga0.version]), (1, .row false (vT cregistry_row ga0.rows))], 2⟩ (fun v H _ => Res 2 (rx24 res) v H) := by
  unfold registry_Registry_VersionF at h
  refine ev_ok tab_ok hS true 3000 ?_
  conv => whnf
  replace h := obind.elim h; obtain ⟨xg, hy, h⟩ := h
  refine sumK.introF [] (sumRun_of (aqs := [.pointer (some ⟨0, 0, none⟩)]) (ws := [.blk 0 false, .blk 1 false]) (n := 0) (m := 0) (t' := 2) (ra_cons (ra_tr rfl rfl (vp_at rfl rfl rfl rfl (vp_at rfl rfl (rn_T cregistry_row_flat) rfl vp_nil)) rfl) rfl ra_nil) rfl (by rfl) (r70_eq hy) rfl rfl rfl rfl (wb_skip rfl (wb_skip rfl wb_nil)) an_nil rfl) ?_
  conv => whnf
  refine br.h h ?_ ?_ ?_
  · rfl
  · clear h; intro hb h; conv => whnf
    all_goals (cases h)
    all_goals exact Res.of [] rfl nw_0 (by decide) js_0 (wr_n (wr_n wr_0))
  clear h; intro hb h; conv => whnf
  all_goals (cases h)
  all_goals exact Res.of [] rfl nw_0 (by decide) js_0 (wr_n (wr_n wr_0))
theorem ok24 (registry_Registry_given : registry_Registry → Option Bool) (registry_Registry_given_nil : Option Bool) (hS : SumsOK Try.prog (aget (sums24 registry_Registry_given registry_Registry_given_nil))) (hS2 : SumsOK Try.prog (aget (sums24n registry_Registry_given registry_Registry_given_nil))) : SumOK Try.prog 24 (s24 (registry_Registry_VersionF registry_Registry_given registry_Registry_given_nil) (registry_Registry_Version_nilF registry_Registry_given registry_Registry_given_nil)) := by
  refine SumOK.of_leads tab_ok (fun ar os r ha hr => ?_) ⟨Try.f24, rfl, by decide, rfl⟩
  have hp := pickN.elim hr; clear hr; rcases hp with hr | hr
  · skip
    replace hr : r24 (registry_Registry_VersionF registry_Registry_given registry_Registry_given_nil) ar (conts os) = some r := hr
    unfold r24 at hr
    generalize hc : conts os = C at hr
    have hq := dTr.elim hr; clear hr; obtain ⟨v0, l1, c0, C, y0, rfl, rfl, e0, hr⟩ := hq; obtain ⟨rfl, rfl⟩ := udregistry_Registry_eq e0; simp only [List.nil_append, List.cons_append] at hc
    replace hr := dFin hr; obtain ⟨rfl, rfl, x, h, rfl⟩ := hr
    obtain ⟨os, rfl, ha, hc⟩ := kinds_some ha hc
    obtain ⟨os, rfl, ha, hc⟩ := kinds_some ha hc
    obtain rfl := kinds_nil hc
    exact ⟨_, rfl, leads24 registry_Registry_given registry_Registry_given_nil hS _ x h⟩
  · skip
    replace hr : r24n (registry_Registry_Version_nilF registry_Registry_given registry_Registry_given_nil) ar (conts os) = some r := hr
    unfold r24n at hr
    generalize hc : conts os = C at hr
    have hq := dNl.elim hr; clear hr; obtain ⟨l1, C, rfl, rfl, hr⟩ := hq; simp only [List.replicate, List.nil_append, List.cons_append] at hc
    replace hr := dFin hr; obtain ⟨rfl, rfl, x, h, rfl⟩ := hr
    obtain ⟨os, rfl, ha, hc⟩ := kinds_none ha hc
    obtain ⟨os, rfl, ha, hc⟩ := kinds_none ha hc
    obtain rfl := kinds_nil hc
    exact ⟨_, rfl, leads24n registry_Registry_given registry_Registry_given_nil hS2 x h⟩
def registry_Registry_Version : registry_Registry → Option Int := registry_Registry_VersionF registry_Registry_given registry_Registry_given_nil
def registry_Registry_Version_nil : Option Int := registry_Registry_Version_nilF registry_Registry_given registry_Registry_given_nil
theorem lift24 : SumOK Try.prog 24 (s24 registry_Registry_Version registry_Registry_Version_nil) := ok24 registry_Registry_given registry_Registry_given_nil (SumsOK.of_tab ⟨lift70, trivial⟩) (SumsOK.of_tab ⟨lift70, trivial⟩)
end Go.Vm.Code
namespace Go.Vm.Code
open Go Go.Vm
theorem iter_build {β ρ : Type} (F : Nat → β) (N : Nat) (step : Int × List β → Option (Sum (Int × List β) ρ)) (fin : List β → ρ)
    (h1 : ∀ i : Nat, i < N → ∀ out : List β, out.length = i → step ((i : Int), out) = some (.inl (((i + 1 : Nat) : Int), out ++ [F i])))
    (h2 : ∀ out : List β, out.length = N → step ((N : Int), out) = some (.inr (fin out))) {n : Nat} (hn : N < n) : iter step n (0, []) = some (fin ((List.range N).map F)) := by
  refine iter_eq (fun _ => fin ((List.range N).map F)) (fun s => ∃ i : Nat, i ≤ N ∧ s = ((i : Int), (List.range i).map F)) (fun s => N - s.1.toNat) ?_ n _ ⟨0, Nat.zero_le _, rfl⟩ (by simp; omega)
  rintro s ⟨i, hi, rfl⟩
  rcases Nat.lt_or_ge i N with h | h
  · right
    refine ⟨_, h1 i h _ (by simp), ⟨i + 1, h, ?_⟩, ?_, rfl⟩
    · rw [List.range_succ, List.map_append]; rfl
    · simp only [Int.toNat_natCast]; omega
  · left
    have e : i = N := by omega
    subst e
    exact h2 _ (by simp)
theorem range_map {α β : Type} (L : List α) (f : α → β) (F : Nat → β) (h : ∀ i (hi : i < L.length), F i = f L[i]) : (List.range L.length).map F = L.map f := by
  apply List.ext_getElem
  · simp
  · intro i h1 h2
    simp only [List.length_map, List.length_range] at h1
    simp [h i h1]
def rid (r : registry_row) : Int := r.Backend.ID
def tld (r : registry_row) : api_Backend := ⟨r.Backend.ID, r.Backend.Weight, if r.drains then 3 else if r.health.Up then 1 else 2, r.Backend.Addr⟩
def rst (r : registry_row) : registry_row := ⟨r.Backend, r.drains, ⟨true, 0⟩⟩
theorem told_eq (r : registry_row) : registry_row_told r = some (tld r) := by
  unfold registry_row_told registry_row_toldF tld
  cases r.drains <;> cases r.health.Up <;> rfl
def ruleB (r : health_Rule) : Bool := decide (1 ≤ r.Rise ∧ r.Rise ≤ 100 ∧ 1 ≤ r.Fall ∧ r.Fall ≤ 100)
theorem within_eq (n a b : Int) : health_within n a b = some (decide (a ≤ n ∧ n ≤ b)) := by
  unfold health_within health_withinF
  by_cases h : a ≤ n
  · rw [cond_p h]; simp [h]
  · rw [cond_n h]; simp [h]
theorem hright_eq (r : health_Rule) : health_Right r = some (ruleB r) := by
  unfold health_Right health_RightF ruleB
  rw [within_eq, within_eq, Option.bind_some, Option.bind_some]
  by_cases h : 1 ≤ r.Rise ∧ r.Rise ≤ 100
  · rw [cond_p h]; simp [h]
  · rw [cond_n h]; simp; omega
def weighB (n : Int) : Bool := decide (0 ≤ n ∧ n ≤ 1000)
theorem weighs_eq (n : Int) : registry_weighs n = some (weighB n) := by
  unfold registry_weighs registry_weighsF weighB
  by_cases h : 0 ≤ n
  · rw [cond_p h]; simp [h]
  · rw [cond_n h]; simp [h]
def adrB (a : api_Addr) : Bool := a.V6 || (a.Hi == 0 && decide (a.Lo < 4294967296))
theorem aright_eq (a : api_Addr) : addr_Right a = some (adrB a) := by
  unfold addr_Right addr_RightF adrB
  cases a.V6
  · cases a.Hi == 0 <;> rfl
  · rfl
structure RI (N : Int) (g : registry_Registry) : Prop where
  rule : ruleB g.rule = true
  len : g.rows.length ≤ 64
  last0 : 0 ≤ g.last
  last1 : g.last ≤ 65535
  ver0 : 0 ≤ g.version
  ver1 : g.version ≤ N
  ids : ∀ i ∈ g.rows.map rid, 1 ≤ i ∧ i ≤ g.last
  up : (g.rows.map rid).Pairwise (· < ·)
theorem RI.id_at {N : Int} {g : registry_Registry} (h : RI N g) {k : Nat} {r : registry_row} (hk : g.rows[k]? = some r) : 1 ≤ r.Backend.ID ∧ r.Backend.ID ≤ g.last :=
  h.ids _ (List.mem_map.2 ⟨r, List.mem_of_getElem? hk, rfl⟩)
theorem RI.lt {N : Int} {g : registry_Registry} (h : RI N g) {j k : Nat} {q r : registry_row} (hj : g.rows[j]? = some q) (hk : g.rows[k]? = some r) (hjk : j < k) : q.Backend.ID < r.Backend.ID := by
  obtain ⟨h1, e1⟩ := List.getElem?_eq_some_iff.1 hj
  obtain ⟨h2, e2⟩ := List.getElem?_eq_some_iff.1 hk
  have := List.pairwise_iff_getElem.1 h.up j k (by simpa) (by simpa) hjk
  simpa [rid, e1, e2] using this
theorem given_eq {N : Int} {g : registry_Registry} (h : RI N g) : registry_Registry_given g = some true := by
  unfold registry_Registry_given registry_Registry_givenF
  rw [hright_eq, Option.bind_some, h.rule]
theorem find1_eq {r : registry_row} {id : Int} (h1 : 1 ≤ r.Backend.ID) (h2 : r.Backend.ID ≤ 65535) : ∃ x, registry_Registry_find_1 r id = some x ∧ (x < 0 ↔ r.Backend.ID < id) ∧ (x = 0 ↔ r.Backend.ID = id) := by
  unfold registry_Registry_find_1 registry_Registry_find_1F
  have e : ∀ t : Int, 0 ≤ t → t ≤ 65536 → wI .i64 (r.Backend.ID - t) = r.Backend.ID - t := fun t _ _ => wI64 (by omega) (by omega)
  refine ⟨_, rfl, ?_⟩
  by_cases h : 65536 < id
  · simp only [h, ↓reduceIte, show (65536 : Int) > 0 from by decide]
    rw [e _ (by omega) (by omega)]; omega
  · by_cases h0 : id > 0
    · simp only [h, h0, ↓reduceIte]
      rw [e _ (by omega) (by omega)]; omega
    · simp only [h, h0, ↓reduceIte]
      rw [e _ (by omega) (by omega)]; omega
def lowN (rows : List registry_row) (id : Int) : Nat := (rows.takeWhile fun r => decide (r.Backend.ID < id)).length
theorem lowN_le (rows : List registry_row) (id : Int) : lowN rows id ≤ rows.length := (List.takeWhile_sublist _).length_le
theorem lowN_iff {id : Int} : ∀ {rows : List registry_row}, (rows.map rid).Pairwise (· < ·) → ∀ {k : Nat} {r : registry_row}, rows[k]? = some r → (r.Backend.ID < id ↔ k < lowN rows id)
  | [], _, k, r, h => by simp at h
  | q :: rows, hp, k, r, h => by
    rw [List.map_cons, List.pairwise_cons] at hp
    unfold lowN
    by_cases hq : q.Backend.ID < id
    · rw [List.takeWhile_cons_of_pos (by simpa using hq), List.length_cons]
      cases k with
      | zero => simp at h; subst h; simp [hq]
      | succ k => have := lowN_iff (id := id) hp.2 (k := k) (by simpa using h); unfold lowN at this; omega
    · rw [List.takeWhile_cons_of_neg (by simpa using hq)]
      cases k with
      | zero => simp at h; subst h; simp [hq]
      | succ k =>
        have hm : r ∈ rows := List.mem_of_getElem? (by simpa using h)
        have := hp.1 _ (List.mem_map.2 ⟨r, hm, rfl⟩)
        simp only [rid] at this
        simp; omega
theorem find_eq {N : Int} {g : registry_Registry} (h : RI N g) (id : Int) : registry_Registry_find g id = some ((lowN g.rows id : Int), match g.rows[lowN g.rows id]? with | some r => decide (r.Backend.ID = id) | none => false) := by
  unfold registry_Registry_find registry_Registry_findF
  have hl := lowN_le g.rows id
  have hlen := h.len
  refine iter_eq (fun _ => ((lowN g.rows id : Int), match g.rows[lowN g.rows id]? with | some r => decide (r.Backend.ID = id) | none => false))
    (fun (s : Int × Int) => 0 ≤ s.1 ∧ s.1 ≤ lowN g.rows id ∧ (lowN g.rows id : Int) ≤ s.2 ∧ s.2 ≤ g.rows.length) (fun (s : Int × Int) => (s.2 - s.1).toNat) ?_ FUEL (0, (g.rows.length : Int)) ⟨by simp, by simp, by simpa using hl, by simp⟩ (by rw [FUEL_eq]; simp only []; omega)
  rintro ⟨i, j⟩ ⟨h0, h1, h2, h3⟩
  simp only at h0 h1 h2 h3
  dsimp only
  unfold registry_Registry_find_s1
  by_cases hij : i < j
  · right
    rw [cond_p hij]
    have et : wI .i64 ((wI .u64 (wI .i64 (i + j))).fdiv (2 ^ 1)) = (i + j) / 2 := by
      rw [wI64 (n := i + j) (by omega) (by omega), wU64 (by omega) (by omega), fdivP, wI64 (by omega) (by omega)]; rfl
    simp only [et]
    obtain ⟨m, hm⟩ := Int.eq_ofNat_of_zero_le (show 0 ≤ (i + j) / 2 by omega)
    rw [hm, oreq_p ⟨by omega, by omega⟩]
    have hlt : m < g.rows.length := by omega
    rw [Int.toNat_natCast, List.getElem?_eq_getElem hlt, Option.bind_some]
    have hk := List.getElem?_eq_getElem hlt
    have hid := h.id_at hk
    obtain ⟨x, hx, hx1, hx2⟩ := find1_eq (id := id) hid.1 (by have := h.last1; omega)
    rw [hx, Option.bind_some]
    have hiff := lowN_iff (id := id) h.up hk
    by_cases hc : x < 0
    · rw [cond_p hc]
      have hml : m < lowN g.rows id := hiff.1 (hx1.1 hc)
      refine ⟨_, rfl, ⟨?_, ?_, h2, h3⟩, ?_, by trivial⟩
      · simp only []; rw [wI64 (by omega) (by omega)]; omega
      · simp only []; rw [wI64 (by omega) (by omega)]; omega
      · simp only []; rw [wI64 (by omega) (by omega)]; omega
    · rw [cond_n hc]
      have hml : ¬ m < lowN g.rows id := fun e => hc (hx1.2 (hiff.2 e))
      exact ⟨_, rfl, ⟨h0, h1, by simp only []; omega, by simp only []; omega⟩, by simp only []; omega, by trivial⟩
  · left
    rw [cond_n hij]
    have ei : i = lowN g.rows id := by omega
    subst ei
    by_cases hlt : lowN g.rows id < g.rows.length
    · rw [cond_p (by omega), oreq_p ⟨by omega, by omega⟩, Int.toNat_natCast, List.getElem?_eq_getElem hlt, Option.bind_some]
      have hk := List.getElem?_eq_getElem hlt
      have hid := h.id_at hk
      obtain ⟨x, hx, hx1, hx2⟩ := find1_eq (id := id) hid.1 (by have := h.last1; omega)
      rw [hx, Option.bind_some]
      congr 3
      rw [Bool.eq_iff_iff]; simp [hx2]
    · rw [cond_n (by omega), List.getElem?_eq_none (by omega)]
theorem find_yes {N : Int} {g : registry_Registry} (h : RI N g) {k : Nat} {r : registry_row} (hk : g.rows[k]? = some r) : registry_Registry_find g r.Backend.ID = some ((k : Int), true) := by
  have h1 := lowN_iff (id := r.Backend.ID) h.up hk
  have e : lowN g.rows r.Backend.ID = k := by
    rcases Nat.lt_trichotomy (lowN g.rows r.Backend.ID) k with hl | hl | hl
    · exfalso
      have hkl : k < g.rows.length := (List.getElem?_eq_some_iff.1 hk).1
      have hq := List.getElem?_eq_getElem (show lowN g.rows r.Backend.ID < g.rows.length by omega)
      have := (lowN_iff (id := r.Backend.ID) h.up hq).1 (h.lt hq hk hl)
      omega
    · exact hl
    · exfalso; have := h1.2 hl; omega
  rw [find_eq h, e, hk]; simp
theorem find_no {N : Int} {g : registry_Registry} (h : RI N g) {id : Int} (hn : ∀ (k : Nat) r, g.rows[k]? = some r → r.Backend.ID ≠ id) : ∃ i, registry_Registry_find g id = some (i, false) := by
  rw [find_eq h]
  refine ⟨(lowN g.rows id : Int), ?_⟩
  congr 2
  split
  · rename_i r hr; simpa using hn _ _ hr
  · rfl
end Go.Vm.Code
namespace Go.Vm.Code
open Go Go.Vm Go.Proofs
set_option maxRecDepth 100000
set_option maxHeartbeats 4000000
set_option linter.unusedVariables false
def registry_Registry_DrainF (registry_Registry_find : registry_Registry → Int → Option (Int × Bool)) (registry_Registry_find_nil : Int → Option (Int × Bool)) (registry_Registry_given : registry_Registry → Option Bool) (registry_Registry_given_nil : Option Bool) (ga0 : registry_Registry) (ida1 : Int) (on : Bool) : Option (Int × registry_Registry) :=
  (registry_Registry_given ga0).bind fun xg =>
  cond (!xg)
    (
    some ((1, ga0)))
    (
    (registry_Registry_find ga0 ida1).bind fun f =>
    cond (!f.2)
      (
      some ((13, ga0)))
      (
      oreq (decide ((0 : Int) ≤ f.1 ∧ f.1 < (ga0.rows.length : Int))) <|
      (ga0.rows[f.1.toNat]?).bind fun (e : registry_row) =>
      cond (e.drains == on)
        (
        some ((11, ga0)))
        (
        let row := ga0.rows.set f.1.toNat (registry_row.mk e.Backend on e.health)
        some ((0, registry_Registry.mk ga0.rule row ga0.last (wI .i64 (ga0.version + 1)))))))
def rx28 (x : Int × registry_Registry) : SRes := ⟨.int .i64 x.1, [(vT cregistry_row x.2.rows)], [some [.int .i64 x.2.rule.Rise, .int .i64 x.2.rule.Fall, .slice (some ⟨0, 0, none⟩) x.2.rows.length 9, .int .i64 x.2.last, .int .i64 x.2.version], none]⟩
def r28 (g : registry_Registry → Int → Bool → Option (Int × registry_Registry)) : Dec := dTr 2 (udregistry_Registry 0) fun (y0 : registry_Registry) => dV (asI .i64) fun (y1 : Int) => dV asB fun (y2 : Bool) => dEnd (ofG (g y0 y1 y2) rx28)
theorem r28_c {g : registry_Registry → Int → Bool → Option (Int × registry_Registry)} {y0 : registry_Registry} {y1 : Int} {y2 : Bool} {x : Int × registry_Registry} (hx : g y0 y1 y2 = some x) : r28 g [.pointer (some ⟨0, 0, none⟩), .int .i64 y1, .bool y2] [some [.int .i64 y0.rule.Rise, .int .i64 y0.rule.Fall, .slice (some ⟨1, 0, none⟩) y0.rows.length 9, .int .i64 y0.last, .int .i64 y0.version], some (vT cregistry_row y0.rows)] = some (rx28 x) := (dTr_eq rfl rfl (udregistry_Registry_c 0 _)).trans ((dV_eq (asI_c _)).trans ((dV_eq (asB_c)).trans (ofG_eq hx)))
def s28 (g : registry_Registry → Int → Bool → Option (Int × registry_Registry)) : Summ := ⟨[.tr [⟨none, 0, 0, 1, none⟩, ⟨some 0, 2, 0, 2, some 9⟩], .v, .v], r28 g⟩
theorem r28_eq {g : registry_Registry → Int → Bool → Option (Int × registry_Registry)} {y0 : registry_Registry} {y1 : Int} {y2 : Bool} {x : Int × registry_Registry} (hx : g y0 y1 y2 = some x) : (s28 g).run [.pointer (some ⟨0, 0, none⟩), .int .i64 y1, .bool y2] [some [.int .i64 y0.rule.Rise, .int .i64 y0.rule.Fall, .slice (some ⟨1, 0, none⟩) y0.rows.length 9, .int .i64 y0.last, .int .i64 y0.version], some (vT cregistry_row y0.rows)] = some (rx28 x) := r28_c hx
abbrev sums28 (registry_Registry_find : registry_Registry → Int → Option (Int × Bool)) (registry_Registry_find_nil : Int → Option (Int × Bool)) (registry_Registry_given : registry_Registry → Option Bool) (registry_Registry_given_nil : Option Bool) : List (Nat × Summ) := [(71, s71 registry_Registry_find registry_Registry_find_nil), (70, s70 registry_Registry_given registry_Registry_given_nil)]
theorem leads28 (registry_Registry_find : registry_Registry → Int → Option (Int × Bool)) (registry_Registry_find_nil : Int → Option (Int × Bool)) (registry_Registry_given : registry_Registry → Option Bool) (registry_Registry_given_nil : Option Bool) (hS : SumsOK Try.prog (aget (sums28 registry_Registry_find registry_Registry_find_nil registry_Registry_given registry_Registry_given_nil))) (ga0 : registry_Registry) (ida1 : Int) (on : Bool) (res : Int × registry_Registry) (h : registry_Registry_DrainF registry_Registry_find registry_Registry_find_nil registry_Registry_given registry_Registry_given_nil ga0 ida1 on = some res) :
    Leads Try.prog 28 2 ⟨⟨28, 11, [(0, .pointer (some ⟨0, 0, none⟩)), (1, .int .i64 ida1), (2, .bool on)], [.code k28_3], [], false, none⟩, [], [(0, .cells [.int .i64 ga0.rule.Rise, .int .i64 ga0.rule.Fall, .slice (some ⟨1, 0, none⟩) ga0.rows.length 9, .int .i64 ga0.last, .int .i64 ga0.version]), (1, .row true (vT cregistry_row ga0.rows))], 2⟩ (fun v H _ => Res 2 (rx28 res) v H) := by
  unfold registry_Registry_DrainF at h
  refine ev_ok tab_ok hS true 3000 ?_
  conv => whnf
  replace h := obind.elim h; obtain ⟨xg, hy, h⟩ := h
  refine sumK.introF [] (sumRun_of (aqs := [.pointer (some ⟨0, 0, none⟩)]) (ws := [.blk 0 false, .blk 1 false]) (n := 0) (m := 0) (t' := 3) (ra_cons (ra_tr rfl rfl (vp_at rfl rfl rfl rfl (vp_at rfl rfl (rn_T cregistry_row_flat) rfl vp_nil)) rfl) rfl ra_nil) rfl (by rfl) (r70_eq hy) rfl rfl rfl rfl (wb_skip rfl (wb_skip rfl wb_nil)) an_nil rfl) ?_
  conv => whnf
  refine br.h h ?_ ?_ ?_
  · rfl
  · clear h; intro hb h; conv => whnf
    all_goals (cases h)
    all_goals exact Res.of [1] rfl (nw_s (rn_T cregistry_row_flat) (hs_row rfl) nw_0) (by decide) (js_r rfl js_0) (wr_s (rfl) (hs_cells rfl) (wr_n wr_0))
  clear h; intro hb h; conv => whnf
  replace h := obind.elim h; obtain ⟨f, hy, h⟩ := h
  refine sumK.introF [] (sumRun_of (aqs := [.pointer (some ⟨0, 0, none⟩), .int .i64 ida1]) (ws := [.blk 0 false, .blk 1 false]) (n := 0) (m := 0) (t' := 3) (ra_cons (ra_tr rfl rfl (vp_at rfl rfl rfl rfl (vp_at rfl rfl (rn_T cregistry_row_flat) rfl vp_nil)) rfl) rfl (ra_cons rfl rfl ra_nil)) rfl (by rfl) (r71_eq hy) rfl rfl rfl rfl (wb_skip rfl (wb_skip rfl wb_nil)) an_nil rfl) ?_
  conv => whnf
  refine br.h h ?_ ?_ ?_
  · rfl
  · clear h; intro hb h; conv => whnf
    all_goals (cases h)
    all_goals exact Res.of [1] rfl (nw_s (rn_T cregistry_row_flat) (hs_row rfl) nw_0) (by decide) (js_r rfl js_0) (wr_s (rfl) (hs_cells rfl) (wr_n wr_0))
  clear h; intro hb h; conv => whnf
  replace h := oreq.elim h; obtain ⟨hb, h⟩ := h
  first | (refine req.intro hb ?_; conv => whnf) | skip
  replace h := obind.elim h; obtain ⟨e, hy, h⟩ := h
  refine rd.T (j := 6) cregistry_row_len hy (by first | omega | exact Nat.zero_add _ | exact congrArg (· + _) (Nat.zero_add _)) (by decide) rfl ?_
  conv => whnf
  refine br.h h ?_ ?_ ?_
  · rfl
  · clear h; intro hb h; conv => whnf
    all_goals (cases h)
    all_goals exact Res.of [1] rfl (nw_s (rn_T cregistry_row_flat) (hs_row rfl) nw_0) (by decide) (js_r rfl js_0) (wr_s (rfl) (hs_cells rfl) (wr_n wr_0))
  clear h; intro hb h; conv => whnf
  refine st_T (i := f.1.toNat) (x := e) (x' := registry_row.mk e.Backend on e.health) (j := 6) cregistry_row_len (by assumption) (by first | omega | exact Nat.zero_add _ | exact congrArg (· + _) (Nat.zero_add _)) (by decide) ⟨rfl, rfl⟩ rfl ?_
  conv => whnf
  let row : List registry_row := ga0.rows.set f.1.toNat (registry_row.mk e.Backend on e.health)
  try rw [show ga0.rows.length = row.length from (List.length_set ..).symm]
  conv => whnf
  all_goals (cases h)
  all_goals exact Res.of [1] rfl (nw_s (rn_T cregistry_row_flat) (hs_row rfl) nw_0) (by decide) (js_r rfl js_0) (wr_s (rfl) (hs_cells rfl) (wr_n wr_0))
theorem ok28 (registry_Registry_find : registry_Registry → Int → Option (Int × Bool)) (registry_Registry_find_nil : Int → Option (Int × Bool)) (registry_Registry_given : registry_Registry → Option Bool) (registry_Registry_given_nil : Option Bool) (hS : SumsOK Try.prog (aget (sums28 registry_Registry_find registry_Registry_find_nil registry_Registry_given registry_Registry_given_nil))) : SumOK Try.prog 28 (s28 (registry_Registry_DrainF registry_Registry_find registry_Registry_find_nil registry_Registry_given registry_Registry_given_nil)) := by
  refine SumOK.of_leads tab_ok (fun ar os r ha hr => ?_) ⟨Try.f28, rfl, by decide, rfl⟩
  replace hr : r28 (registry_Registry_DrainF registry_Registry_find registry_Registry_find_nil registry_Registry_given registry_Registry_given_nil) ar (conts os) = some r := hr
  unfold r28 at hr
  generalize hc : conts os = C at hr
  have hq := dTr.elim hr; clear hr; obtain ⟨v0, l1, c0, C, y0, rfl, rfl, e0, hr⟩ := hq; obtain ⟨rfl, rfl⟩ := udregistry_Registry_eq e0; simp only [List.nil_append, List.cons_append] at hc
  replace hr := dV.elim hr; obtain ⟨v1, l2, y1, rfl, e1, hr⟩ := hr; obtain rfl := asI_eq _ _ _ e1
  replace hr := dV.elim hr; obtain ⟨v2, l3, y2, rfl, e2, hr⟩ := hr; obtain rfl := asB_eq _ _ e2
  replace hr := dFin hr; obtain ⟨rfl, rfl, x, h, rfl⟩ := hr
  obtain ⟨os, rfl, ha, hc⟩ := kinds_some ha hc
  obtain ⟨os, rfl, ha, hc⟩ := kinds_some ha hc
  obtain rfl := kinds_nil hc
  exact ⟨_, rfl, leads28 registry_Registry_find registry_Registry_find_nil registry_Registry_given registry_Registry_given_nil hS _ _ _ x h⟩
def registry_Registry_Drain : registry_Registry → Int → Bool → Option (Int × registry_Registry) := registry_Registry_DrainF registry_Registry_find registry_Registry_find_nil registry_Registry_given registry_Registry_given_nil
theorem lift28 : SumOK Try.prog 28 (s28 registry_Registry_Drain) := ok28 registry_Registry_find registry_Registry_find_nil registry_Registry_given registry_Registry_given_nil (SumsOK.of_tab ⟨lift71, lift70, trivial⟩)
def registry_Registry_WeightF (registry_Registry_find : registry_Registry → Int → Option (Int × Bool)) (registry_Registry_find_nil : Int → Option (Int × Bool)) (registry_Registry_given : registry_Registry → Option Bool) (registry_Registry_given_nil : Option Bool) (registry_weighs : Int → Option Bool) (ga0 : registry_Registry) (ida1 : Int) (weight : Int) : Option (Int × registry_Registry) :=
  (registry_Registry_given ga0).bind fun xg =>
  cond (!xg)
    (
    some ((1, ga0)))
    (
    (registry_Registry_find ga0 ida1).bind fun f =>
    cond (!f.2)
      (
      some ((13, ga0)))
      (
      oreq (decide ((0 : Int) ≤ f.1 ∧ f.1 < (ga0.rows.length : Int))) <|
      (registry_weighs weight).bind fun w =>
      cond (!w)
        (
        some ((1, ga0)))
        (
        (ga0.rows[f.1.toNat]?).bind fun (e : registry_row) =>
        let row := ga0.rows.set f.1.toNat (registry_row.mk (api_Backend.mk e.Backend.ID weight e.Backend.State e.Backend.Addr) e.drains e.health)
        some ((0, registry_Registry.mk ga0.rule row ga0.last (wI .i64 (ga0.version + 1)))))))
def rx29 (x : Int × registry_Registry) : SRes := ⟨.int .i64 x.1, [(vT cregistry_row x.2.rows)], [some [.int .i64 x.2.rule.Rise, .int .i64 x.2.rule.Fall, .slice (some ⟨0, 0, none⟩) x.2.rows.length 9, .int .i64 x.2.last, .int .i64 x.2.version], none]⟩
def r29 (g : registry_Registry → Int → Int → Option (Int × registry_Registry)) : Dec := dTr 2 (udregistry_Registry 0) fun (y0 : registry_Registry) => dV (asI .i64) fun (y1 : Int) => dV (asI .i64) fun (y2 : Int) => dEnd (ofG (g y0 y1 y2) rx29)
theorem r29_c {g : registry_Registry → Int → Int → Option (Int × registry_Registry)} {y0 : registry_Registry} {y1 : Int} {y2 : Int} {x : Int × registry_Registry} (hx : g y0 y1 y2 = some x) : r29 g [.pointer (some ⟨0, 0, none⟩), .int .i64 y1, .int .i64 y2] [some [.int .i64 y0.rule.Rise, .int .i64 y0.rule.Fall, .slice (some ⟨1, 0, none⟩) y0.rows.length 9, .int .i64 y0.last, .int .i64 y0.version], some (vT cregistry_row y0.rows)] = some (rx29 x) := (dTr_eq rfl rfl (udregistry_Registry_c 0 _)).trans ((dV_eq (asI_c _)).trans ((dV_eq (asI_c _)).trans (ofG_eq hx)))
def s29 (g : registry_Registry → Int → Int → Option (Int × registry_Registry)) : Summ := ⟨[.tr [⟨none, 0, 0, 1, none⟩, ⟨some 0, 2, 0, 2, some 9⟩], .v, .v], r29 g⟩
theorem r29_eq {g : registry_Registry → Int → Int → Option (Int × registry_Registry)} {y0 : registry_Registry} {y1 : Int} {y2 : Int} {x : Int × registry_Registry} (hx : g y0 y1 y2 = some x) : (s29 g).run [.pointer (some ⟨0, 0, none⟩), .int .i64 y1, .int .i64 y2] [some [.int .i64 y0.rule.Rise, .int .i64 y0.rule.Fall, .slice (some ⟨1, 0, none⟩) y0.rows.length 9, .int .i64 y0.last, .int .i64 y0.version], some (vT cregistry_row y0.rows)] = some (rx29 x) := r29_c hx
abbrev sums29 (registry_Registry_find : registry_Registry → Int → Option (Int × Bool)) (registry_Registry_find_nil : Int → Option (Int × Bool)) (registry_Registry_given : registry_Registry → Option Bool) (registry_Registry_given_nil : Option Bool) (registry_weighs : Int → Option Bool) : List (Nat × Summ) := [(71, s71 registry_Registry_find registry_Registry_find_nil), (70, s70 registry_Registry_given registry_Registry_given_nil), (81, s81 registry_weighs)]
theorem leads29 (registry_Registry_find : registry_Registry → Int → Option (Int × Bool)) (registry_Registry_find_nil : Int → Option (Int × Bool)) (registry_Registry_given : registry_Registry → Option Bool) (registry_Registry_given_nil : Option Bool) (registry_weighs : Int → Option Bool) (hS : SumsOK Try.prog (aget (sums29 registry_Registry_find registry_Registry_find_nil registry_Registry_given registry_Registry_given_nil registry_weighs))) (ga0 : registry_Registry) (ida1 : Int) (weight : Int) (res : Int × registry_Registry) (h : registry_Registry_WeightF registry_Registry_find registry_Registry_find_nil registry_Registry_given registry_Registry_given_nil registry_weighs ga0 ida1 weight = some res) :
    Leads Try.prog 29 2 ⟨⟨29, 11, [(0, .pointer (some ⟨0, 0, none⟩)), (1, .int .i64 ida1), (2, .int .i64 weight)], [.code k29_3], [], false, none⟩, [], [(0, .cells [.int .i64 ga0.rule.Rise, .int .i64 ga0.rule.Fall, .slice (some ⟨1, 0, none⟩) ga0.rows.length 9, .int .i64 ga0.last, .int .i64 ga0.version]), (1, .row true (vT cregistry_row ga0.rows))], 2⟩ (fun v H _ => Res 2 (rx29 res) v H) := by
  unfold registry_Registry_WeightF at h
  refine ev_ok tab_ok hS true 3000 ?_
  conv => whnf
  replace h := obind.elim h; obtain ⟨xg, hy, h⟩ := h
  refine sumK.introF [] (sumRun_of (aqs := [.pointer (some ⟨0, 0, none⟩)]) (ws := [.blk 0 false, .blk 1 false]) (n := 0) (m := 0) (t' := 3) (ra_cons (ra_tr rfl rfl (vp_at rfl rfl rfl rfl (vp_at rfl rfl (rn_T cregistry_row_flat) rfl vp_nil)) rfl) rfl ra_nil) rfl (by rfl) (r70_eq hy) rfl rfl rfl rfl (wb_skip rfl (wb_skip rfl wb_nil)) an_nil rfl) ?_
  conv => whnf
  refine br.h h ?_ ?_ ?_
  · rfl
  · clear h; intro hb h; conv => whnf
    all_goals (cases h)
    all_goals exact Res.of [1] rfl (nw_s (rn_T cregistry_row_flat) (hs_row rfl) nw_0) (by decide) (js_r rfl js_0) (wr_s (rfl) (hs_cells rfl) (wr_n wr_0))
  clear h; intro hb h; conv => whnf
  replace h := obind.elim h; obtain ⟨f, hy, h⟩ := h
  refine sumK.introF [] (sumRun_of (aqs := [.pointer (some ⟨0, 0, none⟩), .int .i64 ida1]) (ws := [.blk 0 false, .blk 1 false]) (n := 0) (m := 0) (t' := 3) (ra_cons (ra_tr rfl rfl (vp_at rfl rfl rfl rfl (vp_at rfl rfl (rn_T cregistry_row_flat) rfl vp_nil)) rfl) rfl (ra_cons rfl rfl ra_nil)) rfl (by rfl) (r71_eq hy) rfl rfl rfl rfl (wb_skip rfl (wb_skip rfl wb_nil)) an_nil rfl) ?_
  conv => whnf
  refine br.h h ?_ ?_ ?_
  · rfl
  · clear h; intro hb h; conv => whnf
    all_goals (cases h)
    all_goals exact Res.of [1] rfl (nw_s (rn_T cregistry_row_flat) (hs_row rfl) nw_0) (by decide) (js_r rfl js_0) (wr_s (rfl) (hs_cells rfl) (wr_n wr_0))
  clear h; intro hb h; conv => whnf
  replace h := oreq.elim h; obtain ⟨hb, h⟩ := h
  first | (refine req.intro hb ?_; conv => whnf) | skip
  replace h := obind.elim h; obtain ⟨w, hy, h⟩ := h
  refine sumK.q rfl rfl (r81_eq hy) rfl rfl rfl ?_
  conv => whnf
  refine br.h h ?_ ?_ ?_
  · rfl
  · clear h; intro hb h; conv => whnf
    all_goals (cases h)
    all_goals exact Res.of [1] rfl (nw_s (rn_T cregistry_row_flat) (hs_row rfl) nw_0) (by decide) (js_r rfl js_0) (wr_s (rfl) (hs_cells rfl) (wr_n wr_0))
  clear h; intro hb h; conv => whnf
  replace h := obind.elim h; obtain ⟨e, hy, h⟩ := h
  refine st_T (x' := registry_row.mk (api_Backend.mk e.Backend.ID weight e.Backend.State e.Backend.Addr) e.drains e.health) (j := 1) cregistry_row_len hy (by first | omega | exact Nat.zero_add _ | exact congrArg (· + _) (Nat.zero_add _)) (by decide) ⟨rfl, rfl⟩ rfl ?_
  conv => whnf
  let row : List registry_row := ga0.rows.set f.1.toNat (registry_row.mk (api_Backend.mk e.Backend.ID weight e.Backend.State e.Backend.Addr) e.drains e.health)
  try rw [show ga0.rows.length = row.length from (List.length_set ..).symm]
  conv => whnf
  all_goals (cases h)
  all_goals exact Res.of [1] rfl (nw_s (rn_T cregistry_row_flat) (hs_row rfl) nw_0) (by decide) (js_r rfl js_0) (wr_s (rfl) (hs_cells rfl) (wr_n wr_0))
theorem ok29 (registry_Registry_find : registry_Registry → Int → Option (Int × Bool)) (registry_Registry_find_nil : Int → Option (Int × Bool)) (registry_Registry_given : registry_Registry → Option Bool) (registry_Registry_given_nil : Option Bool) (registry_weighs : Int → Option Bool) (hS : SumsOK Try.prog (aget (sums29 registry_Registry_find registry_Registry_find_nil registry_Registry_given registry_Registry_given_nil registry_weighs))) : SumOK Try.prog 29 (s29 (registry_Registry_WeightF registry_Registry_find registry_Registry_find_nil registry_Registry_given registry_Registry_given_nil registry_weighs)) := by
  refine SumOK.of_leads tab_ok (fun ar os r ha hr => ?_) ⟨Try.f29, rfl, by decide, rfl⟩
  replace hr : r29 (registry_Registry_WeightF registry_Registry_find registry_Registry_find_nil registry_Registry_given registry_Registry_given_nil registry_weighs) ar (conts os) = some r := hr
  unfold r29 at hr
  generalize hc : conts os = C at hr
  have hq := dTr.elim hr; clear hr; obtain ⟨v0, l1, c0, C, y0, rfl, rfl, e0, hr⟩ := hq; obtain ⟨rfl, rfl⟩ := udregistry_Registry_eq e0; simp only [List.nil_append, List.cons_append] at hc
  replace hr := dV.elim hr; obtain ⟨v1, l2, y1, rfl, e1, hr⟩ := hr; obtain rfl := asI_eq _ _ _ e1
  replace hr := dV.elim hr; obtain ⟨v2, l3, y2, rfl, e2, hr⟩ := hr; obtain rfl := asI_eq _ _ _ e2
  replace hr := dFin hr; obtain ⟨rfl, rfl, x, h, rfl⟩ := hr
  obtain ⟨os, rfl, ha, hc⟩ := kinds_some ha hc
  obtain ⟨os, rfl, ha, hc⟩ := kinds_some ha hc
  obtain rfl := kinds_nil hc
  exact ⟨_, rfl, leads29 registry_Registry_find registry_Registry_find_nil registry_Registry_given registry_Registry_given_nil registry_weighs hS _ _ _ x h⟩
def registry_Registry_Weight : registry_Registry → Int → Int → Option (Int × registry_Registry) := registry_Registry_WeightF registry_Registry_find registry_Registry_find_nil registry_Registry_given registry_Registry_given_nil registry_weighs
theorem lift29 : SumOK Try.prog 29 (s29 registry_Registry_Weight) := ok29 registry_Registry_find registry_Registry_find_nil registry_Registry_given registry_Registry_given_nil registry_weighs (SumsOK.of_tab ⟨lift71, lift70, lift81, trivial⟩)
def health_NeedF (health_Right : health_Rule → Option Bool) (health_within : Int → Int → Int → Option Bool) (ra0 : health_Rule) (s : health_State) : Option Int :=
  (health_Right ra0).bind fun xr =>
  cond (!xr)
    (
    some (0))
    (
    (health_within s.Run 0 1048576).bind fun w =>
    cond (!w)
      (
      some (0))
      (
      cond (s.Up)
        (
        let t := if (wI .i64 (ra0.Fall - s.Run)) > 1 then wI .i64 (ra0.Fall - s.Run) else 1
        some (t))
        (
        let t1 := if (wI .i64 (ra0.Rise - s.Run)) > 1 then wI .i64 (ra0.Rise - s.Run) else 1
        some (t1))))
def rx128 (x : Int) : SRes := ⟨.int .i64 x, [], []⟩
def r128 (g : health_Rule → health_State → Option Int) : Dec := dV uvhealth_Rule fun (y0 : health_Rule) => dV uvhealth_State fun (y1 : health_State) => dEnd (ofG (g y0 y1) rx128)
theorem r128_c {g : health_Rule → health_State → Option Int} {y0 : health_Rule} {y1 : health_State} {x : Int} (hx : g y0 y1 = some x) : r128 g [.agg ⟨[.int .i64 y0.Rise, .int .i64 y0.Fall]⟩, .agg ⟨[.bool y1.Up, .int .i64 y1.Run]⟩] [] = some (rx128 x) := (dV_eq (uvhealth_Rule_c _)).trans ((dV_eq (uvhealth_State_c _)).trans (ofG_eq hx))
def s128 (g : health_Rule → health_State → Option Int) : Summ := ⟨[.v, .v], r128 g⟩
theorem r128_eq {g : health_Rule → health_State → Option Int} {y0 : health_Rule} {y1 : health_State} {x : Int} (hx : g y0 y1 = some x) : (s128 g).run [.agg ⟨[.int .i64 y0.Rise, .int .i64 y0.Fall]⟩, .agg ⟨[.bool y1.Up, .int .i64 y1.Run]⟩] [] = some (rx128 x) := r128_c hx
abbrev sums128 (health_Right : health_Rule → Option Bool) (health_within : Int → Int → Int → Option Bool) : List (Nat × Summ) := [(69, s69 health_Right), (121, s121 health_within)]
theorem leads128 (health_Right : health_Rule → Option Bool) (health_within : Int → Int → Int → Option Bool) (hS : SumsOK Try.prog (aget (sums128 health_Right health_within))) (ra0 : health_Rule) (s : health_State) (res : Int) (h : health_NeedF health_Right health_within ra0 s = some res) :
    Leads Try.prog 128 0 ⟨⟨128, 30, [(0, .agg ⟨[.int .i64 ra0.Rise, .int .i64 ra0.Fall]⟩), (1, .agg ⟨[.bool s.Up, .int .i64 s.Run]⟩)], [.code k128_15], [], false, none⟩, [], [], 0⟩ (fun v H _ => Res 0 (rx128 res) v H) := by
  unfold health_NeedF at h
  refine ev_ok tab_ok hS true 3000 ?_
  conv => whnf
  replace h := obind.elim h; obtain ⟨xr, hy, h⟩ := h
  refine sumK.q rfl rfl (r69_eq hy) rfl rfl rfl ?_
  conv => whnf
  refine br.h h ?_ ?_ ?_
  · rfl
  · clear h; intro hb h; conv => whnf
    all_goals (cases h; exact Res.z rfl rfl rfl)
  clear h; intro hb h; conv => whnf
  replace h := obind.elim h; obtain ⟨w, hy, h⟩ := h
  refine sumK.q rfl rfl (r121_eq hy) rfl rfl rfl ?_
  conv => whnf
  refine br.h h ?_ ?_ ?_
  · rfl
  · clear h; intro hb h; conv => whnf
    all_goals (cases h; exact Res.z rfl rfl rfl)
  clear h; intro hb h; conv => whnf
  refine br.h h ?_ ?_ ?_
  · rfl
  · clear h; intro hb h; conv => whnf
    let t : Int := if (wI .i64 (ra0.Fall - s.Run)) > 1 then wI .i64 (ra0.Fall - s.Run) else 1
    all_goals (cases h; exact Res.z rfl rfl rfl)
  clear h; intro hb h; conv => whnf
  let t1 : Int := if (wI .i64 (ra0.Rise - s.Run)) > 1 then wI .i64 (ra0.Rise - s.Run) else 1
  all_goals (cases h; exact Res.z rfl rfl rfl)
theorem ok128 (health_Right : health_Rule → Option Bool) (health_within : Int → Int → Int → Option Bool) (hS : SumsOK Try.prog (aget (sums128 health_Right health_within))) : SumOK Try.prog 128 (s128 (health_NeedF health_Right health_within)) := by
  refine SumOK.of_leads tab_ok (fun ar os r ha hr => ?_) ⟨Try.f128, rfl, by decide, rfl⟩
  replace hr : r128 (health_NeedF health_Right health_within) ar (conts os) = some r := hr
  unfold r128 at hr
  generalize hc : conts os = C at hr
  replace hr := dV.elim hr; obtain ⟨v0, l1, y0, rfl, e0, hr⟩ := hr; obtain rfl := uvhealth_Rule_eq _ _ e0
  replace hr := dV.elim hr; obtain ⟨v1, l2, y1, rfl, e1, hr⟩ := hr; obtain rfl := uvhealth_State_eq _ _ e1
  replace hr := dFin hr; obtain ⟨rfl, rfl, x, h, rfl⟩ := hr
  obtain rfl := kinds_nil hc
  exact ⟨_, rfl, leads128 health_Right health_within hS _ _ x h⟩
def health_Need : health_Rule → health_State → Option Int := health_NeedF health_Right health_within
theorem lift128 : SumOK Try.prog 128 (s128 health_Need) := ok128 health_Right health_within (SumsOK.of_tab ⟨lift69, lift121, trivial⟩)
def health_PutF (health_Need : health_Rule → health_State → Option Int) (ra0 : health_Rule) (s : health_State) (good : Bool) : Option (health_State × Bool) :=
  (health_Need ra0 s).bind fun n =>
  cond (n == 0)
    (
    some ((s, false)))
    (
    cond (n == 1)
      (
      some ((health_State.mk good 0, !(good == s.Up))))
      (
      cond (good == s.Up)
        (
        some ((health_State.mk s.Up 0, false)))
        (
        some ((health_State.mk s.Up (wI .i64 (s.Run + 1)), false)))))
def rx90 (x : health_State × Bool) : SRes := ⟨.tuple ⟨[.agg ⟨[.bool x.1.Up, .int .i64 x.1.Run]⟩, .bool x.2]⟩, [], []⟩
def r90 (g : health_Rule → health_State → Bool → Option (health_State × Bool)) : Dec := dV uvhealth_Rule fun (y0 : health_Rule) => dV uvhealth_State fun (y1 : health_State) => dV asB fun (y2 : Bool) => dEnd (ofG (g y0 y1 y2) rx90)
theorem r90_c {g : health_Rule → health_State → Bool → Option (health_State × Bool)} {y0 : health_Rule} {y1 : health_State} {y2 : Bool} {x : health_State × Bool} (hx : g y0 y1 y2 = some x) : r90 g [.agg ⟨[.int .i64 y0.Rise, .int .i64 y0.Fall]⟩, .agg ⟨[.bool y1.Up, .int .i64 y1.Run]⟩, .bool y2] [] = some (rx90 x) := (dV_eq (uvhealth_Rule_c _)).trans ((dV_eq (uvhealth_State_c _)).trans ((dV_eq (asB_c)).trans (ofG_eq hx)))
def s90 (g : health_Rule → health_State → Bool → Option (health_State × Bool)) : Summ := ⟨[.v, .v, .v], r90 g⟩
theorem r90_eq {g : health_Rule → health_State → Bool → Option (health_State × Bool)} {y0 : health_Rule} {y1 : health_State} {y2 : Bool} {x : health_State × Bool} (hx : g y0 y1 y2 = some x) : (s90 g).run [.agg ⟨[.int .i64 y0.Rise, .int .i64 y0.Fall]⟩, .agg ⟨[.bool y1.Up, .int .i64 y1.Run]⟩, .bool y2] [] = some (rx90 x) := r90_c hx
abbrev sums90 (health_Need : health_Rule → health_State → Option Int) : List (Nat × Summ) := [(128, s128 health_Need)]
theorem leads90 (health_Need : health_Rule → health_State → Option Int) (hS : SumsOK Try.prog (aget (sums90 health_Need))) (ra0 : health_Rule) (s : health_State) (good : Bool) (res : health_State × Bool) (h : health_PutF health_Need ra0 s good = some res) :
    Leads Try.prog 90 0 ⟨⟨90, 32, [(0, .agg ⟨[.int .i64 ra0.Rise, .int .i64 ra0.Fall]⟩), (1, .agg ⟨[.bool s.Up, .int .i64 s.Run]⟩), (2, .bool good)], [.code k90_23], [], false, none⟩, [], [], 0⟩ (fun v H _ => Res 0 (rx90 res) v H) := by
  unfold health_PutF at h
  refine ev_ok tab_ok hS true 3000 ?_
  conv => whnf
  replace h := obind.elim h; obtain ⟨n, hy, h⟩ := h
  refine sumK.q rfl rfl (r128_eq hy) rfl rfl rfl ?_
  conv => whnf
  refine br.h h ?_ ?_ ?_
  · rfl
  · clear h; intro hb h; conv => whnf
    all_goals (cases h; exact Res.z rfl rfl rfl)
  clear h; intro hb h; conv => whnf
  refine br.h h ?_ ?_ ?_
  · rfl
  · clear h; intro hb h; conv => whnf
    all_goals (cases h; exact Res.z rfl rfl rfl)
  clear h; intro hb h; conv => whnf
  refine br.h h ?_ ?_ ?_
  · rfl
  · clear h; intro hb h; conv => whnf
    all_goals (cases h; exact Res.z rfl rfl rfl)
  clear h; intro hb h; conv => whnf
  all_goals (cases h; exact Res.z rfl rfl rfl)
theorem ok90 (health_Need : health_Rule → health_State → Option Int) (hS : SumsOK Try.prog (aget (sums90 health_Need))) : SumOK Try.prog 90 (s90 (health_PutF health_Need)) := by
  refine SumOK.of_leads tab_ok (fun ar os r ha hr => ?_) ⟨Try.f90, rfl, by decide, rfl⟩
  replace hr : r90 (health_PutF health_Need) ar (conts os) = some r := hr
  unfold r90 at hr
  generalize hc : conts os = C at hr
  replace hr := dV.elim hr; obtain ⟨v0, l1, y0, rfl, e0, hr⟩ := hr; obtain rfl := uvhealth_Rule_eq _ _ e0
  replace hr := dV.elim hr; obtain ⟨v1, l2, y1, rfl, e1, hr⟩ := hr; obtain rfl := uvhealth_State_eq _ _ e1
  replace hr := dV.elim hr; obtain ⟨v2, l3, y2, rfl, e2, hr⟩ := hr; obtain rfl := asB_eq _ _ e2
  replace hr := dFin hr; obtain ⟨rfl, rfl, x, h, rfl⟩ := hr
  obtain rfl := kinds_nil hc
  exact ⟨_, rfl, leads90 health_Need hS _ _ _ x h⟩
def health_Put : health_Rule → health_State → Bool → Option (health_State × Bool) := health_PutF health_Need
theorem lift90 : SumOK Try.prog 90 (s90 health_Put) := ok90 health_Need (SumsOK.of_tab ⟨lift128, trivial⟩)
def registry_Registry_ProbeF (health_Put : health_Rule → health_State → Bool → Option (health_State × Bool)) (registry_Registry_find : registry_Registry → Int → Option (Int × Bool)) (registry_Registry_find_nil : Int → Option (Int × Bool)) (registry_Registry_given : registry_Registry → Option Bool) (registry_Registry_given_nil : Option Bool) (ga0 : registry_Registry) (ida1 : Int) (good : Bool) : Option (Bool × Int × registry_Registry) :=
  (registry_Registry_given ga0).bind fun xg =>
  cond (!xg)
    (
    some ((false, 1, ga0)))
    (
    (registry_Registry_find ga0 ida1).bind fun f =>
    cond (!f.2)
      (
      some ((false, 13, ga0)))
      (
      oreq (decide ((0 : Int) ≤ f.1 ∧ f.1 < (ga0.rows.length : Int))) <|
      (ga0.rows[f.1.toNat]?).bind fun (e : registry_row) =>
      (health_Put ga0.rule e.health good).bind fun p =>
      let row := ga0.rows.set f.1.toNat (registry_row.mk e.Backend e.drains p.1)
      cond (!p.2)
        (
        some ((p.2, 0, registry_Registry.mk ga0.rule row ga0.last ga0.version)))
        (
        some ((p.2, 0, registry_Registry.mk ga0.rule row ga0.last (wI .i64 (ga0.version + 1)))))))
def rx30 (x : Bool × Int × registry_Registry) : SRes := ⟨.tuple ⟨[.bool x.1, .int .i64 x.2.1]⟩, [(vT cregistry_row x.2.2.rows)], [some [.int .i64 x.2.2.rule.Rise, .int .i64 x.2.2.rule.Fall, .slice (some ⟨0, 0, none⟩) x.2.2.rows.length 9, .int .i64 x.2.2.last, .int .i64 x.2.2.version], none]⟩
def r30 (g : registry_Registry → Int → Bool → Option (Bool × Int × registry_Registry)) : Dec := dTr 2 (udregistry_Registry 0) fun (y0 : registry_Registry) => dV (asI .i64) fun (y1 : Int) => dV asB fun (y2 : Bool) => dEnd (ofG (g y0 y1 y2) rx30)
theorem r30_c {g : registry_Registry → Int → Bool → Option (Bool × Int × registry_Registry)} {y0 : registry_Registry} {y1 : Int} {y2 : Bool} {x : Bool × Int × registry_Registry} (hx : g y0 y1 y2 = some x) : r30 g [.pointer (some ⟨0, 0, none⟩), .int .i64 y1, .bool y2] [some [.int .i64 y0.rule.Rise, .int .i64 y0.rule.Fall, .slice (some ⟨1, 0, none⟩) y0.rows.length 9, .int .i64 y0.last, .int .i64 y0.version], some (vT cregistry_row y0.rows)] = some (rx30 x) := (dTr_eq rfl rfl (udregistry_Registry_c 0 _)).trans ((dV_eq (asI_c _)).trans ((dV_eq (asB_c)).trans (ofG_eq hx)))
def s30 (g : registry_Registry → Int → Bool → Option (Bool × Int × registry_Registry)) : Summ := ⟨[.tr [⟨none, 0, 0, 1, none⟩, ⟨some 0, 2, 0, 2, some 9⟩], .v, .v], r30 g⟩
theorem r30_eq {g : registry_Registry → Int → Bool → Option (Bool × Int × registry_Registry)} {y0 : registry_Registry} {y1 : Int} {y2 : Bool} {x : Bool × Int × registry_Registry} (hx : g y0 y1 y2 = some x) : (s30 g).run [.pointer (some ⟨0, 0, none⟩), .int .i64 y1, .bool y2] [some [.int .i64 y0.rule.Rise, .int .i64 y0.rule.Fall, .slice (some ⟨1, 0, none⟩) y0.rows.length 9, .int .i64 y0.last, .int .i64 y0.version], some (vT cregistry_row y0.rows)] = some (rx30 x) := r30_c hx
abbrev sums30 (health_Put : health_Rule → health_State → Bool → Option (health_State × Bool)) (registry_Registry_find : registry_Registry → Int → Option (Int × Bool)) (registry_Registry_find_nil : Int → Option (Int × Bool)) (registry_Registry_given : registry_Registry → Option Bool) (registry_Registry_given_nil : Option Bool) : List (Nat × Summ) := [(90, s90 health_Put), (71, s71 registry_Registry_find registry_Registry_find_nil), (70, s70 registry_Registry_given registry_Registry_given_nil)]
theorem leads30 (health_Put : health_Rule → health_State → Bool → Option (health_State × Bool)) (registry_Registry_find : registry_Registry → Int → Option (Int × Bool)) (registry_Registry_find_nil : Int → Option (Int × Bool)) (registry_Registry_given : registry_Registry → Option Bool) (registry_Registry_given_nil : Option Bool) (hS : SumsOK Try.prog (aget (sums30 health_Put registry_Registry_find registry_Registry_find_nil registry_Registry_given registry_Registry_given_nil))) (ga0 : registry_Registry) (ida1 : Int) (good : Bool) (res : Bool × Int × registry_Registry) (h : registry_Registry_ProbeF health_Put registry_Registry_find registry_Registry_find_nil registry_Registry_given registry_Registry_given_nil ga0 ida1 good = some res) :
    Leads Try.prog 30 2 ⟨⟨30, 18, [(0, .pointer (some ⟨0, 0, none⟩)), (1, .int .i64 ida1), (2, .bool good)], [.code k30_12], [], false, none⟩, [], [(0, .cells [.int .i64 ga0.rule.Rise, .int .i64 ga0.rule.Fall, .slice (some ⟨1, 0, none⟩) ga0.rows.length 9, .int .i64 ga0.last, .int .i64 ga0.version]), (1, .row true (vT cregistry_row ga0.rows))], 2⟩ (fun v H _ => Res 2 (rx30 res) v H) := by
  unfold registry_Registry_ProbeF at h
  refine ev_ok tab_ok hS true 3000 ?_
  conv => whnf
  replace h := obind.elim h; obtain ⟨xg, hy, h⟩ := h
  refine sumK.introF [] (sumRun_of (aqs := [.pointer (some ⟨0, 0, none⟩)]) (ws := [.blk 0 false, .blk 1 false]) (n := 0) (m := 0) (t' := 5) (ra_cons (ra_tr rfl rfl (vp_at rfl rfl rfl rfl (vp_at rfl rfl (rn_T cregistry_row_flat) rfl vp_nil)) rfl) rfl ra_nil) rfl (by rfl) (r70_eq hy) rfl rfl rfl rfl (wb_skip rfl (wb_skip rfl wb_nil)) an_nil rfl) ?_
  conv => whnf
  refine br.h h ?_ ?_ ?_
  · rfl
  · clear h; intro hb h; conv => whnf
    all_goals (cases h)
    all_goals exact Res.of [1] rfl (nw_s (rn_T cregistry_row_flat) (hs_row rfl) nw_0) (by decide) (js_r rfl js_0) (wr_s (rfl) (hs_cells rfl) (wr_n wr_0))
  clear h; intro hb h; conv => whnf
  replace h := obind.elim h; obtain ⟨f, hy, h⟩ := h
  refine sumK.introF [] (sumRun_of (aqs := [.pointer (some ⟨0, 0, none⟩), .int .i64 ida1]) (ws := [.blk 0 false, .blk 1 false]) (n := 0) (m := 0) (t' := 5) (ra_cons (ra_tr rfl rfl (vp_at rfl rfl rfl rfl (vp_at rfl rfl (rn_T cregistry_row_flat) rfl vp_nil)) rfl) rfl (ra_cons rfl rfl ra_nil)) rfl (by rfl) (r71_eq hy) rfl rfl rfl rfl (wb_skip rfl (wb_skip rfl wb_nil)) an_nil rfl) ?_
  conv => whnf
  refine br.h h ?_ ?_ ?_
  · rfl
  · clear h; intro hb h; conv => whnf
    all_goals (cases h)
    all_goals exact Res.of [1] rfl (nw_s (rn_T cregistry_row_flat) (hs_row rfl) nw_0) (by decide) (js_r rfl js_0) (wr_s (rfl) (hs_cells rfl) (wr_n wr_0))
  clear h; intro hb h; conv => whnf
  replace h := oreq.elim h; obtain ⟨hb, h⟩ := h
  first | (refine req.intro hb ?_; conv => whnf) | skip
  replace h := obind.elim h; obtain ⟨e, hy, h⟩ := h
  refine ld_TP (j := 7) cregistry_row_len hy (by first | omega | exact Nat.zero_add _ | exact congrArg (· + _) (Nat.zero_add _)) (by decide) ?_
  conv => whnf
  replace h := obind.elim h; obtain ⟨p, hy, h⟩ := h
  refine sumK.q rfl rfl (r90_eq hy) rfl rfl rfl ?_
  conv => whnf
  refine st_TP (i := f.1.toNat) (x := e) (x' := registry_row.mk e.Backend e.drains p.1) (j := 7) cregistry_row_len (by assumption) (by first | omega | exact Nat.zero_add _ | exact congrArg (· + _) (Nat.zero_add _)) (by decide) rfl rfl rfl ?_
  conv => whnf
  let row : List registry_row := ga0.rows.set f.1.toNat (registry_row.mk e.Backend e.drains p.1)
  try rw [show ga0.rows.length = row.length from (List.length_set ..).symm]
  conv => whnf
  refine br.h h ?_ ?_ ?_
  · rfl
  · clear h; intro hb h; conv => whnf
    all_goals (cases h)
    all_goals exact Res.of [1] rfl (nw_s (rn_T cregistry_row_flat) (hs_row rfl) nw_0) (by decide) (js_r rfl js_0) (wr_s (rfl) (hs_cells rfl) (wr_n wr_0))
  clear h; intro hb h; conv => whnf
  all_goals (cases h)
  all_goals exact Res.of [1] rfl (nw_s (rn_T cregistry_row_flat) (hs_row rfl) nw_0) (by decide) (js_r rfl js_0) (wr_s (rfl) (hs_cells rfl) (wr_n wr_0))
theorem ok30 (health_Put : health_Rule → health_State → Bool → Option (health_State × Bool)) (registry_Registry_find : registry_Registry → Int → Option (Int × Bool)) (registry_Registry_find_nil : Int → Option (Int × Bool)) (registry_Registry_given : registry_Registry → Option Bool) (registry_Registry_given_nil : Option Bool) (hS : SumsOK Try.prog (aget (sums30 health_Put registry_Registry_find registry_Registry_find_nil registry_Registry_given registry_Registry_given_nil))) : SumOK Try.prog 30 (s30 (registry_Registry_ProbeF health_Put registry_Registry_find registry_Registry_find_nil registry_Registry_given registry_Registry_given_nil)) := by
  refine SumOK.of_leads tab_ok (fun ar os r ha hr => ?_) ⟨Try.f30, rfl, by decide, rfl⟩
  replace hr : r30 (registry_Registry_ProbeF health_Put registry_Registry_find registry_Registry_find_nil registry_Registry_given registry_Registry_given_nil) ar (conts os) = some r := hr
  unfold r30 at hr
  generalize hc : conts os = C at hr
  have hq := dTr.elim hr; clear hr; obtain ⟨v0, l1, c0, C, y0, rfl, rfl, e0, hr⟩ := hq; obtain ⟨rfl, rfl⟩ := udregistry_Registry_eq e0; simp only [List.nil_append, List.cons_append] at hc
  replace hr := dV.elim hr; obtain ⟨v1, l2, y1, rfl, e1, hr⟩ := hr; obtain rfl := asI_eq _ _ _ e1
  replace hr := dV.elim hr; obtain ⟨v2, l3, y2, rfl, e2, hr⟩ := hr; obtain rfl := asB_eq _ _ e2
  replace hr := dFin hr; obtain ⟨rfl, rfl, x, h, rfl⟩ := hr
  obtain ⟨os, rfl, ha, hc⟩ := kinds_some ha hc
  obtain ⟨os, rfl, ha, hc⟩ := kinds_some ha hc
  obtain rfl := kinds_nil hc
  exact ⟨_, rfl, leads30 health_Put registry_Registry_find registry_Registry_find_nil registry_Registry_given registry_Registry_given_nil hS _ _ _ x h⟩
def registry_Registry_Probe : registry_Registry → Int → Bool → Option (Bool × Int × registry_Registry) := registry_Registry_ProbeF health_Put registry_Registry_find registry_Registry_find_nil registry_Registry_given registry_Registry_given_nil
theorem lift30 : SumOK Try.prog 30 (s30 registry_Registry_Probe) := ok30 health_Put registry_Registry_find registry_Registry_find_nil registry_Registry_given registry_Registry_given_nil (SumsOK.of_tab ⟨lift90, lift71, lift70, trivial⟩)
end Go.Vm.Code
namespace Go.Vm.Code
open Go Go.Vm
def noB : api_Backend := ⟨0, 0, 0, ⟨false, 0, 0⟩⟩
def goneB (id : Int) : api_Backend := ⟨id, 0, 4, ⟨false, 0, 0⟩⟩
def updR (g : registry_Registry) (k : Nat) (r : registry_row) (dv : Int) : registry_Registry := ⟨g.rule, g.rows.set k r, g.last, g.version + dv⟩
def newRow (id w : Int) (a : api_Addr) : registry_row := ⟨⟨id, w, 0, a⟩, false, ⟨true, 0⟩⟩
def putS (r : health_Rule) (s : health_State) (good : Bool) : health_State × Bool :=
  if ruleB r = true ∧ 0 ≤ s.Run ∧ s.Run ≤ 1048576 then
    if good = s.Up then (⟨s.Up, 0⟩, false)
    else if s.Run + 1 ≥ (if s.Up then r.Fall else r.Rise) then (⟨good, 0⟩, true) else (⟨s.Up, s.Run + 1⟩, false)
  else (s, false)
theorem RI.mono {N M : Int} {g : registry_Registry} (h : RI N g) (hm : N ≤ M) : RI M g := { h with ver1 := Int.le_trans h.ver1 hm }
theorem ids_set {rows : List registry_row} {k : Nat} {r q : registry_row} (hk : rows[k]? = some r) (hq : q.Backend.ID = r.Backend.ID) : (rows.set k q).map rid = rows.map rid := by
  apply List.ext_getElem?
  intro i
  rw [List.getElem?_map, List.getElem?_map, List.getElem?_set]
  split
  · rename_i e; subst e
    split
    · rw [hk]; simp [rid, hq]
    · rename_i hl; rw [List.getElem?_eq_none (by omega)]
  · rfl
theorem RI.upd {N : Int} {g : registry_Registry} (h : RI N g) {k : Nat} {r q : registry_row} (hk : g.rows[k]? = some r) (hq : q.Backend.ID = r.Backend.ID) {dv : Int} (h0 : 0 ≤ dv) (h1 : dv ≤ 1) : RI (N + 1) (updR g k q dv) := by
  have e := ids_set hk hq
  have hv0 := h.ver0; have hv1 := h.ver1
  exact { rule := h.rule, len := by simpa [updR] using h.len, last0 := h.last0, last1 := h.last1, ver0 := by show 0 ≤ g.version + dv; omega, ver1 := by show g.version + dv ≤ N + 1; omega,
          ids := by show ∀ i ∈ (g.rows.set k q).map rid, _; rw [e]; exact h.ids, up := by show ((g.rows.set k q).map rid).Pairwise _; rw [e]; exact h.up }
def addG (g : registry_Registry) (w : Int) (a : api_Addr) : Int × Int × registry_Registry :=
  if weighB w = true ∧ adrB a = true then
    if g.rows.length = 64 ∨ g.last = 65535 then (0, 9, g) else (g.last + 1, 0, ⟨g.rule, g.rows ++ [newRow (g.last + 1) w a], g.last + 1, g.version + 1⟩)
  else (0, 1, g)
theorem add_eq {N : Int} {g : registry_Registry} (h : RI N g) (hN : N < 2 ^ 40) (w : Int) (a : api_Addr) : registry_Registry_Add g w a = some (addG g w a) := by
  unfold registry_Registry_Add registry_Registry_AddF addG
  rw [given_eq h, Option.bind_some, weighs_eq, Option.bind_some, aright_eq, Option.bind_some]
  have hl := h.len; have h0 := h.last0; have h1 := h.last1; have v0 := h.ver0; have v1 := h.ver1
  cases hw : weighB w with
  | false => rfl
  | true =>
  cases ha : adrB a with
  | false => rfl
  | true =>
  simp only [Bool.not_true, cond_false, and_self, ↓reduceIte]
  by_cases e1 : g.rows.length = 64
  · rw [show ((g.rows.length : Int) == 64) = true from by rw [beq_iff_eq]; omega, cond_true, if_pos (.inl e1)]
  · rw [show ((g.rows.length : Int) == 64) = false from by rw [beq_eq_false_iff_ne]; omega, cond_false]
    by_cases e2 : g.last = 65535
    · rw [show (g.last == 65535) = true from by rw [beq_iff_eq]; exact e2, cond_true, if_pos (.inr e2)]
    · rw [show (g.last == 65535) = false from by rw [beq_eq_false_iff_ne]; exact e2, cond_false, if_neg (by omega), oreq_p (by omega), wI64 (by omega) (by omega), wI64 (n := g.version + 1) (by omega) (by omega)]; rfl
theorem add_RI {N : Int} {g : registry_Registry} (h : RI N g) (w : Int) (a : api_Addr) : RI (N + 1) (addG g w a).2.2 := by
  unfold addG
  split
  · split
    · exact h.mono (by omega)
    · rename_i hn
      have hl := h.len; have h0 := h.last0; have h1 := h.last1; have v0 := h.ver0; have v1 := h.ver1
      refine { rule := h.rule, len := by simp; omega, last0 := by show 0 ≤ g.last + 1; omega, last1 := by show g.last + 1 ≤ 65535; omega, ver0 := by show 0 ≤ g.version + 1; omega, ver1 := by show g.version + 1 ≤ N + 1; omega, ids := ?_, up := ?_ }
      · intro i hi
        simp only [List.map_append, List.map_cons, List.map_nil, List.mem_append, List.mem_singleton] at hi
        show 1 ≤ i ∧ i ≤ g.last + 1
        rcases hi with hi | hi
        · have := h.ids i hi; omega
        · subst hi; simp only [rid, newRow]; omega
      · simp only [List.map_append, List.map_cons, List.map_nil]
        rw [List.pairwise_append]
        refine ⟨h.up, List.pairwise_singleton .., fun i hi j hj => ?_⟩
        have := h.ids i hi
        simp only [List.mem_singleton] at hj
        subst hj; simp only [rid, newRow]; omega
  · exact h.mono (by omega)
theorem drain_yes {N : Int} {g : registry_Registry} (h : RI N g) (hN : N < 2 ^ 40) {k : Nat} {r : registry_row} (hk : g.rows[k]? = some r) (on : Bool) :
    registry_Registry_Drain g r.Backend.ID on = some (if r.drains = on then (11, g) else (0, updR g k ⟨r.Backend, on, r.health⟩ 1)) := by
  unfold registry_Registry_Drain registry_Registry_DrainF
  have v0 := h.ver0; have v1 := h.ver1
  have hl := (List.getElem?_eq_some_iff.1 hk).1
  rw [given_eq h, Option.bind_some, find_yes h hk, Option.bind_some]
  simp only [Bool.not_true, cond_false]
  rw [oreq_p ⟨by omega, by omega⟩, Int.toNat_natCast, hk, Option.bind_some]
  by_cases e : r.drains = on
  · rw [show (r.drains == on) = true from by simpa using e, cond_true, if_pos e]
  · rw [show (r.drains == on) = false from by simpa using e, cond_false, if_neg e, wI64 (by omega) (by omega)]; rfl
theorem drain_no {N : Int} {g : registry_Registry} (h : RI N g) {id : Int} (hn : ∀ (k : Nat) r, g.rows[k]? = some r → r.Backend.ID ≠ id) (on : Bool) : registry_Registry_Drain g id on = some (13, g) := by
  unfold registry_Registry_Drain registry_Registry_DrainF
  obtain ⟨i, hi⟩ := find_no h hn
  rw [given_eq h, Option.bind_some, hi, Option.bind_some]; rfl
theorem weight_yes {N : Int} {g : registry_Registry} (h : RI N g) (hN : N < 2 ^ 40) {k : Nat} {r : registry_row} (hk : g.rows[k]? = some r) (w : Int) :
    registry_Registry_Weight g r.Backend.ID w = some (if weighB w then (0, updR g k ⟨⟨r.Backend.ID, w, r.Backend.State, r.Backend.Addr⟩, r.drains, r.health⟩ 1) else (1, g)) := by
  unfold registry_Registry_Weight registry_Registry_WeightF
  have v0 := h.ver0; have v1 := h.ver1
  have hl := (List.getElem?_eq_some_iff.1 hk).1
  rw [given_eq h, Option.bind_some, find_yes h hk, Option.bind_some]
  simp only [Bool.not_true, cond_false]
  rw [oreq_p ⟨by omega, by omega⟩, Int.toNat_natCast, hk, weighs_eq, Option.bind_some]
  cases hw : weighB w with
  | false => rfl
  | true => simp only [Bool.not_true, cond_false, Option.bind_some]; rw [wI64 (by omega) (by omega)]; rfl
theorem weight_no {N : Int} {g : registry_Registry} (h : RI N g) {id : Int} (hn : ∀ (k : Nat) r, g.rows[k]? = some r → r.Backend.ID ≠ id) (w : Int) : registry_Registry_Weight g id w = some (13, g) := by
  unfold registry_Registry_Weight registry_Registry_WeightF
  obtain ⟨i, hi⟩ := find_no h hn
  rw [given_eq h, Option.bind_some, hi, Option.bind_some]; rfl
theorem hput_eq (r : health_Rule) (s : health_State) (good : Bool) : health_Put r s good = some (putS r s good) := by
  unfold health_Put health_PutF health_Need health_NeedF putS
  rw [hright_eq, Option.bind_some, within_eq, Option.bind_some]
  cases hr : ruleB r with
  | false => rfl
  | true =>
  simp only [ruleB, decide_eq_true_eq] at hr
  by_cases hs : 0 ≤ s.Run ∧ s.Run ≤ 1048576
  · rw [decide_eq_true hs]
    simp only [Bool.not_true, cond_false, true_and]
    rw [if_pos hs, wI64 (n := r.Fall - s.Run) (by omega) (by omega), wI64 (n := r.Rise - s.Run) (by omega) (by omega), wI64 (n := s.Run + 1) (by omega) (by omega)]
    have key : ∀ must : Int, (do
        let n ← some (if must - s.Run > 1 then must - s.Run else 1)
        cond (n == 0) (some (s, false)) (cond (n == 1) (some (health_State.mk good 0, !(good == s.Up))) (cond (good == s.Up) (some (health_State.mk s.Up 0, false)) (some (health_State.mk s.Up (s.Run + 1), false))))) =
        some (if good = s.Up then ((⟨s.Up, 0⟩ : health_State), false) else if s.Run + 1 ≥ must then (⟨good, 0⟩, true) else (⟨s.Up, s.Run + 1⟩, false)) := by
      intro must
      by_cases hm : must - s.Run > 1
      · rw [if_pos hm]
        simp only [Option.bind_eq_bind, Option.bind_some]
        rw [show (must - s.Run == 0) = false from by rw [beq_eq_false_iff_ne]; omega, show (must - s.Run == 1) = false from by rw [beq_eq_false_iff_ne]; omega, cond_false, cond_false, if_neg (show ¬ s.Run + 1 ≥ must by omega)]
        cases good <;> cases s.Up <;> simp
      · rw [if_neg hm, if_pos (show s.Run + 1 ≥ must by omega)]
        simp only [Option.bind_eq_bind, Option.bind_some]
        cases good <;> cases s.Up <;> simp
    cases hu : s.Up with
    | true => have := key r.Fall; simp only [hu] at this; simpa using this
    | false => have := key r.Rise; simp only [hu] at this; simpa using this
  · rw [decide_eq_false hs]; simp only [Bool.not_true, Bool.not_false, cond_false, cond_true, Option.bind_some, hs, and_false, ↓reduceIte]; rfl
theorem probe_yes {N : Int} {g : registry_Registry} (h : RI N g) (hN : N < 2 ^ 40) {k : Nat} {r : registry_row} (hk : g.rows[k]? = some r) (good : Bool) :
    registry_Registry_Probe g r.Backend.ID good = some ((putS g.rule r.health good).2, 0, updR g k ⟨r.Backend, r.drains, (putS g.rule r.health good).1⟩ (if (putS g.rule r.health good).2 then 1 else 0)) := by
  unfold registry_Registry_Probe registry_Registry_ProbeF
  have v0 := h.ver0; have v1 := h.ver1
  have hl := (List.getElem?_eq_some_iff.1 hk).1
  rw [given_eq h, Option.bind_some, find_yes h hk, Option.bind_some]
  simp only [Bool.not_true, cond_false]
  rw [oreq_p ⟨by omega, by omega⟩, Int.toNat_natCast, hk, Option.bind_some, hput_eq, Option.bind_some]
  cases (putS g.rule r.health good).2 with
  | false => simp only [Bool.not_false, cond_true, updR, Bool.false_eq_true, ↓reduceIte, Int.add_zero]
  | true => simp only [Bool.not_true, cond_false, updR, ↓reduceIte]; rw [wI64 (by omega) (by omega)]
theorem probe_no {N : Int} {g : registry_Registry} (h : RI N g) {id : Int} (hn : ∀ (k : Nat) r, g.rows[k]? = some r → r.Backend.ID ≠ id) (good : Bool) : registry_Registry_Probe g id good = some (false, 13, g) := by
  unfold registry_Registry_Probe registry_Registry_ProbeF
  obtain ⟨i, hi⟩ := find_no h hn
  rw [given_eq h, Option.bind_some, hi, Option.bind_some]; rfl
theorem get_yes {N : Int} {g : registry_Registry} (h : RI N g) {k : Nat} {r : registry_row} (hk : g.rows[k]? = some r) : registry_Registry_Get g r.Backend.ID = some (tld r, true) := by
  unfold registry_Registry_Get registry_Registry_GetF
  have hl := (List.getElem?_eq_some_iff.1 hk).1
  rw [given_eq h, Option.bind_some, find_yes h hk, Option.bind_some]
  simp only [Bool.not_true, cond_false, cond_true]
  rw [oreq_p ⟨by omega, by omega⟩, Int.toNat_natCast, hk, Option.bind_some, told_eq, Option.bind_some]
theorem get_no {N : Int} {g : registry_Registry} (h : RI N g) {id : Int} (hn : ∀ (k : Nat) r, g.rows[k]? = some r → r.Backend.ID ≠ id) : registry_Registry_Get g id = some (if 1 ≤ id ∧ id ≤ g.last then (goneB id, true) else (noB, false)) := by
  unfold registry_Registry_Get registry_Registry_GetF
  obtain ⟨i, hi⟩ := find_no h hn
  rw [given_eq h, Option.bind_some, hi, Option.bind_some]
  simp only [Bool.not_true, cond_false]
  by_cases h1 : id < 1
  · rw [cond_p h1, if_neg (by omega)]; rfl
  · rw [cond_n h1]
    by_cases h2 : id > g.last
    · rw [cond_p h2, if_neg (by omega)]; rfl
    · rw [cond_n h2, if_pos (by omega)]; rfl
theorem version_eq {N : Int} {g : registry_Registry} (h : RI N g) : registry_Registry_Version g = some g.version := by
  unfold registry_Registry_Version registry_Registry_VersionF
  rw [given_eq h, Option.bind_some]; rfl
theorem list_eq {N : Int} {g : registry_Registry} (h : RI N g) : registry_Registry_List g = some (g.rows.map tld) := by
  unfold registry_Registry_List registry_Registry_ListF
  have hlen := h.len
  rw [given_eq h, Option.bind_some]
  simp only [Bool.not_true, cond_false]
  have := iter_build (fun i => tld (g.rows.getD i ⟨noB, false, ⟨false, 0⟩⟩)) g.rows.length (fun st => registry_Registry_List_s1 registry_row_told g st.1 st.2) (fun o => o) (n := FUEL) ?_ ?_ (by rw [FUEL_eq]; omega)
  · rw [this]
    congr 1
    exact range_map _ _ _ (fun i hi => by rw [List.getD_eq_getElem?_getD, List.getElem?_eq_getElem hi]; rfl)
  · intro i hi out ho
    simp only []
    unfold registry_Registry_List_s1
    rw [cond_p (by omega), oreq_p ⟨by omega, by omega⟩, Int.toNat_natCast, List.getD_eq_getElem?_getD, List.getElem?_eq_getElem hi, Option.bind_some, told_eq, Option.bind_some, oreq_p (by omega), wI64 (by omega) (by omega)]
    rfl
  · intro out ho
    simp only []
    unfold registry_Registry_List_s1
    rw [cond_n (by omega)]
def rstG (g : registry_Registry) : registry_Registry := ⟨g.rule, g.rows.map rst, g.last, g.version + 1⟩
theorem reset_eq {N : Int} {g : registry_Registry} (h : RI N g) (hN : N < 2 ^ 40) : registry_Registry_Reset g = some (rstG g) := by
  unfold registry_Registry_Reset registry_Registry_ResetF
  have hlen := h.len; have v0 := h.ver0; have v1 := h.ver1
  rw [given_eq h, Option.bind_some]
  simp only [Bool.not_true, cond_false]
  refine iter_eq (fun _ => rstG g) (fun (s : Int × Int × List registry_row) => ∃ i : Nat, i ≤ g.rows.length ∧ s = ((g.rows.length : Int), (i : Int), (g.rows.take i).map rst ++ g.rows.drop i)) (fun s => g.rows.length - s.2.1.toNat) ?_ FUEL ((g.rows.length : Int), 0, g.rows) ⟨0, Nat.zero_le _, by simp⟩ (by rw [FUEL_eq]; simp; omega)
  rintro s ⟨i, hi, rfl⟩
  dsimp only
  unfold registry_Registry_Reset_s1
  rcases Nat.lt_or_ge i g.rows.length with hlt | hge
  · right
    have hL : ((g.rows.take i).map rst ++ g.rows.drop i).length = g.rows.length := by simp; omega
    have hlm : min i g.rows.length = i := Nat.min_eq_left (by omega)
    have hget : ((g.rows.take i).map rst ++ g.rows.drop i)[i]? = some g.rows[i] := by
      rw [List.getElem?_append_right (by simp; omega)]
      simp [Nat.min_eq_left (Nat.le_of_lt hlt)]
    rw [cond_p (by omega), oreq_p ⟨by omega, by rw [hL]; omega⟩, Int.toNat_natCast, hget, Option.bind_some, wI64 (by omega) (by omega)]
    refine ⟨_, rfl, ⟨i + 1, hlt, ?_⟩, ?_, by trivial⟩
    · simp only [Prod.mk.injEq, true_and]
      refine ⟨by omega, ?_⟩
      apply List.ext_getElem?
      intro j
      rw [List.getElem?_set, hL]
      by_cases hj : i = j
      · subst hj
        rw [if_pos rfl, if_pos hlt, List.getElem?_append_left (by simp; omega), List.getElem?_map, List.getElem?_take_of_lt (by omega), List.getElem?_eq_getElem hlt]; rfl
      · rw [if_neg hj]
        rcases Nat.lt_or_ge j i with h1 | h1
        · rw [List.getElem?_append_left (by simp; omega), List.getElem?_append_left (by simp; omega), List.getElem?_map, List.getElem?_map, List.getElem?_take_of_lt h1, List.getElem?_take_of_lt (by omega)]
        · rw [List.getElem?_append_right (by simp; omega), List.getElem?_append_right (by simp; omega), List.getElem?_drop, List.getElem?_drop]
          congr 1; simp; omega
    · simp only []; omega
  · left
    have e : i = g.rows.length := by omega
    subst e
    rw [cond_n (by omega), wI64 (by omega) (by omega)]
    simp [rstG]
theorem reset_RI {N : Int} {g : registry_Registry} (h : RI N g) : RI (N + 1) (rstG g) := by
  have e : (g.rows.map rst).map rid = g.rows.map rid := by rw [List.map_map]; rfl
  have v0 := h.ver0; have v1 := h.ver1
  exact { rule := h.rule, len := by simpa [rstG] using h.len, last0 := h.last0, last1 := h.last1, ver0 := by show 0 ≤ g.version + 1; omega, ver1 := by show g.version + 1 ≤ N + 1; omega,
          ids := by show ∀ i ∈ (g.rows.map rst).map rid, _; rw [e]; exact h.ids, up := by show ((g.rows.map rst).map rid).Pairwise _; rw [e]; exact h.up }
def remG (g : registry_Registry) (k : Nat) : registry_Registry := ⟨g.rule, g.rows.eraseIdx k, g.last, g.version + 1⟩
theorem rem_RI {N : Int} {g : registry_Registry} (h : RI N g) (k : Nat) : RI (N + 1) (remG g k) := by
  have hs : ((g.rows.eraseIdx k).map rid).Sublist (g.rows.map rid) := (List.eraseIdx_sublist _ _).map _
  have v0 := h.ver0; have v1 := h.ver1; have hl := h.len
  refine { rule := h.rule, len := ?_, last0 := h.last0, last1 := h.last1, ver0 := by show 0 ≤ g.version + 1; omega, ver1 := by show g.version + 1 ≤ N + 1; omega, ids := fun i hi => h.ids i (hs.subset hi), up := h.up.sublist hs }
  have := (List.eraseIdx_sublist g.rows k).length_le
  show (g.rows.eraseIdx k).length ≤ 64
  omega
theorem rem_inner {N : Int} {g : registry_Registry} (h : RI N g) (hN : N < 2 ^ 40) {k : Nat} {r : registry_row} (hk : g.rows[k]? = some r) :
    iter (fun st => registry_Registry_Remove_s1 g r.Backend.ID st.1 st.2.1 st.2.2) FUEL ((k : Int), wI .i64 ((k : Int) + 1), g.rows) = some (0, remG g k) := by
  have hl := (List.getElem?_eq_some_iff.1 hk).1
  have hlen := h.len; have v0 := h.ver0; have v1 := h.ver1
  rw [wI64 (by omega) (by omega)]
  refine iter_eq (fun _ => (0, remG g k)) (fun (s : Int × Int × List registry_row) => ∃ j : Nat, k < j ∧ j ≤ g.rows.length ∧ s.1 = (j : Int) - 1 ∧ s.2.1 = j ∧ s.2.2.length = g.rows.length ∧ (∀ m, m < j - 1 → s.2.2[m]? = (g.rows.eraseIdx k)[m]?) ∧ ∀ m, j ≤ m → s.2.2[m]? = g.rows[m]?)
    (fun s => g.rows.length - s.2.1.toNat) ?_ FUEL ((k : Int), (k : Int) + 1, g.rows) ⟨k + 1, by omega, by omega, by simp only []; omega, by simp, rfl, fun m hm => ?_, fun m hm => rfl⟩ (by rw [FUEL_eq]; simp only []; omega)
  · rintro ⟨i, xj, s⟩ ⟨j, h1, h2, h3, h4, h5, h6, h7⟩
    simp only at h3 h4 h5 h6 h7
    subst h3; subst h4
    dsimp only
    unfold registry_Registry_Remove_s1
    rcases Nat.lt_or_ge j g.rows.length with hlt | hge
    · right
      have hj : s[j]? = some g.rows[j] := by rw [h7 j (Nat.le_refl _), List.getElem?_eq_getElem hlt]
      have hne : ((g.rows[j]).Backend.ID == r.Backend.ID) = false := by
        rw [beq_eq_false_iff_ne]
        have := h.lt hk (List.getElem?_eq_getElem hlt) h1
        omega
      rw [cond_p (by omega), oreq_p ⟨by omega, by omega⟩, Int.toNat_natCast, hj, Option.bind_some, hne]
      simp only [Bool.not_false, cond_true]
      rw [oreq_p ⟨by omega, by omega⟩, oreq_p (by omega), wI64 (by omega) (by omega), wI64 (by omega) (by omega)]
      refine ⟨_, rfl, ⟨j + 1, by omega, by omega, by simp only []; omega, by simp only []; omega, by simpa using h5, fun m hm => ?_, fun m hm => ?_⟩, by simp only []; omega, by trivial⟩
      · simp only []
        have et : ((j : Int) - 1).toNat = j - 1 := by omega
        rw [et, List.getElem?_set]
        split
        · rename_i e; subst e
          rw [if_pos (by omega), List.getElem?_eraseIdx, if_neg (by omega), show j - 1 + 1 = j by omega, List.getElem?_eq_getElem hlt]
        · exact h6 m (by omega)
      · simp only []
        rw [List.getElem?_set, if_neg (by omega)]
        exact h7 m (by omega)
    · left
      have e : j = g.rows.length := by omega
      have et : ((j : Int) - 1).toNat = j - 1 := by omega
      rw [cond_n (by omega), oreq_p ⟨by omega, by omega⟩, et, oreq_p (by omega), oreq_p ⟨by omega, by omega⟩, wI64 (by omega) (by omega)]
      have : s.take (j - 1) = g.rows.eraseIdx k := by
        apply List.ext_getElem?
        intro m
        rw [List.getElem?_take]
        split
        · rename_i hm; exact h6 m hm
        · rw [List.getElem?_eq_none]
          rw [List.length_eraseIdx, if_pos hl]; omega
      rw [this]; rfl
  · simp only [Nat.add_sub_cancel] at hm
    rw [List.getElem?_eraseIdx, if_pos hm]
theorem remove_yes {N : Int} {g : registry_Registry} (h : RI N g) (hN : N < 2 ^ 40) {k : Nat} {r : registry_row} (hk : g.rows[k]? = some r) : registry_Registry_Remove g r.Backend.ID = some (0, remG g k) := by
  unfold registry_Registry_Remove registry_Registry_RemoveF
  have hl := (List.getElem?_eq_some_iff.1 hk).1
  have hlen := h.len
  rw [given_eq h, Option.bind_some, find_yes h hk, Option.bind_some]
  simp only [Bool.not_true, cond_false]
  rw [oreq_p ⟨by omega, by omega⟩]
  refine iter_eq (fun _ => (0, remG g k)) (fun (s : Int) => 0 ≤ s ∧ s ≤ k) (fun s => ((k : Int) - s).toNat) ?_ FUEL 0 ⟨by omega, by omega⟩ (by rw [FUEL_eq]; omega)
  rintro s ⟨h0, h1⟩
  obtain ⟨i, rfl⟩ := Int.eq_ofNat_of_zero_le h0
  unfold registry_Registry_Remove_s2
  have hi : i < g.rows.length := by omega
  rw [cond_p (by omega), oreq_p ⟨by omega, by omega⟩, Int.toNat_natCast, List.getElem?_eq_getElem hi, Option.bind_some]
  rcases Nat.lt_or_ge i k with hlt | hge
  · right
    have hne : ((g.rows[i]).Backend.ID == r.Backend.ID) = false := by
      rw [beq_eq_false_iff_ne]
      have := h.lt (List.getElem?_eq_getElem hi) hk hlt
      omega
    rw [hne, cond_false, wI64 (by omega) (by omega)]
    exact ⟨_, rfl, ⟨by omega, by omega⟩, by omega, by trivial⟩
  · left
    have e : i = k := by omega
    subst e
    have er : g.rows[i] = r := by rw [List.getElem?_eq_getElem hi] at hk; exact Option.some.inj hk
    rw [er, show (r.Backend.ID == r.Backend.ID) = true from by simp, cond_true, show ((i : Int) == -1) = false from by rw [beq_eq_false_iff_ne]; omega, cond_false, rem_inner h hN hk, Option.bind_some]
theorem remove_no {N : Int} {g : registry_Registry} (h : RI N g) {id : Int} (hn : ∀ (k : Nat) r, g.rows[k]? = some r → r.Backend.ID ≠ id) : registry_Registry_Remove g id = some (13, g) := by
  unfold registry_Registry_Remove registry_Registry_RemoveF
  obtain ⟨i, hi⟩ := find_no h hn
  rw [given_eq h, Option.bind_some, hi, Option.bind_some]; rfl
end Go.Vm.Code
namespace Go.Vm.Code
open Go Go.Vm Go.Proofs
set_option maxRecDepth 100000
set_option maxHeartbeats 4000000
set_option linter.unusedVariables false
def R23_Registry_at_s1 (ga0 : R23_Registry) (ida1 : Int) (i : Int) : Option (Sum Int Int) :=
  cond (decide (i < (ga0.L.length : Int)))
    (
    oreq (decide ((0 : Int) ≤ i ∧ i < (ga0.L.length : Int))) <|
    (ga0.L[i.toNat]?).bind fun (e : R23_Row) =>
    cond (e.ID == ida1)
      (
      some (.inr (i)))
      (
      some (.inl (wI .i64 (i + 1)))))
    (
    some (.inr ((-1))))
def R23_Registry_atF (ga0 : R23_Registry) (ida1 : Int) : Option Int :=
  iter (fun st => R23_Registry_at_s1 ga0 ida1 st) FUEL 0
def rx73 (x : Int) : SRes := ⟨.int .i64 x, [], [none, none]⟩
def r73 (g : R23_Registry → Int → Option Int) : Dec := dTr 2 (udR23_Registry 0) fun (y0 : R23_Registry) => dV (asI .i64) fun (y1 : Int) => dEnd (ofG (g y0 y1) rx73)
theorem r73_c {g : R23_Registry → Int → Option Int} {y0 : R23_Registry} {y1 : Int} {x : Int} (hx : g y0 y1 = some x) : r73 g [.pointer (some ⟨0, 0, none⟩), .int .i64 y1] [some [.int .i64 y0.Rule.Rise, .int .i64 y0.Rule.Fall, .slice (some ⟨1, 0, none⟩) y0.L.length 8, .int .i64 y0.Last, .int .i64 y0.Version], some (vT cR23_Row y0.L)] = some (rx73 x) := (dTr_eq rfl rfl (udR23_Registry_c 0 _)).trans ((dV_eq (asI_c _)).trans (ofG_eq hx))
def s73 (g : R23_Registry → Int → Option Int) : Summ := ⟨[.tr [⟨none, 0, 0, 0, none⟩, ⟨some 0, 2, 0, 0, some 8⟩], .v], r73 g⟩
theorem r73_eq {g : R23_Registry → Int → Option Int} {y0 : R23_Registry} {y1 : Int} {x : Int} (hx : g y0 y1 = some x) : (s73 g).run [.pointer (some ⟨0, 0, none⟩), .int .i64 y1] [some [.int .i64 y0.Rule.Rise, .int .i64 y0.Rule.Fall, .slice (some ⟨1, 0, none⟩) y0.L.length 8, .int .i64 y0.Last, .int .i64 y0.Version], some (vT cR23_Row y0.L)] = some (rx73 x) := r73_c hx
abbrev sums73 : List (Nat × Summ) := []
def head73_1 (ga0 : R23_Registry) (ida1 : Int) (i : Int) : VM :=
  ⟨⟨73, 26, [(0, .pointer (some ⟨0, 0, none⟩)), (1, .int .i64 ida1), (5, .int .i64 i)], [.code k73_13, .inLoop k73_13, .inBlock 0, .code k73_18], [], false, none⟩, [], [(0, .row false [.int .i64 ga0.Rule.Rise, .int .i64 ga0.Rule.Fall, .slice (some ⟨1, 0, none⟩) ga0.L.length 8, .int .i64 ga0.Last, .int .i64 ga0.Version]), (1, .row false (vT cR23_Row ga0.L))], 2⟩
theorem loop73_1 (hS : SumsOK Try.prog (aget (sums73))) (ga0 : R23_Registry) (ida1 : Int) (res : Int) : ∀ fuel (st : Int) (o : Int), iter (fun st => R23_Registry_at_s1 ga0 ida1 st) fuel st = some o → (o = res) →
    Leads Try.prog 73 2 (head73_1 ga0 ida1 st) (fun v H _ => Res 2 (rx73 res) v H) := by
  intro fuel st o h hc
  refine iter_leads (head := fun st => head73_1 ga0 ida1 st) (C := fun o => (o = res)) ?_ fuel st o h hc
  clear h hc o st fuel
  intro i o h hc
  replace h : R23_Registry_at_s1 ga0 ida1 i = some o := h
  show Leads Try.prog 73 2 (head73_1 ga0 ida1 i) (fun v H _ => Res 2 (rx73 res) v H)
  unfold R23_Registry_at_s1 at h
  refine ev_ok tab_ok hS true 3000 ?_
  conv => whnf
  refine br.h2 h ?_ ?_ ?_
  · rfl
  · clear h; intro hb h; conv => whnf
    all_goals (cases h; cases hc)
    all_goals exact Res.of [] rfl nw_0 (by decide) js_0 (wr_n (wr_n wr_0))
  clear h; intro hb h; conv => whnf
  replace h := oreq.elim h; obtain ⟨hb, h⟩ := h
  first | (refine req.intro hb ?_; conv => whnf) | skip
  replace h := obind.elim h; obtain ⟨e, hy, h⟩ := h
  refine rd.T (j := 0) cR23_Row_len hy (by first | omega | exact Nat.zero_add _ | exact congrArg (· + _) (Nat.zero_add _)) (by decide) rfl ?_
  conv => whnf
  refine br.h h ?_ ?_ ?_
  · rfl
  · clear h; intro hb h; conv => whnf
    all_goals (cases h; cases hc)
    all_goals exact Res.of [] rfl nw_0 (by decide) js_0 (wr_n (wr_n wr_0))
  clear h; intro hb h; conv => whnf
  cases h; simp only [Sum.elim_inl, head73_1] at hc
  refine Leads.re hc [(0, 0), (1, 1)] rfl ?_ ?_ <;> (repeat' first | exact trivial | refine ⟨⟨_, rfl, rfl⟩, ?_⟩ | refine ⟨⟨_, _, rfl, rfl, .rowF (vI_flat _ _) id⟩, ?_⟩ | refine ⟨⟨_, _, rfl, rfl, .rowF (vS_flat _) id⟩, ?_⟩ | refine ⟨⟨_, _, rfl, rfl, .rowF (vB_flat _) id⟩, ?_⟩ | refine ⟨⟨_, _, rfl, rfl, .rowF (vT_flat (by first | exact chealth_Rule_flat | exact capi_Addr_flat | exact cR23_Step_flat | exact capi_Backend_flat | exact chealth_State_flat | exact cregistry_row_flat | exact cR23_Row_flat) _) id⟩, ?_⟩ | refine ⟨⟨_, _, rfl, rfl, .tyF (vI_flat _ _)⟩, ?_⟩ | refine ⟨⟨_, _, rfl, rfl, .ty rfl⟩, ?_⟩ | refine ⟨⟨_, _, rfl, rfl, .cells rfl⟩, ?_⟩ | refine ⟨⟨_, _, rfl, rfl, .row rfl id⟩, ?_⟩ | refine ⟨⟨_, _, rfl, rfl, .cr rfl⟩, ?_⟩ | refine ⟨⟨_, _, rfl, rfl, .rc rfl⟩, ?_⟩ | refine ⟨⟨_, _, rfl, rfl, .marks⟩, ?_⟩ | refine ⟨⟨_, _, rfl, rfl, .siter _ _⟩, ?_⟩ | refine ⟨⟨_, _, rfl, rfl, .loop rfl rfl rfl rfl (by repeat' first | exact trivial | refine ⟨rfl, ?_⟩) rfl rfl rfl rfl⟩, ?_⟩)
theorem leads73 (hS : SumsOK Try.prog (aget (sums73))) (ga0 : R23_Registry) (ida1 : Int) (res : Int) (h : R23_Registry_atF ga0 ida1 = some res) :
    Leads Try.prog 73 2 ⟨⟨73, 26, [(0, .pointer (some ⟨0, 0, none⟩)), (1, .int .i64 ida1)], [.code k73_20], [], false, none⟩, [], [(0, .row false [.int .i64 ga0.Rule.Rise, .int .i64 ga0.Rule.Fall, .slice (some ⟨1, 0, none⟩) ga0.L.length 8, .int .i64 ga0.Last, .int .i64 ga0.Version]), (1, .row false (vT cR23_Row ga0.L))], 2⟩ (fun v H _ => Res 2 (rx73 res) v H) := by
  unfold R23_Registry_atF at h
  refine ev_ok tab_ok hS true 3000 ?_
  conv => whnf
  have hl := loop73_1 hS _ _ res _ _ _ h rfl; simp only [head73_1] at hl
  refine Leads.re hl [(0, 0), (1, 1)] rfl ?_ ?_ <;> (repeat' first | exact trivial | refine ⟨⟨_, rfl, rfl⟩, ?_⟩ | refine ⟨⟨_, _, rfl, rfl, .rowF (vI_flat _ _) id⟩, ?_⟩ | refine ⟨⟨_, _, rfl, rfl, .rowF (vS_flat _) id⟩, ?_⟩ | refine ⟨⟨_, _, rfl, rfl, .rowF (vB_flat _) id⟩, ?_⟩ | refine ⟨⟨_, _, rfl, rfl, .rowF (vT_flat (by first | exact chealth_Rule_flat | exact capi_Addr_flat | exact cR23_Step_flat | exact capi_Backend_flat | exact chealth_State_flat | exact cregistry_row_flat | exact cR23_Row_flat) _) id⟩, ?_⟩ | refine ⟨⟨_, _, rfl, rfl, .tyF (vI_flat _ _)⟩, ?_⟩ | refine ⟨⟨_, _, rfl, rfl, .ty rfl⟩, ?_⟩ | refine ⟨⟨_, _, rfl, rfl, .cells rfl⟩, ?_⟩ | refine ⟨⟨_, _, rfl, rfl, .row rfl id⟩, ?_⟩ | refine ⟨⟨_, _, rfl, rfl, .cr rfl⟩, ?_⟩ | refine ⟨⟨_, _, rfl, rfl, .rc rfl⟩, ?_⟩ | refine ⟨⟨_, _, rfl, rfl, .marks⟩, ?_⟩ | refine ⟨⟨_, _, rfl, rfl, .siter _ _⟩, ?_⟩ | refine ⟨⟨_, _, rfl, rfl, .loop rfl rfl rfl rfl (by repeat' first | exact trivial | refine ⟨rfl, ?_⟩) rfl rfl rfl rfl⟩, ?_⟩)
theorem ok73 (hS : SumsOK Try.prog (aget (sums73))) : SumOK Try.prog 73 (s73 (R23_Registry_atF)) := by
  refine SumOK.of_leads tab_ok (fun ar os r ha hr => ?_) ⟨Try.f73, rfl, by decide, rfl⟩
  replace hr : r73 (R23_Registry_atF) ar (conts os) = some r := hr
  unfold r73 at hr
  generalize hc : conts os = C at hr
  have hq := dTr.elim hr; clear hr; obtain ⟨v0, l1, c0, C, y0, rfl, rfl, e0, hr⟩ := hq; obtain ⟨rfl, rfl⟩ := udR23_Registry_eq e0; simp only [List.nil_append, List.cons_append] at hc
  replace hr := dV.elim hr; obtain ⟨v1, l2, y1, rfl, e1, hr⟩ := hr; obtain rfl := asI_eq _ _ _ e1
  replace hr := dFin hr; obtain ⟨rfl, rfl, x, h, rfl⟩ := hr
  obtain ⟨os, rfl, ha, hc⟩ := kinds_some ha hc
  obtain ⟨os, rfl, ha, hc⟩ := kinds_some ha hc
  obtain rfl := kinds_nil hc
  exact ⟨_, rfl, leads73 hS _ _ x h⟩
def R23_Registry_at : R23_Registry → Int → Option Int := R23_Registry_atF
theorem lift73 : SumOK Try.prog 73 (s73 R23_Registry_at) := ok73 (SumsOK.of_tab trivial)
def R23_backendF (ra0 : R23_Row) : Option api_Backend :=
  cond (ra0.Health.Up)
    (
    cond (ra0.Drain)
      (
      some (api_Backend.mk ra0.ID ra0.Weight 3 ra0.Addr))
      (
      some (api_Backend.mk ra0.ID ra0.Weight 1 ra0.Addr)))
    (
    cond (ra0.Drain)
      (
      some (api_Backend.mk ra0.ID ra0.Weight 3 ra0.Addr))
      (
      some (api_Backend.mk ra0.ID ra0.Weight 2 ra0.Addr)))
def rx74 (x : api_Backend) : SRes := ⟨.agg ⟨[.int .i64 x.ID, .int .i64 x.Weight, .int .i64 x.State, .bool x.Addr.V6, .int .u64 x.Addr.Hi, .int .u64 x.Addr.Lo]⟩, [], []⟩
def r74 (g : R23_Row → Option api_Backend) : Dec := dV uvR23_Row fun (y0 : R23_Row) => dEnd (ofG (g y0) rx74)
theorem r74_c {g : R23_Row → Option api_Backend} {y0 : R23_Row} {x : api_Backend} (hx : g y0 = some x) : r74 g [.agg ⟨[.int .i64 y0.ID, .int .i64 y0.Weight, .bool y0.Addr.V6, .int .u64 y0.Addr.Hi, .int .u64 y0.Addr.Lo, .bool y0.Drain, .bool y0.Health.Up, .int .i64 y0.Health.Run]⟩] [] = some (rx74 x) := (dV_eq (uvR23_Row_c _)).trans (ofG_eq hx)
def s74 (g : R23_Row → Option api_Backend) : Summ := ⟨[.v], r74 g⟩
theorem r74_eq {g : R23_Row → Option api_Backend} {y0 : R23_Row} {x : api_Backend} (hx : g y0 = some x) : (s74 g).run [.agg ⟨[.int .i64 y0.ID, .int .i64 y0.Weight, .bool y0.Addr.V6, .int .u64 y0.Addr.Hi, .int .u64 y0.Addr.Lo, .bool y0.Drain, .bool y0.Health.Up, .int .i64 y0.Health.Run]⟩] [] = some (rx74 x) := r74_c hx
abbrev sums74 : List (Nat × Summ) := []
theorem leads74 (hS : SumsOK Try.prog (aget (sums74))) (ra0 : R23_Row) (res : api_Backend) (h : R23_backendF ra0 = some res) :
    Leads Try.prog 74 0 ⟨⟨74, 19, [(0, .agg ⟨[.int .i64 ra0.ID, .int .i64 ra0.Weight, .bool ra0.Addr.V6, .int .u64 ra0.Addr.Hi, .int .u64 ra0.Addr.Lo, .bool ra0.Drain, .bool ra0.Health.Up, .int .i64 ra0.Health.Run]⟩)], [.code k74_15], [], false, none⟩, [], [], 0⟩ (fun v H _ => Res 0 (rx74 res) v H) := by
  unfold R23_backendF at h
  refine ev_ok tab_ok hS true 3000 ?_
  conv => whnf
  refine br.h h ?_ ?_ ?_
  · rfl
  · clear h; intro hb h; conv => whnf
    refine br.h h ?_ ?_ ?_
    · rfl
    · clear h; intro hb h; conv => whnf
      all_goals (cases h; exact Res.z rfl rfl rfl)
    clear h; intro hb h; conv => whnf
    all_goals (cases h; exact Res.z rfl rfl rfl)
  clear h; intro hb h; conv => whnf
  refine br.h h ?_ ?_ ?_
  · rfl
  · clear h; intro hb h; conv => whnf
    all_goals (cases h; exact Res.z rfl rfl rfl)
  clear h; intro hb h; conv => whnf
  all_goals (cases h; exact Res.z rfl rfl rfl)
theorem ok74 (hS : SumsOK Try.prog (aget (sums74))) : SumOK Try.prog 74 (s74 (R23_backendF)) := by
  refine SumOK.of_leads tab_ok (fun ar os r ha hr => ?_) ⟨Try.f74, rfl, by decide, rfl⟩
  replace hr : r74 (R23_backendF) ar (conts os) = some r := hr
  unfold r74 at hr
  generalize hc : conts os = C at hr
  replace hr := dV.elim hr; obtain ⟨v0, l1, y0, rfl, e0, hr⟩ := hr; obtain rfl := uvR23_Row_eq _ _ e0
  replace hr := dFin hr; obtain ⟨rfl, rfl, x, h, rfl⟩ := hr
  obtain rfl := kinds_nil hc
  exact ⟨_, rfl, leads74 hS _ x h⟩
def R23_backend : R23_Row → Option api_Backend := R23_backendF
theorem lift74 : SumOK Try.prog 74 (s74 R23_backend) := ok74 (SumsOK.of_tab trivial)
def R23_Registry_GetF (R23_Registry_at : R23_Registry → Int → Option Int) (R23_backend : R23_Row → Option api_Backend) (ga0 : R23_Registry) (ida1 : Int) : Option (api_Backend × Bool) :=
  (R23_Registry_at ga0 ida1).bind fun a =>
  cond (decide (a ≥ 0))
    (
    oreq (decide ((0 : Int) ≤ a ∧ a < (ga0.L.length : Int))) <|
    (ga0.L[a.toNat]?).bind fun (e : R23_Row) =>
    (R23_backend e).bind fun b =>
    some ((b, true)))
    (
    cond (decide (ida1 ≥ 1))
      (
      cond (decide (ida1 ≤ ga0.Last))
        (
        some ((api_Backend.mk ida1 0 4 (api_Addr.mk false 0 0), true)))
        (
        some ((api_Backend.mk 0 0 0 (api_Addr.mk false 0 0), false))))
      (
      some ((api_Backend.mk 0 0 0 (api_Addr.mk false 0 0), false))))
def rx19 (x : api_Backend × Bool) : SRes := ⟨.tuple ⟨[.agg ⟨[.int .i64 x.1.ID, .int .i64 x.1.Weight, .int .i64 x.1.State, .bool x.1.Addr.V6, .int .u64 x.1.Addr.Hi, .int .u64 x.1.Addr.Lo]⟩, .bool x.2]⟩, [], [none, none]⟩
def r19 (g : R23_Registry → Int → Option (api_Backend × Bool)) : Dec := dTr 2 (udR23_Registry 0) fun (y0 : R23_Registry) => dV (asI .i64) fun (y1 : Int) => dEnd (ofG (g y0 y1) rx19)
theorem r19_c {g : R23_Registry → Int → Option (api_Backend × Bool)} {y0 : R23_Registry} {y1 : Int} {x : api_Backend × Bool} (hx : g y0 y1 = some x) : r19 g [.pointer (some ⟨0, 0, none⟩), .int .i64 y1] [some [.int .i64 y0.Rule.Rise, .int .i64 y0.Rule.Fall, .slice (some ⟨1, 0, none⟩) y0.L.length 8, .int .i64 y0.Last, .int .i64 y0.Version], some (vT cR23_Row y0.L)] = some (rx19 x) := (dTr_eq rfl rfl (udR23_Registry_c 0 _)).trans ((dV_eq (asI_c _)).trans (ofG_eq hx))
def s19 (g : R23_Registry → Int → Option (api_Backend × Bool)) : Summ := ⟨[.tr [⟨none, 0, 0, 0, none⟩, ⟨some 0, 2, 0, 0, some 8⟩], .v], r19 g⟩
theorem r19_eq {g : R23_Registry → Int → Option (api_Backend × Bool)} {y0 : R23_Registry} {y1 : Int} {x : api_Backend × Bool} (hx : g y0 y1 = some x) : (s19 g).run [.pointer (some ⟨0, 0, none⟩), .int .i64 y1] [some [.int .i64 y0.Rule.Rise, .int .i64 y0.Rule.Fall, .slice (some ⟨1, 0, none⟩) y0.L.length 8, .int .i64 y0.Last, .int .i64 y0.Version], some (vT cR23_Row y0.L)] = some (rx19 x) := r19_c hx
abbrev sums19 (R23_Registry_at : R23_Registry → Int → Option Int) (R23_backend : R23_Row → Option api_Backend) : List (Nat × Summ) := [(73, s73 R23_Registry_at), (74, s74 R23_backend)]
theorem leads19 (R23_Registry_at : R23_Registry → Int → Option Int) (R23_backend : R23_Row → Option api_Backend) (hS : SumsOK Try.prog (aget (sums19 R23_Registry_at R23_backend))) (ga0 : R23_Registry) (ida1 : Int) (res : api_Backend × Bool) (h : R23_Registry_GetF R23_Registry_at R23_backend ga0 ida1 = some res) :
    Leads Try.prog 19 2 ⟨⟨19, 33, [(0, .pointer (some ⟨0, 0, none⟩)), (1, .int .i64 ida1)], [.code k19_17], [], false, none⟩, [], [(0, .row false [.int .i64 ga0.Rule.Rise, .int .i64 ga0.Rule.Fall, .slice (some ⟨1, 0, none⟩) ga0.L.length 8, .int .i64 ga0.Last, .int .i64 ga0.Version]), (1, .row false (vT cR23_Row ga0.L))], 2⟩ (fun v H _ => Res 2 (rx19 res) v H) := by
  unfold R23_Registry_GetF at h
  refine ev_ok tab_ok hS true 3000 ?_
  conv => whnf
  replace h := obind.elim h; obtain ⟨a, hy, h⟩ := h
  refine sumK.introF [] (sumRun_of (aqs := [.pointer (some ⟨0, 0, none⟩), .int .i64 ida1]) (ws := [.blk 0 false, .blk 1 false]) (n := 0) (m := 0) (t' := 3) (ra_cons (ra_tr rfl rfl (vp_at rfl rfl rfl rfl (vp_at rfl rfl (rn_T cR23_Row_flat) rfl vp_nil)) rfl) rfl (ra_cons rfl rfl ra_nil)) rfl (by rfl) (r73_eq hy) rfl rfl rfl rfl (wb_skip rfl (wb_skip rfl wb_nil)) an_nil rfl) ?_
  conv => whnf
  refine br.h h ?_ ?_ ?_
  · rfl
  · clear h; intro hb h; conv => whnf
    replace h := oreq.elim h; obtain ⟨hb, h⟩ := h
    first | (refine req.intro hb ?_; conv => whnf) | skip
    replace h := obind.elim h; obtain ⟨e, hy, h⟩ := h
    refine ld_T cR23_Row_len hy (by first | omega | exact Nat.zero_add _ | exact congrArg (· + _) (Nat.zero_add _)) rfl ?_
    conv => whnf
    replace h := obind.elim h; obtain ⟨b, hy, h⟩ := h
    refine sumK.q rfl rfl (r74_eq hy) rfl rfl rfl ?_
    conv => whnf
    all_goals (cases h)
    all_goals exact Res.of [] rfl nw_0 (by decide) js_0 (wr_n (wr_n wr_0))
  clear h; intro hb h; conv => whnf
  refine br.h2 h ?_ ?_ ?_
  · rfl
  · clear h; intro hb h; conv => whnf
    all_goals (cases h)
    all_goals exact Res.of [] rfl nw_0 (by decide) js_0 (wr_n (wr_n wr_0))
  clear h; intro hb h; conv => whnf
  refine br.h h ?_ ?_ ?_
  · rfl
  · clear h; intro hb h; conv => whnf
    all_goals (cases h)
    all_goals exact Res.of [] rfl nw_0 (by decide) js_0 (wr_n (wr_n wr_0))
  clear h; intro hb h; conv => whnf
  all_goals (cases h)
  all_goals exact Res.of [] rfl nw_0 (by decide) js_0 (wr_n (wr_n wr_0))
theorem ok19 (R23_Registry_at : R23_Registry → Int → Option Int) (R23_backend : R23_Row → Option api_Backend) (hS : SumsOK Try.prog (aget (sums19 R23_Registry_at R23_backend))) : SumOK Try.prog 19 (s19 (R23_Registry_GetF R23_Registry_at R23_backend)) := by
  refine SumOK.of_leads tab_ok (fun ar os r ha hr => ?_) ⟨Try.f19, rfl, by decide, rfl⟩
  replace hr : r19 (R23_Registry_GetF R23_Registry_at R23_backend) ar (conts os) = some r := hr
  unfold r19 at hr
  generalize hc : conts os = C at hr
  have hq := dTr.elim hr; clear hr; obtain ⟨v0, l1, c0, C, y0, rfl, rfl, e0, hr⟩ := hq; obtain ⟨rfl, rfl⟩ := udR23_Registry_eq e0; simp only [List.nil_append, List.cons_append] at hc
  replace hr := dV.elim hr; obtain ⟨v1, l2, y1, rfl, e1, hr⟩ := hr; obtain rfl := asI_eq _ _ _ e1
  replace hr := dFin hr; obtain ⟨rfl, rfl, x, h, rfl⟩ := hr
  obtain ⟨os, rfl, ha, hc⟩ := kinds_some ha hc
  obtain ⟨os, rfl, ha, hc⟩ := kinds_some ha hc
  obtain rfl := kinds_nil hc
  exact ⟨_, rfl, leads19 R23_Registry_at R23_backend hS _ _ x h⟩
def R23_Registry_Get : R23_Registry → Int → Option (api_Backend × Bool) := R23_Registry_GetF R23_Registry_at R23_backend
theorem lift19 : SumOK Try.prog 19 (s19 R23_Registry_Get) := ok19 R23_Registry_at R23_backend (SumsOK.of_tab ⟨lift73, lift74, trivial⟩)
def R23_Registry_List_s1 (R23_backend : R23_Row → Option api_Backend) (ga0 : R23_Registry) (i : Int) (out1 : List api_Backend) : Option (Sum (Int × (List api_Backend)) (List api_Backend)) :=
  cond (decide (i < (ga0.L.length : Int)))
    (
    oreq (decide ((0 : Int) ≤ i ∧ i < (ga0.L.length : Int))) <|
    (ga0.L[i.toNat]?).bind fun (e : R23_Row) =>
    (R23_backend e).bind fun b =>
    oreq (decide ((out1.length + 1) * 48 ≤ 2 ^ 47)) <|
    let row := out1 ++ [b]
    some (.inl (wI .i64 (i + 1), row)))
    (
    some (.inr (out1)))
def R23_Registry_ListF (R23_backend : R23_Row → Option api_Backend) (ga0 : R23_Registry) : Option (List api_Backend) :=
  iter (fun st => R23_Registry_List_s1 R23_backend ga0 st.1 st.2) FUEL (0, [])
def rx23 (x : List api_Backend) : SRes := ⟨.slice (some ⟨0, 0, none⟩) x.length 6, [(vT capi_Backend x)], [none, none]⟩
def r23 (g : R23_Registry → Option (List api_Backend)) : Dec := dTr 2 (udR23_Registry 0) fun (y0 : R23_Registry) => dEnd (ofG (g y0) rx23)
theorem r23_c {g : R23_Registry → Option (List api_Backend)} {y0 : R23_Registry} {x : List api_Backend} (hx : g y0 = some x) : r23 g [.pointer (some ⟨0, 0, none⟩)] [some [.int .i64 y0.Rule.Rise, .int .i64 y0.Rule.Fall, .slice (some ⟨1, 0, none⟩) y0.L.length 8, .int .i64 y0.Last, .int .i64 y0.Version], some (vT cR23_Row y0.L)] = some (rx23 x) := (dTr_eq rfl rfl (udR23_Registry_c 0 _)).trans (ofG_eq hx)
def s23 (g : R23_Registry → Option (List api_Backend)) : Summ := ⟨[.tr [⟨none, 0, 0, 0, none⟩, ⟨some 0, 2, 0, 0, some 8⟩]], r23 g⟩
theorem r23_eq {g : R23_Registry → Option (List api_Backend)} {y0 : R23_Registry} {x : List api_Backend} (hx : g y0 = some x) : (s23 g).run [.pointer (some ⟨0, 0, none⟩)] [some [.int .i64 y0.Rule.Rise, .int .i64 y0.Rule.Fall, .slice (some ⟨1, 0, none⟩) y0.L.length 8, .int .i64 y0.Last, .int .i64 y0.Version], some (vT cR23_Row y0.L)] = some (rx23 x) := r23_c hx
abbrev sums23 (R23_backend : R23_Row → Option api_Backend) : List (Nat × Summ) := [(74, s74 R23_backend)]
def head23_1 (ga0 : R23_Registry) (i : Int) (out1 : List api_Backend) : VM :=
  ⟨⟨23, 26, [(0, .pointer (some ⟨0, 0, none⟩)), (3, .slice (some ⟨2, 0, none⟩) out1.length 6), (4, .int .i64 i)], [.code k23_10, .inLoop k23_10, .inBlock 0, .code k23_15], [], false, none⟩, [], [(0, .row false [.int .i64 ga0.Rule.Rise, .int .i64 ga0.Rule.Fall, .slice (some ⟨1, 0, none⟩) ga0.L.length 8, .int .i64 ga0.Last, .int .i64 ga0.Version]), (1, .row false (vT cR23_Row ga0.L)), (2, .row true (vT capi_Backend out1))], 3⟩
theorem loop23_1 (R23_backend : R23_Row → Option api_Backend) (hS : SumsOK Try.prog (aget (sums23 R23_backend))) (ga0 : R23_Registry) (res : List api_Backend) : ∀ fuel (st : Int × (List api_Backend)) (o : List api_Backend), iter (fun st => R23_Registry_List_s1 R23_backend ga0 st.1 st.2) fuel st = some o → (o = res) →
    Leads Try.prog 23 2 (head23_1 ga0 st.1 st.2) (fun v H _ => Res 2 (rx23 res) v H) := by
  intro fuel st o h hc
  refine iter_leads (head := fun st => head23_1 ga0 st.1 st.2) (C := fun o => (o = res)) ?_ fuel st o h hc
  clear h hc o st fuel
  intro st o h hc
  obtain ⟨i, out1⟩ := st
  replace h : R23_Registry_List_s1 R23_backend ga0 i out1 = some o := h
  show Leads Try.prog 23 2 (head23_1 ga0 i out1) (fun v H _ => Res 2 (rx23 res) v H)
  unfold R23_Registry_List_s1 at h
  refine ev_ok tab_ok hS true 3000 ?_
  conv => whnf
  refine br.h2 h ?_ ?_ ?_
  · rfl
  · clear h; intro hb h; conv => whnf
    all_goals (cases h; cases hc)
    all_goals exact Res.of [2] rfl (nw_s (rn_T capi_Backend_flat) (hs_row rfl) nw_0) (by decide) (js_l (by decide) js_0) (wr_n (wr_n wr_0))
  clear h; intro hb h; conv => whnf
  replace h := oreq.elim h; obtain ⟨hb, h⟩ := h
  first | (refine req.intro hb ?_; conv => whnf) | skip
  replace h := obind.elim h; obtain ⟨e, hy, h⟩ := h
  refine ld_T cR23_Row_len hy (by first | omega | exact Nat.zero_add _ | exact congrArg (· + _) (Nat.zero_add _)) rfl ?_
  conv => whnf
  replace h := obind.elim h; obtain ⟨b, hy, h⟩ := h
  refine sumK.q rfl rfl (r74_eq hy) rfl rfl rfl ?_
  conv => whnf
  replace h := oreq.elim h; obtain ⟨hb, h⟩ := h
  refine req.intro (ap_req (of_decide_eq_true hb) (by first | rfl | omega | (simp; done) | (simp; omega) | (simp at *; omega)) rfl (by first | rfl | omega | (simp; done) | (simp; omega) | (simp at *; omega)) (by first | rfl | exact vI_one _ _ | exact vS_one _ | exact vB_one _ | exact vT_one (by first | exact chealth_Rule_one | exact capi_Addr_one | exact cR23_Step_one | exact capi_Backend_one | exact chealth_State_one | exact cregistry_row_one | exact cR23_Row_one) _ | (rw [ofBytes_vI]; exact vI_one _ _) | (simp [vI_one, vS_one, vB_one, vI_drop, vI_take, vS_drop, vS_take]; done) | (simp; exact List.all_eq_true.1 (vT_one (by first | exact chealth_Rule_one | exact capi_Addr_one | exact cR23_Step_one | exact capi_Backend_one | exact chealth_State_one | exact cregistry_row_one | exact cR23_Row_one) _))) rfl) ?_
  conv => whnf
  let row : List api_Backend := out1 ++ [b]
  refine pk_apT capi_Backend_len (xs := out1) (ys := [b]) rfl (by first | rfl | omega) (by first | rfl | omega | (simp; done) | (simp; omega) | (simp at *; omega)) (by first | rfl | omega | (simp; done) | (simp; omega) | (simp at *; omega)) ?_
  conv => whnf
  cases h; simp only [Sum.elim_inl, head23_1] at hc
  refine Leads.re hc [(0, 0), (1, 1), (2, 4)] rfl ?_ ?_ <;> (repeat' first | exact trivial | refine ⟨⟨_, rfl, rfl⟩, ?_⟩ | refine ⟨⟨_, _, rfl, rfl, .rowF (vI_flat _ _) id⟩, ?_⟩ | refine ⟨⟨_, _, rfl, rfl, .rowF (vS_flat _) id⟩, ?_⟩ | refine ⟨⟨_, _, rfl, rfl, .rowF (vB_flat _) id⟩, ?_⟩ | refine ⟨⟨_, _, rfl, rfl, .rowF (vT_flat (by first | exact chealth_Rule_flat | exact capi_Addr_flat | exact cR23_Step_flat | exact capi_Backend_flat | exact chealth_State_flat | exact cregistry_row_flat | exact cR23_Row_flat) _) id⟩, ?_⟩ | refine ⟨⟨_, _, rfl, rfl, .tyF (vI_flat _ _)⟩, ?_⟩ | refine ⟨⟨_, _, rfl, rfl, .ty rfl⟩, ?_⟩ | refine ⟨⟨_, _, rfl, rfl, .cells rfl⟩, ?_⟩ | refine ⟨⟨_, _, rfl, rfl, .row rfl id⟩, ?_⟩ | refine ⟨⟨_, _, rfl, rfl, .cr rfl⟩, ?_⟩ | refine ⟨⟨_, _, rfl, rfl, .rc rfl⟩, ?_⟩ | refine ⟨⟨_, _, rfl, rfl, .marks⟩, ?_⟩ | refine ⟨⟨_, _, rfl, rfl, .siter _ _⟩, ?_⟩ | refine ⟨⟨_, _, rfl, rfl, .loop rfl rfl rfl rfl (by repeat' first | exact trivial | refine ⟨rfl, ?_⟩) rfl rfl rfl rfl⟩, ?_⟩)
theorem leads23 (R23_backend : R23_Row → Option api_Backend) (hS : SumsOK Try.prog (aget (sums23 R23_backend))) (ga0 : R23_Registry) (res : List api_Backend) (h : R23_Registry_ListF R23_backend ga0 = some res) :
    Leads Try.prog 23 2 ⟨⟨23, 26, [(0, .pointer (some ⟨0, 0, none⟩))], [.code k23_18], [], false, none⟩, [], [(0, .row false [.int .i64 ga0.Rule.Rise, .int .i64 ga0.Rule.Fall, .slice (some ⟨1, 0, none⟩) ga0.L.length 8, .int .i64 ga0.Last, .int .i64 ga0.Version]), (1, .row false (vT cR23_Row ga0.L))], 2⟩ (fun v H _ => Res 2 (rx23 res) v H) := by
  unfold R23_Registry_ListF at h
  refine ev_ok tab_ok hS true 3000 ?_
  conv => whnf
  have hl := loop23_1 R23_backend hS _ res _ _ _ h rfl; simp only [head23_1] at hl
  refine Leads.nilT 3 6 ?_
  refine Leads.re hl [(0, 0), (1, 1), (2, 2)] rfl ?_ ?_ <;> (repeat' first | exact trivial | refine ⟨⟨_, rfl, rfl⟩, ?_⟩ | refine ⟨⟨_, _, rfl, rfl, .rowF (vI_flat _ _) id⟩, ?_⟩ | refine ⟨⟨_, _, rfl, rfl, .rowF (vS_flat _) id⟩, ?_⟩ | refine ⟨⟨_, _, rfl, rfl, .rowF (vB_flat _) id⟩, ?_⟩ | refine ⟨⟨_, _, rfl, rfl, .rowF (vT_flat (by first | exact chealth_Rule_flat | exact capi_Addr_flat | exact cR23_Step_flat | exact capi_Backend_flat | exact chealth_State_flat | exact cregistry_row_flat | exact cR23_Row_flat) _) id⟩, ?_⟩ | refine ⟨⟨_, _, rfl, rfl, .tyF (vI_flat _ _)⟩, ?_⟩ | refine ⟨⟨_, _, rfl, rfl, .ty rfl⟩, ?_⟩ | refine ⟨⟨_, _, rfl, rfl, .cells rfl⟩, ?_⟩ | refine ⟨⟨_, _, rfl, rfl, .row rfl id⟩, ?_⟩ | refine ⟨⟨_, _, rfl, rfl, .cr rfl⟩, ?_⟩ | refine ⟨⟨_, _, rfl, rfl, .rc rfl⟩, ?_⟩ | refine ⟨⟨_, _, rfl, rfl, .marks⟩, ?_⟩ | refine ⟨⟨_, _, rfl, rfl, .siter _ _⟩, ?_⟩ | refine ⟨⟨_, _, rfl, rfl, .loop rfl rfl rfl rfl (by repeat' first | exact trivial | refine ⟨rfl, ?_⟩) rfl rfl rfl rfl⟩, ?_⟩)
theorem ok23 (R23_backend : R23_Row → Option api_Backend) (hS : SumsOK Try.prog (aget (sums23 R23_backend))) : SumOK Try.prog 23 (s23 (R23_Registry_ListF R23_backend)) := by
  refine SumOK.of_leads tab_ok (fun ar os r ha hr => ?_) ⟨Try.f23, rfl, by decide, rfl⟩
  replace hr : r23 (R23_Registry_ListF R23_backend) ar (conts os) = some r := hr
  unfold r23 at hr
  generalize hc : conts os = C at hr
  have hq := dTr.elim hr; clear hr; obtain ⟨v0, l1, c0, C, y0, rfl, rfl, e0, hr⟩ := hq; obtain ⟨rfl, rfl⟩ := udR23_Registry_eq e0; simp only [List.nil_append, List.cons_append] at hc
  replace hr := dFin hr; obtain ⟨rfl, rfl, x, h, rfl⟩ := hr
  obtain ⟨os, rfl, ha, hc⟩ := kinds_some ha hc
  obtain ⟨os, rfl, ha, hc⟩ := kinds_some ha hc
  obtain rfl := kinds_nil hc
  exact ⟨_, rfl, leads23 R23_backend hS _ x h⟩
def R23_Registry_List : R23_Registry → Option (List api_Backend) := R23_Registry_ListF R23_backend
theorem lift23 : SumOK Try.prog 23 (s23 R23_Registry_List) := ok23 R23_backend (SumsOK.of_tab ⟨lift74, trivial⟩)
def R23_Same_s1 (a : List api_Backend) (b : List api_Backend) (i : Int) : Option (Sum Int Bool) :=
  cond (decide (i < (a.length : Int)))
    (
    oreq (decide ((0 : Int) ≤ i ∧ i < (a.length : Int))) <|
    (a[i.toNat]?).bind fun (e : api_Backend) =>
    oreq (decide ((0 : Int) ≤ i ∧ i < (b.length : Int))) <|
    (b[i.toNat]?).bind fun (e1 : api_Backend) =>
    let t := !((e.ID == e1.ID) && ((e.Weight == e1.Weight) && ((e.State == e1.State) && ((e.Addr.V6 == e1.Addr.V6) && ((e.Addr.Hi == e1.Addr.Hi) && ((e.Addr.Lo == e1.Addr.Lo) && true))))))
    cond (t)
      (
      some (.inr (false)))
      (
      some (.inl (wI .i64 (i + 1)))))
    (
    some (.inr (true)))
def R23_SameF (a : List api_Backend) (b : List api_Backend) : Option Bool :=
  cond ((a.length : Int) != (b.length : Int))
    (
    some (false))
    (
    iter (fun st => R23_Same_s1 a b st) FUEL 0)
def rx21 (x : Bool) : SRes := ⟨.bool x, [], [none, none]⟩
def r21 (g : (List api_Backend) → (List api_Backend) → Option Bool) : Dec := dSl 0 6 (unR 6 unapi_Backend) fun (y0 : List api_Backend) => dSl 1 6 (unR 6 unapi_Backend) fun (y1 : List api_Backend) => dEnd (ofG (g y0 y1) rx21)
theorem r21_c {g : (List api_Backend) → (List api_Backend) → Option Bool} {y0 : List api_Backend} {y1 : List api_Backend} {x : Bool} (hx : g y0 y1 = some x) : r21 g [.slice (some ⟨0, 0, none⟩) y0.length 6, .slice (some ⟨1, 0, none⟩) y1.length 6] [some (vT capi_Backend y0), some (vT capi_Backend y1)] = some (rx21 x) := (dSl_eq (unR_vT (by first | exact chealth_Rule_len | exact capi_Addr_len | exact cR23_Step_len | exact capi_Backend_len | exact chealth_State_len | exact cregistry_row_len | exact cR23_Row_len) (by decide) unapi_Backend_c _)).trans ((dSl_eq (unR_vT (by first | exact chealth_Rule_len | exact capi_Addr_len | exact cR23_Step_len | exact capi_Backend_len | exact chealth_State_len | exact cregistry_row_len | exact cR23_Row_len) (by decide) unapi_Backend_c _)).trans (ofG_eq hx))
def s21 (g : (List api_Backend) → (List api_Backend) → Option Bool) : Summ := ⟨[.sl 6, .sl 6], r21 g⟩
theorem r21_eq {g : (List api_Backend) → (List api_Backend) → Option Bool} {y0 : List api_Backend} {y1 : List api_Backend} {x : Bool} (hx : g y0 y1 = some x) : (s21 g).run [.slice (some ⟨0, 0, none⟩) y0.length 6, .slice (some ⟨1, 0, none⟩) y1.length 6] [some (vT capi_Backend y0), some (vT capi_Backend y1)] = some (rx21 x) := r21_c hx
abbrev sums21 : List (Nat × Summ) := []
def head21_1 (a : List api_Backend) (b : List api_Backend) (i : Int) : VM :=
  ⟨⟨21, 26, [(0, .slice (some ⟨0, 0, none⟩) a.length 6), (1, .slice (some ⟨1, 0, none⟩) b.length 6), (5, .int .i64 i)], [.code k21_18, .inLoop k21_18, .inBlock 0, .code k21_23], [], false, none⟩, [], [(0, .row false (vT capi_Backend a)), (1, .row false (vT capi_Backend b))], 2⟩
theorem loop21_1 (hS : SumsOK Try.prog (aget (sums21))) (a : List api_Backend) (b : List api_Backend) (res : Bool) : ∀ fuel (st : Int) (o : Bool), iter (fun st => R23_Same_s1 a b st) fuel st = some o → (o = res) →
    Leads Try.prog 21 2 (head21_1 a b st) (fun v H _ => Res 2 (rx21 res) v H) := by
  intro fuel st o h hc
  refine iter_leads (head := fun st => head21_1 a b st) (C := fun o => (o = res)) ?_ fuel st o h hc
  clear h hc o st fuel
  intro i o h hc
  replace h : R23_Same_s1 a b i = some o := h
  show Leads Try.prog 21 2 (head21_1 a b i) (fun v H _ => Res 2 (rx21 res) v H)
  unfold R23_Same_s1 at h
  refine ev_ok tab_ok hS true 3000 ?_
  conv => whnf
  refine br.h2 h ?_ ?_ ?_
  · rfl
  · clear h; intro hb h; conv => whnf
    all_goals (cases h; cases hc)
    all_goals exact Res.of [] rfl nw_0 (by decide) js_0 (wr_n (wr_n wr_0))
  clear h; intro hb h; conv => whnf
  replace h := oreq.elim h; obtain ⟨hb, h⟩ := h
  first | (refine req.intro hb ?_; conv => whnf) | skip
  replace h := obind.elim h; obtain ⟨e, hy, h⟩ := h
  refine ld_T capi_Backend_len hy (by first | omega | exact Nat.zero_add _ | exact congrArg (· + _) (Nat.zero_add _)) rfl ?_
  conv => whnf
  replace h := oreq.elim h; obtain ⟨hb, h⟩ := h
  first | (refine req.intro hb ?_; conv => whnf) | skip
  replace h := obind.elim h; obtain ⟨e1, hy, h⟩ := h
  refine ld_T capi_Backend_len hy (by first | omega | exact Nat.zero_add _ | exact congrArg (· + _) (Nat.zero_add _)) rfl ?_
  conv => whnf
  let t : Bool := !((e.ID == e1.ID) && ((e.Weight == e1.Weight) && ((e.State == e1.State) && ((e.Addr.V6 == e1.Addr.V6) && ((e.Addr.Hi == e1.Addr.Hi) && ((e.Addr.Lo == e1.Addr.Lo) && true))))))
  refine br.h h ?_ ?_ ?_
  · rfl
  · clear h; intro hb h; conv => whnf
    all_goals (cases h; cases hc)
    all_goals exact Res.of [] rfl nw_0 (by decide) js_0 (wr_n (wr_n wr_0))
  clear h; intro hb h; conv => whnf
  cases h; simp only [Sum.elim_inl, head21_1] at hc
  refine Leads.re hc [(0, 0), (1, 1)] rfl ?_ ?_ <;> (repeat' first | exact trivial | refine ⟨⟨_, rfl, rfl⟩, ?_⟩ | refine ⟨⟨_, _, rfl, rfl, .rowF (vI_flat _ _) id⟩, ?_⟩ | refine ⟨⟨_, _, rfl, rfl, .rowF (vS_flat _) id⟩, ?_⟩ | refine ⟨⟨_, _, rfl, rfl, .rowF (vB_flat _) id⟩, ?_⟩ | refine ⟨⟨_, _, rfl, rfl, .rowF (vT_flat (by first | exact chealth_Rule_flat | exact capi_Addr_flat | exact cR23_Step_flat | exact capi_Backend_flat | exact chealth_State_flat | exact cregistry_row_flat | exact cR23_Row_flat) _) id⟩, ?_⟩ | refine ⟨⟨_, _, rfl, rfl, .tyF (vI_flat _ _)⟩, ?_⟩ | refine ⟨⟨_, _, rfl, rfl, .ty rfl⟩, ?_⟩ | refine ⟨⟨_, _, rfl, rfl, .cells rfl⟩, ?_⟩ | refine ⟨⟨_, _, rfl, rfl, .row rfl id⟩, ?_⟩ | refine ⟨⟨_, _, rfl, rfl, .cr rfl⟩, ?_⟩ | refine ⟨⟨_, _, rfl, rfl, .rc rfl⟩, ?_⟩ | refine ⟨⟨_, _, rfl, rfl, .marks⟩, ?_⟩ | refine ⟨⟨_, _, rfl, rfl, .siter _ _⟩, ?_⟩ | refine ⟨⟨_, _, rfl, rfl, .loop rfl rfl rfl rfl (by repeat' first | exact trivial | refine ⟨rfl, ?_⟩) rfl rfl rfl rfl⟩, ?_⟩)
theorem leads21 (hS : SumsOK Try.prog (aget (sums21))) (a : List api_Backend) (b : List api_Backend) (res : Bool) (h : R23_SameF a b = some res) :
    Leads Try.prog 21 2 ⟨⟨21, 26, [(0, .slice (some ⟨0, 0, none⟩) a.length 6), (1, .slice (some ⟨1, 0, none⟩) b.length 6)], [.code k21_26], [], false, none⟩, [], [(0, .row false (vT capi_Backend a)), (1, .row false (vT capi_Backend b))], 2⟩ (fun v H _ => Res 2 (rx21 res) v H) := by
  unfold R23_SameF at h
  refine ev_ok tab_ok hS true 3000 ?_
  conv => whnf
  refine br.h h ?_ ?_ ?_
  · rfl
  · clear h; intro hb h; conv => whnf
    all_goals (cases h)
    all_goals exact Res.of [] rfl nw_0 (by decide) js_0 (wr_n (wr_n wr_0))
  clear h; intro hb h; conv => whnf
  have hl := loop21_1 hS _ _ res _ _ _ h rfl; simp only [head21_1] at hl
  refine Leads.re hl [(0, 0), (1, 1)] rfl ?_ ?_ <;> (repeat' first | exact trivial | refine ⟨⟨_, rfl, rfl⟩, ?_⟩ | refine ⟨⟨_, _, rfl, rfl, .rowF (vI_flat _ _) id⟩, ?_⟩ | refine ⟨⟨_, _, rfl, rfl, .rowF (vS_flat _) id⟩, ?_⟩ | refine ⟨⟨_, _, rfl, rfl, .rowF (vB_flat _) id⟩, ?_⟩ | refine ⟨⟨_, _, rfl, rfl, .rowF (vT_flat (by first | exact chealth_Rule_flat | exact capi_Addr_flat | exact cR23_Step_flat | exact capi_Backend_flat | exact chealth_State_flat | exact cregistry_row_flat | exact cR23_Row_flat) _) id⟩, ?_⟩ | refine ⟨⟨_, _, rfl, rfl, .tyF (vI_flat _ _)⟩, ?_⟩ | refine ⟨⟨_, _, rfl, rfl, .ty rfl⟩, ?_⟩ | refine ⟨⟨_, _, rfl, rfl, .cells rfl⟩, ?_⟩ | refine ⟨⟨_, _, rfl, rfl, .row rfl id⟩, ?_⟩ | refine ⟨⟨_, _, rfl, rfl, .cr rfl⟩, ?_⟩ | refine ⟨⟨_, _, rfl, rfl, .rc rfl⟩, ?_⟩ | refine ⟨⟨_, _, rfl, rfl, .marks⟩, ?_⟩ | refine ⟨⟨_, _, rfl, rfl, .siter _ _⟩, ?_⟩ | refine ⟨⟨_, _, rfl, rfl, .loop rfl rfl rfl rfl (by repeat' first | exact trivial | refine ⟨rfl, ?_⟩) rfl rfl rfl rfl⟩, ?_⟩)
theorem ok21 (hS : SumsOK Try.prog (aget (sums21))) : SumOK Try.prog 21 (s21 (R23_SameF)) := by
  refine SumOK.of_leads tab_ok (fun ar os r ha hr => ?_) ⟨Try.f21, rfl, by decide, rfl⟩
  replace hr : r21 (R23_SameF) ar (conts os) = some r := hr
  unfold r21 at hr
  generalize hc : conts os = C at hr
  have hq := dSl.elim hr; clear hr; obtain ⟨c0, l1, C, y0, rfl, rfl, e0, hr⟩ := hq; obtain rfl := unT_eq unapi_Backend_eq e0
  have hq := dSl.elim hr; clear hr; obtain ⟨c1, l2, C, y1, rfl, rfl, e1, hr⟩ := hq; obtain rfl := unT_eq unapi_Backend_eq e1
  replace hr := dFin hr; obtain ⟨rfl, rfl, x, h, rfl⟩ := hr
  obtain ⟨os, rfl, ha, hc⟩ := kinds_some ha hc
  obtain ⟨os, rfl, ha, hc⟩ := kinds_some ha hc
  obtain rfl := kinds_nil hc
  exact ⟨_, rfl, leads21 hS _ _ x h⟩
def R23_Same : (List api_Backend) → (List api_Backend) → Option Bool := R23_SameF
theorem lift21 : SumOK Try.prog 21 (s21 R23_Same) := ok21 (SumsOK.of_tab trivial)
def R04_RightF (a : api_Addr) : Option Bool :=
  cond (a.V6)
    (
    some (true))
    (
    cond (a.Hi == 0)
      (
      some (decide (a.Lo < 4294967296)))
      (
      some (false)))
def rx115 (x : Bool) : SRes := ⟨.bool x, [], []⟩
def r115 (g : api_Addr → Option Bool) : Dec := dV uvapi_Addr fun (y0 : api_Addr) => dEnd (ofG (g y0) rx115)
theorem r115_c {g : api_Addr → Option Bool} {y0 : api_Addr} {x : Bool} (hx : g y0 = some x) : r115 g [.agg ⟨[.bool y0.V6, .int .u64 y0.Hi, .int .u64 y0.Lo]⟩] [] = some (rx115 x) := (dV_eq (uvapi_Addr_c _)).trans (ofG_eq hx)
def s115 (g : api_Addr → Option Bool) : Summ := ⟨[.v], r115 g⟩
theorem r115_eq {g : api_Addr → Option Bool} {y0 : api_Addr} {x : Bool} (hx : g y0 = some x) : (s115 g).run [.agg ⟨[.bool y0.V6, .int .u64 y0.Hi, .int .u64 y0.Lo]⟩] [] = some (rx115 x) := r115_c hx
abbrev sums115 : List (Nat × Summ) := []
theorem leads115 (hS : SumsOK Try.prog (aget (sums115))) (a : api_Addr) (res : Bool) (h : R04_RightF a = some res) :
    Leads Try.prog 115 0 ⟨⟨115, 15, [(0, .agg ⟨[.bool a.V6, .int .u64 a.Hi, .int .u64 a.Lo]⟩)], [.code k115_3], [], false, none⟩, [], [], 0⟩ (fun v H _ => Res 0 (rx115 res) v H) := by
  unfold R04_RightF at h
  refine ev_ok tab_ok hS true 3000 ?_
  conv => whnf
  refine br.h h ?_ ?_ ?_
  · rfl
  · clear h; intro hb h; conv => whnf
    all_goals (cases h; exact Res.z rfl rfl rfl)
  clear h; intro hb h; conv => whnf
  refine br.h h ?_ ?_ ?_
  · rfl
  · clear h; intro hb h; conv => whnf
    all_goals (cases h; exact Res.z rfl rfl rfl)
  clear h; intro hb h; conv => whnf
  all_goals (cases h; exact Res.z rfl rfl rfl)
theorem ok115 (hS : SumsOK Try.prog (aget (sums115))) : SumOK Try.prog 115 (s115 (R04_RightF)) := by
  refine SumOK.of_leads tab_ok (fun ar os r ha hr => ?_) ⟨Try.f115, rfl, by decide, rfl⟩
  replace hr : r115 (R04_RightF) ar (conts os) = some r := hr
  unfold r115 at hr
  generalize hc : conts os = C at hr
  replace hr := dV.elim hr; obtain ⟨v0, l1, y0, rfl, e0, hr⟩ := hr; obtain rfl := uvapi_Addr_eq _ _ e0
  replace hr := dFin hr; obtain ⟨rfl, rfl, x, h, rfl⟩ := hr
  obtain rfl := kinds_nil hc
  exact ⟨_, rfl, leads115 hS _ x h⟩
def R04_Right : api_Addr → Option Bool := R04_RightF
theorem lift115 : SumOK Try.prog 115 (s115 R04_Right) := ok115 (SumsOK.of_tab trivial)
def R21_RightF (ra0 : health_Rule) : Option Bool :=
  cond (decide (ra0.Rise ≥ 1))
    (
    cond (decide (ra0.Rise ≤ 100))
      (
      cond (decide (ra0.Fall ≥ 1))
        (
        some (decide (ra0.Fall ≤ 100)))
        (
        some (false)))
      (
      some (false)))
    (
    some (false))
def rx25 (x : Bool) : SRes := ⟨.bool x, [], []⟩
def r25 (g : health_Rule → Option Bool) : Dec := dV uvhealth_Rule fun (y0 : health_Rule) => dEnd (ofG (g y0) rx25)
theorem r25_c {g : health_Rule → Option Bool} {y0 : health_Rule} {x : Bool} (hx : g y0 = some x) : r25 g [.agg ⟨[.int .i64 y0.Rise, .int .i64 y0.Fall]⟩] [] = some (rx25 x) := (dV_eq (uvhealth_Rule_c _)).trans (ofG_eq hx)
def s25 (g : health_Rule → Option Bool) : Summ := ⟨[.v], r25 g⟩
theorem r25_eq {g : health_Rule → Option Bool} {y0 : health_Rule} {x : Bool} (hx : g y0 = some x) : (s25 g).run [.agg ⟨[.int .i64 y0.Rise, .int .i64 y0.Fall]⟩] [] = some (rx25 x) := r25_c hx
abbrev sums25 : List (Nat × Summ) := []
theorem leads25 (hS : SumsOK Try.prog (aget (sums25))) (ra0 : health_Rule) (res : Bool) (h : R21_RightF ra0 = some res) :
    Leads Try.prog 25 0 ⟨⟨25, 21, [(0, .agg ⟨[.int .i64 ra0.Rise, .int .i64 ra0.Fall]⟩)], [.code k25_3], [], false, none⟩, [], [], 0⟩ (fun v H _ => Res 0 (rx25 res) v H) := by
  unfold R21_RightF at h
  refine ev_ok tab_ok hS true 3000 ?_
  conv => whnf
  refine br.h2 h ?_ ?_ ?_
  · rfl
  · clear h; intro hb h; conv => whnf
    all_goals (cases h; exact Res.z rfl rfl rfl)
  clear h; intro hb h; conv => whnf
  refine br.h2 h ?_ ?_ ?_
  · rfl
  · clear h; intro hb h; conv => whnf
    all_goals (cases h; exact Res.z rfl rfl rfl)
  clear h; intro hb h; conv => whnf
  refine br.h h ?_ ?_ ?_
  · rfl
  · clear h; intro hb h; conv => whnf
    all_goals (cases h; exact Res.z rfl rfl rfl)
  clear h; intro hb h; conv => whnf
  all_goals (cases h; exact Res.z rfl rfl rfl)
theorem ok25 (hS : SumsOK Try.prog (aget (sums25))) : SumOK Try.prog 25 (s25 (R21_RightF)) := by
  refine SumOK.of_leads tab_ok (fun ar os r ha hr => ?_) ⟨Try.f25, rfl, by decide, rfl⟩
  replace hr : r25 (R21_RightF) ar (conts os) = some r := hr
  unfold r25 at hr
  generalize hc : conts os = C at hr
  replace hr := dV.elim hr; obtain ⟨v0, l1, y0, rfl, e0, hr⟩ := hr; obtain rfl := uvhealth_Rule_eq _ _ e0
  replace hr := dFin hr; obtain ⟨rfl, rfl, x, h, rfl⟩ := hr
  obtain rfl := kinds_nil hc
  exact ⟨_, rfl, leads25 hS _ x h⟩
def R21_Right : health_Rule → Option Bool := R21_RightF
theorem lift25 : SumOK Try.prog 25 (s25 R21_Right) := ok25 (SumsOK.of_tab trivial)
def R21_mayF (R21_Right : health_Rule → Option Bool) (ra0 : health_Rule) (s : health_State) : Option Bool :=
  (R21_Right ra0).bind fun xr =>
  cond (xr)
    (
    cond (decide (s.Run ≥ 0))
      (
      some (decide (s.Run ≤ 1048576)))
      (
      some (false)))
    (
    some (false))
def rx144 (x : Bool) : SRes := ⟨.bool x, [], []⟩
def r144 (g : health_Rule → health_State → Option Bool) : Dec := dV uvhealth_Rule fun (y0 : health_Rule) => dV uvhealth_State fun (y1 : health_State) => dEnd (ofG (g y0 y1) rx144)
theorem r144_c {g : health_Rule → health_State → Option Bool} {y0 : health_Rule} {y1 : health_State} {x : Bool} (hx : g y0 y1 = some x) : r144 g [.agg ⟨[.int .i64 y0.Rise, .int .i64 y0.Fall]⟩, .agg ⟨[.bool y1.Up, .int .i64 y1.Run]⟩] [] = some (rx144 x) := (dV_eq (uvhealth_Rule_c _)).trans ((dV_eq (uvhealth_State_c _)).trans (ofG_eq hx))
def s144 (g : health_Rule → health_State → Option Bool) : Summ := ⟨[.v, .v], r144 g⟩
theorem r144_eq {g : health_Rule → health_State → Option Bool} {y0 : health_Rule} {y1 : health_State} {x : Bool} (hx : g y0 y1 = some x) : (s144 g).run [.agg ⟨[.int .i64 y0.Rise, .int .i64 y0.Fall]⟩, .agg ⟨[.bool y1.Up, .int .i64 y1.Run]⟩] [] = some (rx144 x) := r144_c hx
abbrev sums144 (R21_Right : health_Rule → Option Bool) : List (Nat × Summ) := [(25, s25 R21_Right)]
theorem leads144 (R21_Right : health_Rule → Option Bool) (hS : SumsOK Try.prog (aget (sums144 R21_Right))) (ra0 : health_Rule) (s : health_State) (res : Bool) (h : R21_mayF R21_Right ra0 s = some res) :
    Leads Try.prog 144 0 ⟨⟨144, 17, [(0, .agg ⟨[.int .i64 ra0.Rise, .int .i64 ra0.Fall]⟩), (1, .agg ⟨[.bool s.Up, .int .i64 s.Run]⟩)], [.code k144_3], [], false, none⟩, [], [], 0⟩ (fun v H _ => Res 0 (rx144 res) v H) := by
  unfold R21_mayF at h
  refine ev_ok tab_ok hS true 3000 ?_
  conv => whnf
  replace h := obind.elim h; obtain ⟨xr, hy, h⟩ := h
  refine sumK.q rfl rfl (r25_eq hy) rfl rfl rfl ?_
  conv => whnf
  refine br.h2 h ?_ ?_ ?_
  · rfl
  · clear h; intro hb h; conv => whnf
    all_goals (cases h; exact Res.z rfl rfl rfl)
  clear h; intro hb h; conv => whnf
  refine br.h h ?_ ?_ ?_
  · rfl
  · clear h; intro hb h; conv => whnf
    all_goals (cases h; exact Res.z rfl rfl rfl)
  clear h; intro hb h; conv => whnf
  all_goals (cases h; exact Res.z rfl rfl rfl)
theorem ok144 (R21_Right : health_Rule → Option Bool) (hS : SumsOK Try.prog (aget (sums144 R21_Right))) : SumOK Try.prog 144 (s144 (R21_mayF R21_Right)) := by
  refine SumOK.of_leads tab_ok (fun ar os r ha hr => ?_) ⟨Try.f144, rfl, by decide, rfl⟩
  replace hr : r144 (R21_mayF R21_Right) ar (conts os) = some r := hr
  unfold r144 at hr
  generalize hc : conts os = C at hr
  replace hr := dV.elim hr; obtain ⟨v0, l1, y0, rfl, e0, hr⟩ := hr; obtain rfl := uvhealth_Rule_eq _ _ e0
  replace hr := dV.elim hr; obtain ⟨v1, l2, y1, rfl, e1, hr⟩ := hr; obtain rfl := uvhealth_State_eq _ _ e1
  replace hr := dFin hr; obtain ⟨rfl, rfl, x, h, rfl⟩ := hr
  obtain rfl := kinds_nil hc
  exact ⟨_, rfl, leads144 R21_Right hS _ _ x h⟩
def R21_may : health_Rule → health_State → Option Bool := R21_mayF R21_Right
theorem lift144 : SumOK Try.prog 144 (s144 R21_may) := ok144 R21_Right (SumsOK.of_tab ⟨lift25, trivial⟩)
def R21_PutF (R21_may : health_Rule → health_State → Option Bool) (ra0 : health_Rule) (s : health_State) (good : Bool) : Option (health_State × Bool) :=
  (R21_may ra0 s).bind fun m =>
  cond (!m)
    (
    some ((s, false)))
    (
    cond (good == s.Up)
      (
      some ((health_State.mk s.Up 0, false)))
      (
      cond (s.Up)
        (
        let t := decide ((wI .i64 (s.Run + 1)) ≥ ra0.Fall)
        cond (t)
          (
          some ((health_State.mk good 0, true)))
          (
          some ((health_State.mk s.Up (wI .i64 (s.Run + 1)), false))))
        (
        let t1 := decide ((wI .i64 (s.Run + 1)) ≥ ra0.Rise)
        cond (t1)
          (
          some ((health_State.mk good 0, true)))
          (
          some ((health_State.mk s.Up (wI .i64 (s.Run + 1)), false))))))
def rx126 (x : health_State × Bool) : SRes := ⟨.tuple ⟨[.agg ⟨[.bool x.1.Up, .int .i64 x.1.Run]⟩, .bool x.2]⟩, [], []⟩
def r126 (g : health_Rule → health_State → Bool → Option (health_State × Bool)) : Dec := dV uvhealth_Rule fun (y0 : health_Rule) => dV uvhealth_State fun (y1 : health_State) => dV asB fun (y2 : Bool) => dEnd (ofG (g y0 y1 y2) rx126)
theorem r126_c {g : health_Rule → health_State → Bool → Option (health_State × Bool)} {y0 : health_Rule} {y1 : health_State} {y2 : Bool} {x : health_State × Bool} (hx : g y0 y1 y2 = some x) : r126 g [.agg ⟨[.int .i64 y0.Rise, .int .i64 y0.Fall]⟩, .agg ⟨[.bool y1.Up, .int .i64 y1.Run]⟩, .bool y2] [] = some (rx126 x) := (dV_eq (uvhealth_Rule_c _)).trans ((dV_eq (uvhealth_State_c _)).trans ((dV_eq (asB_c)).trans (ofG_eq hx)))
def s126 (g : health_Rule → health_State → Bool → Option (health_State × Bool)) : Summ := ⟨[.v, .v, .v], r126 g⟩
theorem r126_eq {g : health_Rule → health_State → Bool → Option (health_State × Bool)} {y0 : health_Rule} {y1 : health_State} {y2 : Bool} {x : health_State × Bool} (hx : g y0 y1 y2 = some x) : (s126 g).run [.agg ⟨[.int .i64 y0.Rise, .int .i64 y0.Fall]⟩, .agg ⟨[.bool y1.Up, .int .i64 y1.Run]⟩, .bool y2] [] = some (rx126 x) := r126_c hx
abbrev sums126 (R21_may : health_Rule → health_State → Option Bool) : List (Nat × Summ) := [(144, s144 R21_may)]
theorem leads126 (R21_may : health_Rule → health_State → Option Bool) (hS : SumsOK Try.prog (aget (sums126 R21_may))) (ra0 : health_Rule) (s : health_State) (good : Bool) (res : health_State × Bool) (h : R21_PutF R21_may ra0 s good = some res) :
    Leads Try.prog 126 0 ⟨⟨126, 40, [(0, .agg ⟨[.int .i64 ra0.Rise, .int .i64 ra0.Fall]⟩), (1, .agg ⟨[.bool s.Up, .int .i64 s.Run]⟩), (2, .bool good)], [.code k126_28], [], false, none⟩, [], [], 0⟩ (fun v H _ => Res 0 (rx126 res) v H) := by
  unfold R21_PutF at h
  refine ev_ok tab_ok hS true 3000 ?_
  conv => whnf
  replace h := obind.elim h; obtain ⟨m, hy, h⟩ := h
  refine sumK.q rfl rfl (r144_eq hy) rfl rfl rfl ?_
  conv => whnf
  refine br.h h ?_ ?_ ?_
  · rfl
  · clear h; intro hb h; conv => whnf
    all_goals (cases h; exact Res.z rfl rfl rfl)
  clear h; intro hb h; conv => whnf
  refine br.h h ?_ ?_ ?_
  · rfl
  · clear h; intro hb h; conv => whnf
    all_goals (cases h; exact Res.z rfl rfl rfl)
  clear h; intro hb h; conv => whnf
  refine br.h h ?_ ?_ ?_
  · rfl
  · clear h; intro hb h; conv => whnf
    let t : Bool := decide ((wI .i64 (s.Run + 1)) ≥ ra0.Fall)
    refine br.h h ?_ ?_ ?_
    · rfl
    · clear h; intro hb h; conv => whnf
      all_goals (cases h; exact Res.z rfl rfl rfl)
    clear h; intro hb h; conv => whnf
    all_goals (cases h; exact Res.z rfl rfl rfl)
  clear h; intro hb h; conv => whnf
  let t1 : Bool := decide ((wI .i64 (s.Run + 1)) ≥ ra0.Rise)
  refine br.h h ?_ ?_ ?_
  · rfl
  · clear h; intro hb h; conv => whnf
    all_goals (cases h; exact Res.z rfl rfl rfl)
  clear h; intro hb h; conv => whnf
  all_goals (cases h; exact Res.z rfl rfl rfl)
theorem ok126 (R21_may : health_Rule → health_State → Option Bool) (hS : SumsOK Try.prog (aget (sums126 R21_may))) : SumOK Try.prog 126 (s126 (R21_PutF R21_may)) := by
  refine SumOK.of_leads tab_ok (fun ar os r ha hr => ?_) ⟨Try.f126, rfl, by decide, rfl⟩
  replace hr : r126 (R21_PutF R21_may) ar (conts os) = some r := hr
  unfold r126 at hr
  generalize hc : conts os = C at hr
  replace hr := dV.elim hr; obtain ⟨v0, l1, y0, rfl, e0, hr⟩ := hr; obtain rfl := uvhealth_Rule_eq _ _ e0
  replace hr := dV.elim hr; obtain ⟨v1, l2, y1, rfl, e1, hr⟩ := hr; obtain rfl := uvhealth_State_eq _ _ e1
  replace hr := dV.elim hr; obtain ⟨v2, l3, y2, rfl, e2, hr⟩ := hr; obtain rfl := asB_eq _ _ e2
  replace hr := dFin hr; obtain ⟨rfl, rfl, x, h, rfl⟩ := hr
  obtain rfl := kinds_nil hc
  exact ⟨_, rfl, leads126 R21_may hS _ _ _ x h⟩
def R21_Put : health_Rule → health_State → Bool → Option (health_State × Bool) := R21_PutF R21_may
theorem lift126 : SumOK Try.prog 126 (s126 R21_Put) := ok126 R21_may (SumsOK.of_tab ⟨lift144, trivial⟩)
def R23_weighsF (n : Int) : Option Bool :=
  cond (decide (n ≥ 0))
    (
    some (decide (n ≤ 1000)))
    (
    some (false))
def rx124 (x : Bool) : SRes := ⟨.bool x, [], []⟩
def r124 (g : Int → Option Bool) : Dec := dV (asI .i64) fun (y0 : Int) => dEnd (ofG (g y0) rx124)
theorem r124_c {g : Int → Option Bool} {y0 : Int} {x : Bool} (hx : g y0 = some x) : r124 g [.int .i64 y0] [] = some (rx124 x) := (dV_eq (asI_c _)).trans (ofG_eq hx)
def s124 (g : Int → Option Bool) : Summ := ⟨[.v], r124 g⟩
theorem r124_eq {g : Int → Option Bool} {y0 : Int} {x : Bool} (hx : g y0 = some x) : (s124 g).run [.int .i64 y0] [] = some (rx124 x) := r124_c hx
abbrev sums124 : List (Nat × Summ) := []
theorem leads124 (hS : SumsOK Try.prog (aget (sums124))) (n : Int) (res : Bool) (h : R23_weighsF n = some res) :
    Leads Try.prog 124 0 ⟨⟨124, 9, [(0, .int .i64 n)], [.code k124_3], [], false, none⟩, [], [], 0⟩ (fun v H _ => Res 0 (rx124 res) v H) := by
  unfold R23_weighsF at h
  refine ev_ok tab_ok hS true 3000 ?_
  conv => whnf
  refine br.h h ?_ ?_ ?_
  · rfl
  · clear h; intro hb h; conv => whnf
    all_goals (cases h; exact Res.z rfl rfl rfl)
  clear h; intro hb h; conv => whnf
  all_goals (cases h; exact Res.z rfl rfl rfl)
theorem ok124 (hS : SumsOK Try.prog (aget (sums124))) : SumOK Try.prog 124 (s124 (R23_weighsF)) := by
  refine SumOK.of_leads tab_ok (fun ar os r ha hr => ?_) ⟨Try.f124, rfl, by decide, rfl⟩
  replace hr : r124 (R23_weighsF) ar (conts os) = some r := hr
  unfold r124 at hr
  generalize hc : conts os = C at hr
  replace hr := dV.elim hr; obtain ⟨v0, l1, y0, rfl, e0, hr⟩ := hr; obtain rfl := asI_eq _ _ _ e0
  replace hr := dFin hr; obtain ⟨rfl, rfl, x, h, rfl⟩ := hr
  obtain rfl := kinds_nil hc
  exact ⟨_, rfl, leads124 hS _ x h⟩
def R23_weighs : Int → Option Bool := R23_weighsF
theorem lift124 : SumOK Try.prog 124 (s124 R23_weighs) := ok124 (SumsOK.of_tab trivial)
def R23_Registry_AddF (R04_Right : api_Addr → Option Bool) (R23_weighs : Int → Option Bool) (ga0 : R23_Registry) (weight : Int) (a : api_Addr) : Option (Int × Int × R23_Registry) :=
  (R23_weighs weight).bind fun w =>
  cond (!w)
    (
    some ((0, 1, ga0)))
    (
    (R04_Right a).bind fun xr =>
    cond (!xr)
      (
      some ((0, 1, ga0)))
      (
      cond (decide ((ga0.L.length : Int) ≥ 64))
        (
        some ((0, 9, ga0)))
        (
        cond (decide (ga0.Last ≥ 65535))
          (
          some ((0, 9, ga0)))
          (
          oreq (decide ((ga0.L.length + 1) * 64 ≤ 2 ^ 47)) <|
          let row := ga0.L ++ [R23_Row.mk (wI .i64 (ga0.Last + 1)) weight a false (health_State.mk true 0)]
          some ((wI .i64 (ga0.Last + 1), 0, R23_Registry.mk ga0.Rule row (wI .i64 (ga0.Last + 1)) (wI .i64 (ga0.Version + 1))))))))
def rx75 (x : Int × Int × R23_Registry) : SRes := ⟨.tuple ⟨[.int .i64 x.1, .int .i64 x.2.1]⟩, [(vT cR23_Row x.2.2.L)], [some [.int .i64 x.2.2.Rule.Rise, .int .i64 x.2.2.Rule.Fall, .slice (some ⟨0, 0, none⟩) x.2.2.L.length 8, .int .i64 x.2.2.Last, .int .i64 x.2.2.Version], none]⟩
def r75 (g : R23_Registry → Int → api_Addr → Option (Int × Int × R23_Registry)) : Dec := dTr 2 (udR23_Registry 0) fun (y0 : R23_Registry) => dV (asI .i64) fun (y1 : Int) => dV uvapi_Addr fun (y2 : api_Addr) => dEnd (ofG (g y0 y1 y2) rx75)
theorem r75_c {g : R23_Registry → Int → api_Addr → Option (Int × Int × R23_Registry)} {y0 : R23_Registry} {y1 : Int} {y2 : api_Addr} {x : Int × Int × R23_Registry} (hx : g y0 y1 y2 = some x) : r75 g [.pointer (some ⟨0, 0, none⟩), .int .i64 y1, .agg ⟨[.bool y2.V6, .int .u64 y2.Hi, .int .u64 y2.Lo]⟩] [some [.int .i64 y0.Rule.Rise, .int .i64 y0.Rule.Fall, .slice (some ⟨1, 0, none⟩) y0.L.length 8, .int .i64 y0.Last, .int .i64 y0.Version], some (vT cR23_Row y0.L)] = some (rx75 x) := (dTr_eq rfl rfl (udR23_Registry_c 0 _)).trans ((dV_eq (asI_c _)).trans ((dV_eq (uvapi_Addr_c _)).trans (ofG_eq hx)))
def s75 (g : R23_Registry → Int → api_Addr → Option (Int × Int × R23_Registry)) : Summ := ⟨[.tr [⟨none, 0, 0, 1, none⟩, ⟨some 0, 2, 0, 2, some 8⟩], .v, .v], r75 g⟩
theorem r75_eq {g : R23_Registry → Int → api_Addr → Option (Int × Int × R23_Registry)} {y0 : R23_Registry} {y1 : Int} {y2 : api_Addr} {x : Int × Int × R23_Registry} (hx : g y0 y1 y2 = some x) : (s75 g).run [.pointer (some ⟨0, 0, none⟩), .int .i64 y1, .agg ⟨[.bool y2.V6, .int .u64 y2.Hi, .int .u64 y2.Lo]⟩] [some [.int .i64 y0.Rule.Rise, .int .i64 y0.Rule.Fall, .slice (some ⟨1, 0, none⟩) y0.L.length 8, .int .i64 y0.Last, .int .i64 y0.Version], some (vT cR23_Row y0.L)] = some (rx75 x) := r75_c hx
abbrev sums75 (R04_Right : api_Addr → Option Bool) (R23_weighs : Int → Option Bool) : List (Nat × Summ) := [(115, s115 R04_Right), (124, s124 R23_weighs)]
theorem leads75 (R04_Right : api_Addr → Option Bool) (R23_weighs : Int → Option Bool) (hS : SumsOK Try.prog (aget (sums75 R04_Right R23_weighs))) (ga0 : R23_Registry) (weight : Int) (a : api_Addr) (res : Int × Int × R23_Registry) (h : R23_Registry_AddF R04_Right R23_weighs ga0 weight a = some res) :
    Leads Try.prog 75 2 ⟨⟨75, 64, [(0, .pointer (some ⟨0, 0, none⟩)), (1, .int .i64 weight), (2, .agg ⟨[.bool a.V6, .int .u64 a.Hi, .int .u64 a.Lo]⟩)], [.code k75_21], [], false, none⟩, [], [(0, .cells [.int .i64 ga0.Rule.Rise, .int .i64 ga0.Rule.Fall, .slice (some ⟨1, 0, none⟩) ga0.L.length 8, .int .i64 ga0.Last, .int .i64 ga0.Version]), (1, .row true (vT cR23_Row ga0.L))], 2⟩ (fun v H _ => Res 2 (rx75 res) v H) := by
  unfold R23_Registry_AddF at h
  refine ev_ok tab_ok hS true 3000 ?_
  conv => whnf
  replace h := obind.elim h; obtain ⟨w, hy, h⟩ := h
  refine sumK.q rfl rfl (r124_eq hy) rfl rfl rfl ?_
  conv => whnf
  refine br.h h ?_ ?_ ?_
  · rfl
  · clear h; intro hb h; conv => whnf
    all_goals (cases h)
    all_goals exact Res.of [1] rfl (nw_s (rn_T cR23_Row_flat) (hs_row rfl) nw_0) (by decide) (js_r rfl js_0) (wr_s (rfl) (hs_cells rfl) (wr_n wr_0))
  clear h; intro hb h; conv => whnf
  replace h := obind.elim h; obtain ⟨xr, hy, h⟩ := h
  refine sumK.q rfl rfl (r115_eq hy) rfl rfl rfl ?_
  conv => whnf
  refine br.h h ?_ ?_ ?_
  · rfl
  · clear h; intro hb h; conv => whnf
    all_goals (cases h)
    all_goals exact Res.of [1] rfl (nw_s (rn_T cR23_Row_flat) (hs_row rfl) nw_0) (by decide) (js_r rfl js_0) (wr_s (rfl) (hs_cells rfl) (wr_n wr_0))
  clear h; intro hb h; conv => whnf
  refine br.h h ?_ ?_ ?_
  · rfl
  · clear h; intro hb h; conv => whnf
    all_goals (cases h)
    all_goals exact Res.of [1] rfl (nw_s (rn_T cR23_Row_flat) (hs_row rfl) nw_0) (by decide) (js_r rfl js_0) (wr_s (rfl) (hs_cells rfl) (wr_n wr_0))
  clear h; intro hb h; conv => whnf
  refine br.h h ?_ ?_ ?_
  · rfl
  · clear h; intro hb h; conv => whnf
    all_goals (cases h)
    all_goals exact Res.of [1] rfl (nw_s (rn_T cR23_Row_flat) (hs_row rfl) nw_0) (by decide) (js_r rfl js_0) (wr_s (rfl) (hs_cells rfl) (wr_n wr_0))
  clear h; intro hb h; conv => whnf
  replace h := oreq.elim h; obtain ⟨hb, h⟩ := h
  refine req.intro (ap_req (of_decide_eq_true hb) (by first | rfl | omega | (simp; done) | (simp; omega) | (simp at *; omega)) rfl (by first | rfl | omega | (simp; done) | (simp; omega) | (simp at *; omega)) (by first | rfl | exact vI_one _ _ | exact vS_one _ | exact vB_one _ | exact vT_one (by first | exact chealth_Rule_one | exact capi_Addr_one | exact cR23_Step_one | exact capi_Backend_one | exact chealth_State_one | exact cregistry_row_one | exact cR23_Row_one) _ | (rw [ofBytes_vI]; exact vI_one _ _) | (simp [vI_one, vS_one, vB_one, vI_drop, vI_take, vS_drop, vS_take]; done) | (simp; exact List.all_eq_true.1 (vT_one (by first | exact chealth_Rule_one | exact capi_Addr_one | exact cR23_Step_one | exact capi_Backend_one | exact chealth_State_one | exact cregistry_row_one | exact cR23_Row_one) _))) rfl) ?_
  conv => whnf
  let row : List R23_Row := ga0.L ++ [R23_Row.mk (wI .i64 (ga0.Last + 1)) weight a false (health_State.mk true 0)]
  refine pk_apT cR23_Row_len (xs := ga0.L) (ys := [R23_Row.mk (wI .i64 (ga0.Last + 1)) weight a false (health_State.mk true 0)]) rfl (by first | rfl | omega) (by first | rfl | omega | (simp; done) | (simp; omega) | (simp at *; omega)) (by first | rfl | omega | (simp; done) | (simp; omega) | (simp at *; omega)) ?_
  conv => whnf
  all_goals (cases h)
  all_goals exact Res.of [18] rfl (nw_s (rn_T cR23_Row_flat) (hs_row rfl) nw_0) (by decide) (js_l (by decide) js_0) (wr_s (rfl) (hs_cells rfl) (wr_n wr_0))
theorem ok75 (R04_Right : api_Addr → Option Bool) (R23_weighs : Int → Option Bool) (hS : SumsOK Try.prog (aget (sums75 R04_Right R23_weighs))) : SumOK Try.prog 75 (s75 (R23_Registry_AddF R04_Right R23_weighs)) := by
  refine SumOK.of_leads tab_ok (fun ar os r ha hr => ?_) ⟨Try.f75, rfl, by decide, rfl⟩
  replace hr : r75 (R23_Registry_AddF R04_Right R23_weighs) ar (conts os) = some r := hr
  unfold r75 at hr
  generalize hc : conts os = C at hr
  have hq := dTr.elim hr; clear hr; obtain ⟨v0, l1, c0, C, y0, rfl, rfl, e0, hr⟩ := hq; obtain ⟨rfl, rfl⟩ := udR23_Registry_eq e0; simp only [List.nil_append, List.cons_append] at hc
  replace hr := dV.elim hr; obtain ⟨v1, l2, y1, rfl, e1, hr⟩ := hr; obtain rfl := asI_eq _ _ _ e1
  replace hr := dV.elim hr; obtain ⟨v2, l3, y2, rfl, e2, hr⟩ := hr; obtain rfl := uvapi_Addr_eq _ _ e2
  replace hr := dFin hr; obtain ⟨rfl, rfl, x, h, rfl⟩ := hr
  obtain ⟨os, rfl, ha, hc⟩ := kinds_some ha hc
  obtain ⟨os, rfl, ha, hc⟩ := kinds_some ha hc
  obtain rfl := kinds_nil hc
  exact ⟨_, rfl, leads75 R04_Right R23_weighs hS _ _ _ x h⟩
def R23_Registry_Add : R23_Registry → Int → api_Addr → Option (Int × Int × R23_Registry) := R23_Registry_AddF R04_Right R23_weighs
theorem lift75 : SumOK Try.prog 75 (s75 R23_Registry_Add) := ok75 R04_Right R23_weighs (SumsOK.of_tab ⟨lift115, lift124, trivial⟩)
def R23_Registry_set_s1 (ga0 : R23_Registry) (ata1 : Int) (ra2 : R23_Row) (i : Int) (out1 : List R23_Row) : Option (Sum (Int × (List R23_Row)) R23_Registry) :=
  cond (decide (i < (ga0.L.length : Int)))
    (
    cond (i == ata1)
      (
      oreq (decide ((out1.length + 1) * 64 ≤ 2 ^ 47)) <|
      let row := out1 ++ [ra2]
      some (.inl (wI .i64 (i + 1), row)))
      (
      oreq (decide ((0 : Int) ≤ i ∧ i < (ga0.L.length : Int))) <|
      (ga0.L[i.toNat]?).bind fun (e : R23_Row) =>
      oreq (decide ((out1.length + 1) * 64 ≤ 2 ^ 47)) <|
      let row1 := out1 ++ [e]
      some (.inl (wI .i64 (i + 1), row1))))
    (
    some (.inr (R23_Registry.mk ga0.Rule out1 ga0.Last (wI .i64 (ga0.Version + 1)))))
def R23_Registry_setF (ga0 : R23_Registry) (ata1 : Int) (ra2 : R23_Row) : Option R23_Registry :=
  iter (fun st => R23_Registry_set_s1 ga0 ata1 ra2 st.1 st.2) FUEL (0, [])
def rx125 (x : R23_Registry) : SRes := ⟨.tuple ⟨[]⟩, [(vT cR23_Row x.L)], [some [.int .i64 x.Rule.Rise, .int .i64 x.Rule.Fall, .slice (some ⟨0, 0, none⟩) x.L.length 8, .int .i64 x.Last, .int .i64 x.Version], none]⟩
def r125 (g : R23_Registry → Int → R23_Row → Option R23_Registry) : Dec := dTr 2 (udR23_Registry 0) fun (y0 : R23_Registry) => dV (asI .i64) fun (y1 : Int) => dV uvR23_Row fun (y2 : R23_Row) => dEnd (ofG (g y0 y1 y2) rx125)
theorem r125_c {g : R23_Registry → Int → R23_Row → Option R23_Registry} {y0 : R23_Registry} {y1 : Int} {y2 : R23_Row} {x : R23_Registry} (hx : g y0 y1 y2 = some x) : r125 g [.pointer (some ⟨0, 0, none⟩), .int .i64 y1, .agg ⟨[.int .i64 y2.ID, .int .i64 y2.Weight, .bool y2.Addr.V6, .int .u64 y2.Addr.Hi, .int .u64 y2.Addr.Lo, .bool y2.Drain, .bool y2.Health.Up, .int .i64 y2.Health.Run]⟩] [some [.int .i64 y0.Rule.Rise, .int .i64 y0.Rule.Fall, .slice (some ⟨1, 0, none⟩) y0.L.length 8, .int .i64 y0.Last, .int .i64 y0.Version], some (vT cR23_Row y0.L)] = some (rx125 x) := (dTr_eq rfl rfl (udR23_Registry_c 0 _)).trans ((dV_eq (asI_c _)).trans ((dV_eq (uvR23_Row_c _)).trans (ofG_eq hx)))
def s125 (g : R23_Registry → Int → R23_Row → Option R23_Registry) : Summ := ⟨[.tr [⟨none, 0, 0, 1, none⟩, ⟨some 0, 2, 0, 2, some 8⟩], .v, .v], r125 g⟩
theorem r125_eq {g : R23_Registry → Int → R23_Row → Option R23_Registry} {y0 : R23_Registry} {y1 : Int} {y2 : R23_Row} {x : R23_Registry} (hx : g y0 y1 y2 = some x) : (s125 g).run [.pointer (some ⟨0, 0, none⟩), .int .i64 y1, .agg ⟨[.int .i64 y2.ID, .int .i64 y2.Weight, .bool y2.Addr.V6, .int .u64 y2.Addr.Hi, .int .u64 y2.Addr.Lo, .bool y2.Drain, .bool y2.Health.Up, .int .i64 y2.Health.Run]⟩] [some [.int .i64 y0.Rule.Rise, .int .i64 y0.Rule.Fall, .slice (some ⟨1, 0, none⟩) y0.L.length 8, .int .i64 y0.Last, .int .i64 y0.Version], some (vT cR23_Row y0.L)] = some (rx125 x) := r125_c hx
abbrev sums125 : List (Nat × Summ) := []
def head125_1 (ga0 : R23_Registry) (ata1 : Int) (ra2 : R23_Row) (i : Int) (out1 : List R23_Row) : VM :=
  ⟨⟨125, 45, [(0, .pointer (some ⟨0, 0, none⟩)), (1, .int .i64 ata1), (5, .pointer (some ⟨2, 0, none⟩)), (6, .slice (some ⟨3, 0, none⟩) out1.length 8), (7, .int .i64 i)], [.code k125_14, .inLoop k125_14, .inBlock 0, .code k125_20], [], false, none⟩, [], [(0, .cells [.int .i64 ga0.Rule.Rise, .int .i64 ga0.Rule.Fall, .slice (some ⟨1, 0, none⟩) ga0.L.length 8, .int .i64 ga0.Last, .int .i64 ga0.Version]), (1, .row true (vT cR23_Row ga0.L)), (2, .cells [.int .i64 ra2.ID, .int .i64 ra2.Weight, .bool ra2.Addr.V6, .int .u64 ra2.Addr.Hi, .int .u64 ra2.Addr.Lo, .bool ra2.Drain, .bool ra2.Health.Up, .int .i64 ra2.Health.Run]), (3, .row true (vT cR23_Row out1))], 4⟩
theorem loop125_1 (hS : SumsOK Try.prog (aget (sums125))) (ga0 : R23_Registry) (ata1 : Int) (ra2 : R23_Row) (res : R23_Registry) : ∀ fuel (st : Int × (List R23_Row)) (o : R23_Registry), iter (fun st => R23_Registry_set_s1 ga0 ata1 ra2 st.1 st.2) fuel st = some o → (o = res) →
    Leads Try.prog 125 2 (head125_1 ga0 ata1 ra2 st.1 st.2) (fun v H _ => Res 2 (rx125 res) v H) := by
  intro fuel st o h hc
  refine iter_leads (head := fun st => head125_1 ga0 ata1 ra2 st.1 st.2) (C := fun o => (o = res)) ?_ fuel st o h hc
  clear h hc o st fuel
  intro st o h hc
  obtain ⟨i, out1⟩ := st
  replace h : R23_Registry_set_s1 ga0 ata1 ra2 i out1 = some o := h
  show Leads Try.prog 125 2 (head125_1 ga0 ata1 ra2 i out1) (fun v H _ => Res 2 (rx125 res) v H)
  unfold R23_Registry_set_s1 at h
  refine ev_ok tab_ok hS true 3000 ?_
  conv => whnf
  refine br.h2 h ?_ ?_ ?_
  · rfl
  · clear h; intro hb h; conv => whnf
    all_goals (cases h; cases hc)
    all_goals exact Res.of [3] rfl (nw_s (rn_T cR23_Row_flat) (hs_row rfl) nw_0) (by decide) (js_l (by decide) js_0) (wr_s (rfl) (hs_cells rfl) (wr_n wr_0))
  clear h; intro hb h; conv => whnf
  refine br.h h ?_ ?_ ?_
  · rfl
  · clear h; intro hb h; conv => whnf
    replace h := oreq.elim h; obtain ⟨hb, h⟩ := h
    refine req.intro (ap_req (of_decide_eq_true hb) (by first | rfl | omega | (simp; done) | (simp; omega) | (simp at *; omega)) rfl (by first | rfl | omega | (simp; done) | (simp; omega) | (simp at *; omega)) (by first | rfl | exact vI_one _ _ | exact vS_one _ | exact vB_one _ | exact vT_one (by first | exact chealth_Rule_one | exact capi_Addr_one | exact cR23_Step_one | exact capi_Backend_one | exact chealth_State_one | exact cregistry_row_one | exact cR23_Row_one) _ | (rw [ofBytes_vI]; exact vI_one _ _) | (simp [vI_one, vS_one, vB_one, vI_drop, vI_take, vS_drop, vS_take]; done) | (simp; exact List.all_eq_true.1 (vT_one (by first | exact chealth_Rule_one | exact capi_Addr_one | exact cR23_Step_one | exact capi_Backend_one | exact chealth_State_one | exact cregistry_row_one | exact cR23_Row_one) _))) rfl) ?_
    conv => whnf
    let row : List R23_Row := out1 ++ [ra2]
    refine pk_apT cR23_Row_len (xs := out1) (ys := [ra2]) rfl (by first | rfl | omega) (by first | rfl | omega | (simp; done) | (simp; omega) | (simp at *; omega)) (by first | rfl | omega | (simp; done) | (simp; omega) | (simp at *; omega)) ?_
    conv => whnf
    cases h; simp only [Sum.elim_inl, head125_1] at hc
    refine Leads.re hc [(0, 0), (1, 1), (2, 2), (3, 5)] rfl ?_ ?_ <;> (repeat' first | exact trivial | refine ⟨⟨_, rfl, rfl⟩, ?_⟩ | refine ⟨⟨_, _, rfl, rfl, .rowF (vI_flat _ _) id⟩, ?_⟩ | refine ⟨⟨_, _, rfl, rfl, .rowF (vS_flat _) id⟩, ?_⟩ | refine ⟨⟨_, _, rfl, rfl, .rowF (vB_flat _) id⟩, ?_⟩ | refine ⟨⟨_, _, rfl, rfl, .rowF (vT_flat (by first | exact chealth_Rule_flat | exact capi_Addr_flat | exact cR23_Step_flat | exact capi_Backend_flat | exact chealth_State_flat | exact cregistry_row_flat | exact cR23_Row_flat) _) id⟩, ?_⟩ | refine ⟨⟨_, _, rfl, rfl, .tyF (vI_flat _ _)⟩, ?_⟩ | refine ⟨⟨_, _, rfl, rfl, .ty rfl⟩, ?_⟩ | refine ⟨⟨_, _, rfl, rfl, .cells rfl⟩, ?_⟩ | refine ⟨⟨_, _, rfl, rfl, .row rfl id⟩, ?_⟩ | refine ⟨⟨_, _, rfl, rfl, .cr rfl⟩, ?_⟩ | refine ⟨⟨_, _, rfl, rfl, .rc rfl⟩, ?_⟩ | refine ⟨⟨_, _, rfl, rfl, .marks⟩, ?_⟩ | refine ⟨⟨_, _, rfl, rfl, .siter _ _⟩, ?_⟩ | refine ⟨⟨_, _, rfl, rfl, .loop rfl rfl rfl rfl (by repeat' first | exact trivial | refine ⟨rfl, ?_⟩) rfl rfl rfl rfl⟩, ?_⟩)
  clear h; intro hb h; conv => whnf
  replace h := oreq.elim h; obtain ⟨hb, h⟩ := h
  first | (refine req.intro hb ?_; conv => whnf) | skip
  replace h := obind.elim h; obtain ⟨e, hy, h⟩ := h
  refine ld_T cR23_Row_len hy (by first | omega | exact Nat.zero_add _ | exact congrArg (· + _) (Nat.zero_add _)) rfl ?_
  conv => whnf
  replace h := oreq.elim h; obtain ⟨hb, h⟩ := h
  refine req.intro (ap_req (of_decide_eq_true hb) (by first | rfl | omega | (simp; done) | (simp; omega) | (simp at *; omega)) rfl (by first | rfl | omega | (simp; done) | (simp; omega) | (simp at *; omega)) (by first | rfl | exact vI_one _ _ | exact vS_one _ | exact vB_one _ | exact vT_one (by first | exact chealth_Rule_one | exact capi_Addr_one | exact cR23_Step_one | exact capi_Backend_one | exact chealth_State_one | exact cregistry_row_one | exact cR23_Row_one) _ | (rw [ofBytes_vI]; exact vI_one _ _) | (simp [vI_one, vS_one, vB_one, vI_drop, vI_take, vS_drop, vS_take]; done) | (simp; exact List.all_eq_true.1 (vT_one (by first | exact chealth_Rule_one | exact capi_Addr_one | exact cR23_Step_one | exact capi_Backend_one | exact chealth_State_one | exact cregistry_row_one | exact cR23_Row_one) _))) rfl) ?_
  conv => whnf
  let row1 : List R23_Row := out1 ++ [e]
  refine pk_apT cR23_Row_len (xs := out1) (ys := [e]) rfl (by first | rfl | omega) (by first | rfl | omega | (simp; done) | (simp; omega) | (simp at *; omega)) (by first | rfl | omega | (simp; done) | (simp; omega) | (simp at *; omega)) ?_
  conv => whnf
  cases h; simp only [Sum.elim_inl, head125_1] at hc
  refine Leads.re hc [(0, 0), (1, 1), (2, 2), (3, 5)] rfl ?_ ?_ <;> (repeat' first | exact trivial | refine ⟨⟨_, rfl, rfl⟩, ?_⟩ | refine ⟨⟨_, _, rfl, rfl, .rowF (vI_flat _ _) id⟩, ?_⟩ | refine ⟨⟨_, _, rfl, rfl, .rowF (vS_flat _) id⟩, ?_⟩ | refine ⟨⟨_, _, rfl, rfl, .rowF (vB_flat _) id⟩, ?_⟩ | refine ⟨⟨_, _, rfl, rfl, .rowF (vT_flat (by first | exact chealth_Rule_flat | exact capi_Addr_flat | exact cR23_Step_flat | exact capi_Backend_flat | exact chealth_State_flat | exact cregistry_row_flat | exact cR23_Row_flat) _) id⟩, ?_⟩ | refine ⟨⟨_, _, rfl, rfl, .tyF (vI_flat _ _)⟩, ?_⟩ | refine ⟨⟨_, _, rfl, rfl, .ty rfl⟩, ?_⟩ | refine ⟨⟨_, _, rfl, rfl, .cells rfl⟩, ?_⟩ | refine ⟨⟨_, _, rfl, rfl, .row rfl id⟩, ?_⟩ | refine ⟨⟨_, _, rfl, rfl, .cr rfl⟩, ?_⟩ | refine ⟨⟨_, _, rfl, rfl, .rc rfl⟩, ?_⟩ | refine ⟨⟨_, _, rfl, rfl, .marks⟩, ?_⟩ | refine ⟨⟨_, _, rfl, rfl, .siter _ _⟩, ?_⟩ | refine ⟨⟨_, _, rfl, rfl, .loop rfl rfl rfl rfl (by repeat' first | exact trivial | refine ⟨rfl, ?_⟩) rfl rfl rfl rfl⟩, ?_⟩)
theorem leads125 (hS : SumsOK Try.prog (aget (sums125))) (ga0 : R23_Registry) (ata1 : Int) (ra2 : R23_Row) (res : R23_Registry) (h : R23_Registry_setF ga0 ata1 ra2 = some res) :
    Leads Try.prog 125 2 ⟨⟨125, 45, [(0, .pointer (some ⟨0, 0, none⟩)), (1, .int .i64 ata1), (2, .agg ⟨[.int .i64 ra2.ID, .int .i64 ra2.Weight, .bool ra2.Addr.V6, .int .u64 ra2.Addr.Hi, .int .u64 ra2.Addr.Lo, .bool ra2.Drain, .bool ra2.Health.Up, .int .i64 ra2.Health.Run]⟩)], [.code k125_23], [], false, none⟩, [], [(0, .cells [.int .i64 ga0.Rule.Rise, .int .i64 ga0.Rule.Fall, .slice (some ⟨1, 0, none⟩) ga0.L.length 8, .int .i64 ga0.Last, .int .i64 ga0.Version]), (1, .row true (vT cR23_Row ga0.L))], 2⟩ (fun v H _ => Res 2 (rx125 res) v H) := by
  unfold R23_Registry_setF at h
  refine ev_ok tab_ok hS true 3000 ?_
  conv => whnf
  have hl := loop125_1 hS _ _ _ res _ _ _ h rfl; simp only [head125_1] at hl
  refine Leads.nilT 6 8 ?_
  refine Leads.re hl [(0, 0), (1, 1), (2, 2), (3, 3)] rfl ?_ ?_ <;> (repeat' first | exact trivial | refine ⟨⟨_, rfl, rfl⟩, ?_⟩ | refine ⟨⟨_, _, rfl, rfl, .rowF (vI_flat _ _) id⟩, ?_⟩ | refine ⟨⟨_, _, rfl, rfl, .rowF (vS_flat _) id⟩, ?_⟩ | refine ⟨⟨_, _, rfl, rfl, .rowF (vB_flat _) id⟩, ?_⟩ | refine ⟨⟨_, _, rfl, rfl, .rowF (vT_flat (by first | exact chealth_Rule_flat | exact capi_Addr_flat | exact cR23_Step_flat | exact capi_Backend_flat | exact chealth_State_flat | exact cregistry_row_flat | exact cR23_Row_flat) _) id⟩, ?_⟩ | refine ⟨⟨_, _, rfl, rfl, .tyF (vI_flat _ _)⟩, ?_⟩ | refine ⟨⟨_, _, rfl, rfl, .ty rfl⟩, ?_⟩ | refine ⟨⟨_, _, rfl, rfl, .cells rfl⟩, ?_⟩ | refine ⟨⟨_, _, rfl, rfl, .row rfl id⟩, ?_⟩ | refine ⟨⟨_, _, rfl, rfl, .cr rfl⟩, ?_⟩ | refine ⟨⟨_, _, rfl, rfl, .rc rfl⟩, ?_⟩ | refine ⟨⟨_, _, rfl, rfl, .marks⟩, ?_⟩ | refine ⟨⟨_, _, rfl, rfl, .siter _ _⟩, ?_⟩ | refine ⟨⟨_, _, rfl, rfl, .loop rfl rfl rfl rfl (by repeat' first | exact trivial | refine ⟨rfl, ?_⟩) rfl rfl rfl rfl⟩, ?_⟩)
theorem ok125 (hS : SumsOK Try.prog (aget (sums125))) : SumOK Try.prog 125 (s125 (R23_Registry_setF)) := by
  refine SumOK.of_leads tab_ok (fun ar os r ha hr => ?_) ⟨Try.f125, rfl, by decide, rfl⟩
  replace hr : r125 (R23_Registry_setF) ar (conts os) = some r := hr
  unfold r125 at hr
  generalize hc : conts os = C at hr
  have hq := dTr.elim hr; clear hr; obtain ⟨v0, l1, c0, C, y0, rfl, rfl, e0, hr⟩ := hq; obtain ⟨rfl, rfl⟩ := udR23_Registry_eq e0; simp only [List.nil_append, List.cons_append] at hc
  replace hr := dV.elim hr; obtain ⟨v1, l2, y1, rfl, e1, hr⟩ := hr; obtain rfl := asI_eq _ _ _ e1
  replace hr := dV.elim hr; obtain ⟨v2, l3, y2, rfl, e2, hr⟩ := hr; obtain rfl := uvR23_Row_eq _ _ e2
  replace hr := dFin hr; obtain ⟨rfl, rfl, x, h, rfl⟩ := hr
  obtain ⟨os, rfl, ha, hc⟩ := kinds_some ha hc
  obtain ⟨os, rfl, ha, hc⟩ := kinds_some ha hc
  obtain rfl := kinds_nil hc
  exact ⟨_, rfl, leads125 hS _ _ _ x h⟩
def R23_Registry_set : R23_Registry → Int → R23_Row → Option R23_Registry := R23_Registry_setF
theorem lift125 : SumOK Try.prog 125 (s125 R23_Registry_set) := ok125 (SumsOK.of_tab trivial)
def R23_Registry_DrainF (R23_Registry_at : R23_Registry → Int → Option Int) (R23_Registry_set : R23_Registry → Int → R23_Row → Option R23_Registry) (ga0 : R23_Registry) (ida1 : Int) (on : Bool) : Option (Int × R23_Registry) :=
  (R23_Registry_at ga0 ida1).bind fun a =>
  cond (decide (a < 0))
    (
    some ((13, ga0)))
    (
    oreq (decide ((0 : Int) ≤ a ∧ a < (ga0.L.length : Int))) <|
    (ga0.L[a.toNat]?).bind fun (e : R23_Row) =>
    cond (e.Drain == on)
      (
      some ((11, ga0)))
      (
      (R23_Registry_set ga0 a (R23_Row.mk e.ID e.Weight e.Addr on e.Health)).bind fun s =>
      some ((0, s))))
def rx77 (x : Int × R23_Registry) : SRes := ⟨.int .i64 x.1, [(vT cR23_Row x.2.L)], [some [.int .i64 x.2.Rule.Rise, .int .i64 x.2.Rule.Fall, .slice (some ⟨0, 0, none⟩) x.2.L.length 8, .int .i64 x.2.Last, .int .i64 x.2.Version], none]⟩
def r77 (g : R23_Registry → Int → Bool → Option (Int × R23_Registry)) : Dec := dTr 2 (udR23_Registry 0) fun (y0 : R23_Registry) => dV (asI .i64) fun (y1 : Int) => dV asB fun (y2 : Bool) => dEnd (ofG (g y0 y1 y2) rx77)
theorem r77_c {g : R23_Registry → Int → Bool → Option (Int × R23_Registry)} {y0 : R23_Registry} {y1 : Int} {y2 : Bool} {x : Int × R23_Registry} (hx : g y0 y1 y2 = some x) : r77 g [.pointer (some ⟨0, 0, none⟩), .int .i64 y1, .bool y2] [some [.int .i64 y0.Rule.Rise, .int .i64 y0.Rule.Fall, .slice (some ⟨1, 0, none⟩) y0.L.length 8, .int .i64 y0.Last, .int .i64 y0.Version], some (vT cR23_Row y0.L)] = some (rx77 x) := (dTr_eq rfl rfl (udR23_Registry_c 0 _)).trans ((dV_eq (asI_c _)).trans ((dV_eq (asB_c)).trans (ofG_eq hx)))
def s77 (g : R23_Registry → Int → Bool → Option (Int × R23_Registry)) : Summ := ⟨[.tr [⟨none, 0, 0, 1, none⟩, ⟨some 0, 2, 0, 2, some 8⟩], .v, .v], r77 g⟩
theorem r77_eq {g : R23_Registry → Int → Bool → Option (Int × R23_Registry)} {y0 : R23_Registry} {y1 : Int} {y2 : Bool} {x : Int × R23_Registry} (hx : g y0 y1 y2 = some x) : (s77 g).run [.pointer (some ⟨0, 0, none⟩), .int .i64 y1, .bool y2] [some [.int .i64 y0.Rule.Rise, .int .i64 y0.Rule.Fall, .slice (some ⟨1, 0, none⟩) y0.L.length 8, .int .i64 y0.Last, .int .i64 y0.Version], some (vT cR23_Row y0.L)] = some (rx77 x) := r77_c hx
abbrev sums77 (R23_Registry_at : R23_Registry → Int → Option Int) (R23_Registry_set : R23_Registry → Int → R23_Row → Option R23_Registry) : List (Nat × Summ) := [(73, s73 R23_Registry_at), (125, s125 R23_Registry_set)]
theorem leads77 (R23_Registry_at : R23_Registry → Int → Option Int) (R23_Registry_set : R23_Registry → Int → R23_Row → Option R23_Registry) (hS : SumsOK Try.prog (aget (sums77 R23_Registry_at R23_Registry_set))) (ga0 : R23_Registry) (ida1 : Int) (on : Bool) (res : Int × R23_Registry) (h : R23_Registry_DrainF R23_Registry_at R23_Registry_set ga0 ida1 on = some res) :
    Leads Try.prog 77 2 ⟨⟨77, 31, [(0, .pointer (some ⟨0, 0, none⟩)), (1, .int .i64 ida1), (2, .bool on)], [.code k77_23], [], false, none⟩, [], [(0, .cells [.int .i64 ga0.Rule.Rise, .int .i64 ga0.Rule.Fall, .slice (some ⟨1, 0, none⟩) ga0.L.length 8, .int .i64 ga0.Last, .int .i64 ga0.Version]), (1, .row true (vT cR23_Row ga0.L))], 2⟩ (fun v H _ => Res 2 (rx77 res) v H) := by
  unfold R23_Registry_DrainF at h
  refine ev_ok tab_ok hS true 3000 ?_
  conv => whnf
  replace h := obind.elim h; obtain ⟨a, hy, h⟩ := h
  refine sumK.introF [] (sumRun_of (aqs := [.pointer (some ⟨0, 0, none⟩), .int .i64 ida1]) (ws := [.blk 0 false, .blk 1 false]) (n := 0) (m := 0) (t' := 2) (ra_cons (ra_tr rfl rfl (vp_at rfl rfl rfl rfl (vp_at rfl rfl (rn_T cR23_Row_flat) rfl vp_nil)) rfl) rfl (ra_cons rfl rfl ra_nil)) rfl (by rfl) (r73_eq hy) rfl rfl rfl rfl (wb_skip rfl (wb_skip rfl wb_nil)) an_nil rfl) ?_
  conv => whnf
  refine br.h h ?_ ?_ ?_
  · rfl
  · clear h; intro hb h; conv => whnf
    all_goals (cases h)
    all_goals exact Res.of [1] rfl (nw_s (rn_T cR23_Row_flat) (hs_row rfl) nw_0) (by decide) (js_r rfl js_0) (wr_s (rfl) (hs_cells rfl) (wr_n wr_0))
  clear h; intro hb h; conv => whnf
  replace h := oreq.elim h; obtain ⟨hb, h⟩ := h
  first | (refine req.intro hb ?_; conv => whnf) | skip
  replace h := obind.elim h; obtain ⟨e, hy, h⟩ := h
  refine ld_T cR23_Row_len hy (by first | omega | exact Nat.zero_add _ | exact congrArg (· + _) (Nat.zero_add _)) rfl ?_
  conv => whnf
  refine br.h h ?_ ?_ ?_
  · rfl
  · clear h; intro hb h; conv => whnf
    all_goals (cases h)
    all_goals exact Res.of [1] rfl (nw_s (rn_T cR23_Row_flat) (hs_row rfl) nw_0) (by decide) (js_r rfl js_0) (wr_s (rfl) (hs_cells rfl) (wr_n wr_0))
  clear h; intro hb h; conv => whnf
  replace h := obind.elim h; obtain ⟨s, hy, h⟩ := h
  refine sumK.introF [0] (sumRun_of (aqs := [.pointer (some ⟨0, 0, none⟩), .int .i64 a, .agg ⟨[.int .i64 e.ID, .int .i64 e.Weight, .bool e.Addr.V6, .int .u64 e.Addr.Hi, .int .u64 e.Addr.Lo, .bool on, .bool e.Health.Up, .int .i64 e.Health.Run]⟩]) (ws := [.blk 0 true, .blk 1 true]) (n := 1) (m := 0) (t' := 4) (ra_cons (ra_tr rfl rfl (vp_at rfl rfl rfl rfl (vp_at rfl rfl (rn_T cR23_Row_flat) rfl vp_nil)) rfl) rfl (ra_cons rfl rfl (ra_cons rfl rfl ra_nil))) rfl (by rfl) (r125_eq hy) rfl rfl rfl rfl (wb_blk rfl rfl rfl rfl (wb_del wb_nil)) (an_cons (rn_T cR23_Row_flat) an_nil) rfl) ?_
  conv => whnf
  all_goals (cases h)
  all_goals exact Res.of [3] rfl (nw_s (rn_T cR23_Row_flat) (hs_row rfl) nw_0) (by decide) (js_l (by decide) js_0) (wr_s (rfl) (hs_cells rfl) (wr_n wr_0))
theorem ok77 (R23_Registry_at : R23_Registry → Int → Option Int) (R23_Registry_set : R23_Registry → Int → R23_Row → Option R23_Registry) (hS : SumsOK Try.prog (aget (sums77 R23_Registry_at R23_Registry_set))) : SumOK Try.prog 77 (s77 (R23_Registry_DrainF R23_Registry_at R23_Registry_set)) := by
  refine SumOK.of_leads tab_ok (fun ar os r ha hr => ?_) ⟨Try.f77, rfl, by decide, rfl⟩
  replace hr : r77 (R23_Registry_DrainF R23_Registry_at R23_Registry_set) ar (conts os) = some r := hr
  unfold r77 at hr
  generalize hc : conts os = C at hr
  have hq := dTr.elim hr; clear hr; obtain ⟨v0, l1, c0, C, y0, rfl, rfl, e0, hr⟩ := hq; obtain ⟨rfl, rfl⟩ := udR23_Registry_eq e0; simp only [List.nil_append, List.cons_append] at hc
  replace hr := dV.elim hr; obtain ⟨v1, l2, y1, rfl, e1, hr⟩ := hr; obtain rfl := asI_eq _ _ _ e1
  replace hr := dV.elim hr; obtain ⟨v2, l3, y2, rfl, e2, hr⟩ := hr; obtain rfl := asB_eq _ _ e2
  replace hr := dFin hr; obtain ⟨rfl, rfl, x, h, rfl⟩ := hr
  obtain ⟨os, rfl, ha, hc⟩ := kinds_some ha hc
  obtain ⟨os, rfl, ha, hc⟩ := kinds_some ha hc
  obtain rfl := kinds_nil hc
  exact ⟨_, rfl, leads77 R23_Registry_at R23_Registry_set hS _ _ _ x h⟩
def R23_Registry_Drain : R23_Registry → Int → Bool → Option (Int × R23_Registry) := R23_Registry_DrainF R23_Registry_at R23_Registry_set
theorem lift77 : SumOK Try.prog 77 (s77 R23_Registry_Drain) := ok77 R23_Registry_at R23_Registry_set (SumsOK.of_tab ⟨lift73, lift125, trivial⟩)
def R23_Registry_ProbeF (R21_Put : health_Rule → health_State → Bool → Option (health_State × Bool)) (R23_Registry_at : R23_Registry → Int → Option Int) (R23_Registry_set : R23_Registry → Int → R23_Row → Option R23_Registry) (ga0 : R23_Registry) (ida1 : Int) (good : Bool) : Option (Bool × Int × R23_Registry) :=
  (R23_Registry_at ga0 ida1).bind fun a =>
  cond (decide (a < 0))
    (
    some ((false, 13, ga0)))
    (
    oreq (decide ((0 : Int) ≤ a ∧ a < (ga0.L.length : Int))) <|
    (ga0.L[a.toNat]?).bind fun (e : R23_Row) =>
    (R21_Put ga0.Rule e.Health good).bind fun p =>
    (R23_Registry_set ga0 a (R23_Row.mk e.ID e.Weight e.Addr e.Drain p.1)).bind fun s =>
    cond (!p.2)
      (
      some ((p.2, 0, R23_Registry.mk s.Rule s.L s.Last (wI .i64 (s.Version - 1)))))
      (
      some ((p.2, 0, s))))
def rx79 (x : Bool × Int × R23_Registry) : SRes := ⟨.tuple ⟨[.bool x.1, .int .i64 x.2.1]⟩, [(vT cR23_Row x.2.2.L)], [some [.int .i64 x.2.2.Rule.Rise, .int .i64 x.2.2.Rule.Fall, .slice (some ⟨0, 0, none⟩) x.2.2.L.length 8, .int .i64 x.2.2.Last, .int .i64 x.2.2.Version], none]⟩
def r79 (g : R23_Registry → Int → Bool → Option (Bool × Int × R23_Registry)) : Dec := dTr 2 (udR23_Registry 0) fun (y0 : R23_Registry) => dV (asI .i64) fun (y1 : Int) => dV asB fun (y2 : Bool) => dEnd (ofG (g y0 y1 y2) rx79)
theorem r79_c {g : R23_Registry → Int → Bool → Option (Bool × Int × R23_Registry)} {y0 : R23_Registry} {y1 : Int} {y2 : Bool} {x : Bool × Int × R23_Registry} (hx : g y0 y1 y2 = some x) : r79 g [.pointer (some ⟨0, 0, none⟩), .int .i64 y1, .bool y2] [some [.int .i64 y0.Rule.Rise, .int .i64 y0.Rule.Fall, .slice (some ⟨1, 0, none⟩) y0.L.length 8, .int .i64 y0.Last, .int .i64 y0.Version], some (vT cR23_Row y0.L)] = some (rx79 x) := (dTr_eq rfl rfl (udR23_Registry_c 0 _)).trans ((dV_eq (asI_c _)).trans ((dV_eq (asB_c)).trans (ofG_eq hx)))
def s79 (g : R23_Registry → Int → Bool → Option (Bool × Int × R23_Registry)) : Summ := ⟨[.tr [⟨none, 0, 0, 1, none⟩, ⟨some 0, 2, 0, 2, some 8⟩], .v, .v], r79 g⟩
theorem r79_eq {g : R23_Registry → Int → Bool → Option (Bool × Int × R23_Registry)} {y0 : R23_Registry} {y1 : Int} {y2 : Bool} {x : Bool × Int × R23_Registry} (hx : g y0 y1 y2 = some x) : (s79 g).run [.pointer (some ⟨0, 0, none⟩), .int .i64 y1, .bool y2] [some [.int .i64 y0.Rule.Rise, .int .i64 y0.Rule.Fall, .slice (some ⟨1, 0, none⟩) y0.L.length 8, .int .i64 y0.Last, .int .i64 y0.Version], some (vT cR23_Row y0.L)] = some (rx79 x) := r79_c hx
abbrev sums79 (R21_Put : health_Rule → health_State → Bool → Option (health_State × Bool)) (R23_Registry_at : R23_Registry → Int → Option Int) (R23_Registry_set : R23_Registry → Int → R23_Row → Option R23_Registry) : List (Nat × Summ) := [(126, s126 R21_Put), (73, s73 R23_Registry_at), (125, s125 R23_Registry_set)]
theorem leads79 (R21_Put : health_Rule → health_State → Bool → Option (health_State × Bool)) (R23_Registry_at : R23_Registry → Int → Option Int) (R23_Registry_set : R23_Registry → Int → R23_Row → Option R23_Registry) (hS : SumsOK Try.prog (aget (sums79 R21_Put R23_Registry_at R23_Registry_set))) (ga0 : R23_Registry) (ida1 : Int) (good : Bool) (res : Bool × Int × R23_Registry) (h : R23_Registry_ProbeF R21_Put R23_Registry_at R23_Registry_set ga0 ida1 good = some res) :
    Leads Try.prog 79 2 ⟨⟨79, 51, [(0, .pointer (some ⟨0, 0, none⟩)), (1, .int .i64 ida1), (2, .bool good)], [.code k79_24], [], false, none⟩, [], [(0, .cells [.int .i64 ga0.Rule.Rise, .int .i64 ga0.Rule.Fall, .slice (some ⟨1, 0, none⟩) ga0.L.length 8, .int .i64 ga0.Last, .int .i64 ga0.Version]), (1, .row true (vT cR23_Row ga0.L))], 2⟩ (fun v H _ => Res 2 (rx79 res) v H) := by
  unfold R23_Registry_ProbeF at h
  refine ev_ok tab_ok hS true 3000 ?_
  conv => whnf
  replace h := obind.elim h; obtain ⟨a, hy, h⟩ := h
  refine sumK.introF [] (sumRun_of (aqs := [.pointer (some ⟨0, 0, none⟩), .int .i64 ida1]) (ws := [.blk 0 false, .blk 1 false]) (n := 0) (m := 0) (t' := 2) (ra_cons (ra_tr rfl rfl (vp_at rfl rfl rfl rfl (vp_at rfl rfl (rn_T cR23_Row_flat) rfl vp_nil)) rfl) rfl (ra_cons rfl rfl ra_nil)) rfl (by rfl) (r73_eq hy) rfl rfl rfl rfl (wb_skip rfl (wb_skip rfl wb_nil)) an_nil rfl) ?_
  conv => whnf
  refine br.h h ?_ ?_ ?_
  · rfl
  · clear h; intro hb h; conv => whnf
    all_goals (cases h)
    all_goals exact Res.of [1] rfl (nw_s (rn_T cR23_Row_flat) (hs_row rfl) nw_0) (by decide) (js_r rfl js_0) (wr_s (rfl) (hs_cells rfl) (wr_n wr_0))
  clear h; intro hb h; conv => whnf
  replace h := oreq.elim h; obtain ⟨hb, h⟩ := h
  first | (refine req.intro hb ?_; conv => whnf) | skip
  replace h := obind.elim h; obtain ⟨e, hy, h⟩ := h
  refine ld_T cR23_Row_len hy (by first | omega | exact Nat.zero_add _ | exact congrArg (· + _) (Nat.zero_add _)) rfl ?_
  conv => whnf
  replace h := obind.elim h; obtain ⟨p, hy, h⟩ := h
  refine sumK.q rfl rfl (r126_eq hy) rfl rfl rfl ?_
  conv => whnf
  replace h := obind.elim h; obtain ⟨s, hy, h⟩ := h
  refine sumK.introF [0] (sumRun_of (aqs := [.pointer (some ⟨0, 0, none⟩), .int .i64 a, .agg ⟨[.int .i64 e.ID, .int .i64 e.Weight, .bool e.Addr.V6, .int .u64 e.Addr.Hi, .int .u64 e.Addr.Lo, .bool e.Drain, .bool p.1.Up, .int .i64 p.1.Run]⟩]) (ws := [.blk 0 true, .blk 1 true]) (n := 1) (m := 0) (t' := 18) (ra_cons (ra_tr rfl rfl (vp_at rfl rfl rfl rfl (vp_at rfl rfl (rn_T cR23_Row_flat) rfl vp_nil)) rfl) rfl (ra_cons rfl rfl (ra_cons rfl rfl ra_nil))) rfl (by rfl) (r125_eq hy) rfl rfl rfl rfl (wb_blk rfl rfl rfl rfl (wb_del wb_nil)) (an_cons (rn_T cR23_Row_flat) an_nil) rfl) ?_
  conv => whnf
  refine br.h h ?_ ?_ ?_
  · rfl
  · clear h; intro hb h; conv => whnf
    all_goals (cases h)
    all_goals exact Res.of [17] rfl (nw_s (rn_T cR23_Row_flat) (hs_row rfl) nw_0) (by decide) (js_l (by decide) js_0) (wr_s (rfl) (hs_cells rfl) (wr_n wr_0))
  clear h; intro hb h; conv => whnf
  all_goals (cases h)
  all_goals exact Res.of [17] rfl (nw_s (rn_T cR23_Row_flat) (hs_row rfl) nw_0) (by decide) (js_l (by decide) js_0) (wr_s (rfl) (hs_cells rfl) (wr_n wr_0))
theorem ok79 (R21_Put : health_Rule → health_State → Bool → Option (health_State × Bool)) (R23_Registry_at : R23_Registry → Int → Option Int) (R23_Registry_set : R23_Registry → Int → R23_Row → Option R23_Registry) (hS : SumsOK Try.prog (aget (sums79 R21_Put R23_Registry_at R23_Registry_set))) : SumOK Try.prog 79 (s79 (R23_Registry_ProbeF R21_Put R23_Registry_at R23_Registry_set)) := by
  refine SumOK.of_leads tab_ok (fun ar os r ha hr => ?_) ⟨Try.f79, rfl, by decide, rfl⟩
  replace hr : r79 (R23_Registry_ProbeF R21_Put R23_Registry_at R23_Registry_set) ar (conts os) = some r := hr
  unfold r79 at hr
  generalize hc : conts os = C at hr
  have hq := dTr.elim hr; clear hr; obtain ⟨v0, l1, c0, C, y0, rfl, rfl, e0, hr⟩ := hq; obtain ⟨rfl, rfl⟩ := udR23_Registry_eq e0; simp only [List.nil_append, List.cons_append] at hc
  replace hr := dV.elim hr; obtain ⟨v1, l2, y1, rfl, e1, hr⟩ := hr; obtain rfl := asI_eq _ _ _ e1
  replace hr := dV.elim hr; obtain ⟨v2, l3, y2, rfl, e2, hr⟩ := hr; obtain rfl := asB_eq _ _ e2
  replace hr := dFin hr; obtain ⟨rfl, rfl, x, h, rfl⟩ := hr
  obtain ⟨os, rfl, ha, hc⟩ := kinds_some ha hc
  obtain ⟨os, rfl, ha, hc⟩ := kinds_some ha hc
  obtain rfl := kinds_nil hc
  exact ⟨_, rfl, leads79 R21_Put R23_Registry_at R23_Registry_set hS _ _ _ x h⟩
def R23_Registry_Probe : R23_Registry → Int → Bool → Option (Bool × Int × R23_Registry) := R23_Registry_ProbeF R21_Put R23_Registry_at R23_Registry_set
theorem lift79 : SumOK Try.prog 79 (s79 R23_Registry_Probe) := ok79 R21_Put R23_Registry_at R23_Registry_set (SumsOK.of_tab ⟨lift126, lift73, lift125, trivial⟩)
def R23_Registry_RemoveF (R23_Registry_at : R23_Registry → Int → Option Int) (ga0 : R23_Registry) (ida1 : Int) : Option (Int × R23_Registry) :=
  (R23_Registry_at ga0 ida1).bind fun a =>
  cond (decide (a < 0))
    (
    some ((13, ga0)))
    (
    oreq (decide ((0 : Int) ≤ a ∧ a ≤ (ga0.L.length : Int))) <|
    oreq (decide (a.toNat ≤ ga0.L.length)) <|
    oreq (decide (a.toNat * 64 ≤ 2 ^ 47)) <|
    oreq (decide ((0 : Int) ≤ (wI .i64 (a + 1)) ∧ (wI .i64 (a + 1)) ≤ (ga0.L.length : Int))) <|
    oreq (decide ((wI .i64 (a + 1)).toNat + (ga0.L.length - (wI .i64 (a + 1)).toNat) ≤ ga0.L.length)) <|
    oreq (decide (((ga0.L.take a.toNat).length + (ga0.L.length - (wI .i64 (a + 1)).toNat)) * 64 ≤ 2 ^ 47)) <|
    let row := (ga0.L.take a.toNat) ++ ((ga0.L.drop (wI .i64 (a + 1)).toNat).take (ga0.L.length - (wI .i64 (a + 1)).toNat))
    some ((0, R23_Registry.mk ga0.Rule row ga0.Last (wI .i64 (ga0.Version + 1)))))
def rx76 (x : Int × R23_Registry) : SRes := ⟨.int .i64 x.1, [(vT cR23_Row x.2.L)], [some [.int .i64 x.2.Rule.Rise, .int .i64 x.2.Rule.Fall, .slice (some ⟨0, 0, none⟩) x.2.L.length 8, .int .i64 x.2.Last, .int .i64 x.2.Version], none]⟩
def r76 (g : R23_Registry → Int → Option (Int × R23_Registry)) : Dec := dTr 2 (udR23_Registry 0) fun (y0 : R23_Registry) => dV (asI .i64) fun (y1 : Int) => dEnd (ofG (g y0 y1) rx76)
theorem r76_c {g : R23_Registry → Int → Option (Int × R23_Registry)} {y0 : R23_Registry} {y1 : Int} {x : Int × R23_Registry} (hx : g y0 y1 = some x) : r76 g [.pointer (some ⟨0, 0, none⟩), .int .i64 y1] [some [.int .i64 y0.Rule.Rise, .int .i64 y0.Rule.Fall, .slice (some ⟨1, 0, none⟩) y0.L.length 8, .int .i64 y0.Last, .int .i64 y0.Version], some (vT cR23_Row y0.L)] = some (rx76 x) := (dTr_eq rfl rfl (udR23_Registry_c 0 _)).trans ((dV_eq (asI_c _)).trans (ofG_eq hx))
def s76 (g : R23_Registry → Int → Option (Int × R23_Registry)) : Summ := ⟨[.tr [⟨none, 0, 0, 1, none⟩, ⟨some 0, 2, 0, 2, some 8⟩], .v], r76 g⟩
theorem r76_eq {g : R23_Registry → Int → Option (Int × R23_Registry)} {y0 : R23_Registry} {y1 : Int} {x : Int × R23_Registry} (hx : g y0 y1 = some x) : (s76 g).run [.pointer (some ⟨0, 0, none⟩), .int .i64 y1] [some [.int .i64 y0.Rule.Rise, .int .i64 y0.Rule.Fall, .slice (some ⟨1, 0, none⟩) y0.L.length 8, .int .i64 y0.Last, .int .i64 y0.Version], some (vT cR23_Row y0.L)] = some (rx76 x) := r76_c hx
abbrev sums76 (R23_Registry_at : R23_Registry → Int → Option Int) : List (Nat × Summ) := [(73, s73 R23_Registry_at)]
theorem leads76 (R23_Registry_at : R23_Registry → Int → Option Int) (hS : SumsOK Try.prog (aget (sums76 R23_Registry_at))) (ga0 : R23_Registry) (ida1 : Int) (res : Int × R23_Registry) (h : R23_Registry_RemoveF R23_Registry_at ga0 ida1 = some res) :
    Leads Try.prog 76 2 ⟨⟨76, 39, [(0, .pointer (some ⟨0, 0, none⟩)), (1, .int .i64 ida1)], [.code k76_19], [], false, none⟩, [], [(0, .cells [.int .i64 ga0.Rule.Rise, .int .i64 ga0.Rule.Fall, .slice (some ⟨1, 0, none⟩) ga0.L.length 8, .int .i64 ga0.Last, .int .i64 ga0.Version]), (1, .row true (vT cR23_Row ga0.L))], 2⟩ (fun v H _ => Res 2 (rx76 res) v H) := by
  unfold R23_Registry_RemoveF at h
  refine ev_ok tab_ok hS true 3000 ?_
  conv => whnf
  replace h := obind.elim h; obtain ⟨a, hy, h⟩ := h
  refine sumK.introF [] (sumRun_of (aqs := [.pointer (some ⟨0, 0, none⟩), .int .i64 ida1]) (ws := [.blk 0 false, .blk 1 false]) (n := 0) (m := 0) (t' := 2) (ra_cons (ra_tr rfl rfl (vp_at rfl rfl rfl rfl (vp_at rfl rfl (rn_T cR23_Row_flat) rfl vp_nil)) rfl) rfl (ra_cons rfl rfl ra_nil)) rfl (by rfl) (r73_eq hy) rfl rfl rfl rfl (wb_skip rfl (wb_skip rfl wb_nil)) an_nil rfl) ?_
  conv => whnf
  refine br.h h ?_ ?_ ?_
  · rfl
  · clear h; intro hb h; conv => whnf
    all_goals (cases h)
    all_goals exact Res.of [1] rfl (nw_s (rn_T cR23_Row_flat) (hs_row rfl) nw_0) (by decide) (js_r rfl js_0) (wr_s (rfl) (hs_cells rfl) (wr_n wr_0))
  clear h; intro hb h; conv => whnf
  replace h := oreq.elim h; obtain ⟨hb, h⟩ := h
  first | (refine req.intro hb ?_; conv => whnf) | skip
  replace h := oreq.elim h; obtain ⟨hb, h⟩ := h
  refine req.intro (by (first | rfl | (simp [wI, vI, vB, vS, bI, oneC, addrBlk, cellsL, Value.cells] at *; omega) | (simp [vI, vB, vS, bI, oneC, addrBlk, cellsL, Value.cells] at *; omega) | (simp [vI, vB, vS, bI, oneC, addrBlk, cellsL, Value.cells] at *; done))) ?_
  conv => whnf
  replace h := oreq.elim h; obtain ⟨hb, h⟩ := h
  refine req.intro (ap0_req (of_decide_eq_true hb) (by first | rfl | omega | (simp; done) | (simp; omega) | (simp at *; omega))) ?_
  conv => whnf
  refine pk_ap0T (f := cR23_Row) (ys := ga0.L.take a.toNat) (by first | rfl | (simp; done) | (simp [vI, vB, vS, List.map_drop, List.map_take]; done)) (by first | rfl | omega | (simp; done) | (simp; omega) | (simp at *; omega)) ?_
  conv => whnf
  replace h := oreq.elim h; obtain ⟨hb, h⟩ := h
  first | (refine req.intro hb ?_; conv => whnf) | skip
  replace h := oreq.elim h; obtain ⟨hb, h⟩ := h
  refine req.intro (by (first | rfl | (simp [wI, vI, vB, vS, bI, oneC, addrBlk, cellsL, Value.cells] at *; omega) | (simp [vI, vB, vS, bI, oneC, addrBlk, cellsL, Value.cells] at *; omega) | (simp [vI, vB, vS, bI, oneC, addrBlk, cellsL, Value.cells] at *; done))) ?_
  conv => whnf
  replace h := oreq.elim h; obtain ⟨hb, h⟩ := h
  refine req.intro (ap_req (of_decide_eq_true hb) (by first | rfl | omega | (simp; done) | (simp; omega) | (simp at *; omega)) rfl (by first | rfl | omega | (simp; done) | (simp; omega) | (simp at *; omega)) (by first | rfl | exact vI_one _ _ | exact vS_one _ | exact vB_one _ | exact vT_one (by first | exact chealth_Rule_one | exact capi_Addr_one | exact cR23_Step_one | exact capi_Backend_one | exact chealth_State_one | exact cregistry_row_one | exact cR23_Row_one) _ | (rw [ofBytes_vI]; exact vI_one _ _) | (simp [vI_one, vS_one, vB_one, vI_drop, vI_take, vS_drop, vS_take]; done) | (simp; exact List.all_eq_true.1 (vT_one (by first | exact chealth_Rule_one | exact capi_Addr_one | exact cR23_Step_one | exact capi_Backend_one | exact chealth_State_one | exact cregistry_row_one | exact cR23_Row_one) _))) rfl) ?_
  conv => whnf
  let row : List R23_Row := (ga0.L.take a.toNat) ++ ((ga0.L.drop (wI .i64 (a + 1)).toNat).take (ga0.L.length - (wI .i64 (a + 1)).toNat))
  refine pk_apT cR23_Row_len (xs := ga0.L.take a.toNat) (ys := (ga0.L.drop (wI .i64 (a + 1)).toNat).take (ga0.L.length - (wI .i64 (a + 1)).toNat)) (by first | rfl | (simp; done) | (simp [vI, vB, vS, List.map_drop, List.map_take]; done)) (by first | rfl | omega) (by first | rfl | omega | (simp; done) | (simp; omega) | (simp at *; omega)) (by first | rfl | omega | (simp; done) | (simp; omega) | (simp at *; omega)) ?_
  conv => whnf
  all_goals (cases h)
  all_goals exact Res.of [3] rfl (nw_s (rn_T cR23_Row_flat) (hs_row rfl) nw_0) (by decide) (js_l (by decide) js_0) (wr_s (rfl) (hs_cells rfl) (wr_n wr_0))
theorem ok76 (R23_Registry_at : R23_Registry → Int → Option Int) (hS : SumsOK Try.prog (aget (sums76 R23_Registry_at))) : SumOK Try.prog 76 (s76 (R23_Registry_RemoveF R23_Registry_at)) := by
  refine SumOK.of_leads tab_ok (fun ar os r ha hr => ?_) ⟨Try.f76, rfl, by decide, rfl⟩
  replace hr : r76 (R23_Registry_RemoveF R23_Registry_at) ar (conts os) = some r := hr
  unfold r76 at hr
  generalize hc : conts os = C at hr
  have hq := dTr.elim hr; clear hr; obtain ⟨v0, l1, c0, C, y0, rfl, rfl, e0, hr⟩ := hq; obtain ⟨rfl, rfl⟩ := udR23_Registry_eq e0; simp only [List.nil_append, List.cons_append] at hc
  replace hr := dV.elim hr; obtain ⟨v1, l2, y1, rfl, e1, hr⟩ := hr; obtain rfl := asI_eq _ _ _ e1
  replace hr := dFin hr; obtain ⟨rfl, rfl, x, h, rfl⟩ := hr
  obtain ⟨os, rfl, ha, hc⟩ := kinds_some ha hc
  obtain ⟨os, rfl, ha, hc⟩ := kinds_some ha hc
  obtain rfl := kinds_nil hc
  exact ⟨_, rfl, leads76 R23_Registry_at hS _ _ x h⟩
def R23_Registry_Remove : R23_Registry → Int → Option (Int × R23_Registry) := R23_Registry_RemoveF R23_Registry_at
theorem lift76 : SumOK Try.prog 76 (s76 R23_Registry_Remove) := ok76 R23_Registry_at (SumsOK.of_tab ⟨lift73, trivial⟩)
def R23_Registry_Reset_s1 (ga0 : R23_Registry) (i : Int) (out1 : List R23_Row) : Option (Sum (Int × (List R23_Row)) R23_Registry) :=
  cond (decide (i < (ga0.L.length : Int)))
    (
    oreq (decide ((0 : Int) ≤ i ∧ i < (ga0.L.length : Int))) <|
    (ga0.L[i.toNat]?).bind fun (e : R23_Row) =>
    oreq (decide ((out1.length + 1) * 64 ≤ 2 ^ 47)) <|
    let row := out1 ++ [R23_Row.mk e.ID e.Weight e.Addr e.Drain (health_State.mk true 0)]
    some (.inl (wI .i64 (i + 1), row)))
    (
    some (.inr (R23_Registry.mk ga0.Rule out1 ga0.Last (wI .i64 (ga0.Version + 1)))))
def R23_Registry_ResetF (ga0 : R23_Registry) : Option R23_Registry :=
  iter (fun st => R23_Registry_Reset_s1 ga0 st.1 st.2) FUEL (0, [])
def rx80 (x : R23_Registry) : SRes := ⟨.tuple ⟨[]⟩, [(vT cR23_Row x.L)], [some [.int .i64 x.Rule.Rise, .int .i64 x.Rule.Fall, .slice (some ⟨0, 0, none⟩) x.L.length 8, .int .i64 x.Last, .int .i64 x.Version], none]⟩
def r80 (g : R23_Registry → Option R23_Registry) : Dec := dTr 2 (udR23_Registry 0) fun (y0 : R23_Registry) => dEnd (ofG (g y0) rx80)
theorem r80_c {g : R23_Registry → Option R23_Registry} {y0 : R23_Registry} {x : R23_Registry} (hx : g y0 = some x) : r80 g [.pointer (some ⟨0, 0, none⟩)] [some [.int .i64 y0.Rule.Rise, .int .i64 y0.Rule.Fall, .slice (some ⟨1, 0, none⟩) y0.L.length 8, .int .i64 y0.Last, .int .i64 y0.Version], some (vT cR23_Row y0.L)] = some (rx80 x) := (dTr_eq rfl rfl (udR23_Registry_c 0 _)).trans (ofG_eq hx)
def s80 (g : R23_Registry → Option R23_Registry) : Summ := ⟨[.tr [⟨none, 0, 0, 1, none⟩, ⟨some 0, 2, 0, 2, some 8⟩]], r80 g⟩
theorem r80_eq {g : R23_Registry → Option R23_Registry} {y0 : R23_Registry} {x : R23_Registry} (hx : g y0 = some x) : (s80 g).run [.pointer (some ⟨0, 0, none⟩)] [some [.int .i64 y0.Rule.Rise, .int .i64 y0.Rule.Fall, .slice (some ⟨1, 0, none⟩) y0.L.length 8, .int .i64 y0.Last, .int .i64 y0.Version], some (vT cR23_Row y0.L)] = some (rx80 x) := r80_c hx
abbrev sums80 : List (Nat × Summ) := []
def head80_1 (ga0 : R23_Registry) (i : Int) (out1 : List R23_Row) : VM :=
  ⟨⟨80, 38, [(0, .pointer (some ⟨0, 0, none⟩)), (2, .slice (some ⟨2, 0, none⟩) out1.length 8), (3, .int .i64 i)], [.code k80_13, .inLoop k80_13, .inBlock 0, .code k80_19], [], false, none⟩, [], [(0, .cells [.int .i64 ga0.Rule.Rise, .int .i64 ga0.Rule.Fall, .slice (some ⟨1, 0, none⟩) ga0.L.length 8, .int .i64 ga0.Last, .int .i64 ga0.Version]), (1, .row true (vT cR23_Row ga0.L)), (2, .row true (vT cR23_Row out1))], 3⟩
theorem loop80_1 (hS : SumsOK Try.prog (aget (sums80))) (ga0 : R23_Registry) (res : R23_Registry) : ∀ fuel (st : Int × (List R23_Row)) (o : R23_Registry), iter (fun st => R23_Registry_Reset_s1 ga0 st.1 st.2) fuel st = some o → (o = res) →
    Leads Try.prog 80 2 (head80_1 ga0 st.1 st.2) (fun v H _ => Res 2 (rx80 res) v H) := by
  intro fuel st o h hc
  refine iter_leads (head := fun st => head80_1 ga0 st.1 st.2) (C := fun o => (o = res)) ?_ fuel st o h hc
  clear h hc o st fuel
  intro st o h hc
  obtain ⟨i, out1⟩ := st
  replace h : R23_Registry_Reset_s1 ga0 i out1 = some o := h
  show Leads Try.prog 80 2 (head80_1 ga0 i out1) (fun v H _ => Res 2 (rx80 res) v H)
  unfold R23_Registry_Reset_s1 at h
  refine ev_ok tab_ok hS true 3000 ?_
  conv => whnf
  refine br.h2 h ?_ ?_ ?_
  · rfl
  · clear h; intro hb h; conv => whnf
    all_goals (cases h; cases hc)
    all_goals exact Res.of [2] rfl (nw_s (rn_T cR23_Row_flat) (hs_row rfl) nw_0) (by decide) (js_l (by decide) js_0) (wr_s (rfl) (hs_cells rfl) (wr_n wr_0))
  clear h; intro hb h; conv => whnf
  replace h := oreq.elim h; obtain ⟨hb, h⟩ := h
  first | (refine req.intro hb ?_; conv => whnf) | skip
  replace h := obind.elim h; obtain ⟨e, hy, h⟩ := h
  refine ld_T cR23_Row_len hy (by first | omega | exact Nat.zero_add _ | exact congrArg (· + _) (Nat.zero_add _)) rfl ?_
  conv => whnf
  replace h := oreq.elim h; obtain ⟨hb, h⟩ := h
  refine req.intro (ap_req (of_decide_eq_true hb) (by first | rfl | omega | (simp; done) | (simp; omega) | (simp at *; omega)) rfl (by first | rfl | omega | (simp; done) | (simp; omega) | (simp at *; omega)) (by first | rfl | exact vI_one _ _ | exact vS_one _ | exact vB_one _ | exact vT_one (by first | exact chealth_Rule_one | exact capi_Addr_one | exact cR23_Step_one | exact capi_Backend_one | exact chealth_State_one | exact cregistry_row_one | exact cR23_Row_one) _ | (rw [ofBytes_vI]; exact vI_one _ _) | (simp [vI_one, vS_one, vB_one, vI_drop, vI_take, vS_drop, vS_take]; done) | (simp; exact List.all_eq_true.1 (vT_one (by first | exact chealth_Rule_one | exact capi_Addr_one | exact cR23_Step_one | exact capi_Backend_one | exact chealth_State_one | exact cregistry_row_one | exact cR23_Row_one) _))) rfl) ?_
  conv => whnf
  let row : List R23_Row := out1 ++ [R23_Row.mk e.ID e.Weight e.Addr e.Drain (health_State.mk true 0)]
  refine pk_apT cR23_Row_len (xs := out1) (ys := [R23_Row.mk e.ID e.Weight e.Addr e.Drain (health_State.mk true 0)]) rfl (by first | rfl | omega) (by first | rfl | omega | (simp; done) | (simp; omega) | (simp at *; omega)) (by first | rfl | omega | (simp; done) | (simp; omega) | (simp at *; omega)) ?_
  conv => whnf
  cases h; simp only [Sum.elim_inl, head80_1] at hc
  refine Leads.re hc [(0, 0), (1, 1), (2, 5)] rfl ?_ ?_ <;> (repeat' first | exact trivial | refine ⟨⟨_, rfl, rfl⟩, ?_⟩ | refine ⟨⟨_, _, rfl, rfl, .rowF (vI_flat _ _) id⟩, ?_⟩ | refine ⟨⟨_, _, rfl, rfl, .rowF (vS_flat _) id⟩, ?_⟩ | refine ⟨⟨_, _, rfl, rfl, .rowF (vB_flat _) id⟩, ?_⟩ | refine ⟨⟨_, _, rfl, rfl, .rowF (vT_flat (by first | exact chealth_Rule_flat | exact capi_Addr_flat | exact cR23_Step_flat | exact capi_Backend_flat | exact chealth_State_flat | exact cregistry_row_flat | exact cR23_Row_flat) _) id⟩, ?_⟩ | refine ⟨⟨_, _, rfl, rfl, .tyF (vI_flat _ _)⟩, ?_⟩ | refine ⟨⟨_, _, rfl, rfl, .ty rfl⟩, ?_⟩ | refine ⟨⟨_, _, rfl, rfl, .cells rfl⟩, ?_⟩ | refine ⟨⟨_, _, rfl, rfl, .row rfl id⟩, ?_⟩ | refine ⟨⟨_, _, rfl, rfl, .cr rfl⟩, ?_⟩ | refine ⟨⟨_, _, rfl, rfl, .rc rfl⟩, ?_⟩ | refine ⟨⟨_, _, rfl, rfl, .marks⟩, ?_⟩ | refine ⟨⟨_, _, rfl, rfl, .siter _ _⟩, ?_⟩ | refine ⟨⟨_, _, rfl, rfl, .loop rfl rfl rfl rfl (by repeat' first | exact trivial | refine ⟨rfl, ?_⟩) rfl rfl rfl rfl⟩, ?_⟩)
theorem leads80 (hS : SumsOK Try.prog (aget (sums80))) (ga0 : R23_Registry) (res : R23_Registry) (h : R23_Registry_ResetF ga0 = some res) :
    Leads Try.prog 80 2 ⟨⟨80, 38, [(0, .pointer (some ⟨0, 0, none⟩))], [.code k80_21], [], false, none⟩, [], [(0, .cells [.int .i64 ga0.Rule.Rise, .int .i64 ga0.Rule.Fall, .slice (some ⟨1, 0, none⟩) ga0.L.length 8, .int .i64 ga0.Last, .int .i64 ga0.Version]), (1, .row true (vT cR23_Row ga0.L))], 2⟩ (fun v H _ => Res 2 (rx80 res) v H) := by
  unfold R23_Registry_ResetF at h
  refine ev_ok tab_ok hS true 3000 ?_
  conv => whnf
  have hl := loop80_1 hS _ res _ _ _ h rfl; simp only [head80_1] at hl
  refine Leads.nilT 2 8 ?_
  refine Leads.re hl [(0, 0), (1, 1), (2, 2)] rfl ?_ ?_ <;> (repeat' first | exact trivial | refine ⟨⟨_, rfl, rfl⟩, ?_⟩ | refine ⟨⟨_, _, rfl, rfl, .rowF (vI_flat _ _) id⟩, ?_⟩ | refine ⟨⟨_, _, rfl, rfl, .rowF (vS_flat _) id⟩, ?_⟩ | refine ⟨⟨_, _, rfl, rfl, .rowF (vB_flat _) id⟩, ?_⟩ | refine ⟨⟨_, _, rfl, rfl, .rowF (vT_flat (by first | exact chealth_Rule_flat | exact capi_Addr_flat | exact cR23_Step_flat | exact capi_Backend_flat | exact chealth_State_flat | exact cregistry_row_flat | exact cR23_Row_flat) _) id⟩, ?_⟩ | refine ⟨⟨_, _, rfl, rfl, .tyF (vI_flat _ _)⟩, ?_⟩ | refine ⟨⟨_, _, rfl, rfl, .ty rfl⟩, ?_⟩ | refine ⟨⟨_, _, rfl, rfl, .cells rfl⟩, ?_⟩ | refine ⟨⟨_, _, rfl, rfl, .row rfl id⟩, ?_⟩ | refine ⟨⟨_, _, rfl, rfl, .cr rfl⟩, ?_⟩ | refine ⟨⟨_, _, rfl, rfl, .rc rfl⟩, ?_⟩ | refine ⟨⟨_, _, rfl, rfl, .marks⟩, ?_⟩ | refine ⟨⟨_, _, rfl, rfl, .siter _ _⟩, ?_⟩ | refine ⟨⟨_, _, rfl, rfl, .loop rfl rfl rfl rfl (by repeat' first | exact trivial | refine ⟨rfl, ?_⟩) rfl rfl rfl rfl⟩, ?_⟩)
theorem ok80 (hS : SumsOK Try.prog (aget (sums80))) : SumOK Try.prog 80 (s80 (R23_Registry_ResetF)) := by
  refine SumOK.of_leads tab_ok (fun ar os r ha hr => ?_) ⟨Try.f80, rfl, by decide, rfl⟩
  replace hr : r80 (R23_Registry_ResetF) ar (conts os) = some r := hr
  unfold r80 at hr
  generalize hc : conts os = C at hr
  have hq := dTr.elim hr; clear hr; obtain ⟨v0, l1, c0, C, y0, rfl, rfl, e0, hr⟩ := hq; obtain ⟨rfl, rfl⟩ := udR23_Registry_eq e0; simp only [List.nil_append, List.cons_append] at hc
  replace hr := dFin hr; obtain ⟨rfl, rfl, x, h, rfl⟩ := hr
  obtain ⟨os, rfl, ha, hc⟩ := kinds_some ha hc
  obtain ⟨os, rfl, ha, hc⟩ := kinds_some ha hc
  obtain rfl := kinds_nil hc
  exact ⟨_, rfl, leads80 hS _ x h⟩
def R23_Registry_Reset : R23_Registry → Option R23_Registry := R23_Registry_ResetF
theorem lift80 : SumOK Try.prog 80 (s80 R23_Registry_Reset) := ok80 (SumsOK.of_tab trivial)
def R23_Registry_WeightF (R23_Registry_at : R23_Registry → Int → Option Int) (R23_Registry_set : R23_Registry → Int → R23_Row → Option R23_Registry) (R23_weighs : Int → Option Bool) (ga0 : R23_Registry) (ida1 : Int) (weight : Int) : Option (Int × R23_Registry) :=
  (R23_Registry_at ga0 ida1).bind fun a =>
  cond (decide (a < 0))
    (
    some ((13, ga0)))
    (
    (R23_weighs weight).bind fun w =>
    cond (!w)
      (
      some ((1, ga0)))
      (
      oreq (decide ((0 : Int) ≤ a ∧ a < (ga0.L.length : Int))) <|
      (ga0.L[a.toNat]?).bind fun (e : R23_Row) =>
      (R23_Registry_set ga0 a (R23_Row.mk e.ID weight e.Addr e.Drain e.Health)).bind fun s =>
      some ((0, s))))
def rx78 (x : Int × R23_Registry) : SRes := ⟨.int .i64 x.1, [(vT cR23_Row x.2.L)], [some [.int .i64 x.2.Rule.Rise, .int .i64 x.2.Rule.Fall, .slice (some ⟨0, 0, none⟩) x.2.L.length 8, .int .i64 x.2.Last, .int .i64 x.2.Version], none]⟩
def r78 (g : R23_Registry → Int → Int → Option (Int × R23_Registry)) : Dec := dTr 2 (udR23_Registry 0) fun (y0 : R23_Registry) => dV (asI .i64) fun (y1 : Int) => dV (asI .i64) fun (y2 : Int) => dEnd (ofG (g y0 y1 y2) rx78)
theorem r78_c {g : R23_Registry → Int → Int → Option (Int × R23_Registry)} {y0 : R23_Registry} {y1 : Int} {y2 : Int} {x : Int × R23_Registry} (hx : g y0 y1 y2 = some x) : r78 g [.pointer (some ⟨0, 0, none⟩), .int .i64 y1, .int .i64 y2] [some [.int .i64 y0.Rule.Rise, .int .i64 y0.Rule.Fall, .slice (some ⟨1, 0, none⟩) y0.L.length 8, .int .i64 y0.Last, .int .i64 y0.Version], some (vT cR23_Row y0.L)] = some (rx78 x) := (dTr_eq rfl rfl (udR23_Registry_c 0 _)).trans ((dV_eq (asI_c _)).trans ((dV_eq (asI_c _)).trans (ofG_eq hx)))
def s78 (g : R23_Registry → Int → Int → Option (Int × R23_Registry)) : Summ := ⟨[.tr [⟨none, 0, 0, 1, none⟩, ⟨some 0, 2, 0, 2, some 8⟩], .v, .v], r78 g⟩
theorem r78_eq {g : R23_Registry → Int → Int → Option (Int × R23_Registry)} {y0 : R23_Registry} {y1 : Int} {y2 : Int} {x : Int × R23_Registry} (hx : g y0 y1 y2 = some x) : (s78 g).run [.pointer (some ⟨0, 0, none⟩), .int .i64 y1, .int .i64 y2] [some [.int .i64 y0.Rule.Rise, .int .i64 y0.Rule.Fall, .slice (some ⟨1, 0, none⟩) y0.L.length 8, .int .i64 y0.Last, .int .i64 y0.Version], some (vT cR23_Row y0.L)] = some (rx78 x) := r78_c hx
abbrev sums78 (R23_Registry_at : R23_Registry → Int → Option Int) (R23_Registry_set : R23_Registry → Int → R23_Row → Option R23_Registry) (R23_weighs : Int → Option Bool) : List (Nat × Summ) := [(73, s73 R23_Registry_at), (125, s125 R23_Registry_set), (124, s124 R23_weighs)]
theorem leads78 (R23_Registry_at : R23_Registry → Int → Option Int) (R23_Registry_set : R23_Registry → Int → R23_Row → Option R23_Registry) (R23_weighs : Int → Option Bool) (hS : SumsOK Try.prog (aget (sums78 R23_Registry_at R23_Registry_set R23_weighs))) (ga0 : R23_Registry) (ida1 : Int) (weight : Int) (res : Int × R23_Registry) (h : R23_Registry_WeightF R23_Registry_at R23_Registry_set R23_weighs ga0 ida1 weight = some res) :
    Leads Try.prog 78 2 ⟨⟨78, 30, [(0, .pointer (some ⟨0, 0, none⟩)), (1, .int .i64 ida1), (2, .int .i64 weight)], [.code k78_23], [], false, none⟩, [], [(0, .cells [.int .i64 ga0.Rule.Rise, .int .i64 ga0.Rule.Fall, .slice (some ⟨1, 0, none⟩) ga0.L.length 8, .int .i64 ga0.Last, .int .i64 ga0.Version]), (1, .row true (vT cR23_Row ga0.L))], 2⟩ (fun v H _ => Res 2 (rx78 res) v H) := by
  unfold R23_Registry_WeightF at h
  refine ev_ok tab_ok hS true 3000 ?_
  conv => whnf
  replace h := obind.elim h; obtain ⟨a, hy, h⟩ := h
  refine sumK.introF [] (sumRun_of (aqs := [.pointer (some ⟨0, 0, none⟩), .int .i64 ida1]) (ws := [.blk 0 false, .blk 1 false]) (n := 0) (m := 0) (t' := 2) (ra_cons (ra_tr rfl rfl (vp_at rfl rfl rfl rfl (vp_at rfl rfl (rn_T cR23_Row_flat) rfl vp_nil)) rfl) rfl (ra_cons rfl rfl ra_nil)) rfl (by rfl) (r73_eq hy) rfl rfl rfl rfl (wb_skip rfl (wb_skip rfl wb_nil)) an_nil rfl) ?_
  conv => whnf
  refine br.h h ?_ ?_ ?_
  · rfl
  · clear h; intro hb h; conv => whnf
    all_goals (cases h)
    all_goals exact Res.of [1] rfl (nw_s (rn_T cR23_Row_flat) (hs_row rfl) nw_0) (by decide) (js_r rfl js_0) (wr_s (rfl) (hs_cells rfl) (wr_n wr_0))
  clear h; intro hb h; conv => whnf
  replace h := obind.elim h; obtain ⟨w, hy, h⟩ := h
  refine sumK.q rfl rfl (r124_eq hy) rfl rfl rfl ?_
  conv => whnf
  refine br.h h ?_ ?_ ?_
  · rfl
  · clear h; intro hb h; conv => whnf
    all_goals (cases h)
    all_goals exact Res.of [1] rfl (nw_s (rn_T cR23_Row_flat) (hs_row rfl) nw_0) (by decide) (js_r rfl js_0) (wr_s (rfl) (hs_cells rfl) (wr_n wr_0))
  clear h; intro hb h; conv => whnf
  replace h := oreq.elim h; obtain ⟨hb, h⟩ := h
  first | (refine req.intro hb ?_; conv => whnf) | skip
  replace h := obind.elim h; obtain ⟨e, hy, h⟩ := h
  refine ld_T cR23_Row_len hy (by first | omega | exact Nat.zero_add _ | exact congrArg (· + _) (Nat.zero_add _)) rfl ?_
  conv => whnf
  replace h := obind.elim h; obtain ⟨s, hy, h⟩ := h
  refine sumK.introF [0] (sumRun_of (aqs := [.pointer (some ⟨0, 0, none⟩), .int .i64 a, .agg ⟨[.int .i64 e.ID, .int .i64 weight, .bool e.Addr.V6, .int .u64 e.Addr.Hi, .int .u64 e.Addr.Lo, .bool e.Drain, .bool e.Health.Up, .int .i64 e.Health.Run]⟩]) (ws := [.blk 0 true, .blk 1 true]) (n := 1) (m := 0) (t' := 4) (ra_cons (ra_tr rfl rfl (vp_at rfl rfl rfl rfl (vp_at rfl rfl (rn_T cR23_Row_flat) rfl vp_nil)) rfl) rfl (ra_cons rfl rfl (ra_cons rfl rfl ra_nil))) rfl (by rfl) (r125_eq hy) rfl rfl rfl rfl (wb_blk rfl rfl rfl rfl (wb_del wb_nil)) (an_cons (rn_T cR23_Row_flat) an_nil) rfl) ?_
  conv => whnf
  all_goals (cases h)
  all_goals exact Res.of [3] rfl (nw_s (rn_T cR23_Row_flat) (hs_row rfl) nw_0) (by decide) (js_l (by decide) js_0) (wr_s (rfl) (hs_cells rfl) (wr_n wr_0))
theorem ok78 (R23_Registry_at : R23_Registry → Int → Option Int) (R23_Registry_set : R23_Registry → Int → R23_Row → Option R23_Registry) (R23_weighs : Int → Option Bool) (hS : SumsOK Try.prog (aget (sums78 R23_Registry_at R23_Registry_set R23_weighs))) : SumOK Try.prog 78 (s78 (R23_Registry_WeightF R23_Registry_at R23_Registry_set R23_weighs)) := by
  refine SumOK.of_leads tab_ok (fun ar os r ha hr => ?_) ⟨Try.f78, rfl, by decide, rfl⟩
  replace hr : r78 (R23_Registry_WeightF R23_Registry_at R23_Registry_set R23_weighs) ar (conts os) = some r := hr
  unfold r78 at hr
  generalize hc : conts os = C at hr
  have hq := dTr.elim hr; clear hr; obtain ⟨v0, l1, c0, C, y0, rfl, rfl, e0, hr⟩ := hq; obtain ⟨rfl, rfl⟩ := udR23_Registry_eq e0; simp only [List.nil_append, List.cons_append] at hc
  replace hr := dV.elim hr; obtain ⟨v1, l2, y1, rfl, e1, hr⟩ := hr; obtain rfl := asI_eq _ _ _ e1
  replace hr := dV.elim hr; obtain ⟨v2, l3, y2, rfl, e2, hr⟩ := hr; obtain rfl := asI_eq _ _ _ e2
  replace hr := dFin hr; obtain ⟨rfl, rfl, x, h, rfl⟩ := hr
  obtain ⟨os, rfl, ha, hc⟩ := kinds_some ha hc
  obtain ⟨os, rfl, ha, hc⟩ := kinds_some ha hc
  obtain rfl := kinds_nil hc
  exact ⟨_, rfl, leads78 R23_Registry_at R23_Registry_set R23_weighs hS _ _ _ x h⟩
def R23_Registry_Weight : R23_Registry → Int → Int → Option (Int × R23_Registry) := R23_Registry_WeightF R23_Registry_at R23_Registry_set R23_weighs
theorem lift78 : SumOK Try.prog 78 (s78 R23_Registry_Weight) := ok78 R23_Registry_at R23_Registry_set R23_weighs (SumsOK.of_tab ⟨lift73, lift125, lift124, trivial⟩)
end Go.Vm.Code
namespace Go.Vm.Code
open Go Go.Vm
def cv (r : registry_row) : R23_Row := ⟨r.Backend.ID, r.Backend.Weight, r.Backend.Addr, r.drains, r.health⟩
def cnv (g : registry_Registry) : R23_Registry := ⟨g.rule, g.rows.map cv, g.last, g.version⟩
theorem cnv_get (g : registry_Registry) {k : Nat} : (cnv g).L[k]? = g.rows[k]?.map cv := by simp [cnv]
theorem cnv_len (g : registry_Registry) : (cnv g).L.length = g.rows.length := by simp [cnv]
theorem rright_eq (r : health_Rule) : R21_Right r = some (ruleB r) := by
  unfold R21_Right R21_RightF ruleB
  by_cases h1 : r.Rise ≥ 1
  · rw [cond_p h1]
    by_cases h2 : r.Rise ≤ 100
    · rw [cond_p h2]
      by_cases h3 : r.Fall ≥ 1
      · rw [cond_p h3]; congr 1; rw [decide_eq_decide]; omega
      · rw [cond_n h3]; congr 1; symm; rw [decide_eq_false_iff_not]; omega
    · rw [cond_n h2]; congr 1; symm; rw [decide_eq_false_iff_not]; omega
  · rw [cond_n h1]; congr 1; symm; rw [decide_eq_false_iff_not]; omega
theorem rweighs_eq (n : Int) : R23_weighs n = some (weighB n) := by
  unfold R23_weighs R23_weighsF weighB
  by_cases h : n ≥ 0
  · rw [cond_p h]; congr 1; rw [decide_eq_decide]; omega
  · rw [cond_n h]; congr 1; symm; rw [decide_eq_false_iff_not]; omega
theorem raright_eq (a : api_Addr) : R04_Right a = some (adrB a) := by
  unfold R04_Right R04_RightF adrB
  cases a.V6
  · cases a.Hi == 0 <;> rfl
  · rfl
theorem rbackend_eq (r : registry_row) : R23_backend (cv r) = some (tld r) := by
  unfold R23_backend R23_backendF tld cv
  cases r.drains <;> cases r.health.Up <;> rfl
theorem at_yes {N : Int} {g : registry_Registry} (h : RI N g) {k : Nat} {r : registry_row} (hk : g.rows[k]? = some r) : R23_Registry_at (cnv g) r.Backend.ID = some (k : Int) := by
  unfold R23_Registry_at R23_Registry_atF
  have hl := (List.getElem?_eq_some_iff.1 hk).1
  have hlen := h.len
  refine iter_eq (fun _ => (k : Int)) (fun (s : Int) => 0 ≤ s ∧ s ≤ k) (fun s => ((k : Int) - s).toNat) ?_ FUEL 0 ⟨by omega, by omega⟩ (by rw [FUEL_eq]; omega)
  rintro s ⟨h0, h1⟩
  obtain ⟨i, rfl⟩ := Int.eq_ofNat_of_zero_le h0
  unfold R23_Registry_at_s1
  have hi : i < g.rows.length := by omega
  rw [cnv_len, cond_p (by omega), oreq_p ⟨by omega, by omega⟩, Int.toNat_natCast, cnv_get, List.getElem?_eq_getElem hi, Option.map_some, Option.bind_some]
  rcases Nat.lt_or_ge i k with hlt | hge
  · right
    have hne : ((cv g.rows[i]).ID == r.Backend.ID) = false := by
      rw [beq_eq_false_iff_ne]
      have := h.lt (List.getElem?_eq_getElem hi) hk hlt
      simp only [cv]; omega
    rw [hne, cond_false, wI64 (by omega) (by omega)]
    exact ⟨_, rfl, ⟨by omega, by omega⟩, by omega, by trivial⟩
  · left
    have e : i = k := by omega
    subst e
    have er : g.rows[i] = r := by rw [List.getElem?_eq_getElem hi] at hk; exact Option.some.inj hk
    rw [er, show ((cv r).ID == r.Backend.ID) = true from by simp [cv], cond_true]
theorem at_no {N : Int} {g : registry_Registry} (h : RI N g) {id : Int} (hn : ∀ (k : Nat) r, g.rows[k]? = some r → r.Backend.ID ≠ id) : R23_Registry_at (cnv g) id = some (-1) := by
  unfold R23_Registry_at R23_Registry_atF
  have hlen := h.len
  refine iter_eq (fun _ => -1) (fun (s : Int) => 0 ≤ s ∧ s ≤ g.rows.length) (fun s => ((g.rows.length : Int) - s).toNat) ?_ FUEL 0 ⟨by omega, by omega⟩ (by rw [FUEL_eq]; omega)
  rintro s ⟨h0, h1⟩
  obtain ⟨i, rfl⟩ := Int.eq_ofNat_of_zero_le h0
  unfold R23_Registry_at_s1
  rw [cnv_len]
  rcases Nat.lt_or_ge i g.rows.length with hi | hi
  · right
    have hne : ((cv g.rows[i]).ID == id) = false := by
      rw [beq_eq_false_iff_ne]
      exact hn i _ (List.getElem?_eq_getElem hi)
    rw [cond_p (by omega), oreq_p ⟨by omega, by omega⟩, Int.toNat_natCast, cnv_get, List.getElem?_eq_getElem hi, Option.map_some, Option.bind_some, hne, cond_false, wI64 (by omega) (by omega)]
    exact ⟨_, rfl, ⟨by omega, by omega⟩, by omega, by trivial⟩
  · left
    rw [cond_n (by omega)]
theorem set_eq {N : Int} {g : registry_Registry} (h : RI N g) (hN : N < 2 ^ 40) {k : Nat} {r : registry_row} (hk : g.rows[k]? = some r) (q : registry_row) : R23_Registry_set (cnv g) (k : Int) (cv q) = some (cnv (updR g k q 1)) := by
  unfold R23_Registry_set R23_Registry_setF
  have hl := (List.getElem?_eq_some_iff.1 hk).1
  have hlen := h.len; have v0 := h.ver0; have v1 := h.ver1
  have := iter_build (fun i => if i = k then cv q else cv (g.rows.getD i r)) g.rows.length (fun st => R23_Registry_set_s1 (cnv g) (k : Int) (cv q) st.1 st.2) (fun o => R23_Registry.mk g.rule o g.last (g.version + 1)) (n := FUEL) ?_ ?_ (by rw [FUEL_eq]; omega)
  · rw [this]
    congr 1
    show _ = R23_Registry.mk _ _ _ _
    congr 1
    apply List.ext_getElem?
    intro i
    simp only [List.getElem?_map, updR, List.getElem?_set]
    rcases Nat.lt_or_ge i g.rows.length with hi | hi
    · rw [List.getElem?_range hi]
      by_cases e : i = k
      · subst e; simp [hi]
      · rw [if_neg (Ne.symm e)]; simp [e, List.getElem?_eq_getElem hi]
    · rw [List.getElem?_eq_none (by simpa using hi), if_neg (by omega), List.getElem?_eq_none (by omega)]; rfl
  · intro i hi out ho
    simp only []
    unfold R23_Registry_set_s1
    rw [cnv_len, cond_p (by omega)]
    by_cases e : i = k
    · subst e
      rw [show ((i : Int) == (i : Int)) = true from by simp, cond_true, oreq_p (by omega), wI64 (by omega) (by omega), if_pos rfl]; rfl
    · rw [show ((i : Int) == (k : Int)) = false from by rw [beq_eq_false_iff_ne]; omega, cond_false, oreq_p ⟨by omega, by omega⟩, Int.toNat_natCast, cnv_get, List.getD_eq_getElem?_getD, List.getElem?_eq_getElem hi, Option.map_some, Option.bind_some, oreq_p (by omega), wI64 (by omega) (by omega), if_neg e]; rfl
  · intro out ho
    simp only []
    unfold R23_Registry_set_s1
    rw [cnv_len, cond_n (by omega)]
    show some (Sum.inr (R23_Registry.mk g.rule out g.last (wI .i64 (g.version + 1)))) = _
    rw [wI64 (by omega) (by omega)]
theorem radd_eq {N : Int} {g : registry_Registry} (h : RI N g) (hN : N < 2 ^ 40) (w : Int) (a : api_Addr) : R23_Registry_Add (cnv g) w a = some ((addG g w a).1, (addG g w a).2.1, cnv (addG g w a).2.2) := by
  unfold R23_Registry_Add R23_Registry_AddF addG
  rw [rweighs_eq, Option.bind_some, raright_eq, Option.bind_some]
  have hl := h.len; have h0 := h.last0; have h1 := h.last1; have v0 := h.ver0; have v1 := h.ver1
  cases hw : weighB w with
  | false => rfl
  | true =>
  cases ha : adrB a with
  | false => rfl
  | true =>
  simp only [Bool.not_true, cond_false, and_self, ↓reduceIte]
  rw [cnv_len]
  by_cases e1 : g.rows.length = 64
  · rw [cond_p (by omega), if_pos (.inl e1)]
  · rw [cond_n (by omega)]
    show cond (decide (g.last ≥ 65535)) _ _ = _
    by_cases e2 : g.last = 65535
    · rw [cond_p (by omega), if_pos (.inr e2)]
    · rw [cond_n (by omega), if_neg (by omega), oreq_p (by omega)]
      show some (wI .i64 (g.last + 1), 0, R23_Registry.mk g.rule (g.rows.map cv ++ [R23_Row.mk (wI .i64 (g.last + 1)) w a false ⟨true, 0⟩]) (wI .i64 (g.last + 1)) (wI .i64 (g.version + 1))) = _
      rw [wI64 (by omega) (by omega), wI64 (n := g.version + 1) (by omega) (by omega)]
      simp [cnv, cv, newRow]
theorem rdrain_yes {N : Int} {g : registry_Registry} (h : RI N g) (hN : N < 2 ^ 40) {k : Nat} {r : registry_row} (hk : g.rows[k]? = some r) (on : Bool) :
    R23_Registry_Drain (cnv g) r.Backend.ID on = some (if r.drains = on then (11, cnv g) else (0, cnv (updR g k ⟨r.Backend, on, r.health⟩ 1))) := by
  unfold R23_Registry_Drain R23_Registry_DrainF
  have hl := (List.getElem?_eq_some_iff.1 hk).1
  rw [at_yes h hk, Option.bind_some, cond_n (by omega), cnv_len, oreq_p ⟨by omega, by omega⟩, Int.toNat_natCast, cnv_get, hk, Option.map_some, Option.bind_some]
  show cond (r.drains == on) _ ((R23_Registry_set (cnv g) (k : Int) (cv ⟨r.Backend, on, r.health⟩)).bind _) = _
  rw [set_eq h hN hk, Option.bind_some]
  by_cases e : r.drains = on
  · rw [show (r.drains == on) = true from by simpa using e, cond_true, if_pos e]
  · rw [show (r.drains == on) = false from by simpa using e, cond_false, if_neg e]
theorem rdrain_no {N : Int} {g : registry_Registry} (h : RI N g) {id : Int} (hn : ∀ (k : Nat) r, g.rows[k]? = some r → r.Backend.ID ≠ id) (on : Bool) : R23_Registry_Drain (cnv g) id on = some (13, cnv g) := by
  unfold R23_Registry_Drain R23_Registry_DrainF
  rw [at_no h hn, Option.bind_some]; rfl
theorem rweight_yes {N : Int} {g : registry_Registry} (h : RI N g) (hN : N < 2 ^ 40) {k : Nat} {r : registry_row} (hk : g.rows[k]? = some r) (w : Int) :
    R23_Registry_Weight (cnv g) r.Backend.ID w = some (if weighB w then (0, cnv (updR g k ⟨⟨r.Backend.ID, w, r.Backend.State, r.Backend.Addr⟩, r.drains, r.health⟩ 1)) else (1, cnv g)) := by
  unfold R23_Registry_Weight R23_Registry_WeightF
  have hl := (List.getElem?_eq_some_iff.1 hk).1
  rw [at_yes h hk, Option.bind_some, cond_n (by omega), rweighs_eq, Option.bind_some, cnv_len, oreq_p ⟨by omega, by omega⟩, Int.toNat_natCast, cnv_get, hk, Option.map_some, Option.bind_some]
  show cond (!weighB w) _ ((R23_Registry_set (cnv g) (k : Int) (cv ⟨⟨r.Backend.ID, w, r.Backend.State, r.Backend.Addr⟩, r.drains, r.health⟩)).bind _) = _
  rw [set_eq h hN hk, Option.bind_some]
  cases weighB w <;> rfl
theorem rweight_no {N : Int} {g : registry_Registry} (h : RI N g) {id : Int} (hn : ∀ (k : Nat) r, g.rows[k]? = some r → r.Backend.ID ≠ id) (w : Int) : R23_Registry_Weight (cnv g) id w = some (13, cnv g) := by
  unfold R23_Registry_Weight R23_Registry_WeightF
  rw [at_no h hn, Option.bind_some]; rfl
theorem rput_eq (r : health_Rule) (s : health_State) (good : Bool) : R21_Put r s good = some (putS r s good) := by
  unfold R21_Put R21_PutF R21_may R21_mayF putS
  rw [rright_eq, Option.bind_some]
  cases hr : ruleB r with
  | false => rfl
  | true =>
  simp only [ruleB, decide_eq_true_eq] at hr
  simp only [cond_true, true_and]
  by_cases h0 : s.Run ≥ 0
  · rw [cond_p h0, Option.bind_some]
    by_cases h1 : s.Run ≤ 1048576
    · rw [decide_eq_true h1, if_pos ⟨h0, h1⟩, wI64 (by omega) (by omega)]
      simp only [Bool.not_true, cond_false]
      by_cases hg : good = s.Up
      · rw [show (good == s.Up) = true from by simpa using hg, cond_true, if_pos hg]
      · rw [show (good == s.Up) = false from by simpa using hg, cond_false, if_neg hg]
        cases s.Up
        · simp only [cond_false, Bool.false_eq_true, ↓reduceIte, cond_dec]
          split <;> rfl
        · simp only [cond_true, ↓reduceIte, cond_dec]
          split <;> rfl
    · rw [decide_eq_false h1, if_neg (by omega)]; rfl
  · rw [cond_n h0, if_neg (by omega)]; rfl
theorem rprobe_yes {N : Int} {g : registry_Registry} (h : RI N g) (hN : N < 2 ^ 40) {k : Nat} {r : registry_row} (hk : g.rows[k]? = some r) (good : Bool) :
    R23_Registry_Probe (cnv g) r.Backend.ID good = some ((putS g.rule r.health good).2, 0, cnv (updR g k ⟨r.Backend, r.drains, (putS g.rule r.health good).1⟩ (if (putS g.rule r.health good).2 then 1 else 0))) := by
  unfold R23_Registry_Probe R23_Registry_ProbeF
  have hl := (List.getElem?_eq_some_iff.1 hk).1
  have v0 := h.ver0; have v1 := h.ver1
  rw [at_yes h hk, Option.bind_some, cond_n (by omega), cnv_len, oreq_p ⟨by omega, by omega⟩, Int.toNat_natCast, cnv_get, hk, Option.map_some, Option.bind_some]
  show (R21_Put g.rule r.health good).bind _ = _
  rw [rput_eq, Option.bind_some]
  show ((R23_Registry_set (cnv g) (k : Int) (cv ⟨r.Backend, r.drains, (putS g.rule r.health good).1⟩)).bind _) = _
  rw [set_eq h hN hk, Option.bind_some]
  cases (putS g.rule r.health good).2 with
  | false =>
    simp only [Bool.not_false, cond_true, Bool.false_eq_true, ↓reduceIte]
    show some (false, 0, R23_Registry.mk g.rule _ g.last (wI .i64 (g.version + 1 - 1))) = _
    rw [wI64 (by omega) (by omega)]
    simp [cnv, updR]
  | true => simp only [Bool.not_true, cond_false, ↓reduceIte]
theorem rprobe_no {N : Int} {g : registry_Registry} (h : RI N g) {id : Int} (hn : ∀ (k : Nat) r, g.rows[k]? = some r → r.Backend.ID ≠ id) (good : Bool) : R23_Registry_Probe (cnv g) id good = some (false, 13, cnv g) := by
  unfold R23_Registry_Probe R23_Registry_ProbeF
  rw [at_no h hn, Option.bind_some]; rfl
theorem rget_yes {N : Int} {g : registry_Registry} (h : RI N g) {k : Nat} {r : registry_row} (hk : g.rows[k]? = some r) : R23_Registry_Get (cnv g) r.Backend.ID = some (tld r, true) := by
  unfold R23_Registry_Get R23_Registry_GetF
  have hl := (List.getElem?_eq_some_iff.1 hk).1
  rw [at_yes h hk, Option.bind_some, cond_p (by omega), cnv_len, oreq_p ⟨by omega, by omega⟩, Int.toNat_natCast, cnv_get, hk, Option.map_some, Option.bind_some, rbackend_eq, Option.bind_some]
theorem rget_no {N : Int} {g : registry_Registry} (h : RI N g) {id : Int} (hn : ∀ (k : Nat) r, g.rows[k]? = some r → r.Backend.ID ≠ id) : R23_Registry_Get (cnv g) id = some (if 1 ≤ id ∧ id ≤ g.last then (goneB id, true) else (noB, false)) := by
  unfold R23_Registry_Get R23_Registry_GetF
  rw [at_no h hn, Option.bind_some, cond_n (by omega)]
  show cond _ (cond (decide (id ≤ g.last)) _ _) _ = _
  by_cases h1 : id ≥ 1
  · rw [cond_p h1]
    by_cases h2 : id ≤ g.last
    · rw [cond_p h2, if_pos (by omega)]; rfl
    · rw [cond_n h2, if_neg (by omega)]; rfl
  · rw [cond_n h1, if_neg (by omega)]; rfl
theorem rremove_yes {N : Int} {g : registry_Registry} (h : RI N g) (hN : N < 2 ^ 40) {k : Nat} {r : registry_row} (hk : g.rows[k]? = some r) : R23_Registry_Remove (cnv g) r.Backend.ID = some (0, cnv (remG g k)) := by
  unfold R23_Registry_Remove R23_Registry_RemoveF
  have hl := (List.getElem?_eq_some_iff.1 hk).1
  have v0 := h.ver0; have v1 := h.ver1; have hlen := h.len
  have hc := cnv_len g
  rw [at_yes h hk, Option.bind_some, cond_n (by omega), wI64 (n := (k : Int) + 1) (by omega) (by omega)]
  rw [oreq_p (by omega), oreq_p (by omega), oreq_p (by omega), oreq_p (by omega), oreq_p (by omega), oreq_p (by rw [List.length_take]; omega)]
  show some ((0 : Int), R23_Registry.mk g.rule _ g.last (wI .i64 (g.version + 1))) = _
  rw [wI64 (by omega) (by omega)]
  have : (cnv g).L.take (Int.toNat k) ++ ((cnv g).L.drop (Int.toNat ((k : Int) + 1))).take ((cnv g).L.length - (Int.toNat ((k : Int) + 1))) = (g.rows.eraseIdx k).map cv := by
    rw [show Int.toNat k = k from Int.toNat_natCast _, show Int.toNat ((k : Int) + 1) = k + 1 by omega, List.take_of_length_le (l := (cnv g).L.drop (k + 1)) (by rw [List.length_drop]; exact Nat.le_refl _), List.eraseIdx_eq_take_drop_succ, List.map_append, List.map_take, List.map_drop]; rfl
  rw [this]; rfl
theorem rremove_no {N : Int} {g : registry_Registry} (h : RI N g) {id : Int} (hn : ∀ (k : Nat) r, g.rows[k]? = some r → r.Backend.ID ≠ id) : R23_Registry_Remove (cnv g) id = some (13, cnv g) := by
  unfold R23_Registry_Remove R23_Registry_RemoveF
  rw [at_no h hn, Option.bind_some]; rfl
theorem rreset_eq {N : Int} {g : registry_Registry} (h : RI N g) (hN : N < 2 ^ 40) : R23_Registry_Reset (cnv g) = some (cnv (rstG g)) := by
  unfold R23_Registry_Reset R23_Registry_ResetF
  have hlen := h.len; have v0 := h.ver0; have v1 := h.ver1
  have := iter_build (fun i => cv (rst (g.rows.getD i ⟨noB, false, ⟨false, 0⟩⟩))) g.rows.length (fun st => R23_Registry_Reset_s1 (cnv g) st.1 st.2) (fun o => R23_Registry.mk g.rule o g.last (g.version + 1)) (n := FUEL) ?_ ?_ (by rw [FUEL_eq]; omega)
  · rw [this]
    congr 1
    show _ = R23_Registry.mk _ _ _ _
    congr 1
    rw [show (rstG g).rows = g.rows.map rst from rfl, List.map_map]
    exact range_map _ _ _ (fun i hi => by rw [List.getD_eq_getElem?_getD, List.getElem?_eq_getElem hi]; rfl)
  · intro i hi out ho
    simp only []
    unfold R23_Registry_Reset_s1
    rw [cnv_len, cond_p (by omega), oreq_p ⟨by omega, by omega⟩, Int.toNat_natCast, cnv_get, List.getD_eq_getElem?_getD, List.getElem?_eq_getElem hi, Option.map_some, Option.bind_some, oreq_p (by omega), wI64 (by omega) (by omega)]; rfl
  · intro out ho
    simp only []
    unfold R23_Registry_Reset_s1
    rw [cnv_len, cond_n (by omega)]
    show some (Sum.inr (R23_Registry.mk g.rule out g.last (wI .i64 (g.version + 1)))) = _
    rw [wI64 (by omega) (by omega)]
theorem rlist_eq {N : Int} {g : registry_Registry} (h : RI N g) : R23_Registry_List (cnv g) = some (g.rows.map tld) := by
  unfold R23_Registry_List R23_Registry_ListF
  have hlen := h.len
  have := iter_build (fun i => tld (g.rows.getD i ⟨noB, false, ⟨false, 0⟩⟩)) g.rows.length (fun st => R23_Registry_List_s1 R23_backend (cnv g) st.1 st.2) (fun o => o) (n := FUEL) ?_ ?_ (by rw [FUEL_eq]; omega)
  · rw [this]
    congr 1
    exact range_map _ _ _ (fun i hi => by rw [List.getD_eq_getElem?_getD, List.getElem?_eq_getElem hi]; rfl)
  · intro i hi out ho
    simp only []
    unfold R23_Registry_List_s1
    rw [cnv_len, cond_p (by omega), oreq_p ⟨by omega, by omega⟩, Int.toNat_natCast, cnv_get, List.getD_eq_getElem?_getD, List.getElem?_eq_getElem hi, Option.map_some, Option.bind_some, rbackend_eq, Option.bind_some, oreq_p (by omega), wI64 (by omega) (by omega)]
    rfl
  · intro out ho
    simp only []
    unfold R23_Registry_List_s1
    rw [cnv_len, cond_n (by omega)]
def beqB (a b : api_Backend) : Bool := (a.ID == b.ID) && ((a.Weight == b.Weight) && ((a.State == b.State) && ((a.Addr.V6 == b.Addr.V6) && ((a.Addr.Hi == b.Addr.Hi) && ((a.Addr.Lo == b.Addr.Lo) && true)))))
theorem beqB_iff (a b : api_Backend) : beqB a b = true ↔ a = b := by
  unfold beqB
  constructor
  · intro h
    simp only [Bool.and_true, Bool.and_eq_true, beq_iff_eq] at h
    obtain ⟨h1, h2, h3, h4, h5, h6⟩ := h
    exact api_Backend.ext h1 h2 h3 (api_Addr.ext h4 h5 h6)
  · rintro rfl; simp
theorem beqB_eq (a b : api_Backend) : beqB a b = decide (a = b) := by rw [Bool.eq_iff_iff, beqB_iff, decide_eq_true_iff]
theorem same_eq {a b : List api_Backend} (hl : a.length < 2 ^ 60) : R23_Same a b = some (decide (a = b)) := by
  unfold R23_Same R23_SameF
  by_cases hab : a.length = b.length
  · rw [show ((a.length : Int) != (b.length : Int)) = false from by rw [bne_eq_false_iff_eq]; omega, cond_false]
    refine iter_eq (fun _ => decide (a = b)) (fun (s : Int) => 0 ≤ s ∧ s ≤ a.length ∧ ∀ j : Nat, (j : Int) < s → a[j]? = b[j]?) (fun s => ((a.length : Int) - s).toNat) ?_ FUEL 0 ⟨by omega, by omega, fun j hj => by omega⟩ (by rw [FUEL_eq]; omega)
    rintro s ⟨h0, h1, h2⟩
    obtain ⟨i, rfl⟩ := Int.eq_ofNat_of_zero_le h0
    unfold R23_Same_s1
    rcases Nat.lt_or_ge i a.length with hi | hi
    · rw [cond_p (by omega), oreq_p ⟨by omega, by omega⟩, Int.toNat_natCast, List.getElem?_eq_getElem hi, Option.bind_some, oreq_p ⟨by omega, by omega⟩, List.getElem?_eq_getElem (show i < b.length by omega), Option.bind_some]
      have key := beqB_eq a[i] b[i]
      unfold beqB at key
      rw [key]
      by_cases he : a[i] = b[i]
      · right
        rw [decide_eq_true he]
        simp only [Bool.not_true, cond_false]
        rw [wI64 (by omega) (by omega)]
        refine ⟨_, rfl, ⟨by omega, by omega, fun j hj => ?_⟩, by omega, by trivial⟩
        rcases Nat.lt_or_ge j i with h | h
        · exact h2 j (by omega)
        · have : j = i := by omega
          subst this
          rw [List.getElem?_eq_getElem hi, List.getElem?_eq_getElem (show j < b.length by omega), he]
      · left
        rw [decide_eq_false he]
        simp only [Bool.not_false, cond_true]
        rw [decide_eq_false]
        rintro rfl
        exact he rfl
    · left
      rw [cond_n (by omega), decide_eq_true]
      apply List.ext_getElem?
      intro j
      rcases Nat.lt_or_ge j i with h | h
      · exact h2 j (by omega)
      · rw [List.getElem?_eq_none (by omega), List.getElem?_eq_none (by omega)]
  · rw [show ((a.length : Int) != (b.length : Int)) = true from by rw [bne_iff_ne]; omega, cond_true, decide_eq_false]
    rintro rfl; exact hab rfl
end Go.Vm.Code
namespace Go.Vm.Code
open Go Go.Vm Go.Proofs
set_option maxRecDepth 100000
set_option maxHeartbeats 4000000
set_option linter.unusedVariables false
def law23_awakeF (health_Right : health_Rule → Option Bool) (registry_Registry_Add : registry_Registry → Int → api_Addr → Option (Int × Int × registry_Registry)) (registry_Registry_Add_nil : Int → api_Addr → Option (Int × Int)) (registry_Registry_Get : registry_Registry → Int → Option (api_Backend × Bool)) (registry_Registry_List : registry_Registry → Option (List api_Backend)) (registry_Registry_List_nil : Option (List api_Backend)) (registry_Registry_Remove : registry_Registry → Int → Option (Int × registry_Registry)) (registry_Registry_Remove_nil : Int → Option Int) (registry_Registry_Reset : registry_Registry → Option registry_Registry) (registry_Registry_Reset_nil : Option Unit) (registry_Registry_Version : registry_Registry → Option Int) (registry_Registry_Version_nil : Option Int) : Option Bool :=
  (health_Right (health_Rule.mk 1 1)).bind fun xr =>
  cond (!xr)
    (
    (registry_Registry_Add_nil 5 (api_Addr.mk false 0 1)).bind fun n =>
    (registry_Registry_Remove_nil 1).bind fun n1 =>
    (registry_Registry_Add_nil 5 (api_Addr.mk false 0 1)).bind fun n2 =>
    (registry_Registry_Reset_nil).bind fun n3 =>
    (registry_Registry_Reset (registry_Registry.mk (health_Rule.mk 0 0) [] 0 0)).bind fun xr1 =>
    (registry_Registry_Add_nil 1 (api_Addr.mk false 0 0)).bind fun n4 =>
    (registry_Registry_Get xr1 1).bind fun xg =>
    some (false))
    (
    (registry_Registry_Add (registry_Registry.mk (health_Rule.mk 1 1) [] 0 0) 5 (api_Addr.mk false 0 1)).bind fun a =>
    (registry_Registry_Remove a.2.2 1).bind fun xr2 =>
    (registry_Registry_Add xr2.2 5 (api_Addr.mk false 0 1)).bind fun a1 =>
    (registry_Registry_Reset_nil).bind fun n5 =>
    (registry_Registry_Reset (registry_Registry.mk (health_Rule.mk 0 0) [] 0 0)).bind fun xr3 =>
    (registry_Registry_Add_nil 1 (api_Addr.mk false 0 0)).bind fun n6 =>
    (registry_Registry_Get xr3 1).bind fun xg1 =>
    cond (a.2.1 == 0)
      (
      cond (a.1 == 1)
        (
        cond (xr2.1 == 0)
          (
          cond (a1.2.1 == 0)
            (
            cond (a1.1 == 2)
              (
              cond (n6.2 == 1)
                (
                cond (!xg1.2)
                  (
                  (registry_Registry_Remove_nil 1).bind fun n7 =>
                  cond (n7 == 1)
                    (
                    (registry_Registry_Version_nil).bind fun n8 =>
                    (registry_Registry_Version xr3).bind fun xv =>
                    (registry_Registry_List_nil).bind fun n9 =>
                    let t := wI .i64 ((wI .i64 (n8 + xv)) + (n9.length : Int))
                    some (t == 0))
                    (
                    some (false)))
                  (
                  some (false)))
                (
                some (false)))
              (
              some (false)))
            (
            some (false)))
          (
          some (false)))
        (
        some (false)))
      (
      some (false)))
def rx15 (x : Bool) : SRes := ⟨.bool x, [], []⟩
def r15 (g : Option Bool) : Dec := dEnd (ofG (g) rx15)
theorem r15_c {g : Option Bool} {x : Bool} (hx : g = some x) : r15 g [] [] = some (rx15 x) := ofG_eq hx
def s15 (g : Option Bool) : Summ := ⟨[], r15 g⟩
theorem r15_eq {g : Option Bool} {x : Bool} (hx : g = some x) : (s15 g).run [] [] = some (rx15 x) := r15_c hx
abbrev sums15 (health_Right : health_Rule → Option Bool) (registry_Registry_Add : registry_Registry → Int → api_Addr → Option (Int × Int × registry_Registry)) (registry_Registry_Add_nil : Int → api_Addr → Option (Int × Int)) (registry_Registry_Get : registry_Registry → Int → Option (api_Backend × Bool)) (registry_Registry_List : registry_Registry → Option (List api_Backend)) (registry_Registry_List_nil : Option (List api_Backend)) (registry_Registry_Remove : registry_Registry → Int → Option (Int × registry_Registry)) (registry_Registry_Remove_nil : Int → Option Int) (registry_Registry_Reset : registry_Registry → Option registry_Registry) (registry_Registry_Reset_nil : Option Unit) (registry_Registry_Version : registry_Registry → Option Int) (registry_Registry_Version_nil : Option Int) : List (Nat × Summ) := [(69, s69 health_Right), (26, s26 registry_Registry_Add registry_Registry_Add_nil), (18, s18 registry_Registry_Get), (22, s22 registry_Registry_List registry_Registry_List_nil), (27, s27 registry_Registry_Remove registry_Registry_Remove_nil), (31, s31 registry_Registry_Reset registry_Registry_Reset_nil), (24, s24 registry_Registry_Version registry_Registry_Version_nil)]
theorem leads15 (health_Right : health_Rule → Option Bool) (registry_Registry_Add : registry_Registry → Int → api_Addr → Option (Int × Int × registry_Registry)) (registry_Registry_Add_nil : Int → api_Addr → Option (Int × Int)) (registry_Registry_Get : registry_Registry → Int → Option (api_Backend × Bool)) (registry_Registry_List : registry_Registry → Option (List api_Backend)) (registry_Registry_List_nil : Option (List api_Backend)) (registry_Registry_Remove : registry_Registry → Int → Option (Int × registry_Registry)) (registry_Registry_Remove_nil : Int → Option Int) (registry_Registry_Reset : registry_Registry → Option registry_Registry) (registry_Registry_Reset_nil : Option Unit) (registry_Registry_Version : registry_Registry → Option Int) (registry_Registry_Version_nil : Option Int) (hS : SumsOK Try.prog (aget (sums15 health_Right registry_Registry_Add registry_Registry_Add_nil registry_Registry_Get registry_Registry_List registry_Registry_List_nil registry_Registry_Remove registry_Registry_Remove_nil registry_Registry_Reset registry_Registry_Reset_nil registry_Registry_Version registry_Registry_Version_nil))) (res : Bool) (h : law23_awakeF health_Right registry_Registry_Add registry_Registry_Add_nil registry_Registry_Get registry_Registry_List registry_Registry_List_nil registry_Registry_Remove registry_Registry_Remove_nil registry_Registry_Reset registry_Registry_Reset_nil registry_Registry_Version registry_Registry_Version_nil = some res) :
    Leads Try.prog 15 0 ⟨⟨15, 97, [], [.code k15_23], [], false, none⟩, [], [], 0⟩ (fun v H _ => Res 0 (rx15 res) v H) := by
  unfold law23_awakeF at h
  refine ev_ok tab_ok hS true 3000 ?_
  conv => whnf
  replace h := obind.elim h; obtain ⟨xr, hy, h⟩ := h
  refine sumK.q rfl rfl (r69_eq hy) rfl rfl rfl ?_
  conv => whnf
  refine br.h h ?_ ?_ ?_
  · rfl
  · clear h; intro hb h; conv => whnf
    replace h := obind.elim h; obtain ⟨n, hy, h⟩ := h
    refine sumK.introF [] (sumRun_of (aqs := [.pointer none, .int .i64 5, .agg ⟨[.bool false, .int .u64 0, .int .u64 1]⟩]) (ws := [.no, .no]) (n := 0) (m := 0) (t' := 1) (ra_cons rfl rfl (ra_cons rfl rfl (ra_cons rfl rfl ra_nil))) rfl (by rfl) (r26n_eq hy) rfl rfl rfl rfl (wb_skip rfl (wb_skip rfl wb_nil)) an_nil rfl) ?_
    conv => whnf
    replace h := obind.elim h; obtain ⟨n1, hy, h⟩ := h
    refine sumK.introF [] (sumRun_of (aqs := [.pointer none, .int .i64 1]) (ws := [.no, .no]) (n := 0) (m := 0) (t' := 1) (ra_cons rfl rfl (ra_cons rfl rfl ra_nil)) rfl (by rfl) (r27n_eq hy) rfl rfl rfl rfl (wb_skip rfl (wb_skip rfl wb_nil)) an_nil rfl) ?_
    conv => whnf
    replace h := obind.elim h; obtain ⟨n2, hy, h⟩ := h
    refine sumK.introF [] (sumRun_of (aqs := [.pointer none, .int .i64 5, .agg ⟨[.bool false, .int .u64 0, .int .u64 1]⟩]) (ws := [.no, .no]) (n := 0) (m := 0) (t' := 1) (ra_cons rfl rfl (ra_cons rfl rfl (ra_cons rfl rfl ra_nil))) rfl (by rfl) (r26n_eq hy) rfl rfl rfl rfl (wb_skip rfl (wb_skip rfl wb_nil)) an_nil rfl) ?_
    conv => whnf
    replace h := obind.elim h; obtain ⟨n3, hy, h⟩ := h
    refine sumK.introF [] (sumRun_of (aqs := [.pointer none]) (ws := [.no, .no]) (n := 0) (m := 0) (t' := 2) (ra_cons rfl rfl ra_nil) rfl (by rfl) (r31n_eq hy) rfl rfl rfl rfl (wb_skip rfl (wb_skip rfl wb_nil)) an_nil rfl) ?_
    conv => whnf
    replace h := obind.elim h; obtain ⟨xr1, hy, h⟩ := h
    refine sumK.introF [1] (sumRun_of (aqs := [.pointer (some ⟨0, 0, none⟩)]) (ws := [.blk 1 true, .emp true]) (n := 1) (m := 1) (t' := 4) (ra_cons (ra_tr rfl rfl (vp_at rfl rfl rfl rfl (vp_emp vp_nil)) rfl) rfl ra_nil) rfl (by rfl) (r31_eq hy) rfl rfl rfl rfl (wb_blk rfl rfl rfl rfl (wb_skip rfl wb_nil)) (an_cons (rn_T cregistry_row_flat) an_nil) rfl) ?_
    conv => whnf
    replace h := obind.elim h; obtain ⟨n4, hy, h⟩ := h
    refine sumK.introF [] (sumRun_of (aqs := [.pointer none, .int .i64 1, .agg ⟨[.bool false, .int .u64 0, .int .u64 0]⟩]) (ws := [.no, .no]) (n := 0) (m := 0) (t' := 4) (ra_cons rfl rfl (ra_cons rfl rfl (ra_cons rfl rfl ra_nil))) rfl (by rfl) (r26n_eq hy) rfl rfl rfl rfl (wb_skip rfl (wb_skip rfl wb_nil)) an_nil rfl) ?_
    conv => whnf
    replace h := obind.elim h; obtain ⟨xg, hy, h⟩ := h
    refine sumK.introF [] (sumRun_of (aqs := [.pointer (some ⟨0, 0, none⟩), .int .i64 1]) (ws := [.blk 1 false, .blk 2 false]) (n := 0) (m := 0) (t' := 4) (ra_cons (ra_tr rfl rfl (vp_at rfl rfl rfl rfl (vp_at rfl rfl (rn_T cregistry_row_flat) rfl vp_nil)) rfl) rfl (ra_cons rfl rfl ra_nil)) rfl (by rfl) (r18_eq hy) rfl rfl rfl rfl (wb_skip rfl (wb_skip rfl wb_nil)) an_nil rfl) ?_
    conv => whnf
    all_goals (cases h; exact Res.z rfl rfl rfl)
  clear h; intro hb h; conv => whnf
  replace h := obind.elim h; obtain ⟨a, hy, h⟩ := h
  refine sumK.introF [1] (sumRun_of (aqs := [.pointer (some ⟨0, 0, none⟩), .int .i64 5, .agg ⟨[.bool false, .int .u64 0, .int .u64 1]⟩]) (ws := [.blk 1 true, .emp true]) (n := 1) (m := 1) (t' := 4) (ra_cons (ra_tr rfl rfl (vp_at rfl rfl rfl rfl (vp_emp vp_nil)) rfl) rfl (ra_cons rfl rfl (ra_cons rfl rfl ra_nil))) rfl (by rfl) (r26_eq hy) rfl rfl rfl rfl (wb_blk rfl rfl rfl rfl (wb_skip rfl wb_nil)) (an_cons (rn_T cregistry_row_flat) an_nil) rfl) ?_
  conv => whnf
  replace h := obind.elim h; obtain ⟨xr2, hy, h⟩ := h
  refine sumK.introF [1] (sumRun_of (aqs := [.pointer (some ⟨0, 0, none⟩), .int .i64 1]) (ws := [.blk 1 true, .blk 2 true]) (n := 1) (m := 0) (t' := 5) (ra_cons (ra_tr rfl rfl (vp_at rfl rfl rfl rfl (vp_at rfl rfl (rn_T cregistry_row_flat) rfl vp_nil)) rfl) rfl (ra_cons rfl rfl ra_nil)) rfl (by rfl) (r27_eq hy) rfl rfl rfl rfl (wb_blk rfl rfl rfl rfl (wb_del wb_nil)) (an_cons (rn_T cregistry_row_flat) an_nil) rfl) ?_
  conv => whnf
  replace h := obind.elim h; obtain ⟨a1, hy, h⟩ := h
  refine sumK.introF [1] (sumRun_of (aqs := [.pointer (some ⟨0, 0, none⟩), .int .i64 5, .agg ⟨[.bool false, .int .u64 0, .int .u64 1]⟩]) (ws := [.blk 1 true, .blk 4 true]) (n := 1) (m := 0) (t' := 6) (ra_cons (ra_tr rfl rfl (vp_at rfl rfl rfl rfl (vp_at rfl rfl (rn_T cregistry_row_flat) rfl vp_nil)) rfl) rfl (ra_cons rfl rfl (ra_cons rfl rfl ra_nil))) rfl (by rfl) (r26_eq hy) rfl rfl rfl rfl (wb_blk rfl rfl rfl rfl (wb_del wb_nil)) (an_cons (rn_T cregistry_row_flat) an_nil) rfl) ?_
  conv => whnf
  replace h := obind.elim h; obtain ⟨n5, hy, h⟩ := h
  refine sumK.introF [] (sumRun_of (aqs := [.pointer none]) (ws := [.no, .no]) (n := 0) (m := 0) (t' := 7) (ra_cons rfl rfl ra_nil) rfl (by rfl) (r31n_eq hy) rfl rfl rfl rfl (wb_skip rfl (wb_skip rfl wb_nil)) an_nil rfl) ?_
  conv => whnf
  replace h := obind.elim h; obtain ⟨xr3, hy, h⟩ := h
  refine sumK.introF [6] (sumRun_of (aqs := [.pointer (some ⟨0, 0, none⟩)]) (ws := [.blk 6 true, .emp true]) (n := 1) (m := 1) (t' := 9) (ra_cons (ra_tr rfl rfl (vp_at rfl rfl rfl rfl (vp_emp vp_nil)) rfl) rfl ra_nil) rfl (by rfl) (r31_eq hy) rfl rfl rfl rfl (wb_blk rfl rfl rfl rfl (wb_skip rfl wb_nil)) (an_cons (rn_T cregistry_row_flat) an_nil) rfl) ?_
  conv => whnf
  replace h := obind.elim h; obtain ⟨n6, hy, h⟩ := h
  refine sumK.introF [] (sumRun_of (aqs := [.pointer none, .int .i64 1, .agg ⟨[.bool false, .int .u64 0, .int .u64 0]⟩]) (ws := [.no, .no]) (n := 0) (m := 0) (t' := 9) (ra_cons rfl rfl (ra_cons rfl rfl (ra_cons rfl rfl ra_nil))) rfl (by rfl) (r26n_eq hy) rfl rfl rfl rfl (wb_skip rfl (wb_skip rfl wb_nil)) an_nil rfl) ?_
  conv => whnf
  replace h := obind.elim h; obtain ⟨xg1, hy, h⟩ := h
  refine sumK.introF [] (sumRun_of (aqs := [.pointer (some ⟨0, 0, none⟩), .int .i64 1]) (ws := [.blk 6 false, .blk 7 false]) (n := 0) (m := 0) (t' := 9) (ra_cons (ra_tr rfl rfl (vp_at rfl rfl rfl rfl (vp_at rfl rfl (rn_T cregistry_row_flat) rfl vp_nil)) rfl) rfl (ra_cons rfl rfl ra_nil)) rfl (by rfl) (r18_eq hy) rfl rfl rfl rfl (wb_skip rfl (wb_skip rfl wb_nil)) an_nil rfl) ?_
  conv => whnf
  refine br.h2 h ?_ ?_ ?_
  · rfl
  · clear h; intro hb h; conv => whnf
    all_goals (cases h; exact Res.z rfl rfl rfl)
  clear h; intro hb h; conv => whnf
  refine br.h2 h ?_ ?_ ?_
  · rfl
  · clear h; intro hb h; conv => whnf
    all_goals (cases h; exact Res.z rfl rfl rfl)
  clear h; intro hb h; conv => whnf
  refine br.h2 h ?_ ?_ ?_
  · rfl
  · clear h; intro hb h; conv => whnf
    all_goals (cases h; exact Res.z rfl rfl rfl)
  clear h; intro hb h; conv => whnf
  refine br.h2 h ?_ ?_ ?_
  · rfl
  · clear h; intro hb h; conv => whnf
    all_goals (cases h; exact Res.z rfl rfl rfl)
  clear h; intro hb h; conv => whnf
  refine br.h2 h ?_ ?_ ?_
  · rfl
  · clear h; intro hb h; conv => whnf
    all_goals (cases h; exact Res.z rfl rfl rfl)
  clear h; intro hb h; conv => whnf
  refine br.h2 h ?_ ?_ ?_
  · rfl
  · clear h; intro hb h; conv => whnf
    all_goals (cases h; exact Res.z rfl rfl rfl)
  clear h; intro hb h; conv => whnf
  refine br.h2 h ?_ ?_ ?_
  · rfl
  · clear h; intro hb h; conv => whnf
    all_goals (cases h; exact Res.z rfl rfl rfl)
  clear h; intro hb h; conv => whnf
  replace h := obind.elim h; obtain ⟨n7, hy, h⟩ := h
  refine sumK.introF [] (sumRun_of (aqs := [.pointer none, .int .i64 1]) (ws := [.no, .no]) (n := 0) (m := 0) (t' := 10) (ra_cons rfl rfl (ra_cons rfl rfl ra_nil)) rfl (by rfl) (r27n_eq hy) rfl rfl rfl rfl (wb_skip rfl (wb_skip rfl wb_nil)) an_nil rfl) ?_
  conv => whnf
  refine br.h2 h ?_ ?_ ?_
  · rfl
  · clear h; intro hb h; conv => whnf
    all_goals (cases h; exact Res.z rfl rfl rfl)
  clear h; intro hb h; conv => whnf
  replace h := obind.elim h; obtain ⟨n8, hy, h⟩ := h
  refine sumK.introF [] (sumRun_of (aqs := [.pointer none]) (ws := [.no, .no]) (n := 0) (m := 0) (t' := 10) (ra_cons rfl rfl ra_nil) rfl (by rfl) (r24n_eq hy) rfl rfl rfl rfl (wb_skip rfl (wb_skip rfl wb_nil)) an_nil rfl) ?_
  conv => whnf
  replace h := obind.elim h; obtain ⟨xv, hy, h⟩ := h
  refine sumK.introF [] (sumRun_of (aqs := [.pointer (some ⟨0, 0, none⟩)]) (ws := [.blk 6 false, .blk 7 false]) (n := 0) (m := 0) (t' := 10) (ra_cons (ra_tr rfl rfl (vp_at rfl rfl rfl rfl (vp_at rfl rfl (rn_T cregistry_row_flat) rfl vp_nil)) rfl) rfl ra_nil) rfl (by rfl) (r24_eq hy) rfl rfl rfl rfl (wb_skip rfl (wb_skip rfl wb_nil)) an_nil rfl) ?_
  conv => whnf
  replace h := obind.elim h; obtain ⟨n9, hy, h⟩ := h
  refine sumK.introF [] (sumRun_of (aqs := [.pointer none]) (ws := [.no, .no]) (n := 1) (m := 0) (t' := 11) (ra_cons rfl rfl ra_nil) rfl (by rfl) (r22n_eq hy) rfl rfl rfl rfl (wb_skip rfl (wb_skip rfl wb_nil)) (an_cons (rn_T capi_Backend_flat) an_nil) rfl) ?_
  conv => whnf
  let t : Int := wI .i64 ((wI .i64 (n8 + xv)) + (n9.length : Int))
  all_goals (cases h; exact Res.z rfl rfl rfl)
theorem ok15 (health_Right : health_Rule → Option Bool) (registry_Registry_Add : registry_Registry → Int → api_Addr → Option (Int × Int × registry_Registry)) (registry_Registry_Add_nil : Int → api_Addr → Option (Int × Int)) (registry_Registry_Get : registry_Registry → Int → Option (api_Backend × Bool)) (registry_Registry_List : registry_Registry → Option (List api_Backend)) (registry_Registry_List_nil : Option (List api_Backend)) (registry_Registry_Remove : registry_Registry → Int → Option (Int × registry_Registry)) (registry_Registry_Remove_nil : Int → Option Int) (registry_Registry_Reset : registry_Registry → Option registry_Registry) (registry_Registry_Reset_nil : Option Unit) (registry_Registry_Version : registry_Registry → Option Int) (registry_Registry_Version_nil : Option Int) (hS : SumsOK Try.prog (aget (sums15 health_Right registry_Registry_Add registry_Registry_Add_nil registry_Registry_Get registry_Registry_List registry_Registry_List_nil registry_Registry_Remove registry_Registry_Remove_nil registry_Registry_Reset registry_Registry_Reset_nil registry_Registry_Version registry_Registry_Version_nil))) : SumOK Try.prog 15 (s15 (law23_awakeF health_Right registry_Registry_Add registry_Registry_Add_nil registry_Registry_Get registry_Registry_List registry_Registry_List_nil registry_Registry_Remove registry_Registry_Remove_nil registry_Registry_Reset registry_Registry_Reset_nil registry_Registry_Version registry_Registry_Version_nil)) := by
  refine SumOK.of_leads tab_ok (fun ar os r ha hr => ?_) ⟨Try.f15, rfl, by decide, rfl⟩
  replace hr : r15 (law23_awakeF health_Right registry_Registry_Add registry_Registry_Add_nil registry_Registry_Get registry_Registry_List registry_Registry_List_nil registry_Registry_Remove registry_Registry_Remove_nil registry_Registry_Reset registry_Registry_Reset_nil registry_Registry_Version registry_Registry_Version_nil) ar (conts os) = some r := hr
  unfold r15 at hr
  generalize hc : conts os = C at hr
  replace hr := dFin hr; obtain ⟨rfl, rfl, x, h, rfl⟩ := hr
  obtain rfl := kinds_nil hc
  exact ⟨_, rfl, leads15 health_Right registry_Registry_Add registry_Registry_Add_nil registry_Registry_Get registry_Registry_List registry_Registry_List_nil registry_Registry_Remove registry_Registry_Remove_nil registry_Registry_Reset registry_Registry_Reset_nil registry_Registry_Version registry_Registry_Version_nil hS x h⟩
def law23_awake : Option Bool := law23_awakeF health_Right registry_Registry_Add registry_Registry_Add_nil registry_Registry_Get registry_Registry_List registry_Registry_List_nil registry_Registry_Remove registry_Registry_Remove_nil registry_Registry_Reset registry_Registry_Reset_nil registry_Registry_Version registry_Registry_Version_nil
theorem lift15 : SumOK Try.prog 15 (s15 law23_awake) := ok15 health_Right registry_Registry_Add registry_Registry_Add_nil registry_Registry_Get registry_Registry_List registry_Registry_List_nil registry_Registry_Remove registry_Registry_Remove_nil registry_Registry_Reset registry_Registry_Reset_nil registry_Registry_Version registry_Registry_Version_nil (SumsOK.of_tab ⟨lift69, lift26, lift18, lift22, lift27, lift31, lift24, trivial⟩)
def law23_oneF (R23_Registry_Add : R23_Registry → Int → api_Addr → Option (Int × Int × R23_Registry)) (R23_Registry_Drain : R23_Registry → Int → Bool → Option (Int × R23_Registry)) (R23_Registry_Probe : R23_Registry → Int → Bool → Option (Bool × Int × R23_Registry)) (R23_Registry_Remove : R23_Registry → Int → Option (Int × R23_Registry)) (R23_Registry_Reset : R23_Registry → Option R23_Registry) (R23_Registry_Weight : R23_Registry → Int → Int → Option (Int × R23_Registry)) (registry_Registry_Add : registry_Registry → Int → api_Addr → Option (Int × Int × registry_Registry)) (registry_Registry_Add_nil : Int → api_Addr → Option (Int × Int)) (registry_Registry_Drain : registry_Registry → Int → Bool → Option (Int × registry_Registry)) (registry_Registry_Probe : registry_Registry → Int → Bool → Option (Bool × Int × registry_Registry)) (registry_Registry_Remove : registry_Registry → Int → Option (Int × registry_Registry)) (registry_Registry_Remove_nil : Int → Option Int) (registry_Registry_Reset : registry_Registry → Option registry_Registry) (registry_Registry_Reset_nil : Option Unit) (registry_Registry_Weight : registry_Registry → Int → Int → Option (Int × registry_Registry)) (ga0 : registry_Registry) (x : R23_Registry) (s : R23_Step) : Option (Bool × registry_Registry × R23_Registry) :=
  cond (s.Kind == 0)
    (
    (registry_Registry_Add ga0 s.N s.Addr).bind fun a =>
    (R23_Registry_Add x s.N s.Addr).bind fun a1 =>
    cond (a.1 == a1.1)
      (
      some ((a.2.1 == a1.2.1, a.2.2, a1.2.2)))
      (
      some ((false, a.2.2, a1.2.2))))
    (
    cond (s.Kind == 1)
      (
      (registry_Registry_Remove ga0 s.ID).bind fun xr =>
      (R23_Registry_Remove x s.ID).bind fun xr1 =>
      some ((xr.1 == xr1.1, xr.2, xr1.2)))
      (
      cond (s.Kind == 2)
        (
        (registry_Registry_Drain ga0 s.ID s.On).bind fun d =>
        (R23_Registry_Drain x s.ID s.On).bind fun d1 =>
        some ((d.1 == d1.1, d.2, d1.2)))
        (
        cond (s.Kind == 3)
          (
          (registry_Registry_Weight ga0 s.ID s.N).bind fun w =>
          (R23_Registry_Weight x s.ID s.N).bind fun w1 =>
          some ((w.1 == w1.1, w.2, w1.2)))
          (
          cond (s.Kind == 4)
            (
            (registry_Registry_Probe ga0 s.ID s.On).bind fun p =>
            (R23_Registry_Probe x s.ID s.On).bind fun p1 =>
            cond (p.1 == p1.1)
              (
              some ((p.2.1 == p1.2.1, p.2.2, p1.2.2)))
              (
              some ((false, p.2.2, p1.2.2))))
            (
            cond (s.Kind == 5)
              (
              (registry_Registry_Reset ga0).bind fun xr2 =>
              (R23_Registry_Reset x).bind fun xr3 =>
              some ((true, xr2, xr3)))
              (
              some ((true, ga0, x))))))))
def rx20 (x : Bool × registry_Registry × R23_Registry) : SRes := ⟨.bool x.1, [(vT cregistry_row x.2.1.rows), (vT cR23_Row x.2.2.L)], [some [.int .i64 x.2.1.rule.Rise, .int .i64 x.2.1.rule.Fall, .slice (some ⟨0, 0, none⟩) x.2.1.rows.length 9, .int .i64 x.2.1.last, .int .i64 x.2.1.version], none, some [.int .i64 x.2.2.Rule.Rise, .int .i64 x.2.2.Rule.Fall, .slice (some ⟨1, 0, none⟩) x.2.2.L.length 8, .int .i64 x.2.2.Last, .int .i64 x.2.2.Version], none]⟩
def r20 (g : registry_Registry → R23_Registry → R23_Step → Option (Bool × registry_Registry × R23_Registry)) : Dec := dTr 2 (udregistry_Registry 0) fun (y0 : registry_Registry) => dTr 2 (udR23_Registry 2) fun (y1 : R23_Registry) => dV uvR23_Step fun (y2 : R23_Step) => dEnd (ofG (g y0 y1 y2) rx20)
theorem r20_c {g : registry_Registry → R23_Registry → R23_Step → Option (Bool × registry_Registry × R23_Registry)} {y0 : registry_Registry} {y1 : R23_Registry} {y2 : R23_Step} {x : Bool × registry_Registry × R23_Registry} (hx : g y0 y1 y2 = some x) : r20 g [.pointer (some ⟨0, 0, none⟩), .pointer (some ⟨2, 0, none⟩), .agg ⟨[.int .i64 y2.Kind, .int .i64 y2.ID, .int .i64 y2.N, .bool y2.Addr.V6, .int .u64 y2.Addr.Hi, .int .u64 y2.Addr.Lo, .bool y2.On]⟩] [some [.int .i64 y0.rule.Rise, .int .i64 y0.rule.Fall, .slice (some ⟨1, 0, none⟩) y0.rows.length 9, .int .i64 y0.last, .int .i64 y0.version], some (vT cregistry_row y0.rows), some [.int .i64 y1.Rule.Rise, .int .i64 y1.Rule.Fall, .slice (some ⟨3, 0, none⟩) y1.L.length 8, .int .i64 y1.Last, .int .i64 y1.Version], some (vT cR23_Row y1.L)] = some (rx20 x) := (dTr_eq rfl rfl (udregistry_Registry_c 0 _)).trans ((dTr_eq rfl rfl (udR23_Registry_c 2 _)).trans ((dV_eq (uvR23_Step_c _)).trans (ofG_eq hx)))
def s20 (g : registry_Registry → R23_Registry → R23_Step → Option (Bool × registry_Registry × R23_Registry)) : Summ := ⟨[.tr [⟨none, 0, 0, 1, none⟩, ⟨some 0, 2, 0, 2, some 9⟩], .tr [⟨none, 0, 0, 1, none⟩, ⟨some 0, 2, 0, 2, some 8⟩], .v], r20 g⟩
theorem r20_eq {g : registry_Registry → R23_Registry → R23_Step → Option (Bool × registry_Registry × R23_Registry)} {y0 : registry_Registry} {y1 : R23_Registry} {y2 : R23_Step} {x : Bool × registry_Registry × R23_Registry} (hx : g y0 y1 y2 = some x) : (s20 g).run [.pointer (some ⟨0, 0, none⟩), .pointer (some ⟨2, 0, none⟩), .agg ⟨[.int .i64 y2.Kind, .int .i64 y2.ID, .int .i64 y2.N, .bool y2.Addr.V6, .int .u64 y2.Addr.Hi, .int .u64 y2.Addr.Lo, .bool y2.On]⟩] [some [.int .i64 y0.rule.Rise, .int .i64 y0.rule.Fall, .slice (some ⟨1, 0, none⟩) y0.rows.length 9, .int .i64 y0.last, .int .i64 y0.version], some (vT cregistry_row y0.rows), some [.int .i64 y1.Rule.Rise, .int .i64 y1.Rule.Fall, .slice (some ⟨3, 0, none⟩) y1.L.length 8, .int .i64 y1.Last, .int .i64 y1.Version], some (vT cR23_Row y1.L)] = some (rx20 x) := r20_c hx
abbrev sums20 (R23_Registry_Add : R23_Registry → Int → api_Addr → Option (Int × Int × R23_Registry)) (R23_Registry_Drain : R23_Registry → Int → Bool → Option (Int × R23_Registry)) (R23_Registry_Probe : R23_Registry → Int → Bool → Option (Bool × Int × R23_Registry)) (R23_Registry_Remove : R23_Registry → Int → Option (Int × R23_Registry)) (R23_Registry_Reset : R23_Registry → Option R23_Registry) (R23_Registry_Weight : R23_Registry → Int → Int → Option (Int × R23_Registry)) (registry_Registry_Add : registry_Registry → Int → api_Addr → Option (Int × Int × registry_Registry)) (registry_Registry_Add_nil : Int → api_Addr → Option (Int × Int)) (registry_Registry_Drain : registry_Registry → Int → Bool → Option (Int × registry_Registry)) (registry_Registry_Probe : registry_Registry → Int → Bool → Option (Bool × Int × registry_Registry)) (registry_Registry_Remove : registry_Registry → Int → Option (Int × registry_Registry)) (registry_Registry_Remove_nil : Int → Option Int) (registry_Registry_Reset : registry_Registry → Option registry_Registry) (registry_Registry_Reset_nil : Option Unit) (registry_Registry_Weight : registry_Registry → Int → Int → Option (Int × registry_Registry)) : List (Nat × Summ) := [(75, s75 R23_Registry_Add), (77, s77 R23_Registry_Drain), (79, s79 R23_Registry_Probe), (76, s76 R23_Registry_Remove), (80, s80 R23_Registry_Reset), (78, s78 R23_Registry_Weight), (26, s26 registry_Registry_Add registry_Registry_Add_nil), (28, s28 registry_Registry_Drain), (30, s30 registry_Registry_Probe), (27, s27 registry_Registry_Remove registry_Registry_Remove_nil), (31, s31 registry_Registry_Reset registry_Registry_Reset_nil), (29, s29 registry_Registry_Weight)]
theorem leads20 (R23_Registry_Add : R23_Registry → Int → api_Addr → Option (Int × Int × R23_Registry)) (R23_Registry_Drain : R23_Registry → Int → Bool → Option (Int × R23_Registry)) (R23_Registry_Probe : R23_Registry → Int → Bool → Option (Bool × Int × R23_Registry)) (R23_Registry_Remove : R23_Registry → Int → Option (Int × R23_Registry)) (R23_Registry_Reset : R23_Registry → Option R23_Registry) (R23_Registry_Weight : R23_Registry → Int → Int → Option (Int × R23_Registry)) (registry_Registry_Add : registry_Registry → Int → api_Addr → Option (Int × Int × registry_Registry)) (registry_Registry_Add_nil : Int → api_Addr → Option (Int × Int)) (registry_Registry_Drain : registry_Registry → Int → Bool → Option (Int × registry_Registry)) (registry_Registry_Probe : registry_Registry → Int → Bool → Option (Bool × Int × registry_Registry)) (registry_Registry_Remove : registry_Registry → Int → Option (Int × registry_Registry)) (registry_Registry_Remove_nil : Int → Option Int) (registry_Registry_Reset : registry_Registry → Option registry_Registry) (registry_Registry_Reset_nil : Option Unit) (registry_Registry_Weight : registry_Registry → Int → Int → Option (Int × registry_Registry)) (hS : SumsOK Try.prog (aget (sums20 R23_Registry_Add R23_Registry_Drain R23_Registry_Probe R23_Registry_Remove R23_Registry_Reset R23_Registry_Weight registry_Registry_Add registry_Registry_Add_nil registry_Registry_Drain registry_Registry_Probe registry_Registry_Remove registry_Registry_Remove_nil registry_Registry_Reset registry_Registry_Reset_nil registry_Registry_Weight))) (ga0 : registry_Registry) (x : R23_Registry) (s : R23_Step) (res : Bool × registry_Registry × R23_Registry) (h : law23_oneF R23_Registry_Add R23_Registry_Drain R23_Registry_Probe R23_Registry_Remove R23_Registry_Reset R23_Registry_Weight registry_Registry_Add registry_Registry_Add_nil registry_Registry_Drain registry_Registry_Probe registry_Registry_Remove registry_Registry_Remove_nil registry_Registry_Reset registry_Registry_Reset_nil registry_Registry_Weight ga0 x s = some res) :
    Leads Try.prog 20 4 ⟨⟨20, 120, [(0, .pointer (some ⟨0, 0, none⟩)), (1, .pointer (some ⟨2, 0, none⟩)), (2, .agg ⟨[.int .i64 s.Kind, .int .i64 s.ID, .int .i64 s.N, .bool s.Addr.V6, .int .u64 s.Addr.Hi, .int .u64 s.Addr.Lo, .bool s.On]⟩)], [.code k20_46], [], false, none⟩, [], [(0, .cells [.int .i64 ga0.rule.Rise, .int .i64 ga0.rule.Fall, .slice (some ⟨1, 0, none⟩) ga0.rows.length 9, .int .i64 ga0.last, .int .i64 ga0.version]), (1, .row true (vT cregistry_row ga0.rows)), (2, .cells [.int .i64 x.Rule.Rise, .int .i64 x.Rule.Fall, .slice (some ⟨3, 0, none⟩) x.L.length 8, .int .i64 x.Last, .int .i64 x.Version]), (3, .row true (vT cR23_Row x.L))], 4⟩ (fun v H _ => Res 4 (rx20 res) v H) := by
  unfold law23_oneF at h
  refine ev_ok tab_ok hS true 3000 ?_
  conv => whnf
  refine br.h h ?_ ?_ ?_
  · rfl
  · clear h; intro hb h; conv => whnf
    replace h := obind.elim h; obtain ⟨a, hy, h⟩ := h
    refine sumK.introF [0] (sumRun_of (aqs := [.pointer (some ⟨0, 0, none⟩), .int .i64 s.N, .agg ⟨[.bool s.Addr.V6, .int .u64 s.Addr.Hi, .int .u64 s.Addr.Lo]⟩]) (ws := [.blk 0 true, .blk 1 true]) (n := 1) (m := 0) (t' := 6) (ra_cons (ra_tr rfl rfl (vp_at rfl rfl rfl rfl (vp_at rfl rfl (rn_T cregistry_row_flat) rfl vp_nil)) rfl) rfl (ra_cons rfl rfl (ra_cons rfl rfl ra_nil))) rfl (by rfl) (r26_eq hy) rfl rfl rfl rfl (wb_blk rfl rfl rfl rfl (wb_del wb_nil)) (an_cons (rn_T cregistry_row_flat) an_nil) rfl) ?_
    conv => whnf
    replace h := obind.elim h; obtain ⟨a1, hy, h⟩ := h
    refine sumK.introF [2] (sumRun_of (aqs := [.pointer (some ⟨0, 0, none⟩), .int .i64 s.N, .agg ⟨[.bool s.Addr.V6, .int .u64 s.Addr.Hi, .int .u64 s.Addr.Lo]⟩]) (ws := [.blk 2 true, .blk 3 true]) (n := 1) (m := 0) (t' := 7) (ra_cons (ra_tr rfl rfl (vp_at rfl rfl rfl rfl (vp_at rfl rfl (rn_T cR23_Row_flat) rfl vp_nil)) rfl) rfl (ra_cons rfl rfl (ra_cons rfl rfl ra_nil))) rfl (by rfl) (r75_eq hy) rfl rfl rfl rfl (wb_blk rfl rfl rfl rfl (wb_del wb_nil)) (an_cons (rn_T cR23_Row_flat) an_nil) rfl) ?_
    conv => whnf
    refine br.h h ?_ ?_ ?_
    · rfl
    · clear h; intro hb h; conv => whnf
      all_goals (cases h)
      all_goals exact Res.of [5, 6] rfl (nw_s (rn_T cregistry_row_flat) (hs_row rfl) (nw_s (rn_T cR23_Row_flat) (hs_row rfl) nw_0)) (by decide) (js_l (by decide) (js_l (by decide) js_0)) (wr_s (rfl) (hs_cells rfl) (wr_n (wr_s (rfl) (hs_cells rfl) (wr_n wr_0))))
    clear h; intro hb h; conv => whnf
    all_goals (cases h)
    all_goals exact Res.of [5, 6] rfl (nw_s (rn_T cregistry_row_flat) (hs_row rfl) (nw_s (rn_T cR23_Row_flat) (hs_row rfl) nw_0)) (by decide) (js_l (by decide) (js_l (by decide) js_0)) (wr_s (rfl) (hs_cells rfl) (wr_n (wr_s (rfl) (hs_cells rfl) (wr_n wr_0))))
  clear h; intro hb h; conv => whnf
  refine br.h h ?_ ?_ ?_
  · rfl
  · clear h; intro hb h; conv => whnf
    replace h := obind.elim h; obtain ⟨xr, hy, h⟩ := h
    refine sumK.introF [0] (sumRun_of (aqs := [.pointer (some ⟨0, 0, none⟩), .int .i64 s.ID]) (ws := [.blk 0 true, .blk 1 true]) (n := 1) (m := 0) (t' := 9) (ra_cons (ra_tr rfl rfl (vp_at rfl rfl rfl rfl (vp_at rfl rfl (rn_T cregistry_row_flat) rfl vp_nil)) rfl) rfl (ra_cons rfl rfl ra_nil)) rfl (by rfl) (r27_eq hy) rfl rfl rfl rfl (wb_blk rfl rfl rfl rfl (wb_del wb_nil)) (an_cons (rn_T cregistry_row_flat) an_nil) rfl) ?_
    conv => whnf
    replace h := obind.elim h; obtain ⟨xr1, hy, h⟩ := h
    refine sumK.introF [2] (sumRun_of (aqs := [.pointer (some ⟨0, 0, none⟩), .int .i64 s.ID]) (ws := [.blk 2 true, .blk 3 true]) (n := 1) (m := 0) (t' := 14) (ra_cons (ra_tr rfl rfl (vp_at rfl rfl rfl rfl (vp_at rfl rfl (rn_T cR23_Row_flat) rfl vp_nil)) rfl) rfl (ra_cons rfl rfl ra_nil)) rfl (by rfl) (r76_eq hy) rfl rfl rfl rfl (wb_blk rfl rfl rfl rfl (wb_del wb_nil)) (an_cons (rn_T cR23_Row_flat) an_nil) rfl) ?_
    conv => whnf
    all_goals (cases h)
    all_goals exact Res.of [8, 13] rfl (nw_s (rn_T cregistry_row_flat) (hs_row rfl) (nw_s (rn_T cR23_Row_flat) (hs_row rfl) nw_0)) (by decide) (js_l (by decide) (js_l (by decide) js_0)) (wr_s (rfl) (hs_cells rfl) (wr_n (wr_s (rfl) (hs_cells rfl) (wr_n wr_0))))
  clear h; intro hb h; conv => whnf
  refine br.h h ?_ ?_ ?_
  · rfl
  · clear h; intro hb h; conv => whnf
    replace h := obind.elim h; obtain ⟨d, hy, h⟩ := h
    refine sumK.introF [0] (sumRun_of (aqs := [.pointer (some ⟨0, 0, none⟩), .int .i64 s.ID, .bool s.On]) (ws := [.blk 0 true, .blk 1 true]) (n := 1) (m := 0) (t' := 11) (ra_cons (ra_tr rfl rfl (vp_at rfl rfl rfl rfl (vp_at rfl rfl (rn_T cregistry_row_flat) rfl vp_nil)) rfl) rfl (ra_cons rfl rfl (ra_cons rfl rfl ra_nil))) rfl (by rfl) (r28_eq hy) rfl rfl rfl rfl (wb_blk rfl rfl rfl rfl (wb_del wb_nil)) (an_cons (rn_T cregistry_row_flat) an_nil) rfl) ?_
    conv => whnf
    replace h := obind.elim h; obtain ⟨d1, hy, h⟩ := h
    refine sumK.introF [2] (sumRun_of (aqs := [.pointer (some ⟨0, 0, none⟩), .int .i64 s.ID, .bool s.On]) (ws := [.blk 2 true, .blk 3 true]) (n := 1) (m := 0) (t' := 18) (ra_cons (ra_tr rfl rfl (vp_at rfl rfl rfl rfl (vp_at rfl rfl (rn_T cR23_Row_flat) rfl vp_nil)) rfl) rfl (ra_cons rfl rfl (ra_cons rfl rfl ra_nil))) rfl (by rfl) (r77_eq hy) rfl rfl rfl rfl (wb_blk rfl rfl rfl rfl (wb_del wb_nil)) (an_cons (rn_T cR23_Row_flat) an_nil) rfl) ?_
    conv => whnf
    all_goals (cases h)
    all_goals exact Res.of [10, 17] rfl (nw_s (rn_T cregistry_row_flat) (hs_row rfl) (nw_s (rn_T cR23_Row_flat) (hs_row rfl) nw_0)) (by decide) (js_l (by decide) (js_l (by decide) js_0)) (wr_s (rfl) (hs_cells rfl) (wr_n (wr_s (rfl) (hs_cells rfl) (wr_n wr_0))))
  clear h; intro hb h; conv => whnf
  refine br.h h ?_ ?_ ?_
  · rfl
  · clear h; intro hb h; conv => whnf
    replace h := obind.elim h; obtain ⟨w, hy, h⟩ := h
    refine sumK.introF [0] (sumRun_of (aqs := [.pointer (some ⟨0, 0, none⟩), .int .i64 s.ID, .int .i64 s.N]) (ws := [.blk 0 true, .blk 1 true]) (n := 1) (m := 0) (t' := 11) (ra_cons (ra_tr rfl rfl (vp_at rfl rfl rfl rfl (vp_at rfl rfl (rn_T cregistry_row_flat) rfl vp_nil)) rfl) rfl (ra_cons rfl rfl (ra_cons rfl rfl ra_nil))) rfl (by rfl) (r29_eq hy) rfl rfl rfl rfl (wb_blk rfl rfl rfl rfl (wb_del wb_nil)) (an_cons (rn_T cregistry_row_flat) an_nil) rfl) ?_
    conv => whnf
    replace h := obind.elim h; obtain ⟨w1, hy, h⟩ := h
    refine sumK.introF [2] (sumRun_of (aqs := [.pointer (some ⟨0, 0, none⟩), .int .i64 s.ID, .int .i64 s.N]) (ws := [.blk 2 true, .blk 3 true]) (n := 1) (m := 0) (t' := 18) (ra_cons (ra_tr rfl rfl (vp_at rfl rfl rfl rfl (vp_at rfl rfl (rn_T cR23_Row_flat) rfl vp_nil)) rfl) rfl (ra_cons rfl rfl (ra_cons rfl rfl ra_nil))) rfl (by rfl) (r78_eq hy) rfl rfl rfl rfl (wb_blk rfl rfl rfl rfl (wb_del wb_nil)) (an_cons (rn_T cR23_Row_flat) an_nil) rfl) ?_
    conv => whnf
    all_goals (cases h)
    all_goals exact Res.of [10, 17] rfl (nw_s (rn_T cregistry_row_flat) (hs_row rfl) (nw_s (rn_T cR23_Row_flat) (hs_row rfl) nw_0)) (by decide) (js_l (by decide) (js_l (by decide) js_0)) (wr_s (rfl) (hs_cells rfl) (wr_n (wr_s (rfl) (hs_cells rfl) (wr_n wr_0))))
  clear h; intro hb h; conv => whnf
  refine br.h h ?_ ?_ ?_
  · rfl
  · clear h; intro hb h; conv => whnf
    replace h := obind.elim h; obtain ⟨p, hy, h⟩ := h
    refine sumK.introF [0] (sumRun_of (aqs := [.pointer (some ⟨0, 0, none⟩), .int .i64 s.ID, .bool s.On]) (ws := [.blk 0 true, .blk 1 true]) (n := 1) (m := 0) (t' := 6) (ra_cons (ra_tr rfl rfl (vp_at rfl rfl rfl rfl (vp_at rfl rfl (rn_T cregistry_row_flat) rfl vp_nil)) rfl) rfl (ra_cons rfl rfl (ra_cons rfl rfl ra_nil))) rfl (by rfl) (r30_eq hy) rfl rfl rfl rfl (wb_blk rfl rfl rfl rfl (wb_del wb_nil)) (an_cons (rn_T cregistry_row_flat) an_nil) rfl) ?_
    conv => whnf
    replace h := obind.elim h; obtain ⟨p1, hy, h⟩ := h
    refine sumK.introF [2] (sumRun_of (aqs := [.pointer (some ⟨0, 0, none⟩), .int .i64 s.ID, .bool s.On]) (ws := [.blk 2 true, .blk 3 true]) (n := 1) (m := 0) (t' := 7) (ra_cons (ra_tr rfl rfl (vp_at rfl rfl rfl rfl (vp_at rfl rfl (rn_T cR23_Row_flat) rfl vp_nil)) rfl) rfl (ra_cons rfl rfl (ra_cons rfl rfl ra_nil))) rfl (by rfl) (r79_eq hy) rfl rfl rfl rfl (wb_blk rfl rfl rfl rfl (wb_del wb_nil)) (an_cons (rn_T cR23_Row_flat) an_nil) rfl) ?_
    conv => whnf
    refine br.h h ?_ ?_ ?_
    · rfl
    · clear h; intro hb h; conv => whnf
      all_goals (cases h)
      all_goals exact Res.of [5, 6] rfl (nw_s (rn_T cregistry_row_flat) (hs_row rfl) (nw_s (rn_T cR23_Row_flat) (hs_row rfl) nw_0)) (by decide) (js_l (by decide) (js_l (by decide) js_0)) (wr_s (rfl) (hs_cells rfl) (wr_n (wr_s (rfl) (hs_cells rfl) (wr_n wr_0))))
    clear h; intro hb h; conv => whnf
    all_goals (cases h)
    all_goals exact Res.of [5, 6] rfl (nw_s (rn_T cregistry_row_flat) (hs_row rfl) (nw_s (rn_T cR23_Row_flat) (hs_row rfl) nw_0)) (by decide) (js_l (by decide) (js_l (by decide) js_0)) (wr_s (rfl) (hs_cells rfl) (wr_n (wr_s (rfl) (hs_cells rfl) (wr_n wr_0))))
  clear h; intro hb h; conv => whnf
  refine br.h2 h ?_ ?_ ?_
  · rfl
  · clear h; intro hb h; conv => whnf
    all_goals (cases h)
    all_goals exact Res.of [1, 3] rfl (nw_s (rn_T cregistry_row_flat) (hs_row rfl) (nw_s (rn_T cR23_Row_flat) (hs_row rfl) nw_0)) (by decide) (js_r rfl (js_r rfl js_0)) (wr_s (rfl) (hs_cells rfl) (wr_n (wr_s (rfl) (hs_cells rfl) (wr_n wr_0))))
  clear h; intro hb h; conv => whnf
  replace h := obind.elim h; obtain ⟨xr2, hy, h⟩ := h
  refine sumK.introF [0] (sumRun_of (aqs := [.pointer (some ⟨0, 0, none⟩)]) (ws := [.blk 0 true, .blk 1 true]) (n := 1) (m := 0) (t' := 6) (ra_cons (ra_tr rfl rfl (vp_at rfl rfl rfl rfl (vp_at rfl rfl (rn_T cregistry_row_flat) rfl vp_nil)) rfl) rfl ra_nil) rfl (by rfl) (r31_eq hy) rfl rfl rfl rfl (wb_blk rfl rfl rfl rfl (wb_del wb_nil)) (an_cons (rn_T cregistry_row_flat) an_nil) rfl) ?_
  conv => whnf
  replace h := obind.elim h; obtain ⟨xr3, hy, h⟩ := h
  refine sumK.introF [2] (sumRun_of (aqs := [.pointer (some ⟨0, 0, none⟩)]) (ws := [.blk 2 true, .blk 3 true]) (n := 1) (m := 0) (t' := 7) (ra_cons (ra_tr rfl rfl (vp_at rfl rfl rfl rfl (vp_at rfl rfl (rn_T cR23_Row_flat) rfl vp_nil)) rfl) rfl ra_nil) rfl (by rfl) (r80_eq hy) rfl rfl rfl rfl (wb_blk rfl rfl rfl rfl (wb_del wb_nil)) (an_cons (rn_T cR23_Row_flat) an_nil) rfl) ?_
  conv => whnf
  all_goals (cases h)
  all_goals exact Res.of [5, 6] rfl (nw_s (rn_T cregistry_row_flat) (hs_row rfl) (nw_s (rn_T cR23_Row_flat) (hs_row rfl) nw_0)) (by decide) (js_l (by decide) (js_l (by decide) js_0)) (wr_s (rfl) (hs_cells rfl) (wr_n (wr_s (rfl) (hs_cells rfl) (wr_n wr_0))))
theorem ok20 (R23_Registry_Add : R23_Registry → Int → api_Addr → Option (Int × Int × R23_Registry)) (R23_Registry_Drain : R23_Registry → Int → Bool → Option (Int × R23_Registry)) (R23_Registry_Probe : R23_Registry → Int → Bool → Option (Bool × Int × R23_Registry)) (R23_Registry_Remove : R23_Registry → Int → Option (Int × R23_Registry)) (R23_Registry_Reset : R23_Registry → Option R23_Registry) (R23_Registry_Weight : R23_Registry → Int → Int → Option (Int × R23_Registry)) (registry_Registry_Add : registry_Registry → Int → api_Addr → Option (Int × Int × registry_Registry)) (registry_Registry_Add_nil : Int → api_Addr → Option (Int × Int)) (registry_Registry_Drain : registry_Registry → Int → Bool → Option (Int × registry_Registry)) (registry_Registry_Probe : registry_Registry → Int → Bool → Option (Bool × Int × registry_Registry)) (registry_Registry_Remove : registry_Registry → Int → Option (Int × registry_Registry)) (registry_Registry_Remove_nil : Int → Option Int) (registry_Registry_Reset : registry_Registry → Option registry_Registry) (registry_Registry_Reset_nil : Option Unit) (registry_Registry_Weight : registry_Registry → Int → Int → Option (Int × registry_Registry)) (hS : SumsOK Try.prog (aget (sums20 R23_Registry_Add R23_Registry_Drain R23_Registry_Probe R23_Registry_Remove R23_Registry_Reset R23_Registry_Weight registry_Registry_Add registry_Registry_Add_nil registry_Registry_Drain registry_Registry_Probe registry_Registry_Remove registry_Registry_Remove_nil registry_Registry_Reset registry_Registry_Reset_nil registry_Registry_Weight))) : SumOK Try.prog 20 (s20 (law23_oneF R23_Registry_Add R23_Registry_Drain R23_Registry_Probe R23_Registry_Remove R23_Registry_Reset R23_Registry_Weight registry_Registry_Add registry_Registry_Add_nil registry_Registry_Drain registry_Registry_Probe registry_Registry_Remove registry_Registry_Remove_nil registry_Registry_Reset registry_Registry_Reset_nil registry_Registry_Weight)) := by
  refine SumOK.of_leads tab_ok (fun ar os r ha hr => ?_) ⟨Try.f20, rfl, by decide, rfl⟩
  replace hr : r20 (law23_oneF R23_Registry_Add R23_Registry_Drain R23_Registry_Probe R23_Registry_Remove R23_Registry_Reset R23_Registry_Weight registry_Registry_Add registry_Registry_Add_nil registry_Registry_Drain registry_Registry_Probe registry_Registry_Remove registry_Registry_Remove_nil registry_Registry_Reset registry_Registry_Reset_nil registry_Registry_Weight) ar (conts os) = some r := hr
  unfold r20 at hr
  generalize hc : conts os = C at hr
  have hq := dTr.elim hr; clear hr; obtain ⟨v0, l1, c0, C, y0, rfl, rfl, e0, hr⟩ := hq; obtain ⟨rfl, rfl⟩ := udregistry_Registry_eq e0; simp only [List.nil_append, List.cons_append] at hc
  have hq := dTr.elim hr; clear hr; obtain ⟨v1, l2, c1, C, y1, rfl, rfl, e1, hr⟩ := hq; obtain ⟨rfl, rfl⟩ := udR23_Registry_eq e1; simp only [List.nil_append, List.cons_append] at hc
  replace hr := dV.elim hr; obtain ⟨v2, l3, y2, rfl, e2, hr⟩ := hr; obtain rfl := uvR23_Step_eq _ _ e2
  replace hr := dFin hr; obtain ⟨rfl, rfl, x, h, rfl⟩ := hr
  obtain ⟨os, rfl, ha, hc⟩ := kinds_some ha hc
  obtain ⟨os, rfl, ha, hc⟩ := kinds_some ha hc
  obtain ⟨os, rfl, ha, hc⟩ := kinds_some ha hc
  obtain ⟨os, rfl, ha, hc⟩ := kinds_some ha hc
  obtain rfl := kinds_nil hc
  exact ⟨_, rfl, leads20 R23_Registry_Add R23_Registry_Drain R23_Registry_Probe R23_Registry_Remove R23_Registry_Reset R23_Registry_Weight registry_Registry_Add registry_Registry_Add_nil registry_Registry_Drain registry_Registry_Probe registry_Registry_Remove registry_Registry_Remove_nil registry_Registry_Reset registry_Registry_Reset_nil registry_Registry_Weight hS _ _ _ x h⟩
def law23_one : registry_Registry → R23_Registry → R23_Step → Option (Bool × registry_Registry × R23_Registry) := law23_oneF R23_Registry_Add R23_Registry_Drain R23_Registry_Probe R23_Registry_Remove R23_Registry_Reset R23_Registry_Weight registry_Registry_Add registry_Registry_Add_nil registry_Registry_Drain registry_Registry_Probe registry_Registry_Remove registry_Registry_Remove_nil registry_Registry_Reset registry_Registry_Reset_nil registry_Registry_Weight
theorem lift20 : SumOK Try.prog 20 (s20 law23_one) := ok20 R23_Registry_Add R23_Registry_Drain R23_Registry_Probe R23_Registry_Remove R23_Registry_Reset R23_Registry_Weight registry_Registry_Add registry_Registry_Add_nil registry_Registry_Drain registry_Registry_Probe registry_Registry_Remove registry_Registry_Remove_nil registry_Registry_Reset registry_Registry_Reset_nil registry_Registry_Weight (SumsOK.of_tab ⟨lift75, lift77, lift79, lift76, lift80, lift78, lift26, lift28, lift30, lift27, lift31, lift29, trivial⟩)
end Go.Vm.Code
