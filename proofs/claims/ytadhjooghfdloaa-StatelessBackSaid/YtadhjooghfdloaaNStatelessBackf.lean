import Derived.Test.YtadhjooghfdloaaNStatelessBacke
namespace Go.Vm.Code
open Go Go.Vm Go.Proofs
set_option maxRecDepth 100000
set_option maxHeartbeats 4000000
set_option linter.unusedVariables false
def law32_grown_s1 (R23_Registry_Add : R23_Registry → Int → api_Addr → Option (Int × Int × R23_Registry)) (R23_Registry_Drain : R23_Registry → Int → Bool → Option (Int × R23_Registry)) (R23_Registry_Remove : R23_Registry → Int → Option (Int × R23_Registry)) (registry_Registry_Add : registry_Registry → Int → api_Addr → Option (Int × Int × registry_Registry)) (registry_Registry_Drain : registry_Registry → Int → Bool → Option (Int × registry_Registry)) (registry_Registry_Remove : registry_Registry → Int → Option (Int × registry_Registry)) (l : List R23_Step) (i : Int) (xg : Int) (xg1 : Int) (xg3 : Int) (xg4 : Int) (x : Int) (x1 : Int) (x3 : Int) (x4 : Int) (c : List registry_row) (c1 : List R23_Row) : Option (Sum (Int × Int × Int × Int × Int × Int × Int × Int × Int × (List registry_row) × (List R23_Row)) (registry_Registry × R23_Registry)) :=
  cond (decide (i < (l.length : Int)))
    (
    oreq (decide ((0 : Int) ≤ i ∧ i < (l.length : Int))) <|
    (l[i.toNat]?).bind fun (e : R23_Step) =>
    cond (e.Kind == 0)
      (
      oreq (decide ((0 : Int) ≤ i ∧ i < (l.length : Int))) <|
      oreq (decide ((0 : Int) ≤ i ∧ i < (l.length : Int))) <|
      (registry_Registry_Add (registry_Registry.mk (health_Rule.mk xg xg1) c xg3 xg4) e.N e.Addr).bind fun a =>
      oreq (decide ((0 : Int) ≤ i ∧ i < (l.length : Int))) <|
      oreq (decide ((0 : Int) ≤ i ∧ i < (l.length : Int))) <|
      (R23_Registry_Add (R23_Registry.mk (health_Rule.mk x x1) c1 x3 x4) e.N e.Addr).bind fun a1 =>
      some (.inl (wI .i64 (i + 1), a.2.2.rule.Rise, a.2.2.rule.Fall, a.2.2.last, a.2.2.version, a1.2.2.Rule.Rise, a1.2.2.Rule.Fall, a1.2.2.Last, a1.2.2.Version, a.2.2.rows, a1.2.2.L)))
      (
      cond (e.Kind == 1)
        (
        oreq (decide ((0 : Int) ≤ i ∧ i < (l.length : Int))) <|
        (registry_Registry_Remove (registry_Registry.mk (health_Rule.mk xg xg1) c xg3 xg4) e.ID).bind fun xr2 =>
        oreq (decide ((0 : Int) ≤ i ∧ i < (l.length : Int))) <|
        (R23_Registry_Remove (R23_Registry.mk (health_Rule.mk x x1) c1 x3 x4) e.ID).bind fun xr3 =>
        some (.inl (wI .i64 (i + 1), xr2.2.rule.Rise, xr2.2.rule.Fall, xr2.2.last, xr2.2.version, xr3.2.Rule.Rise, xr3.2.Rule.Fall, xr3.2.Last, xr3.2.Version, xr2.2.rows, xr3.2.L)))
        (
        cond (e.Kind == 2)
          (
          oreq (decide ((0 : Int) ≤ i ∧ i < (l.length : Int))) <|
          oreq (decide ((0 : Int) ≤ i ∧ i < (l.length : Int))) <|
          (registry_Registry_Drain (registry_Registry.mk (health_Rule.mk xg xg1) c xg3 xg4) e.ID e.On).bind fun d =>
          oreq (decide ((0 : Int) ≤ i ∧ i < (l.length : Int))) <|
          oreq (decide ((0 : Int) ≤ i ∧ i < (l.length : Int))) <|
          (R23_Registry_Drain (R23_Registry.mk (health_Rule.mk x x1) c1 x3 x4) e.ID e.On).bind fun d1 =>
          some (.inl (wI .i64 (i + 1), d.2.rule.Rise, d.2.rule.Fall, d.2.last, d.2.version, d1.2.Rule.Rise, d1.2.Rule.Fall, d1.2.Last, d1.2.Version, d.2.rows, d1.2.L)))
          (
          some (.inl (wI .i64 (i + 1), xg, xg1, xg3, xg4, x, x1, x3, x4, c, c1))))))
    (
    some (.inr ((registry_Registry.mk (health_Rule.mk xg xg1) c xg3 xg4, R23_Registry.mk (health_Rule.mk x x1) c1 x3 x4))))
def law32_grownF (R21_Right : health_Rule → Option Bool) (R23_Registry_Add : R23_Registry → Int → api_Addr → Option (Int × Int × R23_Registry)) (R23_Registry_Drain : R23_Registry → Int → Bool → Option (Int × R23_Registry)) (R23_Registry_Remove : R23_Registry → Int → Option (Int × R23_Registry)) (health_Right : health_Rule → Option Bool) (registry_Registry_Add : registry_Registry → Int → api_Addr → Option (Int × Int × registry_Registry)) (registry_Registry_Drain : registry_Registry → Int → Bool → Option (Int × registry_Registry)) (registry_Registry_Remove : registry_Registry → Int → Option (Int × registry_Registry)) (l : List R23_Step) : Option (registry_Registry × R23_Registry) :=
  (health_Right (health_Rule.mk 1 1)).bind fun xr =>
  oreq (xr) <|
  (R21_Right (health_Rule.mk 1 1)).bind fun xr1 =>
  oreq (xr1) <|
  iter (fun st => law32_grown_s1 R23_Registry_Add R23_Registry_Drain R23_Registry_Remove registry_Registry_Add registry_Registry_Drain registry_Registry_Remove l st.1 st.2.1 st.2.2.1 st.2.2.2.1 st.2.2.2.2.1 st.2.2.2.2.2.1 st.2.2.2.2.2.2.1 st.2.2.2.2.2.2.2.1 st.2.2.2.2.2.2.2.2.1 st.2.2.2.2.2.2.2.2.2.1 st.2.2.2.2.2.2.2.2.2.2) FUEL (0, 1, 1, 0, 0, 1, 1, 0, 0, [], [])
def rx66 (x : registry_Registry × R23_Registry) : SRes := ⟨.tuple ⟨[.pointer (some ⟨0, 0, none⟩), .pointer (some ⟨2, 0, none⟩)]⟩, [[.int .i64 x.1.rule.Rise, .int .i64 x.1.rule.Fall, .slice (some ⟨1, 0, none⟩) x.1.rows.length 9, .int .i64 x.1.last, .int .i64 x.1.version], (vT cregistry_row x.1.rows), [.int .i64 x.2.Rule.Rise, .int .i64 x.2.Rule.Fall, .slice (some ⟨3, 0, none⟩) x.2.L.length 8, .int .i64 x.2.Last, .int .i64 x.2.Version], (vT cR23_Row x.2.L)], [none]⟩
def r66 (g : (List R23_Step) → Option (registry_Registry × R23_Registry)) : Dec := dSl 0 7 (unR 7 unR23_Step) fun (y0 : List R23_Step) => dEnd (ofG (g y0) rx66)
theorem r66_c {g : (List R23_Step) → Option (registry_Registry × R23_Registry)} {y0 : List R23_Step} {x : registry_Registry × R23_Registry} (hx : g y0 = some x) : r66 g [.slice (some ⟨0, 0, none⟩) y0.length 7] [some (vT cR23_Step y0)] = some (rx66 x) := (dSl_eq (unR_vT (by first | exact capi_Addr_len | exact capi_Tuple_len | exact capi_Packet_len | exact capi_Key_len | exact cR23_Step_len | exact cstateless_Clue_len | exact chealth_Rule_len | exact capi_Backend_len | exact chealth_State_len | exact cregistry_row_len | exact capi_Layout_len | exact cArr4_Int_len | exact csip_Hasher_len | exact ccookie_layout_len | exact cR23_Row_len) (by decide) unR23_Step_c _)).trans (ofG_eq hx)
def s66 (g : (List R23_Step) → Option (registry_Registry × R23_Registry)) : Summ := ⟨[.sl 7], r66 g⟩
theorem r66_eq {g : (List R23_Step) → Option (registry_Registry × R23_Registry)} {y0 : List R23_Step} {x : registry_Registry × R23_Registry} (hx : g y0 = some x) : (s66 g).run [.slice (some ⟨0, 0, none⟩) y0.length 7] [some (vT cR23_Step y0)] = some (rx66 x) := r66_c hx
abbrev sums66 (R21_Right : health_Rule → Option Bool) (R23_Registry_Add : R23_Registry → Int → api_Addr → Option (Int × Int × R23_Registry)) (R23_Registry_Drain : R23_Registry → Int → Bool → Option (Int × R23_Registry)) (R23_Registry_Remove : R23_Registry → Int → Option (Int × R23_Registry)) (health_Right : health_Rule → Option Bool) (registry_Registry_Add : registry_Registry → Int → api_Addr → Option (Int × Int × registry_Registry)) (registry_Registry_Drain : registry_Registry → Int → Bool → Option (Int × registry_Registry)) (registry_Registry_Remove : registry_Registry → Int → Option (Int × registry_Registry)) : List (Nat × Summ) := [(25, s25 R21_Right), (75, s75 R23_Registry_Add), (77, s77 R23_Registry_Drain), (76, s76 R23_Registry_Remove), (69, s69 health_Right), (26, s26 registry_Registry_Add), (28, s28 registry_Registry_Drain), (27, s27 registry_Registry_Remove)]
def head66_1 (l : List R23_Step) (i : Int) (xg : Int) (xg1 : Int) (xg3 : Int) (xg4 : Int) (x : Int) (x1 : Int) (x3 : Int) (x4 : Int) (c : List registry_row) (c1 : List R23_Row) : VM :=
  ⟨⟨66, 96, [(0, .slice (some ⟨0, 0, none⟩) l.length 7), (4, .pointer (some ⟨2, 0, none⟩)), (6, .pointer (some ⟨4, 0, none⟩)), (7, .int .i64 i)], [.code k66_31, .inLoop k66_31, .inBlock 0, .code k66_36], [], false, none⟩, [], [(0, .row false (vT cR23_Step l)), (2, .cells [.int .i64 xg, .int .i64 xg1, .slice (some ⟨5, 0, none⟩) c.length 9, .int .i64 xg3, .int .i64 xg4]), (4, .cells [.int .i64 x, .int .i64 x1, .slice (some ⟨6, 0, none⟩) c1.length 8, .int .i64 x3, .int .i64 x4]), (5, .row true (vT cregistry_row c)), (6, .row true (vT cR23_Row c1))], 7⟩
theorem loop66_1 (R21_Right : health_Rule → Option Bool) (R23_Registry_Add : R23_Registry → Int → api_Addr → Option (Int × Int × R23_Registry)) (R23_Registry_Drain : R23_Registry → Int → Bool → Option (Int × R23_Registry)) (R23_Registry_Remove : R23_Registry → Int → Option (Int × R23_Registry)) (health_Right : health_Rule → Option Bool) (registry_Registry_Add : registry_Registry → Int → api_Addr → Option (Int × Int × registry_Registry)) (registry_Registry_Drain : registry_Registry → Int → Bool → Option (Int × registry_Registry)) (registry_Registry_Remove : registry_Registry → Int → Option (Int × registry_Registry)) (hS : SumsOK Try.prog (aget (sums66 R21_Right R23_Registry_Add R23_Registry_Drain R23_Registry_Remove health_Right registry_Registry_Add registry_Registry_Drain registry_Registry_Remove))) (l : List R23_Step) (res : registry_Registry × R23_Registry) : ∀ fuel (st : Int × Int × Int × Int × Int × Int × Int × Int × Int × (List registry_row) × (List R23_Row)) (o : registry_Registry × R23_Registry), iter (fun st => law32_grown_s1 R23_Registry_Add R23_Registry_Drain R23_Registry_Remove registry_Registry_Add registry_Registry_Drain registry_Registry_Remove l st.1 st.2.1 st.2.2.1 st.2.2.2.1 st.2.2.2.2.1 st.2.2.2.2.2.1 st.2.2.2.2.2.2.1 st.2.2.2.2.2.2.2.1 st.2.2.2.2.2.2.2.2.1 st.2.2.2.2.2.2.2.2.2.1 st.2.2.2.2.2.2.2.2.2.2) fuel st = some o → (o = res) →
    Leads Try.prog 66 1 (head66_1 l st.1 st.2.1 st.2.2.1 st.2.2.2.1 st.2.2.2.2.1 st.2.2.2.2.2.1 st.2.2.2.2.2.2.1 st.2.2.2.2.2.2.2.1 st.2.2.2.2.2.2.2.2.1 st.2.2.2.2.2.2.2.2.2.1 st.2.2.2.2.2.2.2.2.2.2) (fun v H _ => Res 1 (rx66 res) v H) := by
  intro fuel st o h hc
  refine iter_leads (head := fun st => head66_1 l st.1 st.2.1 st.2.2.1 st.2.2.2.1 st.2.2.2.2.1 st.2.2.2.2.2.1 st.2.2.2.2.2.2.1 st.2.2.2.2.2.2.2.1 st.2.2.2.2.2.2.2.2.1 st.2.2.2.2.2.2.2.2.2.1 st.2.2.2.2.2.2.2.2.2.2) (C := fun o => (o = res)) ?_ fuel st o h hc
  clear h hc o st fuel
  intro st o h hc
  obtain ⟨i, xg, xg1, xg3, xg4, x, x1, x3, x4, c, c1⟩ := st
  replace h : law32_grown_s1 R23_Registry_Add R23_Registry_Drain R23_Registry_Remove registry_Registry_Add registry_Registry_Drain registry_Registry_Remove l i xg xg1 xg3 xg4 x x1 x3 x4 c c1 = some o := h
  show Leads Try.prog 66 1 (head66_1 l i xg xg1 xg3 xg4 x x1 x3 x4 c c1) (fun v H _ => Res 1 (rx66 res) v H)
  unfold law32_grown_s1 at h
  refine ev_ok tab_ok hS true 3000 ?_
  conv => whnf
  refine br.h2 h ?_ ?_ ?_
  · rfl
  · clear h; intro hb h; conv => whnf
    all_goals (cases h; cases hc)
    all_goals exact Res.of [2, 5, 4, 6] rfl (nw_s (rfl) (hs_cells rfl) (nw_s (rn_T cregistry_row_flat) (hs_row rfl) (nw_s (rfl) (hs_cells rfl) (nw_s (rn_T cR23_Row_flat) (hs_row rfl) nw_0)))) (by decide) (js_l (by decide) (js_l (by decide) (js_l (by decide) (js_l (by decide) js_0)))) (wr_n wr_0)
  clear h; intro hb h; conv => whnf
  replace h := oreq.elim h; obtain ⟨hb, h⟩ := h
  first | (refine req.intro hb ?_; conv => whnf) | skip
  replace h := obind.elim h; obtain ⟨e, hy, h⟩ := h
  refine rd.T (j := 0) cR23_Step_len hy (by first | omega | exact Nat.zero_add _ | exact congrArg (· + _) (Nat.zero_add _)) (by decide) rfl ?_
  conv => whnf
  refine br.h h ?_ ?_ ?_
  · rfl
  · clear h; intro hb h; conv => whnf
    replace h := oreq.elim h; obtain ⟨hb, h⟩ := h
    first | (refine req.intro hb ?_; conv => whnf) | skip
    refine rd.T (i := i.toNat) (x := e) (j := 2) cR23_Step_len (by assumption) (by first | omega | exact Nat.zero_add _ | exact congrArg (· + _) (Nat.zero_add _)) (by decide) rfl ?_
    conv => whnf
    replace h := oreq.elim h; obtain ⟨hb, h⟩ := h
    first | (refine req.intro hb ?_; conv => whnf) | skip
    refine ld_TP (i := i.toNat) (x := e) (j := 3) cR23_Step_len (by assumption) (by first | omega | exact Nat.zero_add _ | exact congrArg (· + _) (Nat.zero_add _)) (by decide) ?_
    conv => whnf
    replace h := obind.elim h; obtain ⟨a, hy, h⟩ := h
    refine sumK.introF [2] (sumRun_of (aqs := [.pointer (some ⟨0, 0, none⟩), .int .i64 e.N, .agg ⟨[.bool e.Addr.V6, .int .u64 e.Addr.Hi, .int .u64 e.Addr.Lo]⟩]) (ws := [.blk 2 true, .blk 5 true]) (n := 1) (m := 0) (t' := 19) (ra_cons (ra_tr rfl rfl (vp_at rfl rfl rfl rfl (vp_at rfl rfl (rn_T cregistry_row_flat) rfl vp_nil)) rfl) rfl (ra_cons rfl rfl (ra_cons rfl rfl ra_nil))) rfl (by rfl) (r26_eq hy) rfl rfl rfl rfl (wb_blk rfl rfl rfl rfl (wb_del wb_nil)) (an_cons (rn_T cregistry_row_flat) an_nil) rfl) ?_
    conv => whnf
    replace h := oreq.elim h; obtain ⟨hb, h⟩ := h
    first | (refine req.intro hb ?_; conv => whnf) | skip
    refine rd.T (i := i.toNat) (x := e) (j := 2) cR23_Step_len (by assumption) (by first | omega | exact Nat.zero_add _ | exact congrArg (· + _) (Nat.zero_add _)) (by decide) rfl ?_
    conv => whnf
    replace h := oreq.elim h; obtain ⟨hb, h⟩ := h
    first | (refine req.intro hb ?_; conv => whnf) | skip
    refine ld_TP (i := i.toNat) (x := e) (j := 3) cR23_Step_len (by assumption) (by first | omega | exact Nat.zero_add _ | exact congrArg (· + _) (Nat.zero_add _)) (by decide) ?_
    conv => whnf
    replace h := obind.elim h; obtain ⟨a1, hy, h⟩ := h
    refine sumK.introF [4] (sumRun_of (aqs := [.pointer (some ⟨0, 0, none⟩), .int .i64 e.N, .agg ⟨[.bool e.Addr.V6, .int .u64 e.Addr.Hi, .int .u64 e.Addr.Lo]⟩]) (ws := [.blk 4 true, .blk 6 true]) (n := 1) (m := 0) (t' := 31) (ra_cons (ra_tr rfl rfl (vp_at rfl rfl rfl rfl (vp_at rfl rfl (rn_T cR23_Row_flat) rfl vp_nil)) rfl) rfl (ra_cons rfl rfl (ra_cons rfl rfl ra_nil))) rfl (by rfl) (r75_eq hy) rfl rfl rfl rfl (wb_blk rfl rfl rfl rfl (wb_del wb_nil)) (an_cons (rn_T cR23_Row_flat) an_nil) rfl) ?_
    conv => whnf
    cases h; simp only [Sum.elim_inl, head66_1] at hc
    exact lrA1 hc [(0, 0), (2, 2), (4, 4), (5, 18), (6, 30)] rfl
  clear h; intro hb h; conv => whnf
  refine br.h h ?_ ?_ ?_
  · rfl
  · clear h; intro hb h; conv => whnf
    replace h := oreq.elim h; obtain ⟨hb, h⟩ := h
    first | (refine req.intro hb ?_; conv => whnf) | skip
    refine rd.T (i := i.toNat) (x := e) (j := 1) cR23_Step_len (by assumption) (by first | omega | exact Nat.zero_add _ | exact congrArg (· + _) (Nat.zero_add _)) (by decide) rfl ?_
    conv => whnf
    replace h := obind.elim h; obtain ⟨xr2, hy, h⟩ := h
    refine sumK.introF [2] (sumRun_of (aqs := [.pointer (some ⟨0, 0, none⟩), .int .i64 e.ID]) (ws := [.blk 2 true, .blk 5 true]) (n := 1) (m := 0) (t' := 8) (ra_cons (ra_tr rfl rfl (vp_at rfl rfl rfl rfl (vp_at rfl rfl (rn_T cregistry_row_flat) rfl vp_nil)) rfl) rfl (ra_cons rfl rfl ra_nil)) rfl (by rfl) (r27_eq hy) rfl rfl rfl rfl (wb_blk rfl rfl rfl rfl (wb_del wb_nil)) (an_cons (rn_T cregistry_row_flat) an_nil) rfl) ?_
    conv => whnf
    replace h := oreq.elim h; obtain ⟨hb, h⟩ := h
    first | (refine req.intro hb ?_; conv => whnf) | skip
    refine rd.T (i := i.toNat) (x := e) (j := 1) cR23_Step_len (by assumption) (by first | omega | exact Nat.zero_add _ | exact congrArg (· + _) (Nat.zero_add _)) (by decide) rfl ?_
    conv => whnf
    replace h := obind.elim h; obtain ⟨xr3, hy, h⟩ := h
    refine sumK.introF [4] (sumRun_of (aqs := [.pointer (some ⟨0, 0, none⟩), .int .i64 e.ID]) (ws := [.blk 4 true, .blk 6 true]) (n := 1) (m := 0) (t' := 9) (ra_cons (ra_tr rfl rfl (vp_at rfl rfl rfl rfl (vp_at rfl rfl (rn_T cR23_Row_flat) rfl vp_nil)) rfl) rfl (ra_cons rfl rfl ra_nil)) rfl (by rfl) (r76_eq hy) rfl rfl rfl rfl (wb_blk rfl rfl rfl rfl (wb_del wb_nil)) (an_cons (rn_T cR23_Row_flat) an_nil) rfl) ?_
    conv => whnf
    cases h; simp only [Sum.elim_inl, head66_1] at hc
    exact lrA1 hc [(0, 0), (2, 2), (4, 4), (5, 7), (6, 8)] rfl
  clear h; intro hb h; conv => whnf
  refine br.h2 h ?_ ?_ ?_
  · rfl
  · clear h; intro hb h; conv => whnf
    cases h; simp only [Sum.elim_inl, head66_1] at hc
    exact lrA1 hc [(0, 0), (2, 2), (4, 4), (5, 5), (6, 6)] rfl
  clear h; intro hb h; conv => whnf
  replace h := oreq.elim h; obtain ⟨hb, h⟩ := h
  first | (refine req.intro hb ?_; conv => whnf) | skip
  refine rd.T (i := i.toNat) (x := e) (j := 1) cR23_Step_len (by assumption) (by first | omega | exact Nat.zero_add _ | exact congrArg (· + _) (Nat.zero_add _)) (by decide) rfl ?_
  conv => whnf
  replace h := oreq.elim h; obtain ⟨hb, h⟩ := h
  first | (refine req.intro hb ?_; conv => whnf) | skip
  refine rd.T (i := i.toNat) (x := e) (j := 6) cR23_Step_len (by assumption) (by first | omega | exact Nat.zero_add _ | exact congrArg (· + _) (Nat.zero_add _)) (by decide) rfl ?_
  conv => whnf
  replace h := obind.elim h; obtain ⟨d, hy, h⟩ := h
  refine sumK.introF [2] (sumRun_of (aqs := [.pointer (some ⟨0, 0, none⟩), .int .i64 e.ID, .bool e.On]) (ws := [.blk 2 true, .blk 5 true]) (n := 1) (m := 0) (t' := 19) (ra_cons (ra_tr rfl rfl (vp_at rfl rfl rfl rfl (vp_at rfl rfl (rn_T cregistry_row_flat) rfl vp_nil)) rfl) rfl (ra_cons rfl rfl (ra_cons rfl rfl ra_nil))) rfl (by rfl) (r28_eq hy) rfl rfl rfl rfl (wb_blk rfl rfl rfl rfl (wb_del wb_nil)) (an_cons (rn_T cregistry_row_flat) an_nil) rfl) ?_
  conv => whnf
  replace h := oreq.elim h; obtain ⟨hb, h⟩ := h
  first | (refine req.intro hb ?_; conv => whnf) | skip
  refine rd.T (i := i.toNat) (x := e) (j := 1) cR23_Step_len (by assumption) (by first | omega | exact Nat.zero_add _ | exact congrArg (· + _) (Nat.zero_add _)) (by decide) rfl ?_
  conv => whnf
  replace h := oreq.elim h; obtain ⟨hb, h⟩ := h
  first | (refine req.intro hb ?_; conv => whnf) | skip
  refine rd.T (i := i.toNat) (x := e) (j := 6) cR23_Step_len (by assumption) (by first | omega | exact Nat.zero_add _ | exact congrArg (· + _) (Nat.zero_add _)) (by decide) rfl ?_
  conv => whnf
  replace h := obind.elim h; obtain ⟨d1, hy, h⟩ := h
  refine sumK.introF [4] (sumRun_of (aqs := [.pointer (some ⟨0, 0, none⟩), .int .i64 e.ID, .bool e.On]) (ws := [.blk 4 true, .blk 6 true]) (n := 1) (m := 0) (t' := 31) (ra_cons (ra_tr rfl rfl (vp_at rfl rfl rfl rfl (vp_at rfl rfl (rn_T cR23_Row_flat) rfl vp_nil)) rfl) rfl (ra_cons rfl rfl (ra_cons rfl rfl ra_nil))) rfl (by rfl) (r77_eq hy) rfl rfl rfl rfl (wb_blk rfl rfl rfl rfl (wb_del wb_nil)) (an_cons (rn_T cR23_Row_flat) an_nil) rfl) ?_
  conv => whnf
  cases h; simp only [Sum.elim_inl, head66_1] at hc
  exact lrA1 hc [(0, 0), (2, 2), (4, 4), (5, 18), (6, 30)] rfl
theorem leads66 (R21_Right : health_Rule → Option Bool) (R23_Registry_Add : R23_Registry → Int → api_Addr → Option (Int × Int × R23_Registry)) (R23_Registry_Drain : R23_Registry → Int → Bool → Option (Int × R23_Registry)) (R23_Registry_Remove : R23_Registry → Int → Option (Int × R23_Registry)) (health_Right : health_Rule → Option Bool) (registry_Registry_Add : registry_Registry → Int → api_Addr → Option (Int × Int × registry_Registry)) (registry_Registry_Drain : registry_Registry → Int → Bool → Option (Int × registry_Registry)) (registry_Registry_Remove : registry_Registry → Int → Option (Int × registry_Registry)) (hS : SumsOK Try.prog (aget (sums66 R21_Right R23_Registry_Add R23_Registry_Drain R23_Registry_Remove health_Right registry_Registry_Add registry_Registry_Drain registry_Registry_Remove))) (l : List R23_Step) (res : registry_Registry × R23_Registry) (h : law32_grownF R21_Right R23_Registry_Add R23_Registry_Drain R23_Registry_Remove health_Right registry_Registry_Add registry_Registry_Drain registry_Registry_Remove l = some res) :
    Leads Try.prog 66 1 ⟨⟨66, 96, [(0, .slice (some ⟨0, 0, none⟩) l.length 7)], [.code k66_40], [], false, none⟩, [], [(0, .row false (vT cR23_Step l))], 1⟩ (fun v H _ => Res 1 (rx66 res) v H) := by
  unfold law32_grownF at h
  refine ev_ok tab_ok hS true 3000 ?_
  conv => whnf
  replace h := obind.elim h; obtain ⟨xr, hy, h⟩ := h
  refine sumK.q rfl rfl (r69_eq hy) rfl rfl rfl ?_
  conv => whnf
  replace h := oreq.elim h; obtain ⟨hb, h⟩ := h
  subst hb
  conv => whnf
  replace h := obind.elim h; obtain ⟨xr1, hy, h⟩ := h
  refine sumK.q rfl rfl (r25_eq hy) rfl rfl rfl ?_
  conv => whnf
  replace h := oreq.elim h; obtain ⟨hb, h⟩ := h
  subst hb
  conv => whnf
  have hl := loop66_1 R21_Right R23_Registry_Add R23_Registry_Drain R23_Registry_Remove health_Right registry_Registry_Add registry_Registry_Drain registry_Registry_Remove hS _ res _ _ _ h rfl; simp only [head66_1] at hl
  refine Leads.nilC 2 2 9 ?_
  refine Leads.nilC 4 2 8 ?_
  exact lrA1 hl [(0, 0), (2, 2), (4, 4), (5, 5), (6, 6)] rfl
theorem ok66 (R21_Right : health_Rule → Option Bool) (R23_Registry_Add : R23_Registry → Int → api_Addr → Option (Int × Int × R23_Registry)) (R23_Registry_Drain : R23_Registry → Int → Bool → Option (Int × R23_Registry)) (R23_Registry_Remove : R23_Registry → Int → Option (Int × R23_Registry)) (health_Right : health_Rule → Option Bool) (registry_Registry_Add : registry_Registry → Int → api_Addr → Option (Int × Int × registry_Registry)) (registry_Registry_Drain : registry_Registry → Int → Bool → Option (Int × registry_Registry)) (registry_Registry_Remove : registry_Registry → Int → Option (Int × registry_Registry)) (hS : SumsOK Try.prog (aget (sums66 R21_Right R23_Registry_Add R23_Registry_Drain R23_Registry_Remove health_Right registry_Registry_Add registry_Registry_Drain registry_Registry_Remove))) : SumOK Try.prog 66 (s66 (law32_grownF R21_Right R23_Registry_Add R23_Registry_Drain R23_Registry_Remove health_Right registry_Registry_Add registry_Registry_Drain registry_Registry_Remove)) := by
  refine SumOK.of_leads tab_ok (fun ar os r ha hr => ?_) ⟨Try.f66, rfl, by decide, rfl⟩
  replace hr : r66 (law32_grownF R21_Right R23_Registry_Add R23_Registry_Drain R23_Registry_Remove health_Right registry_Registry_Add registry_Registry_Drain registry_Registry_Remove) ar (conts os) = some r := hr
  unfold r66 at hr
  generalize hc : conts os = C at hr
  have hq := dSl.elim hr; clear hr; obtain ⟨c0, l1, C, y0, rfl, rfl, e0, hr⟩ := hq; obtain rfl := unT_eq unR23_Step_eq e0
  replace hr := dFin hr; obtain ⟨rfl, rfl, x, h, rfl⟩ := hr
  obtain ⟨os, rfl, ha, hc⟩ := kinds_some ha hc
  obtain rfl := kinds_nil hc
  exact ⟨_, rfl, leads66 R21_Right R23_Registry_Add R23_Registry_Drain R23_Registry_Remove health_Right registry_Registry_Add registry_Registry_Drain registry_Registry_Remove hS _ x h⟩
def law32_grown : (List R23_Step) → Option (registry_Registry × R23_Registry) := law32_grownF R21_Right R23_Registry_Add R23_Registry_Drain R23_Registry_Remove health_Right registry_Registry_Add registry_Registry_Drain registry_Registry_Remove
theorem lift66 : SumOK Try.prog 66 (s66 law32_grown) := ok66 R21_Right R23_Registry_Add R23_Registry_Drain R23_Registry_Remove health_Right registry_Registry_Add registry_Registry_Drain registry_Registry_Remove (SumsOK.of_tab ⟨lift25, lift75, lift77, lift76, lift69, lift26, lift28, lift27, trivial⟩)
def law32_StatelessBack_s1 (law32_awake : Option Bool) (stateless_Find : registry_Registry → api_Key → api_Tuple → Int → Option (api_Backend × Bool)) (k : api_Key) (t : api_Tuple) (l : List R23_Step) (t1 : Int) (m : Int) (is : Bool) (i : Int) (xg1 : Int) (xg2 : Int) (xg4 : Int) (xg5 : Int) (c : List registry_row) (list1 : List api_Backend) : Option (Sum (Bool × Int × Int × Int × Int × Int × (List registry_row) × (List api_Backend)) Bool) :=
  cond (decide (i < (list1.length : Int)))
    (
    cond (is)
      (
      some (.inl (true, wI .i64 (i + 1), xg1, xg2, xg4, xg5, c, list1)))
      (
      oreq (decide ((0 : Int) ≤ i ∧ i < (list1.length : Int))) <|
      (list1[i.toNat]?).bind fun (e : api_Backend) =>
      some (.inl (e.ID == t1, wI .i64 (i + 1), xg1, xg2, xg4, xg5, c, list1))))
    (
    (stateless_Find (registry_Registry.mk (health_Rule.mk xg1 xg2) c xg4 xg5) k t m).bind fun f =>
    cond (f.2 == is)
      (
      cond (!f.2)
        (
        (law32_awake).bind fun a1 =>
        some (.inr (a1)))
        (
        cond (f.1.ID == t1)
          (
          (law32_awake).bind fun a2 =>
          some (.inr (a2)))
          (
          some (.inr (false)))))
      (
      some (.inr (false))))
def law32_StatelessBackF (law32_awake : Option Bool) (law32_grown : (List R23_Step) → Option (registry_Registry × R23_Registry)) (registry_Registry_List : registry_Registry → Option (List api_Backend)) (stateless_Find : registry_Registry → api_Key → api_Tuple → Int → Option (api_Backend × Bool)) (stateless_Find_nil : api_Key → api_Tuple → Int → Option (api_Backend × Bool)) (stateless_Make : api_Key → api_Tuple → Int → Option Int) (stateless_Open : api_Key → api_Tuple → Int → Option (Int × Bool)) (k : api_Key) (t : api_Tuple) (ida2 : Int) (other : Int) (l : List R23_Step) : Option Bool :=
  cond (decide ((l.length : Int) > 30))
    (
    (law32_awake).bind fun a =>
    some (a))
    (
    let t1 := if (wI .i64 ida2) > 1 then wI .i64 ida2 else 1
    let t2 := if (wI .i64 other) > 1 then wI .i64 other else 1
    (stateless_Make k t t1).bind fun m =>
    (stateless_Make k t t2).bind fun m1 =>
    (stateless_Open k t m).bind fun xo =>
    cond (!xo.2)
      (
      some (false))
      (
      cond (xo.1 != t1)
        (
        some (false))
        (
        cond (!((m == m1) == (t1 == t2)))
          (
          some (false))
          (
          cond (t.Proto == 6)
            (
            cond (decide (m > 65535))
              (
              some (false))
              (
              (law32_grown l).bind fun xg =>
              (registry_Registry_List xg.1).bind fun l1 =>
              iter (fun st => law32_StatelessBack_s1 law32_awake stateless_Find k t l t1 m st.1 st.2.1 st.2.2.1 st.2.2.2.1 st.2.2.2.2.1 st.2.2.2.2.2.1 st.2.2.2.2.2.2.1 st.2.2.2.2.2.2.2) FUEL (false, 0, xg.1.rule.Rise, xg.1.rule.Fall, xg.1.last, xg.1.version, xg.1.rows, l1)))
            (
            (law32_grown l).bind fun xg6 =>
            (registry_Registry_List xg6.1).bind fun l2 =>
            iter (fun st => law32_StatelessBack_s1 law32_awake stateless_Find k t l t1 m st.1 st.2.1 st.2.2.1 st.2.2.2.1 st.2.2.2.2.1 st.2.2.2.2.2.1 st.2.2.2.2.2.2.1 st.2.2.2.2.2.2.2) FUEL (false, 0, xg6.1.rule.Rise, xg6.1.rule.Fall, xg6.1.last, xg6.1.version, xg6.1.rows, l2))))))
def rx14 (x : Bool) : SRes := ⟨.bool x, [], [none]⟩
abbrev sums14 (law32_awake : Option Bool) (law32_grown : (List R23_Step) → Option (registry_Registry × R23_Registry)) (registry_Registry_List : registry_Registry → Option (List api_Backend)) (stateless_Find : registry_Registry → api_Key → api_Tuple → Int → Option (api_Backend × Bool)) (stateless_Find_nil : api_Key → api_Tuple → Int → Option (api_Backend × Bool)) (stateless_Make : api_Key → api_Tuple → Int → Option Int) (stateless_Open : api_Key → api_Tuple → Int → Option (Int × Bool)) : List (Nat × Summ) := [(61, s61 law32_awake), (66, s66 law32_grown), (22, s22 registry_Registry_List), (67, s67 stateless_Find stateless_Find_nil), (64, s64 stateless_Make), (65, s65 stateless_Open)]
def head14_1 (k : api_Key) (t : api_Tuple) (l : List R23_Step) (t1 : Int) (m : Int) (is : Bool) (i : Int) (xg1 : Int) (xg2 : Int) (xg4 : Int) (xg5 : Int) (c : List registry_row) (list1 : List api_Backend) : VM :=
  ⟨⟨14, 121, [(5, .pointer (some ⟨1, 0, none⟩)), (6, .pointer (some ⟨2, 0, none⟩)), (11, .int .i64 t1), (13, .int .u64 m), (17, .pointer (some ⟨10, 0, none⟩)), (19, .slice (some ⟨14, 0, none⟩) list1.length 6), (20, .bool is), (21, .int .i64 i)], [.code k14_25, .inLoop k14_25, .inBlock 0, .code k14_32], [], false, none⟩, [], [(0, .row false (vT cR23_Step l)), (1, .cells [.int .u64 k.A, .int .u64 k.B]), (2, .cells [.int .i64 t.Proto, .bool t.Src.V6, .int .u64 t.Src.Hi, .int .u64 t.Src.Lo, .bool t.Dst.V6, .int .u64 t.Dst.Hi, .int .u64 t.Dst.Lo, .int .i64 t.SPort, .int .i64 t.DPort]), (10, .row true [.int .i64 xg1, .int .i64 xg2, .slice (some ⟨11, 0, none⟩) c.length 9, .int .i64 xg4, .int .i64 xg5]), (11, .row true (vT cregistry_row c)), (14, .row true (vT capi_Backend list1))], 15⟩
theorem loop14_1 (law32_awake : Option Bool) (law32_grown : (List R23_Step) → Option (registry_Registry × R23_Registry)) (registry_Registry_List : registry_Registry → Option (List api_Backend)) (stateless_Find : registry_Registry → api_Key → api_Tuple → Int → Option (api_Backend × Bool)) (stateless_Find_nil : api_Key → api_Tuple → Int → Option (api_Backend × Bool)) (stateless_Make : api_Key → api_Tuple → Int → Option Int) (stateless_Open : api_Key → api_Tuple → Int → Option (Int × Bool)) (hS : SumsOK Try.prog (aget (sums14 law32_awake law32_grown registry_Registry_List stateless_Find stateless_Find_nil stateless_Make stateless_Open))) (k : api_Key) (t : api_Tuple) (l : List R23_Step) (t1 : Int) (m : Int) (res : Bool) : ∀ fuel (st : Bool × Int × Int × Int × Int × Int × (List registry_row) × (List api_Backend)) (o : Bool), iter (fun st => law32_StatelessBack_s1 law32_awake stateless_Find k t l t1 m st.1 st.2.1 st.2.2.1 st.2.2.2.1 st.2.2.2.2.1 st.2.2.2.2.2.1 st.2.2.2.2.2.2.1 st.2.2.2.2.2.2.2) fuel st = some o → (o = res) →
    Leads Try.prog 14 1 (head14_1 k t l t1 m st.1 st.2.1 st.2.2.1 st.2.2.2.1 st.2.2.2.2.1 st.2.2.2.2.2.1 st.2.2.2.2.2.2.1 st.2.2.2.2.2.2.2) (fun v H _ => Res 1 (rx14 res) v H) := by
  intro fuel st o h hc
  refine iter_leads (head := fun st => head14_1 k t l t1 m st.1 st.2.1 st.2.2.1 st.2.2.2.1 st.2.2.2.2.1 st.2.2.2.2.2.1 st.2.2.2.2.2.2.1 st.2.2.2.2.2.2.2) (C := fun o => (o = res)) ?_ fuel st o h hc
  clear h hc o st fuel
  intro st o h hc
  obtain ⟨is, i, xg1, xg2, xg4, xg5, c, list1⟩ := st
  replace h : law32_StatelessBack_s1 law32_awake stateless_Find k t l t1 m is i xg1 xg2 xg4 xg5 c list1 = some o := h
  show Leads Try.prog 14 1 (head14_1 k t l t1 m is i xg1 xg2 xg4 xg5 c list1) (fun v H _ => Res 1 (rx14 res) v H)
  unfold law32_StatelessBack_s1 at h
  refine ev_ok tab_ok hS true 3000 ?_
  conv => whnf
  refine br.h h ?_ ?_ ?_
  · rfl
  · clear h; intro hb h; conv => whnf
    refine br.h h ?_ ?_ ?_
    · rfl
    · clear h; intro hb h; conv => whnf
      cases h; simp only [Sum.elim_inl, head14_1] at hc
      exact lrA1 hc [(0, 0), (1, 1), (2, 2), (10, 10), (11, 11), (14, 14)] rfl
    clear h; intro hb h; conv => whnf
    replace h := oreq.elim h; obtain ⟨hb, h⟩ := h
    first | (refine req.intro hb ?_; conv => whnf) | skip
    replace h := obind.elim h; obtain ⟨e, hy, h⟩ := h
    refine rd.T (j := 0) capi_Backend_len hy (by first | omega | exact Nat.zero_add _ | exact congrArg (· + _) (Nat.zero_add _)) (by decide) rfl ?_
    conv => whnf
    cases h; simp only [Sum.elim_inl, head14_1] at hc
    exact lrA1 hc [(0, 0), (1, 1), (2, 2), (10, 10), (11, 11), (14, 14)] rfl
  clear h; intro hb h; conv => whnf
  replace h := obind.elim h; obtain ⟨f, hy, h⟩ := h
  refine sumK.introF [] (sumRun_of (aqs := [.pointer (some ⟨0, 0, none⟩), .agg ⟨[.int .u64 k.A, .int .u64 k.B]⟩, .agg ⟨[.int .i64 t.Proto, .bool t.Src.V6, .int .u64 t.Src.Hi, .int .u64 t.Src.Lo, .bool t.Dst.V6, .int .u64 t.Dst.Hi, .int .u64 t.Dst.Lo, .int .i64 t.SPort, .int .i64 t.DPort]⟩, .int .u64 m]) (ws := [.blk 10 false, .blk 11 false]) (n := 0) (m := 0) (t' := 15) (ra_cons (ra_tr rfl rfl (vp_at rfl rfl rfl rfl (vp_at rfl rfl (rn_T cregistry_row_flat) rfl vp_nil)) rfl) rfl (ra_cons rfl rfl (ra_cons rfl rfl (ra_cons rfl rfl ra_nil)))) rfl (by rfl) (r67_eq hy) rfl rfl rfl rfl (wb_skip rfl (wb_skip rfl wb_nil)) an_nil rfl) ?_
  conv => whnf
  refine br.h2 h ?_ ?_ ?_
  · rfl
  · clear h; intro hb h; conv => whnf
    all_goals (cases h; cases hc)
    all_goals exact Res.of [] rfl nw_0 (by decide) js_0 (wr_n wr_0)
  clear h; intro hb h; conv => whnf
  refine br.h h ?_ ?_ ?_
  · rfl
  · clear h; intro hb h; conv => whnf
    replace h := obind.elim h; obtain ⟨a1, hy, h⟩ := h
    refine sumK.q rfl rfl (r61_eq hy) rfl rfl rfl ?_
    conv => whnf
    all_goals (cases h; cases hc)
    all_goals exact Res.of [] rfl nw_0 (by decide) js_0 (wr_n wr_0)
  clear h; intro hb h; conv => whnf
  refine br.h2 h ?_ ?_ ?_
  · rfl
  · clear h; intro hb h; conv => whnf
    all_goals (cases h; cases hc)
    all_goals exact Res.of [] rfl nw_0 (by decide) js_0 (wr_n wr_0)
  clear h; intro hb h; conv => whnf
  replace h := obind.elim h; obtain ⟨a2, hy, h⟩ := h
  refine sumK.q rfl rfl (r61_eq hy) rfl rfl rfl ?_
  conv => whnf
  all_goals (cases h; cases hc)
  all_goals exact Res.of [] rfl nw_0 (by decide) js_0 (wr_n wr_0)
theorem leads14 (law32_awake : Option Bool) (law32_grown : (List R23_Step) → Option (registry_Registry × R23_Registry)) (registry_Registry_List : registry_Registry → Option (List api_Backend)) (stateless_Find : registry_Registry → api_Key → api_Tuple → Int → Option (api_Backend × Bool)) (stateless_Find_nil : api_Key → api_Tuple → Int → Option (api_Backend × Bool)) (stateless_Make : api_Key → api_Tuple → Int → Option Int) (stateless_Open : api_Key → api_Tuple → Int → Option (Int × Bool)) (hS : SumsOK Try.prog (aget (sums14 law32_awake law32_grown registry_Registry_List stateless_Find stateless_Find_nil stateless_Make stateless_Open))) (k : api_Key) (t : api_Tuple) (ida2 : Int) (other : Int) (l : List R23_Step) (res : Bool) (h : law32_StatelessBackF law32_awake law32_grown registry_Registry_List stateless_Find stateless_Find_nil stateless_Make stateless_Open k t ida2 other l = some res) :
    Leads Try.prog 14 1 ⟨⟨14, 121, [(0, .agg ⟨[.int .u64 k.A, .int .u64 k.B]⟩), (1, .agg ⟨[.int .i64 t.Proto, .bool t.Src.V6, .int .u64 t.Src.Hi, .int .u64 t.Src.Lo, .bool t.Dst.V6, .int .u64 t.Dst.Hi, .int .u64 t.Dst.Lo, .int .i64 t.SPort, .int .i64 t.DPort]⟩), (2, .int .u16 ida2), (3, .int .u16 other), (4, .slice (some ⟨0, 0, none⟩) l.length 7)], [.code k14_42], [], false, none⟩, [], [(0, .row false (vT cR23_Step l))], 1⟩ (fun v H _ => Res 1 (rx14 res) v H) := by
  unfold law32_StatelessBackF at h
  refine ev_ok tab_ok hS true 3000 ?_
  conv => whnf
  refine br.h h ?_ ?_ ?_
  · rfl
  · clear h; intro hb h; conv => whnf
    replace h := obind.elim h; obtain ⟨a, hy, h⟩ := h
    refine sumK.q rfl rfl (r61_eq hy) rfl rfl rfl ?_
    conv => whnf
    all_goals (cases h)
    all_goals exact Res.of [] rfl nw_0 (by decide) js_0 (wr_n wr_0)
  clear h; intro hb h; conv => whnf
  let t1 : Int := if (wI .i64 ida2) > 1 then wI .i64 ida2 else 1
  let t2 : Int := if (wI .i64 other) > 1 then wI .i64 other else 1
  replace h := obind.elim h; obtain ⟨m, hy, h⟩ := h
  refine sumK.q rfl rfl (r64_eq hy) rfl rfl rfl ?_
  conv => whnf
  replace h := obind.elim h; obtain ⟨m1, hy, h⟩ := h
  refine sumK.q rfl rfl (r64_eq hy) rfl rfl rfl ?_
  conv => whnf
  replace h := obind.elim h; obtain ⟨xo, hy, h⟩ := h
  refine sumK.q rfl rfl (r65_eq hy) rfl rfl rfl ?_
  conv => whnf
  refine br.h h ?_ ?_ ?_
  · rfl
  · clear h; intro hb h; conv => whnf
    all_goals (cases h)
    all_goals exact Res.of [] rfl nw_0 (by decide) js_0 (wr_n wr_0)
  clear h; intro hb h; conv => whnf
  refine br.h h ?_ ?_ ?_
  · rfl
  · clear h; intro hb h; conv => whnf
    all_goals (cases h)
    all_goals exact Res.of [] rfl nw_0 (by decide) js_0 (wr_n wr_0)
  clear h; intro hb h; conv => whnf
  refine br.h h ?_ ?_ ?_
  · rfl
  · clear h; intro hb h; conv => whnf
    all_goals (cases h)
    all_goals exact Res.of [] rfl nw_0 (by decide) js_0 (wr_n wr_0)
  clear h; intro hb h; conv => whnf
  refine br.h2 h ?_ ?_ ?_
  · rfl
  · clear h; intro hb h; conv => whnf
    replace h := obind.elim h; obtain ⟨xg6, hy, h⟩ := h
    refine sumK.introF [10, 12] (sumRun_of (aqs := [.slice (some ⟨0, 0, none⟩) (l : List R23_Step).length 7]) (ws := [.win 0 0 (l.length * 7) false]) (n := 4) (m := 0) (t' := 14) (ra_cons (by first | rfl | exact ra_allT cR23_Step_len cR23_Step_flat rfl rfl (by first | rfl | omega) (by first | rfl | (simp; done)) | exact ra_slT cR23_Step_len cR23_Step_flat rfl rfl (by first | rfl | omega) (by first | rfl | omega) (by first | omega | (simp at *; omega))) rfl ra_nil) rfl (by rfl) (r66_eq hy) rfl rfl rfl rfl (wb_skip rfl wb_nil) (an_cons (rfl) (an_cons (rn_T cregistry_row_flat) (an_cons (rfl) (an_cons (rn_T cR23_Row_flat) an_nil)))) rfl) ?_
    conv => whnf
    replace h := obind.elim h; obtain ⟨l2, hy, h⟩ := h
    refine sumK.introF [] (sumRun_of (aqs := [.pointer (some ⟨0, 0, none⟩)]) (ws := [.blk 10 false, .blk 11 false]) (n := 1) (m := 0) (t' := 15) (ra_cons (ra_tr rfl rfl (vp_at rfl rfl rfl rfl (vp_at rfl rfl (rn_T cregistry_row_flat) rfl vp_nil)) rfl) rfl ra_nil) rfl (by rfl) (r22_eq hy) rfl rfl rfl rfl (wb_skip rfl (wb_skip rfl wb_nil)) (an_cons (rn_T capi_Backend_flat) an_nil) rfl) ?_
    conv => whnf
    have hl := loop14_1 law32_awake law32_grown registry_Registry_List stateless_Find stateless_Find_nil stateless_Make stateless_Open hS _ _ _ _ _ res _ _ _ h rfl; simp only [head14_1] at hl
    exact lrA1 hl [(0, 0), (1, 1), (2, 2), (10, 10), (11, 11), (14, 14)] rfl
  clear h; intro hb h; conv => whnf
  refine br.h h ?_ ?_ ?_
  · rfl
  · clear h; intro hb h; conv => whnf
    all_goals (cases h)
    all_goals exact Res.of [] rfl nw_0 (by decide) js_0 (wr_n wr_0)
  clear h; intro hb h; conv => whnf
  replace h := obind.elim h; obtain ⟨xg, hy, h⟩ := h
  refine sumK.introF [10, 12] (sumRun_of (aqs := [.slice (some ⟨0, 0, none⟩) (l : List R23_Step).length 7]) (ws := [.win 0 0 (l.length * 7) false]) (n := 4) (m := 0) (t' := 14) (ra_cons (by first | rfl | exact ra_allT cR23_Step_len cR23_Step_flat rfl rfl (by first | rfl | omega) (by first | rfl | (simp; done)) | exact ra_slT cR23_Step_len cR23_Step_flat rfl rfl (by first | rfl | omega) (by first | rfl | omega) (by first | omega | (simp at *; omega))) rfl ra_nil) rfl (by rfl) (r66_eq hy) rfl rfl rfl rfl (wb_skip rfl wb_nil) (an_cons (rfl) (an_cons (rn_T cregistry_row_flat) (an_cons (rfl) (an_cons (rn_T cR23_Row_flat) an_nil)))) rfl) ?_
  conv => whnf
  replace h := obind.elim h; obtain ⟨l1, hy, h⟩ := h
  refine sumK.introF [] (sumRun_of (aqs := [.pointer (some ⟨0, 0, none⟩)]) (ws := [.blk 10 false, .blk 11 false]) (n := 1) (m := 0) (t' := 15) (ra_cons (ra_tr rfl rfl (vp_at rfl rfl rfl rfl (vp_at rfl rfl (rn_T cregistry_row_flat) rfl vp_nil)) rfl) rfl ra_nil) rfl (by rfl) (r22_eq hy) rfl rfl rfl rfl (wb_skip rfl (wb_skip rfl wb_nil)) (an_cons (rn_T capi_Backend_flat) an_nil) rfl) ?_
  conv => whnf
  have hl := loop14_1 law32_awake law32_grown registry_Registry_List stateless_Find stateless_Find_nil stateless_Make stateless_Open hS _ _ _ _ _ res _ _ _ h rfl; simp only [head14_1] at hl
  exact lrA1 hl [(0, 0), (1, 1), (2, 2), (10, 10), (11, 11), (14, 14)] rfl
def law32_StatelessBack : api_Key → api_Tuple → Int → Int → (List R23_Step) → Option Bool := law32_StatelessBackF law32_awake law32_grown registry_Registry_List stateless_Find stateless_Find_nil stateless_Make stateless_Open
end Go.Vm.Code
namespace Go.Vm.Code
open Go Go.Vm
def growSt (i : Nat) (g : registry_Registry) : Int × Int × Int × Int × Int × Int × Int × Int × Int × (List registry_row) × (List R23_Row) :=
  ((i : Int), g.rule.Rise, g.rule.Fall, g.last, g.version, g.rule.Rise, g.rule.Fall, g.last, g.version, g.rows, g.rows.map cv)
theorem grow_step {l : List R23_Step} (hl : l.length ≤ 30) {i : Nat} (hi : i < l.length) {g : registry_Registry} (h : RI (i : Int) g) : ∃ g', RI ((i + 1 : Nat) : Int) g' ∧
    law32_grown_s1 R23_Registry_Add R23_Registry_Drain R23_Registry_Remove registry_Registry_Add registry_Registry_Drain registry_Registry_Remove l i g.rule.Rise g.rule.Fall g.last g.version g.rule.Rise g.rule.Fall g.last g.version g.rows (g.rows.map cv) = some (.inl (growSt (i + 1) g')) := by
  unfold law32_grown_s1
  have hN : (i : Int) < 2 ^ 40 := by omega
  have e0 : registry_Registry.mk (health_Rule.mk g.rule.Rise g.rule.Fall) g.rows g.last g.version = g := rfl
  have e1 : R23_Registry.mk (health_Rule.mk g.rule.Rise g.rule.Fall) (g.rows.map cv) g.last g.version = cnv g := rfl
  have ec : ((i + 1 : Nat) : Int) = (i : Int) + 1 := by omega
  have stay : RI ((i + 1 : Nat) : Int) g := h.mono (by omega)
  have ok : ((0 : Int) ≤ (i : Int) ∧ (i : Int) < (l.length : Int)) := ⟨by omega, by omega⟩
  rw [cond_p (by omega), oreq_p ok, Int.toNat_natCast, List.getElem?_eq_getElem hi, Option.bind_some, e0, e1, wI64 (n := (i : Int) + 1) (by omega) (by omega), ← ec]
  generalize l[i] = e
  simp only [oreq_p ok]
  cases h0 : e.Kind == 0 with
  | true =>
    rw [cond_true, add_eq h hN, Option.bind_some, radd_eq h hN, Option.bind_some]
    exact ⟨(addG g e.N e.Addr).2.2, by rw [ec]; exact add_RI h _ _, rfl⟩
  | false =>
  rw [cond_false]
  cases h1 : e.Kind == 1 with
  | true =>
    rw [cond_true]
    rcases rid_dec g e.ID with ⟨k, r, hk, eid⟩ | hn
    · rw [← eid, remove_yes h hN hk, Option.bind_some, rremove_yes h hN hk, Option.bind_some]
      exact ⟨remG g k, by rw [ec]; exact rem_RI h k, rfl⟩
    · rw [remove_no h hn, Option.bind_some, rremove_no h hn, Option.bind_some]
      exact ⟨g, stay, rfl⟩
  | false =>
  rw [cond_false]
  cases h2 : e.Kind == 2 with
  | true =>
    rw [cond_true]
    rcases rid_dec g e.ID with ⟨k, r, hk, eid⟩ | hn
    · rw [← eid, drain_yes h hN hk, Option.bind_some, rdrain_yes h hN hk, Option.bind_some]
      by_cases c : r.drains = e.On
      · rw [if_pos c, if_pos c]; exact ⟨g, stay, rfl⟩
      · rw [if_neg c, if_neg c]
        exact ⟨updR g k ⟨r.Backend, e.On, r.health⟩ 1, by rw [ec]; exact h.upd hk (by rfl) (by decide) (by decide), rfl⟩
    · rw [drain_no h hn, Option.bind_some, rdrain_no h hn, Option.bind_some]
      exact ⟨g, stay, rfl⟩
  | false =>
    rw [cond_false]
    exact ⟨g, stay, rfl⟩
theorem grown_step (l : List R23_Step) (hl : l.length ≤ 30) : ∀ (d i : Nat) (n : Nat) (g : registry_Registry), i + d = l.length → d < n → RI (i : Int) g → ∃ g', RI (100 : Int) g' ∧ iter (fun st => law32_grown_s1 R23_Registry_Add R23_Registry_Drain R23_Registry_Remove registry_Registry_Add registry_Registry_Drain registry_Registry_Remove l st.1 st.2.1 st.2.2.1 st.2.2.2.1 st.2.2.2.2.1 st.2.2.2.2.2.1 st.2.2.2.2.2.2.1 st.2.2.2.2.2.2.2.1 st.2.2.2.2.2.2.2.2.1 st.2.2.2.2.2.2.2.2.2.1 st.2.2.2.2.2.2.2.2.2.2) n (growSt i g) = some (g', cnv g')
  | 0, i, n, g, he, hn, h => by
    obtain ⟨m, rfl⟩ : ∃ m, n = m + 1 := ⟨n - 1, by omega⟩
    refine ⟨g, h.mono (by omega), ?_⟩
    rw [iter]
    simp only [growSt]
    unfold law32_grown_s1
    rw [cond_n (by omega)]; rfl
  | d + 1, i, n, g, he, hn, h => by
    obtain ⟨m, rfl⟩ : ∃ m, n = m + 1 := ⟨n - 1, by omega⟩
    obtain ⟨g', h', e⟩ := grow_step hl (show i < l.length by omega) h
    obtain ⟨g2, h2, e2⟩ := grown_step l hl d (i + 1) m g' (by omega) (by omega) h'
    refine ⟨g2, h2, ?_⟩
    rw [iter]
    simp only [growSt] at e ⊢
    rw [e]
    exact e2
theorem grown_eq {l : List R23_Step} (hl : l.length ≤ 30) : ∃ g, RI (100 : Int) g ∧ law32_grown l = some (g, cnv g) := by
  unfold law32_grown law32_grownF
  rw [hright_eq, rright_eq, Option.bind_some, Option.bind_some, show ruleB ⟨1, 1⟩ = true from by decide, oreq.mk rfl, oreq.mk rfl]
  have hi : RI ((0 : Nat) : Int) (registry_Registry.mk ⟨1, 1⟩ [] 0 0) := { rule := by decide, len := by simp, last0 := by simp, last1 := by simp, ver0 := by simp, ver1 := by simp, ids := by simp, up := by simp }
  obtain ⟨g, h1, h2⟩ := grown_step l hl l.length 0 FUEL _ (by omega) (by rw [FUEL_eq]; omega) hi
  have e : growSt 0 ⟨⟨1, 1⟩, [], 0, 0⟩ = (0, 1, 1, 0, 0, 1, 1, 0, 0, [], []) := rfl
  rw [e] at h2
  exact ⟨g, h1, h2⟩
theorem awake32 : law32_awake = some true := by decide +kernel
theorem fnd_yes {o : Int × Bool} {r : registry_row} (ho : o.2 = true) : fnd o (tld r, true) = (tld r, true) := by
  have h4 : (tld r).State ≠ 4 := by
    simp only [tld]
    cases r.drains <;> cases r.health.Up <;> decide
  unfold fnd
  rw [if_pos ⟨ho, rfl, h4⟩]
theorem fnd_no {o : Int × Bool} {c : Prop} [Decidable c] {id : Int} : fnd o (if c then (goneB id, true) else (noB, false)) = (noB, false) := by
  unfold fnd
  by_cases h : c
  · rw [if_pos h, if_neg (fun q => q.2.2 rfl)]
  · rw [if_neg h, if_neg (fun q => absurd q.2.1 (by decide))]
theorem back_loop {k : api_Key} {t : api_Tuple} {l : List R23_Step} {a : Int} {m : Nat} (hm : m < 2 ^ 64) (hs : inU t.Src) (hd : inU t.Dst) (ho : opI k t m = (a, true)) {g : registry_Registry} (hg : RI 100 g) :
    iter (fun st => law32_StatelessBack_s1 (some true) stateless_Find k t l a (m : Int) st.1 st.2.1 st.2.2.1 st.2.2.2.1 st.2.2.2.2.1 st.2.2.2.2.2.1 st.2.2.2.2.2.2.1 st.2.2.2.2.2.2.2) FUEL (false, 0, g.rule.Rise, g.rule.Fall, g.last, g.version, g.rows, g.rows.map tld) = some true := by
  have hlen := hg.len
  refine iter_eq (fun _ => true) (fun st => ∃ i : Nat, i ≤ g.rows.length ∧ st = (decide (∃ j : Nat, j < i ∧ ∃ r, g.rows[j]? = some r ∧ r.Backend.ID = a), (i : Int), g.rule.Rise, g.rule.Fall, g.last, g.version, g.rows, g.rows.map tld)) (fun st => g.rows.length - st.2.1.toNat) ?_ FUEL _ ⟨0, by omega, by simp⟩ (by rw [FUEL_eq]; simp only []; omega)
  rintro s ⟨i, hi, rfl⟩
  dsimp only
  unfold law32_StatelessBack_s1
  have hml : (g.rows.map tld).length = g.rows.length := by simp
  rw [hml]
  rcases Nat.lt_or_ge i g.rows.length with hlt | hge
  · right
    have hk := List.getElem?_eq_getElem hlt
    have hget : (g.rows.map tld)[i]? = some (tld g.rows[i]) := by rw [List.getElem?_map, hk]; rfl
    rw [cond_p (by omega), wI64 (by omega) (by omega)]
    by_cases hex : ∃ j : Nat, j < i ∧ ∃ r, g.rows[j]? = some r ∧ r.Backend.ID = a
    · rw [decide_eq_true hex, cond_true]
      refine ⟨_, rfl, ⟨i + 1, by omega, ?_⟩, by simp only []; omega, by trivial⟩
      obtain ⟨j, hj, r, hr⟩ := hex
      rw [decide_eq_true (show ∃ j : Nat, j < i + 1 ∧ ∃ r, g.rows[j]? = some r ∧ r.Backend.ID = a from ⟨j, by omega, r, hr⟩)]; rfl
    · rw [decide_eq_false hex, cond_false, oreq_p ⟨by omega, by omega⟩, Int.toNat_natCast, hget, Option.bind_some]
      refine ⟨_, rfl, ⟨i + 1, by omega, ?_⟩, by simp only []; omega, by trivial⟩
      have : ((tld g.rows[i]).ID == a) = decide (∃ j : Nat, j < i + 1 ∧ ∃ r, g.rows[j]? = some r ∧ r.Backend.ID = a) := by
        rw [Bool.eq_iff_iff, beq_iff_eq, decide_eq_true_iff]
        constructor
        · intro e; exact ⟨i, by omega, _, hk, e⟩
        · rintro ⟨j, hj, r, hr, e⟩
          rcases Nat.lt_or_ge j i with h | h
          · exact absurd ⟨j, h, r, hr, e⟩ hex
          · have : j = i := by omega
            subst this
            rw [hk] at hr; cases hr; exact e
      rw [this]; rfl
  · left
    have e : i = g.rows.length := by omega
    subst e
    have e0 : registry_Registry.mk (health_Rule.mk g.rule.Rise g.rule.Fall) g.rows g.last g.version = g := rfl
    rw [cond_n (by omega), e0]
    rcases rid_dec g a with ⟨j, r, hk, eid⟩ | hn
    · have hgt := get_yes hg hk
      rw [eid] at hgt
      rw [sfind_eq (b := (tld r, true)) hm hs hd (by rw [ho]; exact hgt), Option.bind_some, fnd_yes (by rw [ho]), decide_eq_true (show ∃ j : Nat, j < g.rows.length ∧ ∃ r, g.rows[j]? = some r ∧ r.Backend.ID = a from ⟨j, (List.getElem?_eq_some_iff.1 hk).1, r, hk, eid⟩)]
      rw [show (tld r).ID = a from eid]
      simp
    · rw [sfind_eq hm hs hd (by rw [ho]; exact get_no hg hn), Option.bind_some, fnd_no, decide_eq_false (show ¬ ∃ j : Nat, j < g.rows.length ∧ ∃ r, g.rows[j]? = some r ∧ r.Backend.ID = a from fun ⟨j, _, r, hr, e⟩ => hn j r hr e)]
      simp
theorem opI_ck {k : api_Key} {t : api_Tuple} {a : Int} (ha : 1 ≤ a ∧ a ≤ 65535) : opI k t (ckI k t a).toNat = (a, true) := by
  obtain ⟨n, rfl⟩ := Int.eq_ofNat_of_zero_le (show 0 ≤ a by omega)
  have hw := wid16 t
  unfold ckI opI
  rw [if_pos ha, Int.toNat_natCast, Int.toNat_natCast, mkS_back (by omega), if_pos ⟨by omega, by omega, mkS_lt _ _ _⟩]
theorem statelessBack (k : api_Key) (t : api_Tuple) (id other : Int) (l : List R23_Step) (hi : 0 ≤ id ∧ id < 65536) (ho : 0 ≤ other ∧ other < 65536) (hs : inU t.Src) (hd : inU t.Dst) : law32_StatelessBack k t id other l = some true := by
  unfold law32_StatelessBack law32_StatelessBackF
  rw [awake32, Option.bind_some]
  by_cases hl : (l.length : Int) > 30
  · rw [cond_p hl]
  rw [cond_n hl]
  obtain ⟨g, hg, eg⟩ := grown_eq (l := l) (by omega)
  obtain ⟨a, ea, ha⟩ : ∃ a, (if (wI .i64 id) > 1 then wI .i64 id else 1) = a ∧ (1 ≤ a ∧ a ≤ 65535) := ⟨_, rfl, by rw [wI64 (by omega) (by omega)]; split <;> omega⟩
  obtain ⟨b, eb, hb⟩ : ∃ b, (if (wI .i64 other) > 1 then wI .i64 other else 1) = b ∧ (1 ≤ b ∧ b ≤ 65535) := ⟨_, rfl, by rw [wI64 (by omega) (by omega)]; split <;> omega⟩
  simp only [ea, eb]
  have ra := ckI_rng k t a; have rb := ckI_rng k t b
  have oa := opI_ck (k := k) (t := t) ha; have ob := opI_ck (k := k) (t := t) hb
  have lt16 : t.Proto = 6 → ckI k t a ≤ 65535 := fun h => by
    unfold ckI; rw [if_pos ha]
    have := mkS_lt k t a.toNat
    rw [show widS t = 16 from by unfold widS; rw [if_pos h]] at this; omega
  rw [smake_eq ⟨by omega, by omega⟩ hs hd, Option.bind_some, smake_eq ⟨by omega, by omega⟩ hs hd, Option.bind_some]
  have hab : (ckI k t a == ckI k t b) = (a == b) := by
    rw [Bool.eq_iff_iff, beq_iff_eq, beq_iff_eq]
    constructor
    · intro e; rw [e, ob] at oa; cases oa; rfl
    · rintro rfl; rfl
  obtain ⟨m, hm⟩ := Int.eq_ofNat_of_zero_le ra.1
  rw [hm] at lt16 ra oa hab ⊢
  rw [Int.toNat_natCast] at oa
  rw [sopen_eq (by omega) hs hd, Option.bind_some, oa, hab]
  simp only [Bool.not_true, cond_false, bne_self_eq_false, BEq.rfl]
  rw [eg, Option.bind_some, list_eq hg, Option.bind_some, back_loop (by omega) hs hd oa hg]
  by_cases h6 : t.Proto = 6
  · rw [show (t.Proto == 6) = true from by simp [h6], cond_true, cond_n (by have := lt16 h6; omega)]
  · rw [show (t.Proto == 6) = false from by simp [h6], cond_false]
def t6 (t : api_Tuple) : api_Tuple := ⟨6, t.Src, t.Dst, t.SPort, t.DPort⟩
end Go.Vm.Code
