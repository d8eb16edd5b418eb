import Derived.Test.YtadhjooghfdloaaNRegistryPlayse
namespace Go.Vm.Code
open Go Go.Vm Go.Proofs
set_option maxRecDepth 100000
set_option maxHeartbeats 4000000
set_option linter.unusedVariables false
def law23_RegistryPlays_s1 (R23_Registry_Get : R23_Registry → Int → Option (api_Backend × Bool)) (R23_Registry_List : R23_Registry → Option (List api_Backend)) (R23_Same : (List api_Backend) → (List api_Backend) → Option Bool) (law23_awake : Option Bool) (law23_one : registry_Registry → R23_Registry → R23_Step → Option (Bool × registry_Registry × R23_Registry)) (registry_Registry_Get : registry_Registry → Int → Option (api_Backend × Bool)) (registry_Registry_List : registry_Registry → Option (List api_Backend)) (registry_Registry_Version : registry_Registry → Option Int) (l : List R23_Step) (i : Int) (xg2 : Int) (xg3 : Int) (xg5 : Int) (xg6 : Int) (x : Int) (x1 : Int) (x3 : Int) (x4 : Int) (c : List registry_row) (c1 : List R23_Row) : Option (Sum (Int × Int × Int × Int × Int × Int × Int × Int × Int × (List registry_row) × (List R23_Row)) Bool) :=
  cond (decide (i < (l.length : Int)))
    (
    oreq (decide ((0 : Int) ≤ i ∧ i < (l.length : Int))) <|
    (l[i.toNat]?).bind fun (e1 : R23_Step) =>
    (registry_Registry_Get (registry_Registry.mk (health_Rule.mk xg2 xg3) c xg5 xg6) e1.ID).bind fun xg7 =>
    oreq (decide ((0 : Int) ≤ i ∧ i < (l.length : Int))) <|
    (R23_Registry_Get (R23_Registry.mk (health_Rule.mk x x1) c1 x3 x4) e1.ID).bind fun xg8 =>
    let t1 := !((xg7.1.ID == xg8.1.ID) && ((xg7.1.Weight == xg8.1.Weight) && ((xg7.1.State == xg8.1.State) && ((xg7.1.Addr.V6 == xg8.1.Addr.V6) && ((xg7.1.Addr.Hi == xg8.1.Addr.Hi) && ((xg7.1.Addr.Lo == xg8.1.Addr.Lo) && true))))))
    cond (t1)
      (
      some (.inr (false)))
      (
      cond (!(xg7.2 == xg8.2))
        (
        some (.inr (false)))
        (
        oreq (decide ((0 : Int) ≤ i ∧ i < (l.length : Int))) <|
        (law23_one (registry_Registry.mk (health_Rule.mk xg2 xg3) c xg5 xg6) (R23_Registry.mk (health_Rule.mk x x1) c1 x3 x4) e1).bind fun xo1 =>
        cond (!xo1.1)
          (
          some (.inr (false)))
          (
          (registry_Registry_List xo1.2.1).bind fun l3 =>
          (R23_Registry_List xo1.2.2).bind fun l4 =>
          (R23_Same l3 l4).bind fun s1 =>
          cond (!s1)
            (
            some (.inr (false)))
            (
            (registry_Registry_Version xo1.2.1).bind fun xv1 =>
            cond (xv1 != xo1.2.2.Version)
              (
              some (.inr (false)))
              (
              some (.inl (wI .i64 (i + 1), xo1.2.1.rule.Rise, xo1.2.1.rule.Fall, xo1.2.1.last, xo1.2.1.version, xo1.2.2.Rule.Rise, xo1.2.2.Rule.Fall, xo1.2.2.Last, xo1.2.2.Version, xo1.2.1.rows, xo1.2.2.L))))))))
    (
    (law23_awake).bind fun a3 =>
    some (.inr (a3)))
def law23_RegistryPlaysF (R21_Right : health_Rule → Option Bool) (R23_Registry_Get : R23_Registry → Int → Option (api_Backend × Bool)) (R23_Registry_List : R23_Registry → Option (List api_Backend)) (R23_Same : (List api_Backend) → (List api_Backend) → Option Bool) (health_Right : health_Rule → Option Bool) (law23_awake : Option Bool) (law23_one : registry_Registry → R23_Registry → R23_Step → Option (Bool × registry_Registry × R23_Registry)) (registry_Registry_Get : registry_Registry → Int → Option (api_Backend × Bool)) (registry_Registry_List : registry_Registry → Option (List api_Backend)) (registry_Registry_List_nil : Option (List api_Backend)) (registry_Registry_Version : registry_Registry → Option Int) (registry_Registry_Version_nil : Option Int) (ra0 : health_Rule) (l : List R23_Step) : Option Bool :=
  cond (decide ((l.length : Int) > 100))
    (
    (law23_awake).bind fun a =>
    some (a))
    (
    (health_Right ra0).bind fun xr =>
    cond (!xr)
      (
      (R21_Right ra0).bind fun xr1 =>
      cond (!xr1)
        (
        cond (decide (0 < (l.length : Int)))
          (
          (law23_awake).bind fun a1 =>
          some (a1))
          (
          (law23_awake).bind fun a2 =>
          some (a2)))
        (
        some (false)))
      (
      (R21_Right ra0).bind fun xr2 =>
      cond (!xr2)
        (
        some (false))
        (
        cond (decide (0 < (l.length : Int)))
          (
          oreq (decide ((0 : Int) ≤ (0 : Int) ∧ (0 : Int) < (l.length : Int))) <|
          (l[0]?).bind fun (e : R23_Step) =>
          (registry_Registry_Get (registry_Registry.mk ra0 [] 0 0) e.ID).bind fun xg =>
          oreq (decide ((0 : Int) ≤ (0 : Int) ∧ (0 : Int) < (l.length : Int))) <|
          (R23_Registry_Get (R23_Registry.mk ra0 [] 0 0) e.ID).bind fun xg1 =>
          let t := !((xg.1.ID == xg1.1.ID) && ((xg.1.Weight == xg1.1.Weight) && ((xg.1.State == xg1.1.State) && ((xg.1.Addr.V6 == xg1.1.Addr.V6) && ((xg.1.Addr.Hi == xg1.1.Addr.Hi) && ((xg.1.Addr.Lo == xg1.1.Addr.Lo) && true))))))
          cond (t)
            (
            some (false))
            (
            cond (!(xg.2 == xg1.2))
              (
              some (false))
              (
              oreq (decide ((0 : Int) ≤ (0 : Int) ∧ (0 : Int) < (l.length : Int))) <|
              (law23_one (registry_Registry.mk ra0 [] 0 0) (R23_Registry.mk ra0 [] 0 0) e).bind fun xo =>
              cond (!xo.1)
                (
                some (false))
                (
                (registry_Registry_List xo.2.1).bind fun l1 =>
                (R23_Registry_List xo.2.2).bind fun l2 =>
                (R23_Same l1 l2).bind fun s =>
                cond (!s)
                  (
                  some (false))
                  (
                  (registry_Registry_Version xo.2.1).bind fun xv =>
                  cond (xv != xo.2.2.Version)
                    (
                    some (false))
                    (
                    iter (fun st => law23_RegistryPlays_s1 R23_Registry_Get R23_Registry_List R23_Same law23_awake law23_one registry_Registry_Get registry_Registry_List registry_Registry_Version l st.1 st.2.1 st.2.2.1 st.2.2.2.1 st.2.2.2.2.1 st.2.2.2.2.2.1 st.2.2.2.2.2.2.1 st.2.2.2.2.2.2.2.1 st.2.2.2.2.2.2.2.2.1 st.2.2.2.2.2.2.2.2.2.1 st.2.2.2.2.2.2.2.2.2.2) FUEL (1, xo.2.1.rule.Rise, xo.2.1.rule.Fall, xo.2.1.last, xo.2.1.version, xo.2.2.Rule.Rise, xo.2.2.Rule.Fall, xo.2.2.Last, xo.2.2.Version, xo.2.1.rows, xo.2.2.L)))))))
          (
          (law23_awake).bind fun a4 =>
          some (a4)))))
def rx3 (x : Bool) : SRes := ⟨.bool x, [], [none]⟩
def r3 (g : health_Rule → (List R23_Step) → Option Bool) : Dec := dV uvhealth_Rule fun (y0 : health_Rule) => dSl 0 7 (unR 7 unR23_Step) fun (y1 : List R23_Step) => dEnd (ofG (g y0 y1) rx3)
def s3 (g : health_Rule → (List R23_Step) → Option Bool) : Summ := ⟨[.v, .sl 7], r3 g⟩
abbrev sums3 (R21_Right : health_Rule → Option Bool) (R23_Registry_Get : R23_Registry → Int → Option (api_Backend × Bool)) (R23_Registry_List : R23_Registry → Option (List api_Backend)) (R23_Same : (List api_Backend) → (List api_Backend) → Option Bool) (health_Right : health_Rule → Option Bool) (law23_awake : Option Bool) (law23_one : registry_Registry → R23_Registry → R23_Step → Option (Bool × registry_Registry × R23_Registry)) (registry_Registry_Get : registry_Registry → Int → Option (api_Backend × Bool)) (registry_Registry_List : registry_Registry → Option (List api_Backend)) (registry_Registry_List_nil : Option (List api_Backend)) (registry_Registry_Version : registry_Registry → Option Int) (registry_Registry_Version_nil : Option Int) : List (Nat × Summ) := [(25, s25 R21_Right), (19, s19 R23_Registry_Get), (23, s23 R23_Registry_List), (21, s21 R23_Same), (69, s69 health_Right), (15, s15 law23_awake), (20, s20 law23_one), (18, s18 registry_Registry_Get), (22, s22 registry_Registry_List registry_Registry_List_nil), (24, s24 registry_Registry_Version registry_Registry_Version_nil)]
def head3_1 (l : List R23_Step) (i : Int) (xg2 : Int) (xg3 : Int) (xg5 : Int) (xg6 : Int) (x : Int) (x1 : Int) (x3 : Int) (x4 : Int) (c : List registry_row) (c1 : List R23_Row) : VM :=
  ⟨⟨3, 106, [(1, .slice (some ⟨0, 0, none⟩) l.length 7), (5, .pointer (some ⟨3, 0, none⟩)), (7, .pointer (some ⟨5, 0, none⟩)), (8, .int .i64 i)], [.code k3_29, .inLoop k3_29, .inBlock 0, .code k3_34], [], false, none⟩, [], [(0, .row false (vT cR23_Step l)), (3, .cells [.int .i64 xg2, .int .i64 xg3, .slice (some ⟨25, 0, none⟩) c.length 9, .int .i64 xg5, .int .i64 xg6]), (5, .cells [.int .i64 x, .int .i64 x1, .slice (some ⟨26, 0, none⟩) c1.length 8, .int .i64 x3, .int .i64 x4]), (25, .row true (vT cregistry_row c)), (26, .row true (vT cR23_Row c1))], 49⟩
theorem loop3_1 (R21_Right : health_Rule → Option Bool) (R23_Registry_Get : R23_Registry → Int → Option (api_Backend × Bool)) (R23_Registry_List : R23_Registry → Option (List api_Backend)) (R23_Same : (List api_Backend) → (List api_Backend) → Option Bool) (health_Right : health_Rule → Option Bool) (law23_awake : Option Bool) (law23_one : registry_Registry → R23_Registry → R23_Step → Option (Bool × registry_Registry × R23_Registry)) (registry_Registry_Get : registry_Registry → Int → Option (api_Backend × Bool)) (registry_Registry_List : registry_Registry → Option (List api_Backend)) (registry_Registry_List_nil : Option (List api_Backend)) (registry_Registry_Version : registry_Registry → Option Int) (registry_Registry_Version_nil : Option Int) (hS : SumsOK Try.prog (aget (sums3 R21_Right R23_Registry_Get R23_Registry_List R23_Same health_Right law23_awake law23_one registry_Registry_Get registry_Registry_List registry_Registry_List_nil registry_Registry_Version registry_Registry_Version_nil))) (l : List R23_Step) (res : Bool) : ∀ fuel (st : Int × Int × Int × Int × Int × Int × Int × Int × Int × (List registry_row) × (List R23_Row)) (o : Bool), iter (fun st => law23_RegistryPlays_s1 R23_Registry_Get R23_Registry_List R23_Same law23_awake law23_one registry_Registry_Get registry_Registry_List registry_Registry_Version l st.1 st.2.1 st.2.2.1 st.2.2.2.1 st.2.2.2.2.1 st.2.2.2.2.2.1 st.2.2.2.2.2.2.1 st.2.2.2.2.2.2.2.1 st.2.2.2.2.2.2.2.2.1 st.2.2.2.2.2.2.2.2.2.1 st.2.2.2.2.2.2.2.2.2.2) fuel st = some o → (o = res) →
    Leads Try.prog 3 1 (head3_1 l st.1 st.2.1 st.2.2.1 st.2.2.2.1 st.2.2.2.2.1 st.2.2.2.2.2.1 st.2.2.2.2.2.2.1 st.2.2.2.2.2.2.2.1 st.2.2.2.2.2.2.2.2.1 st.2.2.2.2.2.2.2.2.2.1 st.2.2.2.2.2.2.2.2.2.2) (fun v H _ => Res 1 (rx3 res) v H) := by
  intro fuel st o h hc
  refine iter_leads (head := fun st => head3_1 l st.1 st.2.1 st.2.2.1 st.2.2.2.1 st.2.2.2.2.1 st.2.2.2.2.2.1 st.2.2.2.2.2.2.1 st.2.2.2.2.2.2.2.1 st.2.2.2.2.2.2.2.2.1 st.2.2.2.2.2.2.2.2.2.1 st.2.2.2.2.2.2.2.2.2.2) (C := fun o => (o = res)) ?_ fuel st o h hc
  clear h hc o st fuel
  intro st o h hc
  obtain ⟨i, xg2, xg3, xg5, xg6, x, x1, x3, x4, c, c1⟩ := st
  replace h : law23_RegistryPlays_s1 R23_Registry_Get R23_Registry_List R23_Same law23_awake law23_one registry_Registry_Get registry_Registry_List registry_Registry_Version l i xg2 xg3 xg5 xg6 x x1 x3 x4 c c1 = some o := h
  show Leads Try.prog 3 1 (head3_1 l i xg2 xg3 xg5 xg6 x x1 x3 x4 c c1) (fun v H _ => Res 1 (rx3 res) v H)
  unfold law23_RegistryPlays_s1 at h
  refine ev_ok tab_ok hS true 3000 ?_
  conv => whnf
  refine br.h2 h ?_ ?_ ?_
  · rfl
  · clear h; intro hb h; conv => whnf
    replace h := obind.elim h; obtain ⟨a3, hy, h⟩ := h
    refine sumK.q rfl rfl (r15_eq hy) rfl rfl rfl ?_
    conv => whnf
    all_goals (cases h; cases hc)
    all_goals exact Res.of [] rfl nw_0 (by decide) js_0 (wr_n wr_0)
  clear h; intro hb h; conv => whnf
  replace h := oreq.elim h; obtain ⟨hb, h⟩ := h
  first | (refine req.intro hb ?_; conv => whnf) | skip
  replace h := obind.elim h; obtain ⟨e1, hy, h⟩ := h
  refine rd.T (j := 1) cR23_Step_len hy (by first | omega | exact Nat.zero_add _ | exact congrArg (· + _) (Nat.zero_add _)) (by decide) rfl ?_
  conv => whnf
  replace h := obind.elim h; obtain ⟨xg7, hy, h⟩ := h
  refine sumK.introF [] (sumRun_of (aqs := [.pointer (some ⟨0, 0, none⟩), .int .i64 e1.ID]) (ws := [.blk 3 false, .blk 25 false]) (n := 0) (m := 0) (t' := 49) (ra_cons (ra_tr rfl rfl (vp_at rfl rfl rfl rfl (vp_at rfl rfl (rn_T cregistry_row_flat) rfl vp_nil)) rfl) rfl (ra_cons rfl rfl ra_nil)) rfl (by rfl) (r18_eq hy) rfl rfl rfl rfl (wb_skip rfl (wb_skip rfl wb_nil)) an_nil rfl) ?_
  conv => whnf
  replace h := oreq.elim h; obtain ⟨hb, h⟩ := h
  first | (refine req.intro hb ?_; conv => whnf) | skip
  refine rd.T (i := i.toNat) (x := e1) (j := 1) cR23_Step_len (by assumption) (by first | omega | exact Nat.zero_add _ | exact congrArg (· + _) (Nat.zero_add _)) (by decide) rfl ?_
  conv => whnf
  replace h := obind.elim h; obtain ⟨xg8, hy, h⟩ := h
  refine sumK.introF [] (sumRun_of (aqs := [.pointer (some ⟨0, 0, none⟩), .int .i64 e1.ID]) (ws := [.blk 5 false, .blk 26 false]) (n := 0) (m := 0) (t' := 50) (ra_cons (ra_tr rfl rfl (vp_at rfl rfl rfl rfl (vp_at rfl rfl (rn_T cR23_Row_flat) rfl vp_nil)) rfl) rfl (ra_cons rfl rfl ra_nil)) rfl (by rfl) (r19_eq hy) rfl rfl rfl rfl (wb_skip rfl (wb_skip rfl wb_nil)) an_nil rfl) ?_
  conv => whnf
  let t1 : Bool := !((xg7.1.ID == xg8.1.ID) && ((xg7.1.Weight == xg8.1.Weight) && ((xg7.1.State == xg8.1.State) && ((xg7.1.Addr.V6 == xg8.1.Addr.V6) && ((xg7.1.Addr.Hi == xg8.1.Addr.Hi) && ((xg7.1.Addr.Lo == xg8.1.Addr.Lo) && true))))))
  refine br.h h ?_ ?_ ?_
  · rfl
  · clear h; intro hb h; conv => whnf
    all_goals (cases h; cases hc)
    all_goals exact Res.of [] rfl nw_0 (by decide) js_0 (wr_n wr_0)
  clear h; intro hb h; conv => whnf
  refine br.h h ?_ ?_ ?_
  · rfl
  · clear h; intro hb h; conv => whnf
    all_goals (cases h; cases hc)
    all_goals exact Res.of [] rfl nw_0 (by decide) js_0 (wr_n wr_0)
  clear h; intro hb h; conv => whnf
  replace h := oreq.elim h; obtain ⟨hb, h⟩ := h
  first | (refine req.intro hb ?_; conv => whnf) | skip
  refine ld_T (i := i.toNat) (x := e1) cR23_Step_len (by assumption) (by first | omega | exact Nat.zero_add _ | exact congrArg (· + _) (Nat.zero_add _)) rfl ?_
  conv => whnf
  replace h := obind.elim h; obtain ⟨xo1, hy, h⟩ := h
  refine sumK.introF [3, 5] (sumRun_of (aqs := [.pointer (some ⟨0, 0, none⟩), .pointer (some ⟨2, 0, none⟩), .agg ⟨[.int .i64 e1.Kind, .int .i64 e1.ID, .int .i64 e1.N, .bool e1.Addr.V6, .int .u64 e1.Addr.Hi, .int .u64 e1.Addr.Lo, .bool e1.On]⟩]) (ws := [.blk 3 true, .blk 25 true, .blk 5 true, .blk 26 true]) (n := 2) (m := 0) (t' := 68) (ra_cons (ra_tr rfl rfl (vp_at rfl rfl rfl rfl (vp_at rfl rfl (rn_T cregistry_row_flat) rfl vp_nil)) rfl) rfl (ra_cons (ra_tr rfl rfl (vp_at rfl rfl rfl rfl (vp_at rfl rfl (rn_T cR23_Row_flat) rfl vp_nil)) rfl) rfl (ra_cons rfl rfl ra_nil))) rfl (by rfl) (r20_eq hy) rfl rfl rfl rfl (wb_blk rfl rfl rfl rfl (wb_del (wb_blk rfl rfl rfl rfl (wb_del wb_nil)))) (an_cons (rn_T cregistry_row_flat) (an_cons (rn_T cR23_Row_flat) an_nil)) rfl) ?_
  conv => whnf
  refine br.h h ?_ ?_ ?_
  · rfl
  · clear h; intro hb h; conv => whnf
    all_goals (cases h; cases hc)
    all_goals exact Res.of [] rfl nw_0 (by decide) js_0 (wr_n wr_0)
  clear h; intro hb h; conv => whnf
  replace h := obind.elim h; obtain ⟨l3, hy, h⟩ := h
  refine sumK.introF [] (sumRun_of (aqs := [.pointer (some ⟨0, 0, none⟩)]) (ws := [.blk 3 false, .blk 66 false]) (n := 1) (m := 0) (t' := 74) (ra_cons (ra_tr rfl rfl (vp_at rfl rfl rfl rfl (vp_at rfl rfl (rn_T cregistry_row_flat) rfl vp_nil)) rfl) rfl ra_nil) rfl (by rfl) (r22_eq hy) rfl rfl rfl rfl (wb_skip rfl (wb_skip rfl wb_nil)) (an_cons (rn_T capi_Backend_flat) an_nil) rfl) ?_
  conv => whnf
  replace h := obind.elim h; obtain ⟨l4, hy, h⟩ := h
  refine sumK.introF [] (sumRun_of (aqs := [.pointer (some ⟨0, 0, none⟩)]) (ws := [.blk 5 false, .blk 67 false]) (n := 1) (m := 0) (t' := 77) (ra_cons (ra_tr rfl rfl (vp_at rfl rfl rfl rfl (vp_at rfl rfl (rn_T cR23_Row_flat) rfl vp_nil)) rfl) rfl ra_nil) rfl (by rfl) (r23_eq hy) rfl rfl rfl rfl (wb_skip rfl (wb_skip rfl wb_nil)) (an_cons (rn_T capi_Backend_flat) an_nil) rfl) ?_
  conv => whnf
  replace h := obind.elim h; obtain ⟨s1, hy, h⟩ := h
  refine sumK.introF [] (sumRun_of (aqs := [.slice (some ⟨0, 0, none⟩) (l3 : List api_Backend).length 6, .slice (some ⟨1, 0, none⟩) (l4 : List api_Backend).length 6]) (ws := [.win 73 0 (l3.length * 6) false, .win 76 0 (l4.length * 6) false]) (n := 0) (m := 0) (t' := 78) (ra_cons (by first | rfl | exact ra_allT capi_Backend_len capi_Backend_flat rfl rfl (by first | rfl | omega) (by first | rfl | (simp; done)) | exact ra_slT capi_Backend_len capi_Backend_flat rfl rfl (by first | rfl | omega) (by first | rfl | omega) (by first | omega | (simp at *; omega))) rfl (ra_cons (by first | rfl | exact ra_allT capi_Backend_len capi_Backend_flat rfl rfl (by first | rfl | omega) (by first | rfl | (simp; done)) | exact ra_slT capi_Backend_len capi_Backend_flat rfl rfl (by first | rfl | omega) (by first | rfl | omega) (by first | omega | (simp at *; omega))) rfl ra_nil)) rfl (by rfl) (r21_eq hy) rfl rfl rfl rfl (wb_skip rfl (wb_skip rfl wb_nil)) an_nil rfl) ?_
  conv => whnf
  refine br.h h ?_ ?_ ?_
  · rfl
  · clear h; intro hb h; conv => whnf
    all_goals (cases h; cases hc)
    all_goals exact Res.of [] rfl nw_0 (by decide) js_0 (wr_n wr_0)
  clear h; intro hb h; conv => whnf
  replace h := obind.elim h; obtain ⟨xv1, hy, h⟩ := h
  refine sumK.introF [] (sumRun_of (aqs := [.pointer (some ⟨0, 0, none⟩)]) (ws := [.blk 3 false, .blk 66 false]) (n := 0) (m := 0) (t' := 83) (ra_cons (ra_tr rfl rfl (vp_at rfl rfl rfl rfl (vp_at rfl rfl (rn_T cregistry_row_flat) rfl vp_nil)) rfl) rfl ra_nil) rfl (by rfl) (r24_eq hy) rfl rfl rfl rfl (wb_skip rfl (wb_skip rfl wb_nil)) an_nil rfl) ?_
  conv => whnf
  refine br.h h ?_ ?_ ?_
  · rfl
  · clear h; intro hb h; conv => whnf
    all_goals (cases h; cases hc)
    all_goals exact Res.of [] rfl nw_0 (by decide) js_0 (wr_n wr_0)
  clear h; intro hb h; conv => whnf
  cases h; simp only [Sum.elim_inl, head3_1] at hc
  refine Leads.re hc [(0, 0), (3, 3), (5, 5), (25, 66), (26, 67)] rfl ?_ ?_ <;> (repeat' first | exact trivial | refine ⟨⟨_, rfl, rfl⟩, ?_⟩ | refine ⟨⟨_, _, rfl, rfl, .rowF (vI_flat _ _) id⟩, ?_⟩ | refine ⟨⟨_, _, rfl, rfl, .rowF (vS_flat _) id⟩, ?_⟩ | refine ⟨⟨_, _, rfl, rfl, .rowF (vB_flat _) id⟩, ?_⟩ | refine ⟨⟨_, _, rfl, rfl, .rowF (vT_flat (by first | exact chealth_Rule_flat | exact capi_Addr_flat | exact cR23_Step_flat | exact capi_Backend_flat | exact chealth_State_flat | exact cregistry_row_flat | exact cR23_Row_flat) _) id⟩, ?_⟩ | refine ⟨⟨_, _, rfl, rfl, .tyF (vI_flat _ _)⟩, ?_⟩ | refine ⟨⟨_, _, rfl, rfl, .ty rfl⟩, ?_⟩ | refine ⟨⟨_, _, rfl, rfl, .cells rfl⟩, ?_⟩ | refine ⟨⟨_, _, rfl, rfl, .row rfl id⟩, ?_⟩ | refine ⟨⟨_, _, rfl, rfl, .cr rfl⟩, ?_⟩ | refine ⟨⟨_, _, rfl, rfl, .rc rfl⟩, ?_⟩ | refine ⟨⟨_, _, rfl, rfl, .marks⟩, ?_⟩ | refine ⟨⟨_, _, rfl, rfl, .siter _ _⟩, ?_⟩ | refine ⟨⟨_, _, rfl, rfl, .loop rfl rfl rfl rfl (by repeat' first | exact trivial | refine ⟨rfl, ?_⟩) rfl rfl rfl rfl⟩, ?_⟩)
theorem leads3 (R21_Right : health_Rule → Option Bool) (R23_Registry_Get : R23_Registry → Int → Option (api_Backend × Bool)) (R23_Registry_List : R23_Registry → Option (List api_Backend)) (R23_Same : (List api_Backend) → (List api_Backend) → Option Bool) (health_Right : health_Rule → Option Bool) (law23_awake : Option Bool) (law23_one : registry_Registry → R23_Registry → R23_Step → Option (Bool × registry_Registry × R23_Registry)) (registry_Registry_Get : registry_Registry → Int → Option (api_Backend × Bool)) (registry_Registry_List : registry_Registry → Option (List api_Backend)) (registry_Registry_List_nil : Option (List api_Backend)) (registry_Registry_Version : registry_Registry → Option Int) (registry_Registry_Version_nil : Option Int) (hS : SumsOK Try.prog (aget (sums3 R21_Right R23_Registry_Get R23_Registry_List R23_Same health_Right law23_awake law23_one registry_Registry_Get registry_Registry_List registry_Registry_List_nil registry_Registry_Version registry_Registry_Version_nil))) (ra0 : health_Rule) (l : List R23_Step) (res : Bool) (h : law23_RegistryPlaysF R21_Right R23_Registry_Get R23_Registry_List R23_Same health_Right law23_awake law23_one registry_Registry_Get registry_Registry_List registry_Registry_List_nil registry_Registry_Version registry_Registry_Version_nil ra0 l = some res) :
    Leads Try.prog 3 1 ⟨⟨3, 106, [(0, .agg ⟨[.int .i64 ra0.Rise, .int .i64 ra0.Fall]⟩), (1, .slice (some ⟨0, 0, none⟩) l.length 7)], [.code k3_40], [], false, none⟩, [], [(0, .row false (vT cR23_Step l))], 1⟩ (fun v H _ => Res 1 (rx3 res) v H) := by
  unfold law23_RegistryPlaysF at h
  refine ev_ok tab_ok hS true 3000 ?_
  conv => whnf
  refine br.h h ?_ ?_ ?_
  · rfl
  · clear h; intro hb h; conv => whnf
    replace h := obind.elim h; obtain ⟨a, hy, h⟩ := h
    refine sumK.q rfl rfl (r15_eq hy) rfl rfl rfl ?_
    conv => whnf
    all_goals (cases h)
    all_goals exact Res.of [] rfl nw_0 (by decide) js_0 (wr_n wr_0)
  clear h; intro hb h; conv => whnf
  replace h := obind.elim h; obtain ⟨xr, hy, h⟩ := h
  refine sumK.q rfl rfl (r69_eq hy) rfl rfl rfl ?_
  conv => whnf
  refine br.h h ?_ ?_ ?_
  · rfl
  · clear h; intro hb h; conv => whnf
    replace h := obind.elim h; obtain ⟨xr1, hy, h⟩ := h
    refine sumK.q rfl rfl (r25_eq hy) rfl rfl rfl ?_
    conv => whnf
    refine br.h2 h ?_ ?_ ?_
    · rfl
    · clear h; intro hb h; conv => whnf
      all_goals (cases h)
      all_goals exact Res.of [] rfl nw_0 (by decide) js_0 (wr_n wr_0)
    clear h; intro hb h; conv => whnf
    refine ev_ok tab_ok hS true 3000 ?_
    conv => whnf
    refine br.h h ?_ ?_ ?_
    · rfl
    · clear h; intro hb h; conv => whnf
      replace h := obind.elim h; obtain ⟨a1, hy, h⟩ := h
      refine sumK.q rfl rfl (r15_eq hy) rfl rfl rfl ?_
      conv => whnf
      all_goals (cases h)
      all_goals exact Res.of [] rfl nw_0 (by decide) js_0 (wr_n wr_0)
    clear h; intro hb h; conv => whnf
    replace h := obind.elim h; obtain ⟨a2, hy, h⟩ := h
    refine sumK.q rfl rfl (r15_eq hy) rfl rfl rfl ?_
    conv => whnf
    all_goals (cases h)
    all_goals exact Res.of [] rfl nw_0 (by decide) js_0 (wr_n wr_0)
  clear h; intro hb h; conv => whnf
  replace h := obind.elim h; obtain ⟨xr2, hy, h⟩ := h
  refine sumK.q rfl rfl (r25_eq hy) rfl rfl rfl ?_
  conv => whnf
  refine br.h h ?_ ?_ ?_
  · rfl
  · clear h; intro hb h; conv => whnf
    all_goals (cases h)
    all_goals exact Res.of [] rfl nw_0 (by decide) js_0 (wr_n wr_0)
  clear h; intro hb h; conv => whnf
  refine ev_ok tab_ok hS true 3000 ?_
  conv => whnf
  refine br.h2 h ?_ ?_ ?_
  · rfl
  · clear h; intro hb h; conv => whnf
    replace h := obind.elim h; obtain ⟨a4, hy, h⟩ := h
    refine sumK.q rfl rfl (r15_eq hy) rfl rfl rfl ?_
    conv => whnf
    all_goals (cases h)
    all_goals exact Res.of [] rfl nw_0 (by decide) js_0 (wr_n wr_0)
  clear h; intro hb h; conv => whnf
  replace h := oreq.elim h; obtain ⟨hb, h⟩ := h
  first | (refine req.intro hb ?_; conv => whnf) | skip
  replace h := obind.elim h; obtain ⟨e, hy, h⟩ := h
  refine rd.T (j := 1) cR23_Step_len hy (by first | omega | exact Nat.zero_add _ | exact congrArg (· + _) (Nat.zero_add _)) (by decide) rfl ?_
  conv => whnf
  replace h := obind.elim h; obtain ⟨xg, hy, h⟩ := h
  refine sumK.introF [] (sumRun_of (aqs := [.pointer (some ⟨0, 0, none⟩), .int .i64 e.ID]) (ws := [.blk 3 false, .emp false]) (n := 0) (m := 1) (t' := 7) (ra_cons (ra_tr rfl rfl (vp_at rfl rfl rfl rfl (vp_emp vp_nil)) rfl) rfl (ra_cons rfl rfl ra_nil)) rfl (by rfl) (r18_eq hy) rfl rfl rfl rfl (wb_skip rfl (wb_skip rfl wb_nil)) an_nil rfl) ?_
  conv => whnf
  replace h := oreq.elim h; obtain ⟨hb, h⟩ := h
  first | (refine req.intro hb ?_; conv => whnf) | skip
  refine rd.T (i := 0) (x := e) (j := 1) cR23_Step_len (by assumption) (by first | omega | exact Nat.zero_add _ | exact congrArg (· + _) (Nat.zero_add _)) (by decide) rfl ?_
  conv => whnf
  replace h := obind.elim h; obtain ⟨xg1, hy, h⟩ := h
  refine sumK.introF [] (sumRun_of (aqs := [.pointer (some ⟨0, 0, none⟩), .int .i64 e.ID]) (ws := [.blk 5 false, .emp false]) (n := 0) (m := 1) (t' := 9) (ra_cons (ra_tr rfl rfl (vp_at rfl rfl rfl rfl (vp_emp vp_nil)) rfl) rfl (ra_cons rfl rfl ra_nil)) rfl (by rfl) (r19_eq hy) rfl rfl rfl rfl (wb_skip rfl (wb_skip rfl wb_nil)) an_nil rfl) ?_
  conv => whnf
  let t : Bool := !((xg.1.ID == xg1.1.ID) && ((xg.1.Weight == xg1.1.Weight) && ((xg.1.State == xg1.1.State) && ((xg.1.Addr.V6 == xg1.1.Addr.V6) && ((xg.1.Addr.Hi == xg1.1.Addr.Hi) && ((xg.1.Addr.Lo == xg1.1.Addr.Lo) && true))))))
  refine br.h h ?_ ?_ ?_
  · rfl
  · clear h; intro hb h; conv => whnf
    all_goals (cases h)
    all_goals exact Res.of [] rfl nw_0 (by decide) js_0 (wr_n wr_0)
  clear h; intro hb h; conv => whnf
  refine br.h h ?_ ?_ ?_
  · rfl
  · clear h; intro hb h; conv => whnf
    all_goals (cases h)
    all_goals exact Res.of [] rfl nw_0 (by decide) js_0 (wr_n wr_0)
  clear h; intro hb h; conv => whnf
  replace h := oreq.elim h; obtain ⟨hb, h⟩ := h
  first | (refine req.intro hb ?_; conv => whnf) | skip
  refine ld_T (i := 0) (x := e) cR23_Step_len (by assumption) (by first | omega | exact Nat.zero_add _ | exact congrArg (· + _) (Nat.zero_add _)) rfl ?_
  conv => whnf
  replace h := obind.elim h; obtain ⟨xo, hy, h⟩ := h
  refine sumK.introF [3, 5] (sumRun_of (aqs := [.pointer (some ⟨0, 0, none⟩), .pointer (some ⟨2, 0, none⟩), .agg ⟨[.int .i64 e.Kind, .int .i64 e.ID, .int .i64 e.N, .bool e.Addr.V6, .int .u64 e.Addr.Hi, .int .u64 e.Addr.Lo, .bool e.On]⟩]) (ws := [.blk 3 true, .emp true, .blk 5 true, .emp true]) (n := 2) (m := 2) (t' := 29) (ra_cons (ra_tr rfl rfl (vp_at rfl rfl rfl rfl (vp_emp vp_nil)) rfl) rfl (ra_cons (ra_tr rfl rfl (vp_at rfl rfl rfl rfl (vp_emp vp_nil)) rfl) rfl (ra_cons rfl rfl ra_nil))) rfl (by rfl) (r20_eq hy) rfl rfl rfl rfl (wb_blk rfl rfl rfl rfl (wb_skip rfl (wb_blk rfl rfl rfl rfl (wb_skip rfl wb_nil)))) (an_cons (rn_T cregistry_row_flat) (an_cons (rn_T cR23_Row_flat) an_nil)) rfl) ?_
  conv => whnf
  refine br.h h ?_ ?_ ?_
  · rfl
  · clear h; intro hb h; conv => whnf
    all_goals (cases h)
    all_goals exact Res.of [] rfl nw_0 (by decide) js_0 (wr_n wr_0)
  clear h; intro hb h; conv => whnf
  replace h := obind.elim h; obtain ⟨l1, hy, h⟩ := h
  refine sumK.introF [] (sumRun_of (aqs := [.pointer (some ⟨0, 0, none⟩)]) (ws := [.blk 3 false, .blk 25 false]) (n := 1) (m := 0) (t' := 35) (ra_cons (ra_tr rfl rfl (vp_at rfl rfl rfl rfl (vp_at rfl rfl (rn_T cregistry_row_flat) rfl vp_nil)) rfl) rfl ra_nil) rfl (by rfl) (r22_eq hy) rfl rfl rfl rfl (wb_skip rfl (wb_skip rfl wb_nil)) (an_cons (rn_T capi_Backend_flat) an_nil) rfl) ?_
  conv => whnf
  replace h := obind.elim h; obtain ⟨l2, hy, h⟩ := h
  refine sumK.introF [] (sumRun_of (aqs := [.pointer (some ⟨0, 0, none⟩)]) (ws := [.blk 5 false, .blk 26 false]) (n := 1) (m := 0) (t' := 38) (ra_cons (ra_tr rfl rfl (vp_at rfl rfl rfl rfl (vp_at rfl rfl (rn_T cR23_Row_flat) rfl vp_nil)) rfl) rfl ra_nil) rfl (by rfl) (r23_eq hy) rfl rfl rfl rfl (wb_skip rfl (wb_skip rfl wb_nil)) (an_cons (rn_T capi_Backend_flat) an_nil) rfl) ?_
  conv => whnf
  replace h := obind.elim h; obtain ⟨s, hy, h⟩ := h
  refine sumK.introF [] (sumRun_of (aqs := [.slice (some ⟨0, 0, none⟩) (l1 : List api_Backend).length 6, .slice (some ⟨1, 0, none⟩) (l2 : List api_Backend).length 6]) (ws := [.win 34 0 (l1.length * 6) false, .win 37 0 (l2.length * 6) false]) (n := 0) (m := 0) (t' := 39) (ra_cons (by first | rfl | exact ra_allT capi_Backend_len capi_Backend_flat rfl rfl (by first | rfl | omega) (by first | rfl | (simp; done)) | exact ra_slT capi_Backend_len capi_Backend_flat rfl rfl (by first | rfl | omega) (by first | rfl | omega) (by first | omega | (simp at *; omega))) rfl (ra_cons (by first | rfl | exact ra_allT capi_Backend_len capi_Backend_flat rfl rfl (by first | rfl | omega) (by first | rfl | (simp; done)) | exact ra_slT capi_Backend_len capi_Backend_flat rfl rfl (by first | rfl | omega) (by first | rfl | omega) (by first | omega | (simp at *; omega))) rfl ra_nil)) rfl (by rfl) (r21_eq hy) rfl rfl rfl rfl (wb_skip rfl (wb_skip rfl wb_nil)) an_nil rfl) ?_
  conv => whnf
  refine br.h h ?_ ?_ ?_
  · rfl
  · clear h; intro hb h; conv => whnf
    all_goals (cases h)
    all_goals exact Res.of [] rfl nw_0 (by decide) js_0 (wr_n wr_0)
  clear h; intro hb h; conv => whnf
  replace h := obind.elim h; obtain ⟨xv, hy, h⟩ := h
  refine sumK.introF [] (sumRun_of (aqs := [.pointer (some ⟨0, 0, none⟩)]) (ws := [.blk 3 false, .blk 25 false]) (n := 0) (m := 0) (t' := 44) (ra_cons (ra_tr rfl rfl (vp_at rfl rfl rfl rfl (vp_at rfl rfl (rn_T cregistry_row_flat) rfl vp_nil)) rfl) rfl ra_nil) rfl (by rfl) (r24_eq hy) rfl rfl rfl rfl (wb_skip rfl (wb_skip rfl wb_nil)) an_nil rfl) ?_
  conv => whnf
  refine br.h h ?_ ?_ ?_
  · rfl
  · clear h; intro hb h; conv => whnf
    all_goals (cases h)
    all_goals exact Res.of [] rfl nw_0 (by decide) js_0 (wr_n wr_0)
  clear h; intro hb h; conv => whnf
  have hl := loop3_1 R21_Right R23_Registry_Get R23_Registry_List R23_Same health_Right law23_awake law23_one registry_Registry_Get registry_Registry_List registry_Registry_List_nil registry_Registry_Version registry_Registry_Version_nil hS _ res _ _ _ h rfl; simp only [head3_1] at hl
  refine Leads.re hl [(0, 0), (3, 3), (5, 5), (25, 25), (26, 26)] rfl ?_ ?_ <;> (repeat' first | exact trivial | refine ⟨⟨_, rfl, rfl⟩, ?_⟩ | refine ⟨⟨_, _, rfl, rfl, .rowF (vI_flat _ _) id⟩, ?_⟩ | refine ⟨⟨_, _, rfl, rfl, .rowF (vS_flat _) id⟩, ?_⟩ | refine ⟨⟨_, _, rfl, rfl, .rowF (vB_flat _) id⟩, ?_⟩ | refine ⟨⟨_, _, rfl, rfl, .rowF (vT_flat (by first | exact chealth_Rule_flat | exact capi_Addr_flat | exact cR23_Step_flat | exact capi_Backend_flat | exact chealth_State_flat | exact cregistry_row_flat | exact cR23_Row_flat) _) id⟩, ?_⟩ | refine ⟨⟨_, _, rfl, rfl, .tyF (vI_flat _ _)⟩, ?_⟩ | refine ⟨⟨_, _, rfl, rfl, .ty rfl⟩, ?_⟩ | refine ⟨⟨_, _, rfl, rfl, .cells rfl⟩, ?_⟩ | refine ⟨⟨_, _, rfl, rfl, .row rfl id⟩, ?_⟩ | refine ⟨⟨_, _, rfl, rfl, .cr rfl⟩, ?_⟩ | refine ⟨⟨_, _, rfl, rfl, .rc rfl⟩, ?_⟩ | refine ⟨⟨_, _, rfl, rfl, .marks⟩, ?_⟩ | refine ⟨⟨_, _, rfl, rfl, .siter _ _⟩, ?_⟩ | refine ⟨⟨_, _, rfl, rfl, .loop rfl rfl rfl rfl (by repeat' first | exact trivial | refine ⟨rfl, ?_⟩) rfl rfl rfl rfl⟩, ?_⟩)
def law23_RegistryPlays : health_Rule → (List R23_Step) → Option Bool := law23_RegistryPlaysF R21_Right R23_Registry_Get R23_Registry_List R23_Same health_Right law23_awake law23_one registry_Registry_Get registry_Registry_List registry_Registry_List_nil registry_Registry_Version registry_Registry_Version_nil
end Go.Vm.Code
namespace Go.Vm.Code
open Go Go.Vm
theorem rid_dec (g : registry_Registry) (id : Int) : (∃ (k : Nat) (r : registry_row), g.rows[k]? = some r ∧ r.Backend.ID = id) ∨ ∀ (k : Nat) r, g.rows[k]? = some r → r.Backend.ID ≠ id := by
  by_cases h : ∃ (k : Nat) (r : registry_row), g.rows[k]? = some r ∧ r.Backend.ID = id
  · exact .inl h
  · exact .inr fun k r hk he => h ⟨k, r, hk, he⟩
theorem gets_eq {N : Int} {g : registry_Registry} (h : RI N g) (id : Int) : ∃ b o, registry_Registry_Get g id = some (b, o) ∧ R23_Registry_Get (cnv g) id = some (b, o) := by
  rcases rid_dec g id with ⟨k, r, hk, rfl⟩ | hn
  · exact ⟨_, _, get_yes h hk, rget_yes h hk⟩
  · exact ⟨_, _, by rw [get_no h hn], by rw [rget_no h hn]⟩
theorem one_eq {N : Int} {g : registry_Registry} (h : RI N g) (hN : N < 2 ^ 40) (s : R23_Step) : ∃ g', law23_one g (cnv g) s = some (true, g', cnv g') ∧ RI (N + 1) g' := by
  unfold law23_one law23_oneF
  cases h0 : s.Kind == 0 with
  | true =>
    rw [cond_true, add_eq h hN, Option.bind_some, radd_eq h hN, Option.bind_some]
    exact ⟨(addG g s.N s.Addr).2.2, by simp, add_RI h _ _⟩
  | false =>
  rw [cond_false]
  cases h1 : s.Kind == 1 with
  | true =>
    rw [cond_true]
    rcases rid_dec g s.ID with ⟨k, r, hk, e⟩ | hn
    · rw [← e, remove_yes h hN hk, Option.bind_some, rremove_yes h hN hk, Option.bind_some]
      exact ⟨_, by simp, rem_RI h k⟩
    · rw [remove_no h hn, Option.bind_some, rremove_no h hn, Option.bind_some]
      exact ⟨g, by simp, h.mono (by omega)⟩
  | false =>
  rw [cond_false]
  cases h2 : s.Kind == 2 with
  | true =>
    rw [cond_true]
    rcases rid_dec g s.ID with ⟨k, r, hk, e⟩ | hn
    · rw [← e, drain_yes h hN hk, Option.bind_some, rdrain_yes h hN hk, Option.bind_some]
      split
      · exact ⟨g, by simp, h.mono (by omega)⟩
      · exact ⟨updR g k ⟨r.Backend, s.On, r.health⟩ 1, by simp, h.upd hk (by rfl) (by decide) (by decide)⟩
    · rw [drain_no h hn, Option.bind_some, rdrain_no h hn, Option.bind_some]
      exact ⟨g, by simp, h.mono (by omega)⟩
  | false =>
  rw [cond_false]
  cases h3 : s.Kind == 3 with
  | true =>
    rw [cond_true]
    rcases rid_dec g s.ID with ⟨k, r, hk, e⟩ | hn
    · rw [← e, weight_yes h hN hk, Option.bind_some, rweight_yes h hN hk, Option.bind_some]
      cases weighB s.N
      · exact ⟨g, by simp, h.mono (by omega)⟩
      · exact ⟨updR g k ⟨⟨r.Backend.ID, s.N, r.Backend.State, r.Backend.Addr⟩, r.drains, r.health⟩ 1, by simp, h.upd hk (by rfl) (by decide) (by decide)⟩
    · rw [weight_no h hn, Option.bind_some, rweight_no h hn, Option.bind_some]
      exact ⟨g, by simp, h.mono (by omega)⟩
  | false =>
  rw [cond_false]
  cases h4 : s.Kind == 4 with
  | true =>
    rw [cond_true]
    rcases rid_dec g s.ID with ⟨k, r, hk, e⟩ | hn
    · rw [← e, probe_yes h hN hk, Option.bind_some, rprobe_yes h hN hk, Option.bind_some]
      refine ⟨updR g k ⟨r.Backend, r.drains, (putS g.rule r.health s.On).1⟩ (if (putS g.rule r.health s.On).2 then 1 else 0), by simp, h.upd hk (by rfl) ?_ ?_⟩ <;> split <;> decide
    · rw [probe_no h hn, Option.bind_some, rprobe_no h hn, Option.bind_some]
      exact ⟨g, by simp, h.mono (by omega)⟩
  | false =>
  rw [cond_false]
  cases h5 : s.Kind == 5 with
  | true =>
    rw [cond_true, reset_eq h hN, Option.bind_some, rreset_eq h hN, Option.bind_some]
    exact ⟨_, rfl, reset_RI h⟩
  | false =>
    rw [cond_false]
    exact ⟨g, rfl, h.mono (by omega)⟩
theorem awake23 : law23_awake = some true := by decide +kernel
theorem round_eq {N : Int} {g : registry_Registry} (h : RI N g) (hN : N < 2 ^ 40) (s : R23_Step) : ∃ g', RI (N + 1) g' ∧ law23_one g (cnv g) s = some (true, g', cnv g') ∧ registry_Registry_List g' = some (g'.rows.map tld) ∧ R23_Registry_List (cnv g') = some (g'.rows.map tld) ∧
    R23_Same (g'.rows.map tld) (g'.rows.map tld) = some true ∧ registry_Registry_Version g' = some g'.version := by
  obtain ⟨g', h1, h2⟩ := one_eq h hN s
  have := h2.len
  exact ⟨g', h2, h1, list_eq h2, rlist_eq h2, by rw [same_eq (by simp; omega)]; simp, version_eq h2⟩
theorem plays_step {l : List R23_Step} (hl : l.length ≤ 100) {i : Nat} (hi : i < l.length) {g : registry_Registry} (h : RI i g) {ρ : Type} (f : Option ρ) (K : registry_Registry → R23_Registry → Option ρ) : ∃ g', RI ((i + 1 : Nat) : Int) g' ∧
    ((oreq (decide ((0 : Int) ≤ (i : Int) ∧ (i : Int) < (l.length : Int))) <|
    (l[i]?).bind fun (e1 : R23_Step) =>
    (registry_Registry_Get g e1.ID).bind fun xg7 =>
    oreq (decide ((0 : Int) ≤ (i : Int) ∧ (i : Int) < (l.length : Int))) <|
    (R23_Registry_Get (cnv g) e1.ID).bind fun xg8 =>
    cond (!((xg7.1.ID == xg8.1.ID) && ((xg7.1.Weight == xg8.1.Weight) && ((xg7.1.State == xg8.1.State) && ((xg7.1.Addr.V6 == xg8.1.Addr.V6) && ((xg7.1.Addr.Hi == xg8.1.Addr.Hi) && ((xg7.1.Addr.Lo == xg8.1.Addr.Lo) && true)))))))
      f
      (cond (!(xg7.2 == xg8.2))
        f
        (oreq (decide ((0 : Int) ≤ (i : Int) ∧ (i : Int) < (l.length : Int))) <|
        (law23_one g (cnv g) e1).bind fun xo1 =>
        cond (!xo1.1)
          f
          ((registry_Registry_List xo1.2.1).bind fun l3 =>
          (R23_Registry_List xo1.2.2).bind fun l4 =>
          (R23_Same l3 l4).bind fun s1 =>
          cond (!s1)
            f
            ((registry_Registry_Version xo1.2.1).bind fun xv1 =>
            cond (xv1 != xo1.2.2.Version)
              f
              (K xo1.2.1 xo1.2.2)))))) = K g' (cnv g')) := by
  obtain ⟨g', a1, a2, a3, a4, a5, a6⟩ := round_eq h (by omega) l[i]
  obtain ⟨b, o, e1, e2⟩ := gets_eq h l[i].ID
  refine ⟨g', by rw [show ((i + 1 : Nat) : Int) = (i : Int) + 1 from by omega]; exact a1, ?_⟩
  rw [oreq_p ⟨by omega, by omega⟩, List.getElem?_eq_getElem hi, Option.bind_some, e1, Option.bind_some, oreq_p ⟨by omega, by omega⟩, e2, Option.bind_some]
  rw [oreq_p ⟨by omega, by omega⟩, a2, Option.bind_some]
  simp only [BEq.rfl, Bool.and_self, Bool.not_true, cond_false]
  rw [a3, Option.bind_some, a4, Option.bind_some, a5, Option.bind_some, a6, Option.bind_some]
  simp [cnv]
def playSt (i : Nat) (g : registry_Registry) : Int × Int × Int × Int × Int × Int × Int × Int × Int × (List registry_row) × (List R23_Row) :=
  ((i : Int), g.rule.Rise, g.rule.Fall, g.last, g.version, g.rule.Rise, g.rule.Fall, g.last, g.version, g.rows, g.rows.map cv)
theorem registryPlays (ra0 : health_Rule) (l : List R23_Step) : law23_RegistryPlays ra0 l = some true := by
  unfold law23_RegistryPlays law23_RegistryPlaysF
  rw [awake23]
  by_cases hl : (l.length : Int) > 100
  · rw [cond_p hl]; rfl
  rw [cond_n hl, hright_eq, Option.bind_some, rright_eq]
  cases hr : ruleB ra0 with
  | false =>
    simp only [Bool.not_false, cond_true, Option.bind_some]
    cases decide ((0 : Int) < l.length) <;> rfl
  | true =>
  simp only [Bool.not_true, cond_false, Option.bind_some]
  by_cases h0 : (0 : Int) < l.length
  · rw [cond_p h0]
    have hi : RI ((0 : Nat) : Int) (registry_Registry.mk ra0 [] 0 0) := { rule := hr, len := by simp, last0 := by simp, last1 := by simp, ver0 := by simp, ver1 := by simp, ids := by simp, up := by simp }
    obtain ⟨g', h', e⟩ := plays_step (l := l) (by omega) (i := 0) (by omega) hi (some false) (fun g x => iter (fun st => law23_RegistryPlays_s1 R23_Registry_Get R23_Registry_List R23_Same (some true) law23_one registry_Registry_Get registry_Registry_List registry_Registry_Version l st.1 st.2.1 st.2.2.1 st.2.2.2.1 st.2.2.2.2.1 st.2.2.2.2.2.1 st.2.2.2.2.2.2.1 st.2.2.2.2.2.2.2.1 st.2.2.2.2.2.2.2.2.1 st.2.2.2.2.2.2.2.2.2.1 st.2.2.2.2.2.2.2.2.2.2) FUEL (1, g.rule.Rise, g.rule.Fall, g.last, g.version, x.Rule.Rise, x.Rule.Fall, x.Last, x.Version, g.rows, x.L))
    refine e.trans ?_
    refine iter_eq (fun _ => true) (fun st => ∃ (i : Nat) (g : registry_Registry), i ≤ l.length ∧ RI (i : Int) g ∧ st = playSt i g) (fun st => l.length - st.1.toNat) ?_ FUEL _ ⟨1, g', by omega, h', rfl⟩ (by rw [FUEL_eq]; simp only []; omega)
    rintro s ⟨i, g, hi, h, rfl⟩
    simp only [playSt]
    unfold law23_RegistryPlays_s1
    rcases Nat.lt_or_ge i l.length with hlt | hge
    · right
      rw [cond_p (by omega)]
      obtain ⟨g2, h2, e2⟩ := plays_step (l := l) (by omega) hlt h (some (Sum.inr false)) (fun g x => some (Sum.inl (wI .i64 ((i : Int) + 1), g.rule.Rise, g.rule.Fall, g.last, g.version, x.Rule.Rise, x.Rule.Fall, x.Last, x.Version, g.rows, x.L)))
      refine ⟨_, e2, ⟨i + 1, g2, by omega, h2, ?_⟩, ?_, by trivial⟩
      · rw [wI64 (by omega) (by omega)]; rfl
      · simp only []; rw [wI64 (by omega) (by omega)]; omega
    · left
      rw [cond_n (by omega)]; rfl
  · rw [cond_n h0]
end Go.Vm.Code
