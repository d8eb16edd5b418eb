import Derived.Test.YtadhjooghfdloaaNSavedKeepse
namespace Go.Vm.Code
open Go Go.Vm Go.Proofs
set_option maxRecDepth 100000
set_option maxHeartbeats 4000000
set_option linter.unusedVariables false
def law55_SavedKeeps_s1 (law55_awake : Option Bool) (l : List R23_Step) (l1 : List api_Backend) (xg5 : saved_Record × Int) (i1 : Int) : Option (Sum Int Bool) :=
  cond (decide (i1 < (l1.length : Int)))
    (
    oreq (decide ((0 : Int) ≤ i1 ∧ i1 < (xg5.1.L.length : Int))) <|
    (xg5.1.L[i1.toNat]?).bind fun (e1 : api_Backend) =>
    oreq (decide ((0 : Int) ≤ i1 ∧ i1 < (l1.length : Int))) <|
    (l1[i1.toNat]?).bind fun (e2 : api_Backend) =>
    cond (e1.ID != e2.ID)
      (
      some (.inr (false)))
      (
      oreq (decide ((0 : Int) ≤ i1 ∧ i1 < (l1.length : Int))) <|
      cond (e1.Weight != e2.Weight)
        (
        some (.inr (false)))
        (
        oreq (decide ((0 : Int) ≤ i1 ∧ i1 < (l1.length : Int))) <|
        let t2 := !((e1.Addr.V6 == e2.Addr.V6) && ((e1.Addr.Hi == e2.Addr.Hi) && ((e1.Addr.Lo == e2.Addr.Lo) && true)))
        cond (t2)
          (
          some (.inr (false)))
          (
          oreq (decide ((0 : Int) ≤ i1 ∧ i1 < (l1.length : Int))) <|
          cond (!((e1.State == 3) == (e2.State == 3)))
            (
            some (.inr (false)))
            (
            cond (e1.State == 2)
              (
              some (.inr (false)))
              (
              some (.inl (wI .i64 (i1 + 1)))))))))
    (
    (law55_awake).bind fun a2 =>
    some (.inr (a2)))
def law55_SavedKeeps_s2 (law55_awake : Option Bool) (registry_Registry_Add : registry_Registry → Int → api_Addr → Option (Int × Int × registry_Registry)) (registry_Registry_Drain : registry_Registry → Int → Bool → Option (Int × registry_Registry)) (registry_Registry_List : registry_Registry → Option (List api_Backend)) (registry_Registry_Probe : registry_Registry → Int → Bool → Option (Bool × Int × registry_Registry)) (registry_Registry_Remove : registry_Registry → Int → Option (Int × registry_Registry)) (registry_Registry_Weight : registry_Registry → Int → Int → Option (Int × registry_Registry)) (saved_Get : (List UInt8) → Option (saved_Record × Int)) (saved_Of : api_Key → Int → (List api_Backend) → Option saved_Record) (saved_Put : saved_Record → Option ((List UInt8) × Int)) (saved_Right : saved_Record → Option Bool) (saved_Same : saved_Record → saved_Record → Option Bool) (k : api_Key) (l : List R23_Step) (last : Int) (i : Int) (xg : Int) (xg1 : Int) (xg3 : Int) (xg4 : Int) (c : List registry_row) : Option (Sum (Int × Int × Int × Int × Int × Int × (List registry_row)) Bool) :=
  cond (decide (i < (l.length : Int)))
    (
    oreq (decide ((0 : Int) ≤ i ∧ i < (l.length : Int))) <|
    (l[i.toNat]?).bind fun (e : R23_Step) =>
    cond (e.Kind == 0)
      (
      (registry_Registry_Add (registry_Registry.mk (health_Rule.mk xg xg1) c xg3 xg4) e.N e.Addr).bind fun a1 =>
      cond (a1.2.1 == 0)
        (
        some (.inl (wI .i64 (last + 1), wI .i64 (i + 1), a1.2.2.rule.Rise, a1.2.2.rule.Fall, a1.2.2.last, a1.2.2.version, a1.2.2.rows)))
        (
        some (.inl (last, wI .i64 (i + 1), a1.2.2.rule.Rise, a1.2.2.rule.Fall, a1.2.2.last, a1.2.2.version, a1.2.2.rows))))
      (
      cond (e.Kind == 1)
        (
        (registry_Registry_Remove (registry_Registry.mk (health_Rule.mk xg xg1) c xg3 xg4) e.ID).bind fun xr1 =>
        some (.inl (last, wI .i64 (i + 1), xr1.2.rule.Rise, xr1.2.rule.Fall, xr1.2.last, xr1.2.version, xr1.2.rows)))
        (
        cond (e.Kind == 2)
          (
          (registry_Registry_Drain (registry_Registry.mk (health_Rule.mk xg xg1) c xg3 xg4) e.ID e.On).bind fun d =>
          some (.inl (last, wI .i64 (i + 1), d.2.rule.Rise, d.2.rule.Fall, d.2.last, d.2.version, d.2.rows)))
          (
          cond (e.Kind == 3)
            (
            (registry_Registry_Weight (registry_Registry.mk (health_Rule.mk xg xg1) c xg3 xg4) e.ID e.N).bind fun w =>
            some (.inl (last, wI .i64 (i + 1), w.2.rule.Rise, w.2.rule.Fall, w.2.last, w.2.version, w.2.rows)))
            (
            cond (e.Kind == 4)
              (
              (registry_Registry_Probe (registry_Registry.mk (health_Rule.mk xg xg1) c xg3 xg4) e.ID e.On).bind fun p =>
              some (.inl (last, wI .i64 (i + 1), p.2.2.rule.Rise, p.2.2.rule.Fall, p.2.2.last, p.2.2.version, p.2.2.rows)))
              (
              some (.inl (last, wI .i64 (i + 1), xg, xg1, xg3, xg4, c))))))))
    (
    (registry_Registry_List (registry_Registry.mk (health_Rule.mk xg xg1) c xg3 xg4)).bind fun l1 =>
    (saved_Of k last l1).bind fun xo =>
    (saved_Put xo).bind fun p1 =>
    (saved_Get p1.1).bind fun xg5 =>
    (saved_Right xo).bind fun xr2 =>
    cond (!xr2)
      (
      some (.inr (false)))
      (
      cond (p1.2 != 0)
        (
        some (.inr (false)))
        (
        cond (xg5.2 != 0)
          (
          some (.inr (false)))
          (
          (saved_Same xg5.1 xo).bind fun s =>
          cond (!s)
            (
            some (.inr (false)))
            (
            let t := !((xg5.1.Key.A == k.A) && ((xg5.1.Key.B == k.B) && true))
            cond (t)
              (
              some (.inr (false)))
              (
              cond (xg5.1.Last != last)
                (
                some (.inr (false)))
                (
                let t1 := (xg5.1.L.length : Int) != (l1.length : Int)
                cond (t1)
                  (
                  some (.inr (false)))
                  (
                  (iter (fun st => law55_SavedKeeps_s1 law55_awake l l1 xg5 st) FUEL 0).bind fun o => some (.inr (o))))))))))
def law55_SavedKeepsF (health_Right : health_Rule → Option Bool) (law55_awake : Option Bool) (registry_Registry_Add : registry_Registry → Int → api_Addr → Option (Int × Int × registry_Registry)) (registry_Registry_Drain : registry_Registry → Int → Bool → Option (Int × registry_Registry)) (registry_Registry_List : registry_Registry → Option (List api_Backend)) (registry_Registry_Probe : registry_Registry → Int → Bool → Option (Bool × Int × registry_Registry)) (registry_Registry_Remove : registry_Registry → Int → Option (Int × registry_Registry)) (registry_Registry_Weight : registry_Registry → Int → Int → Option (Int × registry_Registry)) (saved_Get : (List UInt8) → Option (saved_Record × Int)) (saved_Of : api_Key → Int → (List api_Backend) → Option saved_Record) (saved_Put : saved_Record → Option ((List UInt8) × Int)) (saved_Right : saved_Record → Option Bool) (saved_Same : saved_Record → saved_Record → Option Bool) (k : api_Key) (l : List R23_Step) : Option Bool :=
  cond (decide ((l.length : Int) > 60))
    (
    (law55_awake).bind fun a =>
    some (a))
    (
    (health_Right (health_Rule.mk 1 1)).bind fun xr =>
    cond (!xr)
      (
      some (false))
      (
      iter (fun st => law55_SavedKeeps_s2 law55_awake registry_Registry_Add registry_Registry_Drain registry_Registry_List registry_Registry_Probe registry_Registry_Remove registry_Registry_Weight saved_Get saved_Of saved_Put saved_Right saved_Same k l st.1 st.2.1 st.2.2.1 st.2.2.2.1 st.2.2.2.2.1 st.2.2.2.2.2.1 st.2.2.2.2.2.2) FUEL (0, 0, 1, 1, 0, 0, [])))
def rx11 (x : Bool) : SRes := ⟨.bool x, [], [none]⟩
abbrev sums11 (health_Right : health_Rule → Option Bool) (law55_awake : Option Bool) (registry_Registry_Add : registry_Registry → Int → api_Addr → Option (Int × Int × registry_Registry)) (registry_Registry_Drain : registry_Registry → Int → Bool → Option (Int × registry_Registry)) (registry_Registry_List : registry_Registry → Option (List api_Backend)) (registry_Registry_Probe : registry_Registry → Int → Bool → Option (Bool × Int × registry_Registry)) (registry_Registry_Remove : registry_Registry → Int → Option (Int × registry_Registry)) (registry_Registry_Weight : registry_Registry → Int → Int → Option (Int × registry_Registry)) (saved_Get : (List UInt8) → Option (saved_Record × Int)) (saved_Of : api_Key → Int → (List api_Backend) → Option saved_Record) (saved_Put : saved_Record → Option ((List UInt8) × Int)) (saved_Right : saved_Record → Option Bool) (saved_Same : saved_Record → saved_Record → Option Bool) : List (Nat × Summ) := [(69, s69 health_Right), (47, s47 law55_awake), (26, s26 registry_Registry_Add), (28, s28 registry_Registry_Drain), (22, s22 registry_Registry_List), (30, s30 registry_Registry_Probe), (27, s27 registry_Registry_Remove), (29, s29 registry_Registry_Weight), (48, s48 saved_Get), (58, s58 saved_Of), (53, s53 saved_Put), (56, s56 saved_Right), (60, s60 saved_Same)]
def head11_1 (l : List R23_Step) (l1 : List api_Backend) (xg5 : saved_Record × Int) (i1 : Int) : VM :=
  ⟨⟨11, 198, [(12, .slice (some ⟨5, 0, none⟩) l1.length 6), (16, .pointer (some ⟨9, 0, none⟩)), (18, .int .i64 i1)], [.code k11_77, .inLoop k11_77, .inBlock 3, .code k11_82], [], false, none⟩, [], [(0, .row false (vT cR23_Step l)), (5, .row true (vT capi_Backend l1)), (8, .row true (vT capi_Backend xg5.1.L)), (9, .cells [.int .u64 xg5.1.Key.A, .int .u64 xg5.1.Key.B, .int .i64 xg5.1.Last, .slice (some ⟨8, 0, none⟩) xg5.1.L.length 6])], 10⟩
def head11_2 (k : api_Key) (l : List R23_Step) (last : Int) (i : Int) (xg : Int) (xg1 : Int) (xg3 : Int) (xg4 : Int) (c : List registry_row) : VM :=
  ⟨⟨11, 198, [(1, .slice (some ⟨0, 0, none⟩) l.length 7), (2, .pointer (some ⟨1, 0, none⟩)), (5, .pointer (some ⟨3, 0, none⟩)), (7, .int .i64 last), (8, .int .i64 i)], [.code k11_50, .inLoop k11_50, .inBlock 0, .code k11_88], [], false, none⟩, [], [(0, .row false (vT cR23_Step l)), (1, .cells [.int .u64 k.A, .int .u64 k.B]), (3, .cells [.int .i64 xg, .int .i64 xg1, .slice (some ⟨4, 0, none⟩) c.length 9, .int .i64 xg3, .int .i64 xg4]), (4, .row true (vT cregistry_row c))], 5⟩
theorem loop11_1 (health_Right : health_Rule → Option Bool) (law55_awake : Option Bool) (registry_Registry_Add : registry_Registry → Int → api_Addr → Option (Int × Int × registry_Registry)) (registry_Registry_Drain : registry_Registry → Int → Bool → Option (Int × registry_Registry)) (registry_Registry_List : registry_Registry → Option (List api_Backend)) (registry_Registry_Probe : registry_Registry → Int → Bool → Option (Bool × Int × registry_Registry)) (registry_Registry_Remove : registry_Registry → Int → Option (Int × registry_Registry)) (registry_Registry_Weight : registry_Registry → Int → Int → Option (Int × registry_Registry)) (saved_Get : (List UInt8) → Option (saved_Record × Int)) (saved_Of : api_Key → Int → (List api_Backend) → Option saved_Record) (saved_Put : saved_Record → Option ((List UInt8) × Int)) (saved_Right : saved_Record → Option Bool) (saved_Same : saved_Record → saved_Record → Option Bool) (hS : SumsOK Try.prog (aget (sums11 health_Right law55_awake registry_Registry_Add registry_Registry_Drain registry_Registry_List registry_Registry_Probe registry_Registry_Remove registry_Registry_Weight saved_Get saved_Of saved_Put saved_Right saved_Same))) (l : List R23_Step) (l1 : List api_Backend) (xg5 : saved_Record × Int) (res : Bool) : ∀ fuel (st : Int) (o : Bool), iter (fun st => law55_SavedKeeps_s1 law55_awake l l1 xg5 st) fuel st = some o → (o = res) →
    Leads Try.prog 11 1 (head11_1 l l1 xg5 st) (fun v H _ => Res 1 (rx11 res) v H) := by
  intro fuel st o h hc
  refine iter_leads (head := fun st => head11_1 l l1 xg5 st) (C := fun o => (o = res)) ?_ fuel st o h hc
  clear h hc o st fuel
  intro i1 o h hc
  replace h : law55_SavedKeeps_s1 law55_awake l l1 xg5 i1 = some o := h
  show Leads Try.prog 11 1 (head11_1 l l1 xg5 i1) (fun v H _ => Res 1 (rx11 res) v H)
  unfold law55_SavedKeeps_s1 at h
  refine ev_ok tab_ok hS true 3000 ?_
  conv => whnf
  refine br.h2 h ?_ ?_ ?_
  · rfl
  · clear h; intro hb h; conv => whnf
    replace h := obind.elim h; obtain ⟨a2, hy, h⟩ := h
    refine sumK.q rfl rfl (r47_eq hy) rfl rfl rfl ?_
    conv => whnf
    all_goals (cases h; cases hc)
    all_goals exact Res.of [] rfl nw_0 (by decide) js_0 (wr_n wr_0)
  clear h; intro hb h; conv => whnf
  replace h := oreq.elim h; obtain ⟨hb, h⟩ := h
  first | (refine req.intro hb ?_; conv => whnf) | skip
  replace h := obind.elim h; obtain ⟨e1, hy, h⟩ := h
  refine ld_T capi_Backend_len hy (by first | omega | exact Nat.zero_add _ | exact congrArg (· + _) (Nat.zero_add _)) rfl ?_
  conv => whnf
  replace h := oreq.elim h; obtain ⟨hb, h⟩ := h
  first | (refine req.intro hb ?_; conv => whnf) | skip
  replace h := obind.elim h; obtain ⟨e2, hy, h⟩ := h
  refine rd.T (j := 0) capi_Backend_len hy (by first | omega | exact Nat.zero_add _ | exact congrArg (· + _) (Nat.zero_add _)) (by decide) rfl ?_
  conv => whnf
  refine br.h h ?_ ?_ ?_
  · rfl
  · clear h; intro hb h; conv => whnf
    all_goals (cases h; cases hc)
    all_goals exact Res.of [] rfl nw_0 (by decide) js_0 (wr_n wr_0)
  clear h; intro hb h; conv => whnf
  replace h := oreq.elim h; obtain ⟨hb, h⟩ := h
  first | (refine req.intro hb ?_; conv => whnf) | skip
  refine rd.T (i := i1.toNat) (x := e2) (j := 1) capi_Backend_len (by assumption) (by first | omega | exact Nat.zero_add _ | exact congrArg (· + _) (Nat.zero_add _)) (by decide) rfl ?_
  conv => whnf
  refine br.h h ?_ ?_ ?_
  · rfl
  · clear h; intro hb h; conv => whnf
    all_goals (cases h; cases hc)
    all_goals exact Res.of [] rfl nw_0 (by decide) js_0 (wr_n wr_0)
  clear h; intro hb h; conv => whnf
  replace h := oreq.elim h; obtain ⟨hb, h⟩ := h
  first | (refine req.intro hb ?_; conv => whnf) | skip
  refine ld_TP (i := i1.toNat) (x := e2) (j := 3) capi_Backend_len (by assumption) (by first | omega | exact Nat.zero_add _ | exact congrArg (· + _) (Nat.zero_add _)) (by decide) ?_
  conv => whnf
  let t2 : Bool := !((e1.Addr.V6 == e2.Addr.V6) && ((e1.Addr.Hi == e2.Addr.Hi) && ((e1.Addr.Lo == e2.Addr.Lo) && true)))
  refine br.h h ?_ ?_ ?_
  · rfl
  · clear h; intro hb h; conv => whnf
    all_goals (cases h; cases hc)
    all_goals exact Res.of [] rfl nw_0 (by decide) js_0 (wr_n wr_0)
  clear h; intro hb h; conv => whnf
  replace h := oreq.elim h; obtain ⟨hb, h⟩ := h
  first | (refine req.intro hb ?_; conv => whnf) | skip
  refine rd.T (i := i1.toNat) (x := e2) (j := 2) capi_Backend_len (by assumption) (by first | omega | exact Nat.zero_add _ | exact congrArg (· + _) (Nat.zero_add _)) (by decide) rfl ?_
  conv => whnf
  refine br.h h ?_ ?_ ?_
  · rfl
  · clear h; intro hb h; conv => whnf
    all_goals (cases h; cases hc)
    all_goals exact Res.of [] rfl nw_0 (by decide) js_0 (wr_n wr_0)
  clear h; intro hb h; conv => whnf
  refine br.h h ?_ ?_ ?_
  · rfl
  · clear h; intro hb h; conv => whnf
    all_goals (cases h; cases hc)
    all_goals exact Res.of [] rfl nw_0 (by decide) js_0 (wr_n wr_0)
  clear h; intro hb h; conv => whnf
  cases h; simp only [Sum.elim_inl, head11_1] at hc
  exact lrA0 hc [(0, 0), (5, 5), (8, 8), (9, 9)] rfl
theorem loop11_2 (health_Right : health_Rule → Option Bool) (law55_awake : Option Bool) (registry_Registry_Add : registry_Registry → Int → api_Addr → Option (Int × Int × registry_Registry)) (registry_Registry_Drain : registry_Registry → Int → Bool → Option (Int × registry_Registry)) (registry_Registry_List : registry_Registry → Option (List api_Backend)) (registry_Registry_Probe : registry_Registry → Int → Bool → Option (Bool × Int × registry_Registry)) (registry_Registry_Remove : registry_Registry → Int → Option (Int × registry_Registry)) (registry_Registry_Weight : registry_Registry → Int → Int → Option (Int × registry_Registry)) (saved_Get : (List UInt8) → Option (saved_Record × Int)) (saved_Of : api_Key → Int → (List api_Backend) → Option saved_Record) (saved_Put : saved_Record → Option ((List UInt8) × Int)) (saved_Right : saved_Record → Option Bool) (saved_Same : saved_Record → saved_Record → Option Bool) (hS : SumsOK Try.prog (aget (sums11 health_Right law55_awake registry_Registry_Add registry_Registry_Drain registry_Registry_List registry_Registry_Probe registry_Registry_Remove registry_Registry_Weight saved_Get saved_Of saved_Put saved_Right saved_Same))) (k : api_Key) (l : List R23_Step) (res : Bool) : ∀ fuel (st : Int × Int × Int × Int × Int × Int × (List registry_row)) (o : Bool), iter (fun st => law55_SavedKeeps_s2 law55_awake registry_Registry_Add registry_Registry_Drain registry_Registry_List registry_Registry_Probe registry_Registry_Remove registry_Registry_Weight saved_Get saved_Of saved_Put saved_Right saved_Same k l st.1 st.2.1 st.2.2.1 st.2.2.2.1 st.2.2.2.2.1 st.2.2.2.2.2.1 st.2.2.2.2.2.2) fuel st = some o → (o = res) →
    Leads Try.prog 11 1 (head11_2 k l st.1 st.2.1 st.2.2.1 st.2.2.2.1 st.2.2.2.2.1 st.2.2.2.2.2.1 st.2.2.2.2.2.2) (fun v H _ => Res 1 (rx11 res) v H) := by
  intro fuel st o h hc
  refine iter_leads (head := fun st => head11_2 k l st.1 st.2.1 st.2.2.1 st.2.2.2.1 st.2.2.2.2.1 st.2.2.2.2.2.1 st.2.2.2.2.2.2) (C := fun o => (o = res)) ?_ fuel st o h hc
  clear h hc o st fuel
  intro st o h hc
  obtain ⟨last, i, xg, xg1, xg3, xg4, c⟩ := st
  replace h : law55_SavedKeeps_s2 law55_awake registry_Registry_Add registry_Registry_Drain registry_Registry_List registry_Registry_Probe registry_Registry_Remove registry_Registry_Weight saved_Get saved_Of saved_Put saved_Right saved_Same k l last i xg xg1 xg3 xg4 c = some o := h
  show Leads Try.prog 11 1 (head11_2 k l last i xg xg1 xg3 xg4 c) (fun v H _ => Res 1 (rx11 res) v H)
  unfold law55_SavedKeeps_s2 at h
  refine ev_ok tab_ok hS true 3000 ?_
  conv => whnf
  refine br.h h ?_ ?_ ?_
  · rfl
  · clear h; intro hb h; conv => whnf
    replace h := oreq.elim h; obtain ⟨hb, h⟩ := h
    first | (refine req.intro hb ?_; conv => whnf) | skip
    replace h := obind.elim h; obtain ⟨e, hy, h⟩ := h
    refine ld_T cR23_Step_len hy (by first | omega | exact Nat.zero_add _ | exact congrArg (· + _) (Nat.zero_add _)) rfl ?_
    conv => whnf
    refine br.h h ?_ ?_ ?_
    · rfl
    · clear h; intro hb h; conv => whnf
      replace h := obind.elim h; obtain ⟨a1, hy, h⟩ := h
      refine sumK.introF [3] (sumRun_of (aqs := [.pointer (some ⟨0, 0, none⟩), .int .i64 e.N, .agg ⟨[.bool e.Addr.V6, .int .u64 e.Addr.Hi, .int .u64 e.Addr.Lo]⟩]) (ws := [.blk 3 true, .blk 4 true]) (n := 1) (m := 0) (t' := 7) (ra_cons (ra_tr rfl rfl (vp_at rfl rfl rfl rfl (vp_at rfl rfl (rn_T cregistry_row_flat) rfl vp_nil)) rfl) rfl (ra_cons rfl rfl (ra_cons rfl rfl ra_nil))) rfl (by rfl) (r26_eq hy) rfl rfl rfl rfl (wb_blk rfl rfl rfl rfl (wb_del wb_nil)) (an_cons (rn_T cregistry_row_flat) an_nil) rfl) ?_
      conv => whnf
      refine br.h h ?_ ?_ ?_
      · rfl
      · clear h; intro hb h; conv => whnf
        cases h; simp only [Sum.elim_inl, head11_2] at hc
        exact lrA0 hc [(0, 0), (1, 1), (3, 3), (4, 6)] rfl
      clear h; intro hb h; conv => whnf
      cases h; simp only [Sum.elim_inl, head11_2] at hc
      exact lrA0 hc [(0, 0), (1, 1), (3, 3), (4, 6)] rfl
    clear h; intro hb h; conv => whnf
    refine br.h h ?_ ?_ ?_
    · rfl
    · clear h; intro hb h; conv => whnf
      replace h := obind.elim h; obtain ⟨xr1, hy, h⟩ := h
      refine sumK.introF [3] (sumRun_of (aqs := [.pointer (some ⟨0, 0, none⟩), .int .i64 e.ID]) (ws := [.blk 3 true, .blk 4 true]) (n := 1) (m := 0) (t' := 7) (ra_cons (ra_tr rfl rfl (vp_at rfl rfl rfl rfl (vp_at rfl rfl (rn_T cregistry_row_flat) rfl vp_nil)) rfl) rfl (ra_cons rfl rfl ra_nil)) rfl (by rfl) (r27_eq hy) rfl rfl rfl rfl (wb_blk rfl rfl rfl rfl (wb_del wb_nil)) (an_cons (rn_T cregistry_row_flat) an_nil) rfl) ?_
      conv => whnf
      cases h; simp only [Sum.elim_inl, head11_2] at hc
      exact lrA0 hc [(0, 0), (1, 1), (3, 3), (4, 6)] rfl
    clear h; intro hb h; conv => whnf
    refine br.h h ?_ ?_ ?_
    · rfl
    · clear h; intro hb h; conv => whnf
      replace h := obind.elim h; obtain ⟨d, hy, h⟩ := h
      refine sumK.introF [3] (sumRun_of (aqs := [.pointer (some ⟨0, 0, none⟩), .int .i64 e.ID, .bool e.On]) (ws := [.blk 3 true, .blk 4 true]) (n := 1) (m := 0) (t' := 7) (ra_cons (ra_tr rfl rfl (vp_at rfl rfl rfl rfl (vp_at rfl rfl (rn_T cregistry_row_flat) rfl vp_nil)) rfl) rfl (ra_cons rfl rfl (ra_cons rfl rfl ra_nil))) rfl (by rfl) (r28_eq hy) rfl rfl rfl rfl (wb_blk rfl rfl rfl rfl (wb_del wb_nil)) (an_cons (rn_T cregistry_row_flat) an_nil) rfl) ?_
      conv => whnf
      cases h; simp only [Sum.elim_inl, head11_2] at hc
      exact lrA0 hc [(0, 0), (1, 1), (3, 3), (4, 6)] rfl
    clear h; intro hb h; conv => whnf
    refine br.h h ?_ ?_ ?_
    · rfl
    · clear h; intro hb h; conv => whnf
      replace h := obind.elim h; obtain ⟨w, hy, h⟩ := h
      refine sumK.introF [3] (sumRun_of (aqs := [.pointer (some ⟨0, 0, none⟩), .int .i64 e.ID, .int .i64 e.N]) (ws := [.blk 3 true, .blk 4 true]) (n := 1) (m := 0) (t' := 7) (ra_cons (ra_tr rfl rfl (vp_at rfl rfl rfl rfl (vp_at rfl rfl (rn_T cregistry_row_flat) rfl vp_nil)) rfl) rfl (ra_cons rfl rfl (ra_cons rfl rfl ra_nil))) rfl (by rfl) (r29_eq hy) rfl rfl rfl rfl (wb_blk rfl rfl rfl rfl (wb_del wb_nil)) (an_cons (rn_T cregistry_row_flat) an_nil) rfl) ?_
      conv => whnf
      cases h; simp only [Sum.elim_inl, head11_2] at hc
      exact lrA0 hc [(0, 0), (1, 1), (3, 3), (4, 6)] rfl
    clear h; intro hb h; conv => whnf
    refine br.h2 h ?_ ?_ ?_
    · rfl
    · clear h; intro hb h; conv => whnf
      cases h; simp only [Sum.elim_inl, head11_2] at hc
      exact lrA0 hc [(0, 0), (1, 1), (3, 3), (4, 4)] rfl
    clear h; intro hb h; conv => whnf
    replace h := obind.elim h; obtain ⟨p, hy, h⟩ := h
    refine sumK.introF [3] (sumRun_of (aqs := [.pointer (some ⟨0, 0, none⟩), .int .i64 e.ID, .bool e.On]) (ws := [.blk 3 true, .blk 4 true]) (n := 1) (m := 0) (t' := 7) (ra_cons (ra_tr rfl rfl (vp_at rfl rfl rfl rfl (vp_at rfl rfl (rn_T cregistry_row_flat) rfl vp_nil)) rfl) rfl (ra_cons rfl rfl (ra_cons rfl rfl ra_nil))) rfl (by rfl) (r30_eq hy) rfl rfl rfl rfl (wb_blk rfl rfl rfl rfl (wb_del wb_nil)) (an_cons (rn_T cregistry_row_flat) an_nil) rfl) ?_
    conv => whnf
    cases h; simp only [Sum.elim_inl, head11_2] at hc
    exact lrA0 hc [(0, 0), (1, 1), (3, 3), (4, 6)] rfl
  clear h; intro hb h; conv => whnf
  replace h := obind.elim h; obtain ⟨l1, hy, h⟩ := h
  refine sumK.introF [] (sumRun_of (aqs := [.pointer (some ⟨0, 0, none⟩)]) (ws := [.blk 3 false, .blk 4 false]) (n := 1) (m := 0) (t' := 6) (ra_cons (ra_tr rfl rfl (vp_at rfl rfl rfl rfl (vp_at rfl rfl (rn_T cregistry_row_flat) rfl vp_nil)) rfl) rfl ra_nil) rfl (by rfl) (r22_eq hy) rfl rfl rfl rfl (wb_skip rfl (wb_skip rfl wb_nil)) (an_cons (rn_T capi_Backend_flat) an_nil) rfl) ?_
  conv => whnf
  replace h := obind.elim h; obtain ⟨xo, hy, h⟩ := h
  refine sumK.introF [] (sumRun_of (aqs := [.agg ⟨[.int .u64 k.A, .int .u64 k.B]⟩, .int .i64 last, .slice (some ⟨0, 0, none⟩) (l1 : List api_Backend).length 6]) (ws := [.win 5 0 (l1.length * 6) false]) (n := 1) (m := 0) (t' := 7) (ra_cons rfl rfl (ra_cons rfl rfl (ra_cons (by first | rfl | exact ra_allT capi_Backend_len capi_Backend_flat rfl rfl (by first | rfl | omega) (by first | rfl | (simp; done)) | exact ra_slT capi_Backend_len capi_Backend_flat rfl rfl (by first | rfl | omega) (by first | rfl | omega) (by first | omega | (simp at *; omega))) rfl ra_nil))) rfl (by rfl) (r58_eq hy) rfl rfl rfl rfl (wb_skip rfl wb_nil) (an_cons (rn_T capi_Backend_flat) an_nil) rfl) ?_
  conv => whnf
  replace h := obind.elim h; obtain ⟨p1, hy, h⟩ := h
  refine sumK.introF [] (sumRun_of (aqs := [.agg ⟨[.int .u64 xo.Key.A, .int .u64 xo.Key.B, .int .i64 xo.Last, .slice (some ⟨0, 0, none⟩) xo.L.length 6]⟩]) (ws := [.blk 6 false]) (n := 0) (m := 0) (t' := 8) (ra_cons (ra_tr rfl rfl (vp_at rfl rfl (rn_T capi_Backend_flat) rfl vp_nil) rfl) rfl ra_nil) rfl (by rfl) (r53_eq hy) rfl rfl rfl rfl (wb_skip rfl wb_nil) an_nil rfl) ?_
  conv => whnf
  replace h := obind.elim h; obtain ⟨xg5, hy, h⟩ := h
  refine sumK.introF [] (sumRun_of (aqs := [.string ⟨⟨p1.1⟩⟩]) (ws := []) (n := 1) (m := 0) (t' := 9) (ra_cons rfl rfl ra_nil) rfl (by rfl) (r48_eq hy) rfl rfl rfl rfl wb_nil (an_cons (rn_T capi_Backend_flat) an_nil) rfl) ?_
  conv => whnf
  replace h := obind.elim h; obtain ⟨xr2, hy, h⟩ := h
  refine sumK.introF [] (sumRun_of (aqs := [.agg ⟨[.int .u64 xo.Key.A, .int .u64 xo.Key.B, .int .i64 xo.Last, .slice (some ⟨0, 0, none⟩) xo.L.length 6]⟩]) (ws := [.blk 6 false]) (n := 0) (m := 0) (t' := 10) (ra_cons (ra_tr rfl rfl (vp_at rfl rfl (rn_T capi_Backend_flat) rfl vp_nil) rfl) rfl ra_nil) rfl (by rfl) (r56_eq hy) rfl rfl rfl rfl (wb_skip rfl wb_nil) an_nil rfl) ?_
  conv => whnf
  refine br.h h ?_ ?_ ?_
  · rfl
  · clear h; intro hb h; conv => whnf
    all_goals (cases h; cases hc)
    all_goals exact Res.of [] rfl nw_0 (by decide) js_0 (wr_n wr_0)
  clear h; intro hb h; conv => whnf
  refine br.h h ?_ ?_ ?_
  · rfl
  · clear h; intro hb h; conv => whnf
    all_goals (cases h; cases hc)
    all_goals exact Res.of [] rfl nw_0 (by decide) js_0 (wr_n wr_0)
  clear h; intro hb h; conv => whnf
  refine br.h h ?_ ?_ ?_
  · rfl
  · clear h; intro hb h; conv => whnf
    all_goals (cases h; cases hc)
    all_goals exact Res.of [] rfl nw_0 (by decide) js_0 (wr_n wr_0)
  clear h; intro hb h; conv => whnf
  replace h := obind.elim h; obtain ⟨s, hy, h⟩ := h
  refine sumK.introF [] (sumRun_of (aqs := [.agg ⟨[.int .u64 xg5.1.Key.A, .int .u64 xg5.1.Key.B, .int .i64 xg5.1.Last, .slice (some ⟨0, 0, none⟩) xg5.1.L.length 6]⟩, .agg ⟨[.int .u64 xo.Key.A, .int .u64 xo.Key.B, .int .i64 xo.Last, .slice (some ⟨1, 0, none⟩) xo.L.length 6]⟩]) (ws := [.blk 8 false, .blk 6 false]) (n := 0) (m := 0) (t' := 10) (ra_cons (ra_tr rfl rfl (vp_at rfl rfl (rn_T capi_Backend_flat) rfl vp_nil) rfl) rfl (ra_cons (ra_tr rfl rfl (vp_at rfl rfl (rn_T capi_Backend_flat) rfl vp_nil) rfl) rfl ra_nil)) rfl (by rfl) (r60_eq hy) rfl rfl rfl rfl (wb_skip rfl (wb_skip rfl wb_nil)) an_nil rfl) ?_
  conv => whnf
  refine br.h h ?_ ?_ ?_
  · rfl
  · clear h; intro hb h; conv => whnf
    all_goals (cases h; cases hc)
    all_goals exact Res.of [] rfl nw_0 (by decide) js_0 (wr_n wr_0)
  clear h; intro hb h; conv => whnf
  let t : Bool := !((xg5.1.Key.A == k.A) && ((xg5.1.Key.B == k.B) && true))
  refine br.h h ?_ ?_ ?_
  · rfl
  · clear h; intro hb h; conv => whnf
    all_goals (cases h; cases hc)
    all_goals exact Res.of [] rfl nw_0 (by decide) js_0 (wr_n wr_0)
  clear h; intro hb h; conv => whnf
  refine br.h h ?_ ?_ ?_
  · rfl
  · clear h; intro hb h; conv => whnf
    all_goals (cases h; cases hc)
    all_goals exact Res.of [] rfl nw_0 (by decide) js_0 (wr_n wr_0)
  clear h; intro hb h; conv => whnf
  let t1 : Bool := (xg5.1.L.length : Int) != (l1.length : Int)
  refine br.h h ?_ ?_ ?_
  · rfl
  · clear h; intro hb h; conv => whnf
    all_goals (cases h; cases hc)
    all_goals exact Res.of [] rfl nw_0 (by decide) js_0 (wr_n wr_0)
  clear h; intro hb h; conv => whnf
  obtain ⟨y, hy, h2⟩ := obind.elim h; cases h2
  have hl := loop11_1 health_Right law55_awake registry_Registry_Add registry_Registry_Drain registry_Registry_List registry_Registry_Probe registry_Registry_Remove registry_Registry_Weight saved_Get saved_Of saved_Put saved_Right saved_Same hS _ _ _ res _ _ _ hy hc; simp only [head11_1] at hl
  exact lrA0 hl [(0, 0), (5, 5), (8, 8), (9, 9)] rfl
theorem leads11 (health_Right : health_Rule → Option Bool) (law55_awake : Option Bool) (registry_Registry_Add : registry_Registry → Int → api_Addr → Option (Int × Int × registry_Registry)) (registry_Registry_Drain : registry_Registry → Int → Bool → Option (Int × registry_Registry)) (registry_Registry_List : registry_Registry → Option (List api_Backend)) (registry_Registry_Probe : registry_Registry → Int → Bool → Option (Bool × Int × registry_Registry)) (registry_Registry_Remove : registry_Registry → Int → Option (Int × registry_Registry)) (registry_Registry_Weight : registry_Registry → Int → Int → Option (Int × registry_Registry)) (saved_Get : (List UInt8) → Option (saved_Record × Int)) (saved_Of : api_Key → Int → (List api_Backend) → Option saved_Record) (saved_Put : saved_Record → Option ((List UInt8) × Int)) (saved_Right : saved_Record → Option Bool) (saved_Same : saved_Record → saved_Record → Option Bool) (hS : SumsOK Try.prog (aget (sums11 health_Right law55_awake registry_Registry_Add registry_Registry_Drain registry_Registry_List registry_Registry_Probe registry_Registry_Remove registry_Registry_Weight saved_Get saved_Of saved_Put saved_Right saved_Same))) (k : api_Key) (l : List R23_Step) (res : Bool) (h : law55_SavedKeepsF health_Right law55_awake registry_Registry_Add registry_Registry_Drain registry_Registry_List registry_Registry_Probe registry_Registry_Remove registry_Registry_Weight saved_Get saved_Of saved_Put saved_Right saved_Same k l = some res) :
    Leads Try.prog 11 1 ⟨⟨11, 198, [(0, .agg ⟨[.int .u64 k.A, .int .u64 k.B]⟩), (1, .slice (some ⟨0, 0, none⟩) l.length 7)], [.code k11_94], [], false, none⟩, [], [(0, .row false (vT cR23_Step l))], 1⟩ (fun v H _ => Res 1 (rx11 res) v H) := by
  unfold law55_SavedKeepsF at h
  refine ev_ok tab_ok hS true 3000 ?_
  conv => whnf
  refine br.h h ?_ ?_ ?_
  · rfl
  · clear h; intro hb h; conv => whnf
    replace h := obind.elim h; obtain ⟨a, hy, h⟩ := h
    refine sumK.q rfl rfl (r47_eq hy) rfl rfl rfl ?_
    conv => whnf
    all_goals (cases h)
    all_goals exact Res.of [] rfl nw_0 (by decide) js_0 (wr_n wr_0)
  clear h; intro hb h; conv => whnf
  replace h := obind.elim h; obtain ⟨xr, hy, h⟩ := h
  refine sumK.q rfl rfl (r69_eq hy) rfl rfl rfl ?_
  conv => whnf
  refine br.h h ?_ ?_ ?_
  · rfl
  · clear h; intro hb h; conv => whnf
    all_goals (cases h)
    all_goals exact Res.of [] rfl nw_0 (by decide) js_0 (wr_n wr_0)
  clear h; intro hb h; conv => whnf
  have hl := loop11_2 health_Right law55_awake registry_Registry_Add registry_Registry_Drain registry_Registry_List registry_Registry_Probe registry_Registry_Remove registry_Registry_Weight saved_Get saved_Of saved_Put saved_Right saved_Same hS _ _ res _ _ _ h rfl; simp only [head11_2] at hl
  refine Leads.nilC 3 2 9 ?_
  exact lrA0 hl [(0, 0), (1, 1), (3, 3), (4, 4)] rfl
def law55_SavedKeeps : api_Key → (List R23_Step) → Option Bool := law55_SavedKeepsF health_Right law55_awake registry_Registry_Add registry_Registry_Drain registry_Registry_List registry_Registry_Probe registry_Registry_Remove registry_Registry_Weight saved_Get saved_Of saved_Put saved_Right saved_Same
end Go.Vm.Code
namespace Go.Vm.Code
open Go Go.Vm
def rowW (r : registry_row) : Prop := (0 ≤ r.Backend.Weight ∧ r.Backend.Weight ≤ 1000) ∧ adr r.Backend.Addr = true ∧ inU r.Backend.Addr
theorem adr_eq (a : api_Addr) : adrB a = adr a := by
  unfold adrB adr
  cases a.V6
  · by_cases h : a.Hi = 0
    · rw [show (a.Hi == 0) = true from by simpa using h, decide_eq_true h]
    · rw [show (a.Hi == 0) = false from by simpa using h, decide_eq_false h]
  · rfl
def RW (g : registry_Registry) : Prop := ∀ r ∈ g.rows, rowW r
theorem RW.upd {g : registry_Registry} (h : RW g) {k : Nat} {q : registry_row} {dv : Int} (hq : rowW q) : RW (updR g k q dv) := by
  intro r hr
  rcases List.mem_or_eq_of_mem_set hr with hr | rfl
  · exact h r hr
  · exact hq
theorem RW.rem {g : registry_Registry} (h : RW g) (k : Nat) : RW (remG g k) := fun r hr => h r ((List.eraseIdx_sublist _ _).subset hr)
theorem RW.add {g : registry_Registry} (h : RW g) {w : Int} {a : api_Addr} (hu : inU a) : RW (addG g w a).2.2 := by
  unfold addG
  split
  · rename_i c
    split
    · exact h
    · intro r hr
      rcases List.mem_append.1 hr with hr | hr
      · exact h r hr
      · rw [List.mem_singleton.1 hr]
        have hw := c.1
        unfold weighB at hw
        rw [decide_eq_true_iff] at hw
        exact ⟨hw, by rw [← adr_eq]; exact c.2, hu⟩
  · exact h
theorem RW.hit {g : registry_Registry} (h : RW g) {k : Nat} {r : registry_row} (hk : g.rows[k]? = some r) : rowW r := h r (List.mem_of_getElem? hk)
def recG (k : api_Key) (g : registry_Registry) : saved_Record := ⟨k, g.last, ofL (g.rows.map tld)⟩
theorem tld_st (r : registry_row) : 1 ≤ (tld r).State ∧ (tld r).State ≤ 3 := by
  simp only [tld]; split
  · omega
  · split <;> omega
theorem ofL_tld (rows : List registry_row) : ofL (rows.map tld) = rows.map fun r => ofB (tld r) := by
  unfold ofL
  rw [List.filter_eq_self.2, List.map_map]; rfl
  intro b hb
  obtain ⟨r, -, rfl⟩ := List.mem_map.1 hb
  have := tld_st r
  simp; omega
theorem chn_rows {top : Int} : ∀ (rows : List registry_row) (last : Int), (∀ r ∈ rows, rowW r) → (∀ i ∈ rows.map rid, last < i ∧ i ≤ top) → (rows.map rid).Pairwise (· < ·) → chn top (rows.map fun r => ofB (tld r)) last = true
  | [], last, _, _, _ => rfl
  | r :: rows, last, hw, hi, hp => by
    rw [List.map_cons, chn_cons]
    rw [List.map_cons, List.pairwise_cons] at hp
    obtain ⟨w1, w2, w3⟩ := hw r (by simp)
    have h1 := hi (rid r) (by simp)
    have hst := tld_st r
    have e : bkOK (ofB (tld r)) last top = true := by
      have eid : (ofB (tld r)).ID = r.Backend.ID := by unfold ofB; split <;> rfl
      have ew : (ofB (tld r)).Weight = r.Backend.Weight := by unfold ofB; split <;> rfl
      have ea : (ofB (tld r)).Addr = r.Backend.Addr := by unfold ofB; split <;> rfl
      have es : (ofB (tld r)).State = 1 ∨ (ofB (tld r)).State = 3 := by
        unfold ofB; split
        · rename_i h; exact .inr h
        · exact .inl rfl
      unfold bkOK
      rw [eid, ew, ea, w2, Bool.and_true, decide_eq_true_iff]
      simp only [rid] at h1
      exact ⟨h1.1, h1.2, w1.1, w1.2, es⟩
    have eid : (ofB (tld r)).ID = rid r := by unfold ofB; split <;> rfl
    rw [e, Bool.true_and, eid]
    refine chn_rows rows (rid r) (fun q hq => hw q (by simp [hq])) (fun i h => ⟨hp.1 i h, (hi i (by simp only [List.map_cons, List.mem_cons]; exact .inr h)).2⟩) hp.2
theorem recG_right {N : Int} {g : registry_Registry} (h : RI N g) (hw : RW g) (k : api_Key) : rightB (recG k g) = true := by
  unfold rightB recG
  have hl := h.len
  simp only [ofL_tld]
  rw [Bool.and_eq_true, decide_eq_true_iff]
  refine ⟨⟨h.last0, h.last1, by simpa using hl⟩, chn_rows g.rows 0 hw (fun i hi => ?_) h.up⟩
  have := h.ids i hi
  omega
theorem recG_ok {g : registry_Registry} (hw : RW g) {k : api_Key} (hk : (0 ≤ k.A ∧ k.A < 2 ^ 64) ∧ 0 ≤ k.B ∧ k.B < 2 ^ 64) : recOK (recG k g) := by
  refine ⟨hk.1, hk.2, fun b hb => ?_⟩
  simp only [recG, ofL_tld] at hb
  obtain ⟨r, hr, rfl⟩ := List.mem_map.1 hb
  have ea : (ofB (tld r)).Addr = r.Backend.Addr := by unfold ofB; split <;> rfl
  rw [ea]; exact (hw r hr).2.2
abbrev KpT := Int × Int × Int × Int × Int × Int × (List registry_row)
def keepSt (i : Nat) (g : registry_Registry) : KpT := (g.last, (i : Int), g.rule.Rise, g.rule.Fall, g.last, g.version, g.rows)
theorem keep_end {k : api_Key} {l : List R23_Step} {i : Nat} (hi : ¬ i < l.length) {g : registry_Registry} (h : RI 100 g) (hw : RW g) (hk : (0 ≤ k.A ∧ k.A < 2 ^ 64) ∧ 0 ≤ k.B ∧ k.B < 2 ^ 64) :
    law55_SavedKeeps_s2 (some true) registry_Registry_Add registry_Registry_Drain registry_Registry_List registry_Registry_Probe registry_Registry_Remove registry_Registry_Weight saved_Get saved_Of saved_Put saved_Right saved_Same k l g.last i g.rule.Rise g.rule.Fall g.last g.version g.rows = some (.inr true) := by
  unfold law55_SavedKeeps_s2
  have e0 : registry_Registry.mk (health_Rule.mk g.rule.Rise g.rule.Fall) g.rows g.last g.version = g := rfl
  have hlen := h.len
  have hR := recG_right h hw k
  have hO := recG_ok hw hk
  have hbl := body_len (r := recG k g) (by simp only [recG, ofL_tld]; simpa using hlen)
  have hsl := sealS_len (body (recG k g))
  rw [cond_n (by omega), e0, list_eq h, Option.bind_some, pof_eq (by simp; omega), Option.bind_some]
  show ((saved_Put (recG k g)).bind fun p1 => _) = _
  rw [pput_eq hO, Option.bind_some]
  unfold putR
  rw [if_pos hR]
  simp only []
  rw [pgetR_eq (by rw [List.length_append]; omega), Option.bind_some, get_put hO hR]
  show ((saved_Right (recG k g)).bind fun xr2 => _) = _
  rw [pright_eq, Option.bind_some, hR]
  simp only [Bool.not_true, cond_false, bne_self_eq_false]
  rw [show ((saved_Same (recG k g) ⟨k, g.last, ofL (g.rows.map tld)⟩)) = some (decide (recG k g = recG k g)) from psame_eq (by simp only [recG, ofL_tld]; simp; omega), Option.bind_some]
  simp only [decide_true, Bool.not_true, cond_false]
  rw [show (((recG k g).Key.A == k.A) && (((recG k g).Key.B == k.B) && true)) = true from by simp [recG]]
  simp only [Bool.not_true, cond_false]
  rw [show ((recG k g).Last != g.last) = false from by simp [recG], cond_false]
  rw [show ((((recG k g).L.length : Int)) != ((g.rows.map tld).length : Int)) = false from by simp [recG, ofL_tld]]
  simp only [cond_false]
  have key : iter (fun st => law55_SavedKeeps_s1 (some true) l (g.rows.map tld) (recG k g, 0) st) FUEL 0 = some true := by
    refine iter_eq (fun _ => true) (fun (s : Int) => 0 ≤ s ∧ s ≤ g.rows.length) (fun s => ((g.rows.length : Int) - s).toNat) ?_ FUEL 0 ⟨by omega, by omega⟩ (by rw [FUEL_eq]; omega)
    rintro s ⟨g0, g1⟩
    obtain ⟨j, rfl⟩ := Int.eq_ofNat_of_zero_le g0
    unfold law55_SavedKeeps_s1
    have hml : (g.rows.map tld).length = g.rows.length := by simp
    have hrl : (recG k g).L.length = g.rows.length := by simp [recG, ofL_tld]
    rw [hml]
    simp only [hrl]
    rcases Nat.lt_or_ge j g.rows.length with hj | hj
    · right
      have h1 : (recG k g).L[j]? = some (ofB (tld g.rows[j])) := by simp [recG, ofL_tld, hj]
      have h2 : (g.rows.map tld)[j]? = some (tld g.rows[j]) := by simp [hj]
      rw [cond_p (by omega), oreq_p ⟨by omega, by omega⟩, Int.toNat_natCast, h1, Option.bind_some, oreq_p ⟨by omega, by omega⟩, h2, Option.bind_some]
      generalize g.rows[j] = r
      have hst := tld_st r
      have eid : (ofB (tld r)).ID = (tld r).ID := by unfold ofB; split <;> rfl
      have ew : (ofB (tld r)).Weight = (tld r).Weight := by unfold ofB; split <;> rfl
      have ea : (ofB (tld r)).Addr = (tld r).Addr := by unfold ofB; split <;> rfl
      have es : ((ofB (tld r)).State == 3) = ((tld r).State == 3) ∧ (ofB (tld r)).State ≠ 2 := by
        unfold ofB; split
        · rename_i c; exact ⟨rfl, by omega⟩
        · rename_i c
          exact ⟨by simp [c], by simp⟩
      rw [eid, ew, ea, es.1, show ((ofB (tld r)).State == 2) = false from by rw [beq_eq_false_iff_ne]; exact es.2]
      simp only [bne_self_eq_false, cond_false, BEq.rfl, Bool.and_self, Bool.not_true]
      rw [oreq_p ⟨by omega, by omega⟩, oreq_p ⟨by omega, by omega⟩, oreq_p ⟨by omega, by omega⟩, wI64 (by omega) (by omega)]
      exact ⟨_, rfl, ⟨by omega, by omega⟩, by omega, by trivial⟩
    · left
      rw [cond_n (by omega)]; rfl
  rw [key]; rfl
def stepK (s : R23_Step) : Prop := inU s.Addr
theorem keep_round {k : api_Key} {l : List R23_Step} (hl : l.length ≤ 60) (hok : ∀ s ∈ l, stepK s) {i : Nat} (hi : i < l.length) {g : registry_Registry} (h : RI (i : Int) g) (hw : RW g) :
    ∃ g', RI ((i + 1 : Nat) : Int) g' ∧ RW g' ∧ law55_SavedKeeps_s2 (some true) registry_Registry_Add registry_Registry_Drain registry_Registry_List registry_Registry_Probe registry_Registry_Remove registry_Registry_Weight saved_Get saved_Of saved_Put saved_Right saved_Same k l g.last i g.rule.Rise g.rule.Fall g.last g.version g.rows = some (.inl (keepSt (i + 1) g')) := by
  unfold law55_SavedKeeps_s2
  have hN : (i : Int) < 2 ^ 40 := by omega
  have l0 := h.last0; have l1 := h.last1
  have stay : RI ((i + 1 : Nat) : Int) g := h.mono (by omega)
  have e0 : registry_Registry.mk (health_Rule.mk g.rule.Rise g.rule.Fall) g.rows g.last g.version = g := rfl
  have ec : ((i + 1 : Nat) : Int) = (i : Int) + 1 := by omega
  have hs := hok l[i] (List.getElem_mem hi)
  rw [cond_p (by omega), oreq_p ⟨by omega, by omega⟩, Int.toNat_natCast, List.getElem?_eq_getElem hi, Option.bind_some, e0, wI64 (n := (i : Int) + 1) (by omega) (by omega), ← ec]
  generalize l[i] = e at hs
  cases h0 : e.Kind == 0 with
  | true =>
    rw [cond_true, add_eq h hN, Option.bind_some]
    refine ⟨(addG g e.N e.Addr).2.2, by rw [ec]; exact add_RI h _ _, hw.add hs, ?_⟩
    unfold addG
    by_cases c1 : weighB e.N = true ∧ adrB e.Addr = true
    · rw [if_pos c1]
      by_cases c2 : g.rows.length = 64 ∨ g.last = 65535
      · rw [if_pos c2]; rfl
      · rw [if_neg c2]
        simp only [BEq.rfl, cond_true]
        rw [wI64 (by omega) (by omega)]; rfl
    · rw [if_neg c1]; rfl
  | false =>
  rw [cond_false]
  cases h1 : e.Kind == 1 with
  | true =>
    rw [cond_true]
    rcases rid_dec g e.ID with ⟨j, r, hk, eid⟩ | hn
    · rw [← eid, remove_yes h hN hk, Option.bind_some]
      exact ⟨remG g j, by rw [ec]; exact rem_RI h j, hw.rem j, rfl⟩
    · rw [remove_no h hn, Option.bind_some]
      exact ⟨g, stay, hw, rfl⟩
  | false =>
  rw [cond_false]
  cases h2 : e.Kind == 2 with
  | true =>
    rw [cond_true]
    rcases rid_dec g e.ID with ⟨j, r, hk, eid⟩ | hn
    · rw [← eid, drain_yes h hN hk, Option.bind_some]
      by_cases c : r.drains = e.On
      · rw [if_pos c]; exact ⟨g, stay, hw, rfl⟩
      · rw [if_neg c]
        exact ⟨updR g j ⟨r.Backend, e.On, r.health⟩ 1, by rw [ec]; exact h.upd hk (by rfl) (by decide) (by decide), hw.upd (have q := hw.hit hk; q), rfl⟩
    · rw [drain_no h hn, Option.bind_some]
      exact ⟨g, stay, hw, rfl⟩
  | false =>
  rw [cond_false]
  cases h3 : e.Kind == 3 with
  | true =>
    rw [cond_true]
    rcases rid_dec g e.ID with ⟨j, r, hk, eid⟩ | hn
    · rw [← eid, weight_yes h hN hk, Option.bind_some]
      cases c : weighB e.N with
      | false => rw [if_neg (by decide)]; exact ⟨g, stay, hw, rfl⟩
      | true =>
        rw [if_pos rfl]
        unfold weighB at c
        rw [decide_eq_true_iff] at c
        have hr := hw.hit hk
        exact ⟨updR g j ⟨⟨r.Backend.ID, e.N, r.Backend.State, r.Backend.Addr⟩, r.drains, r.health⟩ 1, by rw [ec]; exact h.upd hk (by rfl) (by decide) (by decide), hw.upd ⟨c, hr.2⟩, rfl⟩
    · rw [weight_no h hn, Option.bind_some]
      exact ⟨g, stay, hw, rfl⟩
  | false =>
  rw [cond_false]
  cases h4 : e.Kind == 4 with
  | true =>
    rw [cond_true]
    rcases rid_dec g e.ID with ⟨j, r, hk, eid⟩ | hn
    · rw [← eid, probe_yes h hN hk, Option.bind_some]
      exact ⟨updR g j ⟨r.Backend, r.drains, (putH g.rule r.health e.On).1⟩ (if (putH g.rule r.health e.On).2 then 1 else 0), by rw [ec]; refine h.upd hk (by rfl) ?_ ?_ <;> split <;> decide, hw.upd (have q := hw.hit hk; q), rfl⟩
    · rw [probe_no h hn, Option.bind_some]
      exact ⟨g, stay, hw, rfl⟩
  | false =>
    rw [cond_false]
    exact ⟨g, stay, hw, rfl⟩
theorem savedKeeps (k : api_Key) (l : List R23_Step) (hk : (0 ≤ k.A ∧ k.A < 2 ^ 64) ∧ 0 ≤ k.B ∧ k.B < 2 ^ 64) (hok : ∀ s ∈ l, stepK s) : law55_SavedKeeps k l = some true := by
  unfold law55_SavedKeeps law55_SavedKeepsF
  rw [awake55, Option.bind_some]
  by_cases hl : (l.length : Int) > 60
  · rw [cond_p hl]
  rw [cond_n hl, hright_eq, Option.bind_some, show ruleB ⟨1, 1⟩ = true from by decide]
  have hi : RI ((0 : Nat) : Int) (registry_Registry.mk ⟨1, 1⟩ [] 0 0) := { rule := by decide, len := by simp, last0 := by simp, last1 := by simp, ver0 := by simp, ver1 := by simp, ids := by simp, up := by simp }
  have hw : RW (registry_Registry.mk ⟨1, 1⟩ [] 0 0) := fun r hr => by cases hr
  try simp only [Bool.not_true, cond_false]
  try rw [oreq.mk rfl]
  refine iter_eq (fun _ => true) (fun st => ∃ (i : Nat) (g : registry_Registry), i ≤ l.length ∧ RI (i : Int) g ∧ RW g ∧ st = keepSt i g) (fun st => l.length - st.2.1.toNat) ?_ FUEL (0, 0, 1, 1, 0, 0, []) ⟨0, _, by omega, hi, hw, rfl⟩ (by rw [FUEL_eq]; simp only []; omega)
  rintro s ⟨i, g, hi, h, hw, rfl⟩
  rcases Nat.lt_or_ge i l.length with hlt | hge
  · right
    obtain ⟨g', h', hw', e⟩ := keep_round (k := k) (by omega) hok hlt h hw
    refine ⟨_, e, ⟨i + 1, g', by omega, h', hw', rfl⟩, ?_, by trivial⟩
    simp only [keepSt]; omega
  · left
    simp only [keepSt]
    exact keep_end (by omega) (h.mono (by omega)) hw hk
end Go.Vm.Code
