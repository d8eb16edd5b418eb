import Derived.Test.YtadhjooghfdloaaNSavedSealedd
namespace Go.Vm.Code
open Go Go.Vm Go.Proofs
set_option maxRecDepth 100000
set_option maxHeartbeats 4000000
set_option linter.unusedVariables false
def saved_Get_s1 (octet_Reader_Bad : octet_Reader → Option (Bool × octet_Reader)) (octet_Reader_Rest : octet_Reader → Option ((List UInt8) × octet_Reader)) (saved_Right : saved_Record → Option Bool) (saved_backend : octet_Reader → Option (api_Backend × Bool × octet_Reader)) (xg : Int × Bool) (xg1 : Int × Bool) (n1 : Int × octet_Reader) (n2 : Int × octet_Reader) (good : Bool) (t60 : Int) (xr : List UInt8) (xr1 : Bool) (xr2 : Bool) (c : List api_Backend) : Option (Sum (Bool × Int × (List UInt8) × Bool × Bool × (List api_Backend)) (saved_Record × Int)) :=
  cond (decide (t60 < n2.1))
    (
    (saved_backend (octet_Reader.mk xr xr1 xr2)).bind fun b =>
    cond (good)
      (
      oreq (decide ((c.length + 1) * 48 ≤ 2 ^ 47)) <|
      let row := c ++ [b.1]
      some (.inl (b.2.1, wI .i64 (t60 + 1), b.2.2.s, b.2.2.made, b.2.2.bad, row)))
      (
      oreq (decide ((c.length + 1) * 48 ≤ 2 ^ 47)) <|
      let row1 := c ++ [b.1]
      some (.inl (false, wI .i64 (t60 + 1), b.2.2.s, b.2.2.made, b.2.2.bad, row1))))
    (
    (octet_Reader_Bad (octet_Reader.mk xr xr1 xr2)).bind fun b1 =>
    cond (b1.1)
      (
      some (.inr ((saved_Record.mk (api_Key.mk 0 0) 0 [], 2))))
      (
      (octet_Reader_Rest b1.2).bind fun xr3 =>
      cond (!(xr3.1 == []))
        (
        some (.inr ((saved_Record.mk (api_Key.mk 0 0) 0 [], 3))))
        (
        cond (!good)
          (
          some (.inr ((saved_Record.mk (api_Key.mk 0 0) 0 [], 3))))
          (
          (saved_Right (saved_Record.mk (api_Key.mk xg.1 xg1.1) n1.1 c)).bind fun xr4 =>
          cond (!xr4)
            (
            some (.inr ((saved_Record.mk (api_Key.mk 0 0) 0 [], 1))))
            (
            some (.inr ((saved_Record.mk (api_Key.mk xg.1 xg1.1) n1.1 c, 0))))))))
def saved_GetF (octet_Get : (List UInt8) → Int → Int → Option (Int × Bool)) (octet_New : (List UInt8) → Option octet_Reader) (octet_Reader_Bad : octet_Reader → Option (Bool × octet_Reader)) (octet_Reader_Num : octet_Reader → Int → Option (Int × octet_Reader)) (octet_Reader_Rest : octet_Reader → Option ((List UInt8) × octet_Reader)) (octet_Reader_Text : octet_Reader → Int → Option ((List UInt8) × octet_Reader)) (saved_Right : saved_Record → Option Bool) (saved_backend : octet_Reader → Option (api_Backend × Bool × octet_Reader)) (saved_seal : (List UInt8) → Option (List UInt8)) (s : List UInt8) : Option (saved_Record × Int) :=
  cond (decide ((s.length : Int) < 31))
    (
    some ((saved_Record.mk (api_Key.mk 0 0) 0 [], 2)))
    (
    oreq (decide ((0 : Int) ≤ (wI .i64 ((s.length : Int) - 8)) ∧ (wI .i64 ((s.length : Int) - 8)) ≤ (s.length : Int))) <|
    let t := s.take (wI .i64 ((s.length : Int) - 8)).toNat
    oreq (decide ((0 : Int) ≤ (wI .i64 ((s.length : Int) - 8)) ∧ (wI .i64 ((s.length : Int) - 8)) ≤ (s.length : Int))) <|
    let t1 := (s.drop (wI .i64 ((s.length : Int) - 8)).toNat).take (s.length - (wI .i64 ((s.length : Int) - 8)).toNat)
    (octet_New t).bind fun n =>
    (octet_Reader_Text n 4).bind fun t2 =>
    cond (!(t2.1 == [67, 76, 75, 49]))
      (
      some ((saved_Record.mk (api_Key.mk 0 0) 0 [], 3)))
      (
      (saved_seal t).bind fun s1 =>
      cond (!(s1 == t1))
        (
        some ((saved_Record.mk (api_Key.mk 0 0) 0 [], 4)))
        (
        (octet_Reader_Text t2.2 8).bind fun t3 =>
        (octet_Get t3.1 0 8).bind fun xg =>
        (octet_Reader_Text t3.2 8).bind fun t4 =>
        (octet_Get t4.1 0 8).bind fun xg1 =>
        (octet_Reader_Num t4.2 2).bind fun n1 =>
        (octet_Reader_Num n1.2 1).bind fun n2 =>
        iter (fun st => saved_Get_s1 octet_Reader_Bad octet_Reader_Rest saved_Right saved_backend xg xg1 n1 n2 st.1 st.2.1 st.2.2.1 st.2.2.2.1 st.2.2.2.2.1 st.2.2.2.2.2) FUEL (true, 0, n2.2.s, n2.2.made, n2.2.bad, []))))
def rx48 (x : saved_Record × Int) : SRes := ⟨.tuple ⟨[.agg ⟨[.int .u64 x.1.Key.A, .int .u64 x.1.Key.B, .int .i64 x.1.Last, .slice (some ⟨0, 0, none⟩) x.1.L.length 6]⟩, .int .i64 x.2]⟩, [(vT capi_Backend x.1.L)], []⟩
def r48 (g : (List UInt8) → Option (saved_Record × Int)) : Dec := dV asS fun (y0 : List UInt8) => dEnd (ofG (g y0) rx48)
theorem r48_c {g : (List UInt8) → Option (saved_Record × Int)} {y0 : List UInt8} {x : saved_Record × Int} (hx : g y0 = some x) : r48 g [.string ⟨⟨y0⟩⟩] [] = some (rx48 x) := (dV_eq (asS_c)).trans (ofG_eq hx)
def s48 (g : (List UInt8) → Option (saved_Record × Int)) : Summ := ⟨[.v], r48 g⟩
theorem r48_eq {g : (List UInt8) → Option (saved_Record × Int)} {y0 : List UInt8} {x : saved_Record × Int} (hx : g y0 = some x) : (s48 g).run [.string ⟨⟨y0⟩⟩] [] = some (rx48 x) := r48_c hx
abbrev sums48 (octet_Get : (List UInt8) → Int → Int → Option (Int × Bool)) (octet_New : (List UInt8) → Option octet_Reader) (octet_Reader_Bad : octet_Reader → Option (Bool × octet_Reader)) (octet_Reader_Num : octet_Reader → Int → Option (Int × octet_Reader)) (octet_Reader_Rest : octet_Reader → Option ((List UInt8) × octet_Reader)) (octet_Reader_Text : octet_Reader → Int → Option ((List UInt8) × octet_Reader)) (saved_Right : saved_Record → Option Bool) (saved_backend : octet_Reader → Option (api_Backend × Bool × octet_Reader)) (saved_seal : (List UInt8) → Option (List UInt8)) : List (Nat × Summ) := [(99, s99 octet_Get), (96, s96 octet_New), (102, s102 octet_Reader_Bad), (100, s100 octet_Reader_Num), (103, s103 octet_Reader_Rest), (97, s97 octet_Reader_Text), (56, s56 saved_Right), (101, s101 saved_backend), (98, s98 saved_seal)]
def head48_1 (xg : Int × Bool) (xg1 : Int × Bool) (n1 : Int × octet_Reader) (n2 : Int × octet_Reader) (good : Bool) (t60 : Int) (xr : List UInt8) (xr1 : Bool) (xr2 : Bool) (c : List api_Backend) : VM :=
  ⟨⟨48, 97, [(2, .pointer (some ⟨0, 0, none⟩)), (6, .pointer (some ⟨12, 0, none⟩)), (7, .pointer (some ⟨13, 0, none⟩)), (8, .bool good), (59, .int .i64 n2.1), (60, .int .i64 t60)], [.code k48_36, .inLoop k48_36, .inBlock 1, .code k48_58], [], false, none⟩, [], [(0, .cells [.int .u64 0, .int .u64 0, .int .i64 0, .slice none 0 0]), (12, .row true [.string ⟨⟨xr⟩⟩, .bool xr1, .bool xr2]), (13, .cells [.int .u64 xg.1, .int .u64 xg1.1, .int .i64 n1.1, .slice (some ⟨14, 0, none⟩) c.length 6]), (14, .row true (vT capi_Backend c))], 15⟩
theorem loop48_1 (octet_Get : (List UInt8) → Int → Int → Option (Int × Bool)) (octet_New : (List UInt8) → Option octet_Reader) (octet_Reader_Bad : octet_Reader → Option (Bool × octet_Reader)) (octet_Reader_Num : octet_Reader → Int → Option (Int × octet_Reader)) (octet_Reader_Rest : octet_Reader → Option ((List UInt8) × octet_Reader)) (octet_Reader_Text : octet_Reader → Int → Option ((List UInt8) × octet_Reader)) (saved_Right : saved_Record → Option Bool) (saved_backend : octet_Reader → Option (api_Backend × Bool × octet_Reader)) (saved_seal : (List UInt8) → Option (List UInt8)) (hS : SumsOK Try.prog (aget (sums48 octet_Get octet_New octet_Reader_Bad octet_Reader_Num octet_Reader_Rest octet_Reader_Text saved_Right saved_backend saved_seal))) (xg : Int × Bool) (xg1 : Int × Bool) (n1 : Int × octet_Reader) (n2 : Int × octet_Reader) (res : saved_Record × Int) : ∀ fuel (st : Bool × Int × (List UInt8) × Bool × Bool × (List api_Backend)) (o : saved_Record × Int), iter (fun st => saved_Get_s1 octet_Reader_Bad octet_Reader_Rest saved_Right saved_backend xg xg1 n1 n2 st.1 st.2.1 st.2.2.1 st.2.2.2.1 st.2.2.2.2.1 st.2.2.2.2.2) fuel st = some o → (o = res) →
    Leads Try.prog 48 0 (head48_1 xg xg1 n1 n2 st.1 st.2.1 st.2.2.1 st.2.2.2.1 st.2.2.2.2.1 st.2.2.2.2.2) (fun v H t => ∃ v' H' t', NilW v H t v' H' t' ∧ Res 0 (rx48 res) v' H') := by
  intro fuel st o h hc
  refine iter_leads (head := fun st => head48_1 xg xg1 n1 n2 st.1 st.2.1 st.2.2.1 st.2.2.2.1 st.2.2.2.2.1 st.2.2.2.2.2) (C := fun o => (o = res)) ?_ fuel st o h hc
  clear h hc o st fuel
  intro st o h hc
  obtain ⟨good, t60, xr, xr1, xr2, c⟩ := st
  replace h : saved_Get_s1 octet_Reader_Bad octet_Reader_Rest saved_Right saved_backend xg xg1 n1 n2 good t60 xr xr1 xr2 c = some o := h
  show Leads Try.prog 48 0 (head48_1 xg xg1 n1 n2 good t60 xr xr1 xr2 c) (fun v H t => ∃ v' H' t', NilW v H t v' H' t' ∧ Res 0 (rx48 res) v' H')
  unfold saved_Get_s1 at h
  refine ev_ok tab_ok hS true 3000 ?_
  conv => whnf
  refine br.h h ?_ ?_ ?_
  · rfl
  · clear h; intro hb h; conv => whnf
    replace h := obind.elim h; obtain ⟨b, hy, h⟩ := h
    refine sumK.introF [12] (sumRun_of (aqs := [.pointer (some ⟨0, 0, none⟩)]) (ws := [.win 12 0 3 true]) (n := 0) (m := 0) (t' := 15) (ra_cons rfl rfl ra_nil) rfl (by rfl) (r101_eq hy) rfl rfl rfl rfl (wb_win rfl rfl rfl ⟨rfl, Nat.le_of_ble_eq_true rfl⟩ rfl rfl wb_nil) an_nil rfl) ?_
    conv => whnf
    refine br.h h ?_ ?_ ?_
    · rfl
    · clear h; intro hb h; conv => whnf
      replace h := oreq.elim h; obtain ⟨hb, h⟩ := h
      refine req.intro (ap_req (of_decide_eq_true hb) (by first | rfl | omega | (simp; done) | (simp; omega) | (simp at *; omega)) rfl (by first | rfl | omega | (simp; done) | (simp; omega) | (simp at *; omega)) (by first | rfl | exact vI_one _ _ | exact vS_one _ | exact vB_one _ | exact vT_one (by first | exact capi_Key_one | exact capi_Addr_one | exact capi_Backend_one | exact cArr4_Int_one | exact csip_Hasher_one | exact coctet_Reader_one | exact cR23_Step_one | exact chealth_Rule_one | exact chealth_State_one | exact cregistry_row_one) _ | (rw [ofBytes_vI]; exact vI_one _ _) | (simp [vI_one, vS_one, vB_one, vI_drop, vI_take, vS_drop, vS_take]; done) | (simp; exact List.all_eq_true.1 (vT_one (by first | exact capi_Key_one | exact capi_Addr_one | exact capi_Backend_one | exact cArr4_Int_one | exact csip_Hasher_one | exact coctet_Reader_one | exact cR23_Step_one | exact chealth_Rule_one | exact chealth_State_one | exact cregistry_row_one) _))) rfl) ?_
      conv => whnf
      let row : List api_Backend := c ++ [b.1]
      refine pk_apT capi_Backend_len (xs := c) (ys := [b.1]) rfl (by first | rfl | omega) (by first | rfl | omega | (simp; done) | (simp; omega) | (simp at *; omega)) (by first | rfl | omega | (simp; done) | (simp; omega) | (simp at *; omega)) ?_
      conv => whnf
      cases h; simp only [Sum.elim_inl, head48_1] at hc
      exact lrA0 hc [(0, 0), (12, 12), (13, 13), (14, 17)] rfl
    clear h; intro hb h; conv => whnf
    replace h := oreq.elim h; obtain ⟨hb, h⟩ := h
    refine req.intro (ap_req (of_decide_eq_true hb) (by first | rfl | omega | (simp; done) | (simp; omega) | (simp at *; omega)) rfl (by first | rfl | omega | (simp; done) | (simp; omega) | (simp at *; omega)) (by first | rfl | exact vI_one _ _ | exact vS_one _ | exact vB_one _ | exact vT_one (by first | exact capi_Key_one | exact capi_Addr_one | exact capi_Backend_one | exact cArr4_Int_one | exact csip_Hasher_one | exact coctet_Reader_one | exact cR23_Step_one | exact chealth_Rule_one | exact chealth_State_one | exact cregistry_row_one) _ | (rw [ofBytes_vI]; exact vI_one _ _) | (simp [vI_one, vS_one, vB_one, vI_drop, vI_take, vS_drop, vS_take]; done) | (simp; exact List.all_eq_true.1 (vT_one (by first | exact capi_Key_one | exact capi_Addr_one | exact capi_Backend_one | exact cArr4_Int_one | exact csip_Hasher_one | exact coctet_Reader_one | exact cR23_Step_one | exact chealth_Rule_one | exact chealth_State_one | exact cregistry_row_one) _))) rfl) ?_
    conv => whnf
    let row1 : List api_Backend := c ++ [b.1]
    refine pk_apT capi_Backend_len (xs := c) (ys := [b.1]) rfl (by first | rfl | omega) (by first | rfl | omega | (simp; done) | (simp; omega) | (simp at *; omega)) (by first | rfl | omega | (simp; done) | (simp; omega) | (simp at *; omega)) ?_
    conv => whnf
    cases h; simp only [Sum.elim_inl, head48_1] at hc
    exact lrA0 hc [(0, 0), (12, 12), (13, 13), (14, 17)] rfl
  clear h; intro hb h; conv => whnf
  replace h := obind.elim h; obtain ⟨b1, hy, h⟩ := h
  refine sumK.introF [12] (sumRun_of (aqs := [.pointer (some ⟨0, 0, none⟩)]) (ws := [.win 12 0 3 true]) (n := 0) (m := 0) (t' := 15) (ra_cons rfl rfl ra_nil) rfl (by rfl) (r102_eq hy) rfl rfl rfl rfl (wb_win rfl rfl rfl ⟨rfl, Nat.le_of_ble_eq_true rfl⟩ rfl rfl wb_nil) an_nil rfl) ?_
  conv => whnf
  refine br.h h ?_ ?_ ?_
  · rfl
  · clear h; intro hb h; conv => whnf
    all_goals (cases h; cases hc)
    all_goals exact ⟨_, _, _, (.val (.tup (.cons (.agg (.cons (.same _) (.cons (.same _) (.cons (.same _) (.cons (.nil _ _) .nil))))) (.cons (.same _) .nil))) (.refl _ _ _)), Res.of [15] rfl (nw_s (rn_T capi_Backend_flat) (hs_row rfl) nw_0) (by decide) (js_l (by decide) js_0) wr_0⟩
  clear h; intro hb h; conv => whnf
  replace h := obind.elim h; obtain ⟨xr3, hy, h⟩ := h
  refine sumK.introF [12] (sumRun_of (aqs := [.pointer (some ⟨0, 0, none⟩)]) (ws := [.win 12 0 3 true]) (n := 0) (m := 0) (t' := 15) (ra_cons rfl rfl ra_nil) rfl (by rfl) (r103_eq hy) rfl rfl rfl rfl (wb_win rfl rfl rfl ⟨rfl, Nat.le_of_ble_eq_true rfl⟩ rfl rfl wb_nil) an_nil rfl) ?_
  conv => whnf
  refine br.h h ?_ ?_ ?_
  · rfl
  · clear h; intro hb h; conv => whnf
    all_goals (cases h; cases hc)
    all_goals exact ⟨_, _, _, (.val (.tup (.cons (.agg (.cons (.same _) (.cons (.same _) (.cons (.same _) (.cons (.nil _ _) .nil))))) (.cons (.same _) .nil))) (.refl _ _ _)), Res.of [15] rfl (nw_s (rn_T capi_Backend_flat) (hs_row rfl) nw_0) (by decide) (js_l (by decide) js_0) wr_0⟩
  clear h; intro hb h; conv => whnf
  refine br.h h ?_ ?_ ?_
  · rfl
  · clear h; intro hb h; conv => whnf
    all_goals (cases h; cases hc)
    all_goals exact ⟨_, _, _, (.val (.tup (.cons (.agg (.cons (.same _) (.cons (.same _) (.cons (.same _) (.cons (.nil _ _) .nil))))) (.cons (.same _) .nil))) (.refl _ _ _)), Res.of [15] rfl (nw_s (rn_T capi_Backend_flat) (hs_row rfl) nw_0) (by decide) (js_l (by decide) js_0) wr_0⟩
  clear h; intro hb h; conv => whnf
  replace h := obind.elim h; obtain ⟨xr4, hy, h⟩ := h
  refine sumK.introF [] (sumRun_of (aqs := [.agg ⟨[.int .u64 (saved_Record.mk (api_Key.mk xg.1 xg1.1) n1.1 c).Key.A, .int .u64 (saved_Record.mk (api_Key.mk xg.1 xg1.1) n1.1 c).Key.B, .int .i64 (saved_Record.mk (api_Key.mk xg.1 xg1.1) n1.1 c).Last, .slice (some ⟨0, 0, none⟩) (saved_Record.mk (api_Key.mk xg.1 xg1.1) n1.1 c).L.length 6]⟩]) (ws := [.blk 14 false]) (n := 0) (m := 0) (t' := 15) (ra_cons (ra_tr rfl rfl (vp_at rfl rfl (rn_T capi_Backend_flat) rfl vp_nil) rfl) rfl ra_nil) rfl (by rfl) (r56_eq hy) rfl rfl rfl rfl (wb_skip rfl wb_nil) an_nil rfl) ?_
  conv => whnf
  refine br.h h ?_ ?_ ?_
  · rfl
  · clear h; intro hb h; conv => whnf
    all_goals (cases h; cases hc)
    all_goals exact ⟨_, _, _, (.val (.tup (.cons (.agg (.cons (.same _) (.cons (.same _) (.cons (.same _) (.cons (.nil _ _) .nil))))) (.cons (.same _) .nil))) (.refl _ _ _)), Res.of [15] rfl (nw_s (rn_T capi_Backend_flat) (hs_row rfl) nw_0) (by decide) (js_l (by decide) js_0) wr_0⟩
  clear h; intro hb h; conv => whnf
  all_goals (cases h; cases hc)
  all_goals exact ⟨_, _, _, (.refl _ _ _), Res.of [14] rfl (nw_s (rn_T capi_Backend_flat) (hs_row rfl) nw_0) (by decide) (js_l (by decide) js_0) wr_0⟩
theorem leads48 (octet_Get : (List UInt8) → Int → Int → Option (Int × Bool)) (octet_New : (List UInt8) → Option octet_Reader) (octet_Reader_Bad : octet_Reader → Option (Bool × octet_Reader)) (octet_Reader_Num : octet_Reader → Int → Option (Int × octet_Reader)) (octet_Reader_Rest : octet_Reader → Option ((List UInt8) × octet_Reader)) (octet_Reader_Text : octet_Reader → Int → Option ((List UInt8) × octet_Reader)) (saved_Right : saved_Record → Option Bool) (saved_backend : octet_Reader → Option (api_Backend × Bool × octet_Reader)) (saved_seal : (List UInt8) → Option (List UInt8)) (hS : SumsOK Try.prog (aget (sums48 octet_Get octet_New octet_Reader_Bad octet_Reader_Num octet_Reader_Rest octet_Reader_Text saved_Right saved_backend saved_seal))) (s : List UInt8) (res : saved_Record × Int) (h : saved_GetF octet_Get octet_New octet_Reader_Bad octet_Reader_Num octet_Reader_Rest octet_Reader_Text saved_Right saved_backend saved_seal s = some res) :
    Leads Try.prog 48 0 ⟨⟨48, 97, [(0, .string ⟨⟨s⟩⟩)], [.code k48_69], [], false, none⟩, [], [], 0⟩ (fun v H _ => Res 0 (rx48 res) v H) := by
  refine Leads.nilW (R := fun v' H' => Res 0 (rx48 res) v' H') ?_
  unfold saved_GetF at h
  refine ev_ok tab_ok hS true 3000 ?_
  conv => whnf
  refine br.h h ?_ ?_ ?_
  · rfl
  · clear h; intro hb h; conv => whnf
    all_goals (cases h)
    all_goals exact ⟨_, _, _, (.val (.tup (.cons (.agg (.cons (.same _) (.cons (.same _) (.cons (.same _) (.cons (.nil _ _) .nil))))) (.cons (.same _) .nil))) (.refl _ _ _)), Res.of [1] rfl (nw_s (rn_T capi_Backend_flat) (hs_row rfl) nw_0) (by decide) (js_l (by decide) js_0) wr_0⟩
  clear h; intro hb h; conv => whnf
  replace h := oreq.elim h; obtain ⟨hb, h⟩ := h
  first | (refine req.intro hb ?_; conv => whnf) | skip
  let t : List UInt8 := s.take (wI .i64 ((s.length : Int) - 8)).toNat
  replace h := oreq.elim h; obtain ⟨hb, h⟩ := h
  first | (refine req.intro hb ?_; conv => whnf) | skip
  let t1 : List UInt8 := (s.drop (wI .i64 ((s.length : Int) - 8)).toNat).take (s.length - (wI .i64 ((s.length : Int) - 8)).toNat)
  replace h := obind.elim h; obtain ⟨n, hy, h⟩ := h
  refine sumK.introF [12] (sumRun_of (aqs := [.string ⟨⟨t⟩⟩]) (ws := []) (n := 1) (m := 0) (t' := 13) (ra_cons rfl rfl ra_nil) rfl (by rfl) (r96_eq hy) rfl rfl rfl rfl wb_nil (an_cons (rfl) an_nil) rfl) ?_
  conv => whnf
  replace h := obind.elim h; obtain ⟨t2, hy, h⟩ := h
  refine sumK.introF [12] (sumRun_of (aqs := [.pointer (some ⟨0, 0, none⟩), .int .i64 4]) (ws := [.win 12 0 3 true]) (n := 0) (m := 0) (t' := 13) (ra_cons rfl rfl (ra_cons rfl rfl ra_nil)) rfl (by rfl) (r97_eq hy) rfl rfl rfl rfl (wb_win rfl rfl rfl ⟨rfl, Nat.le_of_ble_eq_true rfl⟩ rfl rfl wb_nil) an_nil rfl) ?_
  conv => whnf
  refine br.h h ?_ ?_ ?_
  · rfl
  · clear h; intro hb h; conv => whnf
    all_goals (cases h)
    all_goals exact ⟨_, _, _, (.val (.tup (.cons (.agg (.cons (.same _) (.cons (.same _) (.cons (.same _) (.cons (.nil _ _) .nil))))) (.cons (.same _) .nil))) (.refl _ _ _)), Res.of [13] rfl (nw_s (rn_T capi_Backend_flat) (hs_row rfl) nw_0) (by decide) (js_l (by decide) js_0) wr_0⟩
  clear h; intro hb h; conv => whnf
  replace h := obind.elim h; obtain ⟨s1, hy, h⟩ := h
  refine sumK.q rfl rfl (r98_eq hy) rfl rfl rfl ?_
  conv => whnf
  refine br.h h ?_ ?_ ?_
  · rfl
  · clear h; intro hb h; conv => whnf
    all_goals (cases h)
    all_goals exact ⟨_, _, _, (.val (.tup (.cons (.agg (.cons (.same _) (.cons (.same _) (.cons (.same _) (.cons (.nil _ _) .nil))))) (.cons (.same _) .nil))) (.refl _ _ _)), Res.of [13] rfl (nw_s (rn_T capi_Backend_flat) (hs_row rfl) nw_0) (by decide) (js_l (by decide) js_0) wr_0⟩
  clear h; intro hb h; conv => whnf
  replace h := obind.elim h; obtain ⟨t3, hy, h⟩ := h
  refine sumK.introF [12] (sumRun_of (aqs := [.pointer (some ⟨0, 0, none⟩), .int .i64 8]) (ws := [.win 12 0 3 true]) (n := 0) (m := 0) (t' := 14) (ra_cons rfl rfl (ra_cons rfl rfl ra_nil)) rfl (by rfl) (r97_eq hy) rfl rfl rfl rfl (wb_win rfl rfl rfl ⟨rfl, Nat.le_of_ble_eq_true rfl⟩ rfl rfl wb_nil) an_nil rfl) ?_
  conv => whnf
  replace h := obind.elim h; obtain ⟨xg, hy, h⟩ := h
  refine sumK.q rfl rfl (r99_eq hy) rfl rfl rfl ?_
  conv => whnf
  replace h := obind.elim h; obtain ⟨t4, hy, h⟩ := h
  refine sumK.introF [12] (sumRun_of (aqs := [.pointer (some ⟨0, 0, none⟩), .int .i64 8]) (ws := [.win 12 0 3 true]) (n := 0) (m := 0) (t' := 14) (ra_cons rfl rfl (ra_cons rfl rfl ra_nil)) rfl (by rfl) (r97_eq hy) rfl rfl rfl rfl (wb_win rfl rfl rfl ⟨rfl, Nat.le_of_ble_eq_true rfl⟩ rfl rfl wb_nil) an_nil rfl) ?_
  conv => whnf
  replace h := obind.elim h; obtain ⟨xg1, hy, h⟩ := h
  refine sumK.q rfl rfl (r99_eq hy) rfl rfl rfl ?_
  conv => whnf
  replace h := obind.elim h; obtain ⟨n1, hy, h⟩ := h
  refine sumK.introF [12] (sumRun_of (aqs := [.pointer (some ⟨0, 0, none⟩), .int .i64 2]) (ws := [.win 12 0 3 true]) (n := 0) (m := 0) (t' := 14) (ra_cons rfl rfl (ra_cons rfl rfl ra_nil)) rfl (by rfl) (r100_eq hy) rfl rfl rfl rfl (wb_win rfl rfl rfl ⟨rfl, Nat.le_of_ble_eq_true rfl⟩ rfl rfl wb_nil) an_nil rfl) ?_
  conv => whnf
  replace h := obind.elim h; obtain ⟨n2, hy, h⟩ := h
  refine sumK.introF [12] (sumRun_of (aqs := [.pointer (some ⟨0, 0, none⟩), .int .i64 1]) (ws := [.win 12 0 3 true]) (n := 0) (m := 0) (t' := 14) (ra_cons rfl rfl (ra_cons rfl rfl ra_nil)) rfl (by rfl) (r100_eq hy) rfl rfl rfl rfl (wb_win rfl rfl rfl ⟨rfl, Nat.le_of_ble_eq_true rfl⟩ rfl rfl wb_nil) an_nil rfl) ?_
  conv => whnf
  have hl := loop48_1 octet_Get octet_New octet_Reader_Bad octet_Reader_Num octet_Reader_Rest octet_Reader_Text saved_Right saved_backend saved_seal hS _ _ _ _ res _ _ _ h rfl; simp only [head48_1] at hl
  refine Leads.nilC 13 3 6 ?_
  exact lrA0 hl [(0, 0), (12, 12), (13, 13), (14, 14)] rfl
theorem ok48 (octet_Get : (List UInt8) → Int → Int → Option (Int × Bool)) (octet_New : (List UInt8) → Option octet_Reader) (octet_Reader_Bad : octet_Reader → Option (Bool × octet_Reader)) (octet_Reader_Num : octet_Reader → Int → Option (Int × octet_Reader)) (octet_Reader_Rest : octet_Reader → Option ((List UInt8) × octet_Reader)) (octet_Reader_Text : octet_Reader → Int → Option ((List UInt8) × octet_Reader)) (saved_Right : saved_Record → Option Bool) (saved_backend : octet_Reader → Option (api_Backend × Bool × octet_Reader)) (saved_seal : (List UInt8) → Option (List UInt8)) (hS : SumsOK Try.prog (aget (sums48 octet_Get octet_New octet_Reader_Bad octet_Reader_Num octet_Reader_Rest octet_Reader_Text saved_Right saved_backend saved_seal))) : SumOK Try.prog 48 (s48 (saved_GetF octet_Get octet_New octet_Reader_Bad octet_Reader_Num octet_Reader_Rest octet_Reader_Text saved_Right saved_backend saved_seal)) := by
  refine SumOK.of_leads tab_ok (fun ar os r ha hr => ?_) ⟨Try.f48, rfl, by decide, rfl⟩
  replace hr : r48 (saved_GetF octet_Get octet_New octet_Reader_Bad octet_Reader_Num octet_Reader_Rest octet_Reader_Text saved_Right saved_backend saved_seal) ar (conts os) = some r := hr
  unfold r48 at hr
  generalize hc : conts os = C at hr
  replace hr := dV.elim hr; obtain ⟨v0, l1, y0, rfl, e0, hr⟩ := hr; obtain rfl := asS_eq _ _ e0
  replace hr := dFin hr; obtain ⟨rfl, rfl, x, h, rfl⟩ := hr
  obtain rfl := kinds_nil hc
  exact ⟨_, rfl, leads48 octet_Get octet_New octet_Reader_Bad octet_Reader_Num octet_Reader_Rest octet_Reader_Text saved_Right saved_backend saved_seal hS _ x h⟩
def saved_Get : (List UInt8) → Option (saved_Record × Int) := saved_GetF octet_Get octet_New octet_Reader_Bad octet_Reader_Num octet_Reader_Rest octet_Reader_Text saved_Right saved_backend saved_seal
theorem lift48 : SumOK Try.prog 48 (s48 saved_Get) := ok48 octet_Get octet_New octet_Reader_Bad octet_Reader_Num octet_Reader_Rest octet_Reader_Text saved_Right saved_backend saved_seal (SumsOK.of_tab ⟨lift99, lift96, lift102, lift100, lift103, lift97, lift56, lift101, lift98, trivial⟩)
def R04_GetF (R02_Get : (List UInt8) → Int → Int → Option (Int × Bool)) (s : List UInt8) : Option (api_Addr × Bool) :=
  cond ((s.length : Int) == 4)
    (
    (R02_Get s 0 4).bind fun xg =>
    some ((api_Addr.mk false 0 xg.1, true)))
    (
    cond ((s.length : Int) == 16)
      (
      (R02_Get s 0 8).bind fun xg1 =>
      (R02_Get s 8 8).bind fun xg2 =>
      some ((api_Addr.mk true xg1.1 xg2.1, true)))
      (
      some ((api_Addr.mk false 0 0, false))))
def rx107 (x : api_Addr × Bool) : SRes := ⟨.tuple ⟨[.agg ⟨[.bool x.1.V6, .int .u64 x.1.Hi, .int .u64 x.1.Lo]⟩, .bool x.2]⟩, [], []⟩
def r107 (g : (List UInt8) → Option (api_Addr × Bool)) : Dec := dV asS fun (y0 : List UInt8) => dEnd (ofG (g y0) rx107)
theorem r107_c {g : (List UInt8) → Option (api_Addr × Bool)} {y0 : List UInt8} {x : api_Addr × Bool} (hx : g y0 = some x) : r107 g [.string ⟨⟨y0⟩⟩] [] = some (rx107 x) := (dV_eq (asS_c)).trans (ofG_eq hx)
def s107 (g : (List UInt8) → Option (api_Addr × Bool)) : Summ := ⟨[.v], r107 g⟩
theorem r107_eq {g : (List UInt8) → Option (api_Addr × Bool)} {y0 : List UInt8} {x : api_Addr × Bool} (hx : g y0 = some x) : (s107 g).run [.string ⟨⟨y0⟩⟩] [] = some (rx107 x) := r107_c hx
abbrev sums107 (R02_Get : (List UInt8) → Int → Int → Option (Int × Bool)) : List (Nat × Summ) := [(105, s105 R02_Get)]
theorem leads107 (R02_Get : (List UInt8) → Int → Int → Option (Int × Bool)) (hS : SumsOK Try.prog (aget (sums107 R02_Get))) (s : List UInt8) (res : api_Addr × Bool) (h : R04_GetF R02_Get s = some res) :
    Leads Try.prog 107 0 ⟨⟨107, 37, [(0, .string ⟨⟨s⟩⟩)], [.code k107_21], [], false, none⟩, [], [], 0⟩ (fun v H _ => Res 0 (rx107 res) v H) := by
  unfold R04_GetF at h
  refine ev_ok tab_ok hS true 3000 ?_
  conv => whnf
  refine br.h h ?_ ?_ ?_
  · rfl
  · clear h; intro hb h; conv => whnf
    replace h := obind.elim h; obtain ⟨xg, hy, h⟩ := h
    refine sumK.q rfl rfl (r105_eq hy) rfl rfl rfl ?_
    conv => whnf
    all_goals (cases h; exact Res.z rfl rfl rfl)
  clear h; intro hb h; conv => whnf
  refine br.h2 h ?_ ?_ ?_
  · rfl
  · clear h; intro hb h; conv => whnf
    all_goals (cases h; exact Res.z rfl rfl rfl)
  clear h; intro hb h; conv => whnf
  replace h := obind.elim h; obtain ⟨xg1, hy, h⟩ := h
  refine sumK.q rfl rfl (r105_eq hy) rfl rfl rfl ?_
  conv => whnf
  replace h := obind.elim h; obtain ⟨xg2, hy, h⟩ := h
  refine sumK.q rfl rfl (r105_eq hy) rfl rfl rfl ?_
  conv => whnf
  all_goals (cases h; exact Res.z rfl rfl rfl)
theorem ok107 (R02_Get : (List UInt8) → Int → Int → Option (Int × Bool)) (hS : SumsOK Try.prog (aget (sums107 R02_Get))) : SumOK Try.prog 107 (s107 (R04_GetF R02_Get)) := by
  refine SumOK.of_leads tab_ok (fun ar os r ha hr => ?_) ⟨Try.f107, rfl, by decide, rfl⟩
  replace hr : r107 (R04_GetF R02_Get) ar (conts os) = some r := hr
  unfold r107 at hr
  generalize hc : conts os = C at hr
  replace hr := dV.elim hr; obtain ⟨v0, l1, y0, rfl, e0, hr⟩ := hr; obtain rfl := asS_eq _ _ e0
  replace hr := dFin hr; obtain ⟨rfl, rfl, x, h, rfl⟩ := hr
  obtain rfl := kinds_nil hc
  exact ⟨_, rfl, leads107 R02_Get hS _ x h⟩
def R04_Get : (List UInt8) → Option (api_Addr × Bool) := R04_GetF R02_Get
theorem lift107 : SumOK Try.prog 107 (s107 R04_Get) := ok107 R02_Get (SumsOK.of_tab ⟨lift105, trivial⟩)
def R55_Get_s1 (R02_Must : (List UInt8) → Int → Int → Option Int) (R04_Get : (List UInt8) → Option (api_Addr × Bool)) (R55_Right : saved_Record → Option Bool) (t : List UInt8) (xg : Int × Bool) (xg1 : Int × Bool) (m : Int) (xat : Int) (bad : Bool) (i : Int) (c : List api_Backend) : Option (Sum (Int × Bool × Int × (List api_Backend)) (saved_Record × Int)) :=
  (t[22]?).bind fun (b : UInt8) =>
  cond (decide (i < (wI .i64 (b.toNat : Int))))
    (
    let t2 := decide ((wI .i64 ((t.length : Int) - xat)) < 6)
    cond (t2)
      (
      some (.inr ((saved_Record.mk (api_Key.mk 0 0) 0 [], 2))))
      (
      let t3 := wI .i64 ((wI .i64 ((t.length : Int) - xat)) - 6)
      oreq (decide (0 ≤ (wI .i64 (xat + 5)))) <|
      (t[(wI .i64 (xat + 5)).toNat]?).bind fun (b1 : UInt8) =>
      cond (decide (t3 < (wI .i64 (b1.toNat : Int))))
        (
        some (.inr ((saved_Record.mk (api_Key.mk 0 0) 0 [], 2))))
        (
        oreq (decide (0 ≤ (wI .i64 (xat + 5)))) <|
        (t[(wI .i64 (xat + 5)).toNat]?).bind fun (b2 : UInt8) =>
        let t4 := wI .i64 ((wI .i64 (xat + 6)) + (wI .i64 (b2.toNat : Int)))
        oreq (decide ((0 : Int) ≤ t4 ∧ t4 ≤ (t.length : Int) ∧ (0 : Int) ≤ (wI .i64 (xat + 6)) ∧ (wI .i64 (xat + 6)) ≤ (t4.toNat : Int))) <|
        let t5 := (t.drop (wI .i64 (xat + 6)).toNat).take (t4.toNat - (wI .i64 (xat + 6)).toNat)
        (R04_Get t5).bind fun xg2 =>
        cond (bad)
          (
          (R02_Must t xat 2).bind fun m1 =>
          (R02_Must t (wI .i64 (xat + 2)) 2).bind fun m2 =>
          oreq (decide (0 ≤ (wI .i64 (xat + 4)))) <|
          (t[(wI .i64 (xat + 4)).toNat]?).bind fun (b3 : UInt8) =>
          oreq (decide ((c.length + 1) * 48 ≤ 2 ^ 47)) <|
          let row := c ++ [api_Backend.mk m1 m2 (wI .i64 (b3.toNat : Int)) xg2.1]
          let t6 := wI .i64 ((wI .i64 (xat + 6)) + (wI .i64 (b2.toNat : Int)))
          some (.inl (t6, true, wI .i64 (i + 1), row)))
          (
          (R02_Must t xat 2).bind fun m3 =>
          (R02_Must t (wI .i64 (xat + 2)) 2).bind fun m4 =>
          oreq (decide (0 ≤ (wI .i64 (xat + 4)))) <|
          (t[(wI .i64 (xat + 4)).toNat]?).bind fun (b4 : UInt8) =>
          oreq (decide ((c.length + 1) * 48 ≤ 2 ^ 47)) <|
          let row1 := c ++ [api_Backend.mk m3 m4 (wI .i64 (b4.toNat : Int)) xg2.1]
          let t7 := wI .i64 ((wI .i64 (xat + 6)) + (wI .i64 (b2.toNat : Int)))
          some (.inl (t7, !xg2.2, wI .i64 (i + 1), row1))))))
    (
    cond (xat != (t.length : Int))
      (
      some (.inr ((saved_Record.mk (api_Key.mk 0 0) 0 [], 3))))
      (
      cond (bad)
        (
        some (.inr ((saved_Record.mk (api_Key.mk 0 0) 0 [], 3))))
        (
        (R55_Right (saved_Record.mk (api_Key.mk xg.1 xg1.1) m c)).bind fun xr1 =>
        cond (!xr1)
          (
          some (.inr ((saved_Record.mk (api_Key.mk 0 0) 0 [], 1))))
          (
          some (.inr ((saved_Record.mk (api_Key.mk xg.1 xg1.1) m c, 0)))))))
def R55_GetF (R02_Get : (List UInt8) → Int → Int → Option (Int × Bool)) (R02_Must : (List UInt8) → Int → Int → Option Int) (R04_Get : (List UInt8) → Option (api_Addr × Bool)) (R55_Right : saved_Record → Option Bool) (R55_Seal : (List UInt8) → Option (List UInt8)) (s : List UInt8) : Option (saved_Record × Int) :=
  cond (decide ((s.length : Int) < 31))
    (
    some ((saved_Record.mk (api_Key.mk 0 0) 0 [], 2)))
    (
    oreq (decide ((0 : Int) ≤ (wI .i64 ((s.length : Int) - 8)) ∧ (wI .i64 ((s.length : Int) - 8)) ≤ (s.length : Int))) <|
    let t := s.take (wI .i64 ((s.length : Int) - 8)).toNat
    oreq (decide ((0 : Int) ≤ (4 : Int) ∧ (4 : Int) ≤ (s.length : Int))) <|
    cond (!((s.take 4) == [67, 76, 75, 49]))
      (
      some ((saved_Record.mk (api_Key.mk 0 0) 0 [], 3)))
      (
      (R55_Seal t).bind fun s1 =>
      oreq (decide ((0 : Int) ≤ (wI .i64 ((s.length : Int) - 8)) ∧ (wI .i64 ((s.length : Int) - 8)) ≤ (s.length : Int))) <|
      let t1 := (s.drop (wI .i64 ((s.length : Int) - 8)).toNat).take (s.length - (wI .i64 ((s.length : Int) - 8)).toNat)
      cond (!(s1 == t1))
        (
        some ((saved_Record.mk (api_Key.mk 0 0) 0 [], 4)))
        (
        (R02_Get t 4 8).bind fun xg =>
        (R02_Get t 12 8).bind fun xg1 =>
        (R02_Must t 20 2).bind fun m =>
        iter (fun st => R55_Get_s1 R02_Must R04_Get R55_Right t xg xg1 m st.1 st.2.1 st.2.2.1 st.2.2.2) FUEL (23, false, 0, []))))
def rx50 (x : saved_Record × Int) : SRes := ⟨.tuple ⟨[.agg ⟨[.int .u64 x.1.Key.A, .int .u64 x.1.Key.B, .int .i64 x.1.Last, .slice (some ⟨0, 0, none⟩) x.1.L.length 6]⟩, .int .i64 x.2]⟩, [(vT capi_Backend x.1.L)], []⟩
def r50 (g : (List UInt8) → Option (saved_Record × Int)) : Dec := dV asS fun (y0 : List UInt8) => dEnd (ofG (g y0) rx50)
theorem r50_c {g : (List UInt8) → Option (saved_Record × Int)} {y0 : List UInt8} {x : saved_Record × Int} (hx : g y0 = some x) : r50 g [.string ⟨⟨y0⟩⟩] [] = some (rx50 x) := (dV_eq (asS_c)).trans (ofG_eq hx)
def s50 (g : (List UInt8) → Option (saved_Record × Int)) : Summ := ⟨[.v], r50 g⟩
theorem r50_eq {g : (List UInt8) → Option (saved_Record × Int)} {y0 : List UInt8} {x : saved_Record × Int} (hx : g y0 = some x) : (s50 g).run [.string ⟨⟨y0⟩⟩] [] = some (rx50 x) := r50_c hx
abbrev sums50 (R02_Get : (List UInt8) → Int → Int → Option (Int × Bool)) (R02_Must : (List UInt8) → Int → Int → Option Int) (R04_Get : (List UInt8) → Option (api_Addr × Bool)) (R55_Right : saved_Record → Option Bool) (R55_Seal : (List UInt8) → Option (List UInt8)) : List (Nat × Summ) := [(105, s105 R02_Get), (106, s106 R02_Must), (107, s107 R04_Get), (57, s57 R55_Right), (49, s49 R55_Seal)]
def head50_1 (t : List UInt8) (xg : Int × Bool) (xg1 : Int × Bool) (m : Int) (xat : Int) (bad : Bool) (i : Int) (c : List api_Backend) : VM :=
  ⟨⟨50, 138, [(2, .pointer (some ⟨0, 0, none⟩)), (4, .string ⟨⟨t⟩⟩), (9, .pointer (some ⟨8, 0, none⟩)), (10, .int .i64 xat), (11, .bool bad), (12, .int .i64 i)], [.code k50_43, .inLoop k50_43, .inBlock 0, .code k50_60], [], false, none⟩, [], [(0, .cells [.int .u64 0, .int .u64 0, .int .i64 0, .slice none 0 0]), (8, .cells [.int .u64 xg.1, .int .u64 xg1.1, .int .i64 m, .slice (some ⟨9, 0, none⟩) c.length 6]), (9, .row true (vT capi_Backend c))], 10⟩
theorem loop50_1 (R02_Get : (List UInt8) → Int → Int → Option (Int × Bool)) (R02_Must : (List UInt8) → Int → Int → Option Int) (R04_Get : (List UInt8) → Option (api_Addr × Bool)) (R55_Right : saved_Record → Option Bool) (R55_Seal : (List UInt8) → Option (List UInt8)) (hS : SumsOK Try.prog (aget (sums50 R02_Get R02_Must R04_Get R55_Right R55_Seal))) (t : List UInt8) (xg : Int × Bool) (xg1 : Int × Bool) (m : Int) (res : saved_Record × Int) : ∀ fuel (st : Int × Bool × Int × (List api_Backend)) (o : saved_Record × Int), iter (fun st => R55_Get_s1 R02_Must R04_Get R55_Right t xg xg1 m st.1 st.2.1 st.2.2.1 st.2.2.2) fuel st = some o → (o = res) →
    Leads Try.prog 50 0 (head50_1 t xg xg1 m st.1 st.2.1 st.2.2.1 st.2.2.2) (fun v H t => ∃ v' H' t', NilW v H t v' H' t' ∧ Res 0 (rx50 res) v' H') := by
  intro fuel st o h hc
  refine iter_leads (head := fun st => head50_1 t xg xg1 m st.1 st.2.1 st.2.2.1 st.2.2.2) (C := fun o => (o = res)) ?_ fuel st o h hc
  clear h hc o st fuel
  intro st o h hc
  obtain ⟨xat, bad, i, c⟩ := st
  replace h : R55_Get_s1 R02_Must R04_Get R55_Right t xg xg1 m xat bad i c = some o := h
  show Leads Try.prog 50 0 (head50_1 t xg xg1 m xat bad i c) (fun v H t => ∃ v' H' t', NilW v H t v' H' t' ∧ Res 0 (rx50 res) v' H')
  unfold R55_Get_s1 at h
  refine ev_ok tab_ok hS true 3000 ?_
  conv => whnf
  replace h := obind.elim h; obtain ⟨b, hy, h⟩ := h
  refine rdS.intro hy ?_
  conv => whnf
  refine br.h2 h ?_ ?_ ?_
  · rfl
  · clear h; intro hb h; conv => whnf
    refine br.h h ?_ ?_ ?_
    · rfl
    · clear h; intro hb h; conv => whnf
      all_goals (cases h; cases hc)
      all_goals exact ⟨_, _, _, (.val (.tup (.cons (.agg (.cons (.same _) (.cons (.same _) (.cons (.same _) (.cons (.nil _ _) .nil))))) (.cons (.same _) .nil))) (.refl _ _ _)), Res.of [10] rfl (nw_s (rn_T capi_Backend_flat) (hs_row rfl) nw_0) (by decide) (js_l (by decide) js_0) wr_0⟩
    clear h; intro hb h; conv => whnf
    refine br.h h ?_ ?_ ?_
    · rfl
    · clear h; intro hb h; conv => whnf
      all_goals (cases h; cases hc)
      all_goals exact ⟨_, _, _, (.val (.tup (.cons (.agg (.cons (.same _) (.cons (.same _) (.cons (.same _) (.cons (.nil _ _) .nil))))) (.cons (.same _) .nil))) (.refl _ _ _)), Res.of [10] rfl (nw_s (rn_T capi_Backend_flat) (hs_row rfl) nw_0) (by decide) (js_l (by decide) js_0) wr_0⟩
    clear h; intro hb h; conv => whnf
    replace h := obind.elim h; obtain ⟨xr1, hy, h⟩ := h
    refine sumK.introF [] (sumRun_of (aqs := [.agg ⟨[.int .u64 (saved_Record.mk (api_Key.mk xg.1 xg1.1) m c).Key.A, .int .u64 (saved_Record.mk (api_Key.mk xg.1 xg1.1) m c).Key.B, .int .i64 (saved_Record.mk (api_Key.mk xg.1 xg1.1) m c).Last, .slice (some ⟨0, 0, none⟩) (saved_Record.mk (api_Key.mk xg.1 xg1.1) m c).L.length 6]⟩]) (ws := [.blk 9 false]) (n := 0) (m := 0) (t' := 10) (ra_cons (ra_tr rfl rfl (vp_at rfl rfl (rn_T capi_Backend_flat) rfl vp_nil) rfl) rfl ra_nil) rfl (by rfl) (r57_eq hy) rfl rfl rfl rfl (wb_skip rfl wb_nil) an_nil rfl) ?_
    conv => whnf
    refine br.h h ?_ ?_ ?_
    · rfl
    · clear h; intro hb h; conv => whnf
      all_goals (cases h; cases hc)
      all_goals exact ⟨_, _, _, (.val (.tup (.cons (.agg (.cons (.same _) (.cons (.same _) (.cons (.same _) (.cons (.nil _ _) .nil))))) (.cons (.same _) .nil))) (.refl _ _ _)), Res.of [10] rfl (nw_s (rn_T capi_Backend_flat) (hs_row rfl) nw_0) (by decide) (js_l (by decide) js_0) wr_0⟩
    clear h; intro hb h; conv => whnf
    all_goals (cases h; cases hc)
    all_goals exact ⟨_, _, _, (.refl _ _ _), Res.of [9] rfl (nw_s (rn_T capi_Backend_flat) (hs_row rfl) nw_0) (by decide) (js_l (by decide) js_0) wr_0⟩
  clear h; intro hb h; conv => whnf
  let t2 : Bool := decide ((wI .i64 ((t.length : Int) - xat)) < 6)
  refine br.h h ?_ ?_ ?_
  · rfl
  · clear h; intro hb h; conv => whnf
    all_goals (cases h; cases hc)
    all_goals exact ⟨_, _, _, (.val (.tup (.cons (.agg (.cons (.same _) (.cons (.same _) (.cons (.same _) (.cons (.nil _ _) .nil))))) (.cons (.same _) .nil))) (.refl _ _ _)), Res.of [10] rfl (nw_s (rn_T capi_Backend_flat) (hs_row rfl) nw_0) (by decide) (js_l (by decide) js_0) wr_0⟩
  clear h; intro hb h; conv => whnf
  let t3 : Int := wI .i64 ((wI .i64 ((t.length : Int) - xat)) - 6)
  replace h := oreq.elim h; obtain ⟨hb, h⟩ := h
  first | (refine req.intro hb ?_; conv => whnf) | skip
  replace h := obind.elim h; obtain ⟨b1, hy, h⟩ := h
  refine rdS.intro hy ?_
  conv => whnf
  refine br.h h ?_ ?_ ?_
  · rfl
  · clear h; intro hb h; conv => whnf
    all_goals (cases h; cases hc)
    all_goals exact ⟨_, _, _, (.val (.tup (.cons (.agg (.cons (.same _) (.cons (.same _) (.cons (.same _) (.cons (.nil _ _) .nil))))) (.cons (.same _) .nil))) (.refl _ _ _)), Res.of [10] rfl (nw_s (rn_T capi_Backend_flat) (hs_row rfl) nw_0) (by decide) (js_l (by decide) js_0) wr_0⟩
  clear h; intro hb h; conv => whnf
  replace h := oreq.elim h; obtain ⟨hb, h⟩ := h
  first | (refine req.intro hb ?_; conv => whnf) | skip
  replace h := obind.elim h; obtain ⟨b2, hy, h⟩ := h
  refine rdS.intro hy ?_
  conv => whnf
  let t4 : Int := wI .i64 ((wI .i64 (xat + 6)) + (wI .i64 (b2.toNat : Int)))
  replace h := oreq.elim h; obtain ⟨hb, h⟩ := h
  first | (refine req.intro hb ?_; conv => whnf) | skip
  let t5 : List UInt8 := (t.drop (wI .i64 (xat + 6)).toNat).take (t4.toNat - (wI .i64 (xat + 6)).toNat)
  replace h := obind.elim h; obtain ⟨xg2, hy, h⟩ := h
  refine sumK.q rfl rfl (r107_eq hy) rfl rfl rfl ?_
  conv => whnf
  refine br.h h ?_ ?_ ?_
  · rfl
  · clear h; intro hb h; conv => whnf
    replace h := obind.elim h; obtain ⟨m1, hy, h⟩ := h
    refine sumK.q rfl rfl (r106_eq hy) rfl rfl rfl ?_
    conv => whnf
    replace h := obind.elim h; obtain ⟨m2, hy, h⟩ := h
    refine sumK.q rfl rfl (r106_eq hy) rfl rfl rfl ?_
    conv => whnf
    replace h := oreq.elim h; obtain ⟨hb, h⟩ := h
    first | (refine req.intro hb ?_; conv => whnf) | skip
    replace h := obind.elim h; obtain ⟨b3, hy, h⟩ := h
    refine rdS.intro hy ?_
    conv => whnf
    replace h := oreq.elim h; obtain ⟨hb, h⟩ := h
    refine req.intro (ap_req (of_decide_eq_true hb) (by first | rfl | omega | (simp; done) | (simp; omega) | (simp at *; omega)) rfl (by first | rfl | omega | (simp; done) | (simp; omega) | (simp at *; omega)) (by first | rfl | exact vI_one _ _ | exact vS_one _ | exact vB_one _ | exact vT_one (by first | exact capi_Key_one | exact capi_Addr_one | exact capi_Backend_one | exact cArr4_Int_one | exact csip_Hasher_one | exact coctet_Reader_one | exact cR23_Step_one | exact chealth_Rule_one | exact chealth_State_one | exact cregistry_row_one) _ | (rw [ofBytes_vI]; exact vI_one _ _) | (simp [vI_one, vS_one, vB_one, vI_drop, vI_take, vS_drop, vS_take]; done) | (simp; exact List.all_eq_true.1 (vT_one (by first | exact capi_Key_one | exact capi_Addr_one | exact capi_Backend_one | exact cArr4_Int_one | exact csip_Hasher_one | exact coctet_Reader_one | exact cR23_Step_one | exact chealth_Rule_one | exact chealth_State_one | exact cregistry_row_one) _))) rfl) ?_
    conv => whnf
    let row : List api_Backend := c ++ [api_Backend.mk m1 m2 (wI .i64 (b3.toNat : Int)) xg2.1]
    refine pk_apT capi_Backend_len (xs := c) (ys := [api_Backend.mk m1 m2 (wI .i64 (b3.toNat : Int)) xg2.1]) rfl (by first | rfl | omega) (by first | rfl | omega | (simp; done) | (simp; omega) | (simp at *; omega)) (by first | rfl | omega | (simp; done) | (simp; omega) | (simp at *; omega)) ?_
    conv => whnf
    let t6 : Int := wI .i64 ((wI .i64 (xat + 6)) + (wI .i64 (b2.toNat : Int)))
    cases h; simp only [Sum.elim_inl, head50_1] at hc
    exact lrA0 hc [(0, 0), (8, 8), (9, 29)] rfl
  clear h; intro hb h; conv => whnf
  replace h := obind.elim h; obtain ⟨m3, hy, h⟩ := h
  refine sumK.q rfl rfl (r106_eq hy) rfl rfl rfl ?_
  conv => whnf
  replace h := obind.elim h; obtain ⟨m4, hy, h⟩ := h
  refine sumK.q rfl rfl (r106_eq hy) rfl rfl rfl ?_
  conv => whnf
  replace h := oreq.elim h; obtain ⟨hb, h⟩ := h
  first | (refine req.intro hb ?_; conv => whnf) | skip
  replace h := obind.elim h; obtain ⟨b4, hy, h⟩ := h
  refine rdS.intro hy ?_
  conv => whnf
  replace h := oreq.elim h; obtain ⟨hb, h⟩ := h
  refine req.intro (ap_req (of_decide_eq_true hb) (by first | rfl | omega | (simp; done) | (simp; omega) | (simp at *; omega)) rfl (by first | rfl | omega | (simp; done) | (simp; omega) | (simp at *; omega)) (by first | rfl | exact vI_one _ _ | exact vS_one _ | exact vB_one _ | exact vT_one (by first | exact capi_Key_one | exact capi_Addr_one | exact capi_Backend_one | exact cArr4_Int_one | exact csip_Hasher_one | exact coctet_Reader_one | exact cR23_Step_one | exact chealth_Rule_one | exact chealth_State_one | exact cregistry_row_one) _ | (rw [ofBytes_vI]; exact vI_one _ _) | (simp [vI_one, vS_one, vB_one, vI_drop, vI_take, vS_drop, vS_take]; done) | (simp; exact List.all_eq_true.1 (vT_one (by first | exact capi_Key_one | exact capi_Addr_one | exact capi_Backend_one | exact cArr4_Int_one | exact csip_Hasher_one | exact coctet_Reader_one | exact cR23_Step_one | exact chealth_Rule_one | exact chealth_State_one | exact cregistry_row_one) _))) rfl) ?_
  conv => whnf
  let row1 : List api_Backend := c ++ [api_Backend.mk m3 m4 (wI .i64 (b4.toNat : Int)) xg2.1]
  refine pk_apT capi_Backend_len (xs := c) (ys := [api_Backend.mk m3 m4 (wI .i64 (b4.toNat : Int)) xg2.1]) rfl (by first | rfl | omega) (by first | rfl | omega | (simp; done) | (simp; omega) | (simp at *; omega)) (by first | rfl | omega | (simp; done) | (simp; omega) | (simp at *; omega)) ?_
  conv => whnf
  let t7 : Int := wI .i64 ((wI .i64 (xat + 6)) + (wI .i64 (b2.toNat : Int)))
  cases h; simp only [Sum.elim_inl, head50_1] at hc
  exact lrA0 hc [(0, 0), (8, 8), (9, 29)] rfl
theorem leads50 (R02_Get : (List UInt8) → Int → Int → Option (Int × Bool)) (R02_Must : (List UInt8) → Int → Int → Option Int) (R04_Get : (List UInt8) → Option (api_Addr × Bool)) (R55_Right : saved_Record → Option Bool) (R55_Seal : (List UInt8) → Option (List UInt8)) (hS : SumsOK Try.prog (aget (sums50 R02_Get R02_Must R04_Get R55_Right R55_Seal))) (s : List UInt8) (res : saved_Record × Int) (h : R55_GetF R02_Get R02_Must R04_Get R55_Right R55_Seal s = some res) :
    Leads Try.prog 50 0 ⟨⟨50, 138, [(0, .string ⟨⟨s⟩⟩)], [.code k50_70], [], false, none⟩, [], [], 0⟩ (fun v H _ => Res 0 (rx50 res) v H) := by
  refine Leads.nilW (R := fun v' H' => Res 0 (rx50 res) v' H') ?_
  unfold R55_GetF at h
  refine ev_ok tab_ok hS true 3000 ?_
  conv => whnf
  refine br.h h ?_ ?_ ?_
  · rfl
  · clear h; intro hb h; conv => whnf
    all_goals (cases h)
    all_goals exact ⟨_, _, _, (.val (.tup (.cons (.agg (.cons (.same _) (.cons (.same _) (.cons (.same _) (.cons (.nil _ _) .nil))))) (.cons (.same _) .nil))) (.refl _ _ _)), Res.of [1] rfl (nw_s (rn_T capi_Backend_flat) (hs_row rfl) nw_0) (by decide) (js_l (by decide) js_0) wr_0⟩
  clear h; intro hb h; conv => whnf
  replace h := oreq.elim h; obtain ⟨hb, h⟩ := h
  first | (refine req.intro hb ?_; conv => whnf) | skip
  let t : List UInt8 := s.take (wI .i64 ((s.length : Int) - 8)).toNat
  replace h := oreq.elim h; obtain ⟨hb, h⟩ := h
  first | (refine req.intro hb ?_; conv => whnf) | skip
  refine br.h h ?_ ?_ ?_
  · rfl
  · clear h; intro hb h; conv => whnf
    all_goals (cases h)
    all_goals exact ⟨_, _, _, (.val (.tup (.cons (.agg (.cons (.same _) (.cons (.same _) (.cons (.same _) (.cons (.nil _ _) .nil))))) (.cons (.same _) .nil))) (.refl _ _ _)), Res.of [1] rfl (nw_s (rn_T capi_Backend_flat) (hs_row rfl) nw_0) (by decide) (js_l (by decide) js_0) wr_0⟩
  clear h; intro hb h; conv => whnf
  replace h := obind.elim h; obtain ⟨s1, hy, h⟩ := h
  refine sumK.q rfl rfl (r49_eq hy) rfl rfl rfl ?_
  conv => whnf
  replace h := oreq.elim h; obtain ⟨hb, h⟩ := h
  first | (refine req.intro hb ?_; conv => whnf) | skip
  let t1 : List UInt8 := (s.drop (wI .i64 ((s.length : Int) - 8)).toNat).take (s.length - (wI .i64 ((s.length : Int) - 8)).toNat)
  refine br.h h ?_ ?_ ?_
  · rfl
  · clear h; intro hb h; conv => whnf
    all_goals (cases h)
    all_goals exact ⟨_, _, _, (.val (.tup (.cons (.agg (.cons (.same _) (.cons (.same _) (.cons (.same _) (.cons (.nil _ _) .nil))))) (.cons (.same _) .nil))) (.refl _ _ _)), Res.of [8] rfl (nw_s (rn_T capi_Backend_flat) (hs_row rfl) nw_0) (by decide) (js_l (by decide) js_0) wr_0⟩
  clear h; intro hb h; conv => whnf
  replace h := obind.elim h; obtain ⟨xg, hy, h⟩ := h
  refine sumK.q rfl rfl (r105_eq hy) rfl rfl rfl ?_
  conv => whnf
  replace h := obind.elim h; obtain ⟨xg1, hy, h⟩ := h
  refine sumK.q rfl rfl (r105_eq hy) rfl rfl rfl ?_
  conv => whnf
  replace h := obind.elim h; obtain ⟨m, hy, h⟩ := h
  refine sumK.q rfl rfl (r106_eq hy) rfl rfl rfl ?_
  conv => whnf
  have hl := loop50_1 R02_Get R02_Must R04_Get R55_Right R55_Seal hS _ _ _ _ res _ _ _ h rfl; simp only [head50_1] at hl
  refine Leads.nilC 8 3 6 ?_
  exact lrA0 hl [(0, 0), (8, 8), (9, 9)] rfl
theorem ok50 (R02_Get : (List UInt8) → Int → Int → Option (Int × Bool)) (R02_Must : (List UInt8) → Int → Int → Option Int) (R04_Get : (List UInt8) → Option (api_Addr × Bool)) (R55_Right : saved_Record → Option Bool) (R55_Seal : (List UInt8) → Option (List UInt8)) (hS : SumsOK Try.prog (aget (sums50 R02_Get R02_Must R04_Get R55_Right R55_Seal))) : SumOK Try.prog 50 (s50 (R55_GetF R02_Get R02_Must R04_Get R55_Right R55_Seal)) := by
  refine SumOK.of_leads tab_ok (fun ar os r ha hr => ?_) ⟨Try.f50, rfl, by decide, rfl⟩
  replace hr : r50 (R55_GetF R02_Get R02_Must R04_Get R55_Right R55_Seal) ar (conts os) = some r := hr
  unfold r50 at hr
  generalize hc : conts os = C at hr
  replace hr := dV.elim hr; obtain ⟨v0, l1, y0, rfl, e0, hr⟩ := hr; obtain rfl := asS_eq _ _ e0
  replace hr := dFin hr; obtain ⟨rfl, rfl, x, h, rfl⟩ := hr
  obtain rfl := kinds_nil hc
  exact ⟨_, rfl, leads50 R02_Get R02_Must R04_Get R55_Right R55_Seal hS _ x h⟩
def R55_Get : (List UInt8) → Option (saved_Record × Int) := R55_GetF R02_Get R02_Must R04_Get R55_Right R55_Seal
theorem lift50 : SumOK Try.prog 50 (s50 R55_Get) := ok50 R02_Get R02_Must R04_Get R55_Right R55_Seal (SumsOK.of_tab ⟨lift105, lift106, lift107, lift57, lift49, trivial⟩)
end Go.Vm.Code
namespace Go.Vm.Code
open Go Go.Vm
def addrG (a : List UInt8) : api_Addr × Bool :=
  if a.length = 4 then (⟨false, 0, ((valL a : Nat) : Int)⟩, true) else if a.length = 16 then (⟨true, ((valL (a.take 8) : Nat) : Int), ((valL (a.drop 8) : Nat) : Int)⟩, true) else (⟨false, 0, 0⟩, false)
theorem getS_all {a : List UInt8} {k : Nat} (hk : 1 ≤ k) (h8 : k ≤ 8) (h : a.length = k) : getS a 0 (k : Int) = (((valL a : Nat) : Int), true) := by
  rw [getS_at (by omega) (by omega) (by omega) (by omega)]
  simp only [Int.toNat_natCast, show (0 : Int).toNat = 0 from rfl, List.drop_zero]
  rw [List.take_of_length_le (by omega)]
theorem agetG {a : List UInt8} (G : List UInt8 → Int → Int → Option (Int × Bool)) (hG : ∀ p k, G a p k = some (getS a p k)) :
    cond ((a.length : Int) == 4) ((G a 0 4).bind fun xg => some ((api_Addr.mk false 0 xg.1, true)))
      (cond ((a.length : Int) == 16) ((G a 0 8).bind fun xg1 => (G a 8 8).bind fun xg2 => some ((api_Addr.mk true xg1.1 xg2.1, true))) (some ((api_Addr.mk false 0 0, false)))) = some (addrG a) := by
  unfold addrG
  by_cases h4 : a.length = 4
  · rw [show ((a.length : Int) == 4) = true from by rw [beq_iff_eq]; omega, cond_true, hG, Option.bind_some, show getS a 0 4 = _ from getS_all (k := 4) (by decide) (by decide) h4, if_pos h4]
  · rw [show ((a.length : Int) == 4) = false from by rw [beq_eq_false_iff_ne]; omega, cond_false, if_neg h4]
    by_cases h16 : a.length = 16
    · rw [show ((a.length : Int) == 16) = true from by rw [beq_iff_eq]; omega, cond_true, hG, Option.bind_some, hG, Option.bind_some, getS_at (by omega) (by omega) (by omega) (by omega), getS_at (by omega) (by omega) (by omega) (by omega), if_pos h16]
      simp only [show (0 : Int).toNat = 0 from rfl, show (8 : Int).toNat = 8 from rfl, List.drop_zero]
      rw [List.take_of_length_le (l := a.drop 8) (by rw [List.length_drop]; omega)]
    · rw [show ((a.length : Int) == 16) = false from by rw [beq_eq_false_iff_ne]; omega, cond_false, if_neg h16]
theorem paget_eq {a : List UInt8} (h : a.length < 2 ^ 40) : addr_Get a = some (addrG a) := by
  unfold addr_Get addr_GetF
  exact agetG octet_Get (fun p k => octet_Get_eq (by omega))
theorem raget_eq {a : List UInt8} (h : a.length < 2 ^ 40) : R04_Get a = some (addrG a) := by
  unfold R04_Get R04_GetF
  exact agetG R02_Get (fun p k => R02_Get_eq (by omega))
def alen (s : List UInt8) : Nat := valL ((s.drop 5).take 1)
def adrS (s : List UInt8) : List UInt8 := (s.drop 6).take (alen s)
def rec1 (s : List UInt8) : api_Backend := ⟨((valL (s.take 2) : Nat) : Int), ((valL ((s.drop 2).take 2) : Nat) : Int), ((valL ((s.drop 4).take 1) : Nat) : Int), (addrG (adrS s)).1⟩
def recs : Nat → List UInt8 → Option (List api_Backend × Bool × List UInt8)
  | 0, s => some ([], true, s)
  | n + 1, s => if s.length < 6 then none else if s.length < 6 + alen s then none else
    match recs n (s.drop (6 + alen s)) with
    | none => none
    | some (l, g, r) => some (rec1 s :: l, (addrG (adrS s)).2 && g, r)
theorem recs_len : ∀ {n : Nat} {s : List UInt8} {l : List api_Backend} {g : Bool} {r : List UInt8}, recs n s = some (l, g, r) → l.length = n ∧ r.length ≤ s.length
  | 0, s, l, g, r, h => by simp only [recs, Option.some.injEq, Prod.mk.injEq] at h; obtain ⟨rfl, -, rfl⟩ := h; exact ⟨rfl, Nat.le_refl _⟩
  | n + 1, s, l, g, r, h => by
    simp only [recs] at h
    split at h
    · cases h
    split at h
    · cases h
    split at h
    · cases h
    · rename_i l' g' r' e
      cases h
      obtain ⟨h1, h2⟩ := recs_len e
      exact ⟨by simp [h1], by rw [List.length_drop] at h2; omega⟩
theorem rdn_ok {s : List UInt8} {k : Nat} (h0 : 1 ≤ k) (h7 : k ≤ 7) (h : k ≤ s.length) : rdn ⟨s, true, false⟩ (k : Int) = ((valL (s.take k) : Nat) : Int) := by
  unfold rdn
  rw [if_neg (by omega), rdt_ok (by omega) (by omega), Int.toNat_natCast]
theorem rdr_bd (s : List UInt8) (m : Bool) (k : Int) : rdr ⟨s, m, true⟩ k = ⟨s, true, true⟩ := by unfold rdr; rw [if_pos (.inl rfl)]
theorem rdr_short {s : List UInt8} {k : Int} (h : k > s.length) : rdr ⟨s, true, false⟩ k = ⟨s, true, true⟩ := by unfold rdr; rw [if_pos (.inr (.inr h))]
def bkd (r : octet_Reader) : api_Backend × Bool × octet_Reader :=
  let r1 := rdr r 2; let r2 := rdr r1 2; let r3 := rdr r2 1; let r4 := rdr r3 1
  (⟨rdn r 2, rdn r1 2, rdn r2 1, (addrG (rdt r4 (rdn r3 1))).1⟩, (addrG (rdt r4 (rdn r3 1))).2, rdr r4 (rdn r3 1))
theorem rdr_le (r : octet_Reader) (k : Int) : (rdr r k).s.length ≤ r.s.length := by unfold rdr; split <;> simp
theorem pbackend_eq {r : octet_Reader} (h : r.made = true) (hl : r.s.length < 2 ^ 40) : saved_backend r = some (bkd r) := by
  unfold saved_backend saved_backendF bkd
  have l1 := rdr_le r 2; have l2 := rdr_le (rdr r 2) 2; have l3 := rdr_le (rdr (rdr r 2) 2) 1; have l4 := rdr_le (rdr (rdr (rdr r 2) 2) 1) 1
  rw [rNum_eq h (by omega), Option.bind_some, if_neg (by decide)]
  simp only []
  rw [rNum_eq (rdr_made _ _) (by omega), Option.bind_some, if_neg (by decide)]
  simp only []
  rw [rNum_eq (rdr_made _ _) (by omega), Option.bind_some, if_neg (by decide)]
  simp only []
  rw [rNum_eq (rdr_made _ _) (by omega), Option.bind_some, if_neg (by decide)]
  simp only []
  rw [rText_eq (rdr_made _ _), Option.bind_some]
  simp only []
  rw [paget_eq (by have := rdt_len (rdr (rdr (rdr (rdr r 2) 2) 1) 1) (rdn (rdr (rdr (rdr r 2) 2) 1) 1); omega), Option.bind_some]
theorem bkd_bad (s : List UInt8) : (bkd ⟨s, true, true⟩).2.2 = ⟨s, true, true⟩ := by
  unfold bkd; simp only [rdr_bd]
theorem bkd_short {s : List UInt8} (h : s.length < 6 ∨ s.length < 6 + alen s) : ∃ s', (bkd ⟨s, true, false⟩).2.2 = ⟨s', true, true⟩ ∧ s'.length ≤ s.length := by
  unfold bkd
  simp only []
  by_cases h2 : s.length < 2
  · rw [rdr_short (by omega)]; simp only [rdr_bd]; exact ⟨_, rfl, Nat.le_refl _⟩
  rw [rdr_ok (by omega) (by omega)]
  have e1 : (2 : Int).toNat = 2 := rfl
  have e2 : (1 : Int).toNat = 1 := rfl
  by_cases h4 : s.length < 4
  · rw [e1, rdr_short (s := s.drop 2) (by rw [List.length_drop]; omega)]; simp only [rdr_bd]; exact ⟨_, rfl, by simp⟩
  rw [e1, rdr_ok (s := s.drop 2) (by omega) (by rw [List.length_drop]; omega), e1, List.drop_drop]
  by_cases h5 : s.length < 5
  · rw [rdr_short (s := s.drop (2 + 2)) (by rw [List.length_drop]; omega)]; simp only [rdr_bd]; exact ⟨_, rfl, by simp⟩
  rw [rdr_ok (s := s.drop (2 + 2)) (by omega) (by rw [List.length_drop]; omega), e2, List.drop_drop]
  by_cases h6 : s.length < 6
  · rw [rdr_short (s := s.drop (2 + 2 + 1)) (by rw [List.length_drop]; omega)]; simp only [rdr_bd]; exact ⟨_, rfl, by simp⟩
  rw [rdr_ok (s := s.drop (2 + 2 + 1)) (by omega) (by rw [List.length_drop]; omega), e2, List.drop_drop]
  rw [show rdn ⟨s.drop (2 + 2 + 1), true, false⟩ 1 = ((alen s : Nat) : Int) from rdn_ok (k := 1) (by decide) (by decide) (by rw [List.length_drop]; omega)]
  rw [rdr_short (s := s.drop (2 + 2 + 1 + 1)) (by rw [List.length_drop]; omega)]
  exact ⟨_, rfl, by simp⟩
theorem bkd_ok {s : List UInt8} (h : 6 + alen s ≤ s.length) : bkd ⟨s, true, false⟩ = (rec1 s, (addrG (adrS s)).2, ⟨s.drop (6 + alen s), true, false⟩) := by
  unfold bkd
  have e1 : (2 : Int).toNat = 2 := rfl
  have e2 : (1 : Int).toNat = 1 := rfl
  simp only []
  rw [rdr_ok (s := s) (by omega) (by omega), e1, rdr_ok (s := s.drop 2) (by omega) (by rw [List.length_drop]; omega), e1, List.drop_drop, rdr_ok (s := s.drop (2 + 2)) (by omega) (by rw [List.length_drop]; omega), e2, List.drop_drop,
    rdr_ok (s := s.drop (2 + 2 + 1)) (by omega) (by rw [List.length_drop]; omega), e2, List.drop_drop]
  rw [show rdn ⟨s.drop (2 + 2 + 1), true, false⟩ 1 = ((alen s : Nat) : Int) from rdn_ok (k := 1) (by decide) (by decide) (by rw [List.length_drop]; omega)]
  rw [show rdn ⟨s.drop (2 + 2), true, false⟩ 1 = _ from rdn_ok (k := 1) (by decide) (by decide) (by rw [List.length_drop]; omega), show rdn ⟨s.drop 2, true, false⟩ 2 = _ from rdn_ok (k := 2) (by decide) (by decide) (by rw [List.length_drop]; omega), show rdn ⟨s, true, false⟩ 2 = _ from rdn_ok (k := 2) (by decide) (by decide) (by omega)]
  rw [rdt_ok (s := s.drop (2 + 2 + 1 + 1)) (by omega) (by rw [List.length_drop]; omega), rdr_ok (s := s.drop (2 + 2 + 1 + 1)) (by omega) (by rw [List.length_drop]; omega), Int.toNat_natCast, List.drop_drop]
  rfl
def zeroR : saved_Record := ⟨⟨0, 0⟩, 0, []⟩
def finG (A B last : Int) (o : Option (List api_Backend × Bool × List UInt8)) (c : List api_Backend) (g : Bool) : saved_Record × Int :=
  match o with
  | none => (zeroR, 2)
  | some (l, g', r) => if r ≠ [] ∨ (g && g') = false then (zeroR, 3) else if rightB ⟨⟨A, B⟩, last, c ++ l⟩ = true then (⟨⟨A, B⟩, last, c ++ l⟩, 0) else (zeroR, 1)
theorem prest_eq {r : octet_Reader} (h : r.made = true) (hb : r.bad = false) : octet_Reader_Rest r = some (r.s, rdr r (r.s.length : Int)) := by
  unfold octet_Reader_Rest octet_Reader_RestF
  rw [rBad_eq h, Option.bind_some, hb]
  simp only [cond_false]
  rw [rText_eq h, Option.bind_some]
  obtain ⟨s, m, b⟩ := r
  simp only at h hb
  subst h; subst hb
  rw [rdt_ok (by omega) (by simp only []; omega), Int.toNat_natCast, List.take_of_length_le (Nat.le_refl _)]
theorem pget_end {xg xg1 : Int × Bool} {n1 n2 : Int × octet_Reader} {good : Bool} {i : Int} {s : List UInt8} {b : Bool} {c : List api_Backend} (hi : ¬ i < n2.1) :
    saved_Get_s1 octet_Reader_Bad octet_Reader_Rest saved_Right saved_backend xg xg1 n1 n2 good i s true b c = some (.inr (if b = true then (zeroR, 2) else finG xg.1 xg1.1 n1.1 (some ([], true, s)) c good)) := by
  unfold saved_Get_s1
  rw [cond_n hi, rBad_eq rfl, Option.bind_some]
  cases b with
  | true => rfl
  | false =>
    simp only [cond_false]
    rw [prest_eq rfl rfl, Option.bind_some]
    unfold finG
    simp only [Bool.and_true, List.append_nil]
    by_cases hs : s = []
    · rw [show (s == []) = true from by simp [hs]]
      cases good with
      | false => simp [zeroR]
      | true =>
        simp only [Bool.not_true, cond_false]
        rw [pright_eq, Option.bind_some]
        cases hR : rightB ⟨⟨xg.1, xg1.1⟩, n1.1, c⟩ <;> simp [hs, zeroR]
    · rw [show (s == []) = false from by simpa using hs]
      simp [hs, zeroR]
theorem pget_bad {xg xg1 : Int × Bool} {n1 n2 : Int × octet_Reader} (hn : n2.1 < 256) {s : List UInt8} (hs : s.length < 2 ^ 40) : ∀ (d : Nat) (i : Int) (n : Nat) (good : Bool) (c : List api_Backend), 0 ≤ i → i + d = n2.1 → d < n → c.length ≤ i →
    iter (fun st => saved_Get_s1 octet_Reader_Bad octet_Reader_Rest saved_Right saved_backend xg xg1 n1 n2 st.1 st.2.1 st.2.2.1 st.2.2.2.1 st.2.2.2.2.1 st.2.2.2.2.2) n (good, i, s, true, true, c) = some (zeroR, 2)
  | 0, i, n, good, c, h0, he, hd, hc => by
    obtain ⟨m, rfl⟩ : ∃ m, n = m + 1 := ⟨n - 1, by omega⟩
    rw [iter]
    simp only []
    rw [pget_end (by omega), if_pos rfl]
  | d + 1, i, n, good, c, h0, he, hd, hc => by
    obtain ⟨m, rfl⟩ : ∃ m, n = m + 1 := ⟨n - 1, by omega⟩
    rw [iter]
    simp only []
    unfold saved_Get_s1
    rw [cond_p (by omega), pbackend_eq rfl hs, Option.bind_some, bkd_bad]
    cases good
    · simp only [cond_true, cond_false]; rw [oreq_p (by omega), wI64 (by omega) (by omega)]
      exact pget_bad (xg := xg) (xg1 := xg1) (n1 := n1) hn hs d (i + 1) m false (c ++ [(bkd ⟨s, true, true⟩).1]) (by omega) (by omega) (by omega) (by simp; omega)
    · simp only [cond_true, cond_false]; rw [oreq_p (by omega), wI64 (by omega) (by omega)]
      exact pget_bad (xg := xg) (xg1 := xg1) (n1 := n1) hn hs d (i + 1) m (bkd ⟨s, true, true⟩).2.1 (c ++ [(bkd ⟨s, true, true⟩).1]) (by omega) (by omega) (by omega) (by simp; omega)
theorem pget_loop {xg xg1 : Int × Bool} {n1 n2 : Int × octet_Reader} (hn : n2.1 < 256) : ∀ (d : Nat) (i : Int) (n : Nat) (good : Bool) (c : List api_Backend) (s : List UInt8), 0 ≤ i → i + d = n2.1 → d < n → c.length ≤ i → s.length < 2 ^ 40 →
    iter (fun st => saved_Get_s1 octet_Reader_Bad octet_Reader_Rest saved_Right saved_backend xg xg1 n1 n2 st.1 st.2.1 st.2.2.1 st.2.2.2.1 st.2.2.2.2.1 st.2.2.2.2.2) n (good, i, s, true, false, c) = some (finG xg.1 xg1.1 n1.1 (recs d s) c good)
  | 0, i, n, good, c, s, h0, he, hd, hc, hs => by
    obtain ⟨m, rfl⟩ : ∃ m, n = m + 1 := ⟨n - 1, by omega⟩
    rw [iter]
    simp only []
    rw [pget_end (by omega), if_neg (by decide)]; rfl
  | d + 1, i, n, good, c, s, h0, he, hd, hc, hs => by
    obtain ⟨m, rfl⟩ : ∃ m, n = m + 1 := ⟨n - 1, by omega⟩
    rw [iter]
    simp only []
    unfold saved_Get_s1
    rw [cond_p (by omega), pbackend_eq rfl hs, Option.bind_some]
    by_cases hsh : s.length < 6 ∨ s.length < 6 + alen s
    · obtain ⟨s', e, hl⟩ := bkd_short hsh
      have hrec : recs (d + 1) s = none := by
        simp only [recs]
        rcases hsh with h | h
        · rw [if_pos h]
        · by_cases h6 : s.length < 6
          · rw [if_pos h6]
          · rw [if_neg h6, if_pos h]
      rw [e, hrec]
      cases good
      · simp only [cond_true, cond_false]; rw [oreq_p (by omega), wI64 (by omega) (by omega)]
        exact pget_bad (xg := xg) (xg1 := xg1) (n1 := n1) hn (by omega) d (i + 1) m false (c ++ [(bkd ⟨s, true, false⟩).1]) (by omega) (by omega) (by omega) (by simp; omega)
      · simp only [cond_true, cond_false]; rw [oreq_p (by omega), wI64 (by omega) (by omega)]
        exact pget_bad (xg := xg) (xg1 := xg1) (n1 := n1) hn (by omega) d (i + 1) m (bkd ⟨s, true, false⟩).2.1 (c ++ [(bkd ⟨s, true, false⟩).1]) (by omega) (by omega) (by omega) (by simp; omega)
    · rw [bkd_ok (by omega)]
      have hrec : recs (d + 1) s = match recs d (s.drop (6 + alen s)) with | none => none | some (l, g, r) => some (rec1 s :: l, (addrG (adrS s)).2 && g, r) := by
        simp only [recs]; rw [if_neg (by omega), if_neg (by omega)]
      have fin : ∀ g : Bool, finG xg.1 xg1.1 n1.1 (recs d (s.drop (6 + alen s))) (c ++ [rec1 s]) (g && (addrG (adrS s)).2) = finG xg.1 xg1.1 n1.1 (recs (d + 1) s) c g := by
        intro g
        rw [hrec]
        cases recs d (s.drop (6 + alen s)) with
        | none => rfl
        | some q =>
          obtain ⟨l, g', r⟩ := q
          unfold finG
          simp only [Bool.and_assoc, List.append_assoc, List.singleton_append]
      cases good
      · simp only [cond_true, cond_false]; rw [oreq_p (by omega), wI64 (by omega) (by omega)]
        have := pget_loop (xg := xg) (xg1 := xg1) (n1 := n1) hn d (i + 1) m false (c ++ [rec1 s]) (s.drop (6 + alen s)) (by omega) (by omega) (by omega) (by simp; omega) (by rw [List.length_drop]; omega)
        rw [show finG xg.1 xg1.1 n1.1 (recs d (s.drop (6 + alen s))) (c ++ [rec1 s]) false = _ from fin false] at this
        exact this
      · simp only [cond_true, cond_false]; rw [oreq_p (by omega), wI64 (by omega) (by omega)]
        have := pget_loop (xg := xg) (xg1 := xg1) (n1 := n1) hn d (i + 1) m (addrG (adrS s)).2 (c ++ [rec1 s]) (s.drop (6 + alen s)) (by omega) (by omega) (by omega) (by simp; omega) (by rw [List.length_drop]; omega)
        have f := fin true
        rw [Bool.true_and] at f
        rw [f] at this
        exact this
def getR (s : List UInt8) : saved_Record × Int :=
  if s.length < 31 then (zeroR, 2) else
  if s.take 4 ≠ [67, 76, 75, 49] then (zeroR, 3) else
  if sealS (s.take (s.length - 8)) ≠ s.drop (s.length - 8) then (zeroR, 4) else
  finG ((valL ((s.drop 4).take 8) : Nat) : Int) ((valL ((s.drop 12).take 8) : Nat) : Int) ((valL ((s.drop 20).take 2) : Nat) : Int) (recs (valL ((s.drop 22).take 1)) ((s.take (s.length - 8)).drop 23)) [] true
theorem take_in {s : List UInt8} {a n m : Nat} (h : a + n ≤ m) : ((s.take m).drop a).take n = (s.drop a).take n := by
  rw [List.drop_take, List.take_take, Nat.min_eq_left (by omega)]
theorem pgetR_eq {s : List UInt8} (h : s.length < 2 ^ 30) : saved_Get s = some (getR s) := by
  unfold saved_Get saved_GetF getR
  by_cases h1 : (s.length : Int) < 31
  · rw [cond_p h1, if_pos (by omega)]; rfl
  rw [cond_n h1, if_neg (by omega), wI64 (by omega) (by omega), oreq_p (by omega), oreq_p (by omega)]
  have en : ((s.length : Int) - 8).toNat = s.length - 8 := by omega
  simp only [en]
  have e8 : (s.drop (s.length - 8)).take (s.length - (s.length - 8)) = s.drop (s.length - 8) := List.take_of_length_le (by rw [List.length_drop]; exact Nat.le_refl _)
  have hbl : (s.take (s.length - 8)).length = s.length - 8 := by rw [List.length_take]; omega
  rw [e8]
  obtain ⟨bd, hbd⟩ : ∃ bd, s.take (s.length - 8) = bd := ⟨_, rfl⟩
  have tk : ∀ a n, a + n ≤ 23 → (bd.drop a).take n = (s.drop a).take n := fun a n hh => by rw [← hbd]; exact take_in (by omega)
  rw [hbd] at hbl ⊢
  rw [rNew_eq, Option.bind_some, rText_eq rfl, Option.bind_some, rdt_ok (s := bd) (by omega) (by omega), rdr_ok (s := bd) (by omega) (by omega)]
  simp only [show (4 : Int).toNat = 4 from rfl]
  have t4 := tk 0 4 (by omega)
  rw [List.drop_zero, List.drop_zero] at t4
  rw [t4]
  by_cases h3 : s.take 4 = [67, 76, 75, 49]
  · rw [show (s.take 4 == [67, 76, 75, 49]) = true from by rw [beq_iff_eq]; exact h3, if_neg (by simpa using h3)]
    simp only [Bool.not_true, cond_false]
    rw [pseal_eq (by omega), Option.bind_some]
    by_cases h4 : sealS bd = s.drop (s.length - 8)
    · rw [show (sealS bd == s.drop (s.length - 8)) = true from by rw [beq_iff_eq]; exact h4, if_neg (by simpa using h4)]
      simp only [Bool.not_true, cond_false]
      have e8' : (8 : Int).toNat = 8 := rfl
      have e2' : (2 : Int).toNat = 2 := rfl
      have e1' : (1 : Int).toNat = 1 := rfl
      rw [rText_eq rfl, Option.bind_some, rdt_ok (s := bd.drop 4) (by omega) (by rw [List.length_drop]; omega), rdr_ok (s := bd.drop 4) (by omega) (by rw [List.length_drop]; omega)]
      simp only [e8', List.drop_drop]
      rw [octet_Get_eq (by rw [List.length_take]; omega), Option.bind_some, show getS ((bd.drop 4).take 8) 0 8 = _ from getS_all (k := 8) (by decide) (by decide) (by rw [List.length_take, List.length_drop]; omega)]
      rw [rText_eq rfl, Option.bind_some, rdt_ok (s := bd.drop (4 + 8)) (by omega) (by rw [List.length_drop]; omega), rdr_ok (s := bd.drop (4 + 8)) (by omega) (by rw [List.length_drop]; omega)]
      simp only [e8', List.drop_drop]
      rw [octet_Get_eq (by rw [List.length_take]; omega), Option.bind_some, show getS ((bd.drop (4 + 8)).take 8) 0 8 = _ from getS_all (k := 8) (by decide) (by decide) (by rw [List.length_take, List.length_drop]; omega)]
      rw [rNum_eq rfl (by simp only [List.length_drop]; omega), Option.bind_some, if_neg (by decide), show rdn ⟨bd.drop (4 + 8 + 8), true, false⟩ 2 = _ from rdn_ok (k := 2) (by decide) (by decide) (by rw [List.length_drop]; omega), rdr_ok (s := bd.drop (4 + 8 + 8)) (by omega) (by rw [List.length_drop]; omega)]
      simp only [e2', List.drop_drop]
      rw [rNum_eq rfl (by simp only [List.length_drop]; omega), Option.bind_some, if_neg (by decide), show rdn ⟨bd.drop (4 + 8 + 8 + 2), true, false⟩ 1 = _ from rdn_ok (k := 1) (by decide) (by decide) (by rw [List.length_drop]; omega), rdr_ok (s := bd.drop (4 + 8 + 8 + 2)) (by omega) (by rw [List.length_drop]; omega)]
      simp only [e1', List.drop_drop]
      have hv : valL ((bd.drop (4 + 8 + 8 + 2)).take 1) < 256 := val_take_lt _ (by decide)
      rw [show (4 + 8 : Nat) = 12 from rfl, show (12 + 8 : Nat) = 20 from rfl, show (20 + 2 : Nat) = 22 from rfl, show (22 + 1 : Nat) = 23 from rfl] at *
      rw [tk 4 8 (by omega), tk 12 8 (by omega), tk 20 2 (by omega), tk 22 1 (by omega)] at *
      exact pget_loop (by simp only []; omega) (valL ((s.drop 22).take 1)) 0 FUEL true [] (bd.drop 23) (by omega) (by simp only []; omega) (by rw [FUEL_eq]; omega) (by simp) (by rw [List.length_drop]; omega)
    · rw [show (sealS bd == s.drop (s.length - 8)) = false from by rw [beq_eq_false_iff_ne]; exact h4, if_pos h4]; rfl
  · rw [show (s.take 4 == [67, 76, 75, 49]) = false from by rw [beq_eq_false_iff_ne]; exact h3, if_pos h3]; rfl
theorem one_at {s : List UInt8} {k : Nat} {b : UInt8} (h : s[k]? = some b) : valL ((s.drop k).take 1) = b.toNat := by
  obtain ⟨hk, e⟩ := List.getElem?_eq_some_iff.1 h
  have : (s.drop k).take 1 = [b] := by
    rw [List.drop_eq_getElem_cons hk, e]; rfl
  rw [this]; simp [valL]
theorem must_at {s : List UInt8} {p : Nat} (h : p + 2 ≤ s.length) (hs : s.length < 2 ^ 40) : R02_Must s (p : Int) 2 = some ((valL ((s.drop p).take 2) : Nat) : Int) := by
  rw [R02_Must_eq (by omega), getS_at (by omega) (by omega) (by omega) (by omega)]
  simp only [Int.toNat_natCast, show (2 : Int).toNat = 2 from rfl]
  have : valL ((s.drop p).take 2) < 65536 := val_take_lt _ (by decide)
  rw [wI64 (by omega) (by omega)]
theorem rget_step {t : List UInt8} (ht : t.length < 2 ^ 30) {xg xg1 : Int × Bool} {m : Int} {b : UInt8} (hb : t[22]? = some b) {i xat : Nat} {bad : Bool} {c : List api_Backend} (he : i < b.toNat) (hc : c.length ≤ i) (hx : xat ≤ t.length) {s : List UInt8} (hs : t.drop xat = s) :
    R55_Get_s1 R02_Must R04_Get R55_Right t xg xg1 m xat bad i c = if s.length < 6 ∨ s.length < 6 + alen s then some (.inr (zeroR, 2)) else some (.inl (((xat + (6 + alen s) : Nat) : Int), bad || !(addrG (adrS s)).2, ((i + 1 : Nat) : Int), c ++ [rec1 s])) := by
  have hb8 := UInt8.toNat_lt b
  unfold R55_Get_s1
  rw [hb, Option.bind_some, wI64 (n := (b.toNat : Int)) (by omega) (by omega), cond_p (by omega)]
  have hsl : s.length = t.length - xat := by rw [← hs, List.length_drop]
  rw [wI64 (n := (t.length : Int) - xat) (by omega) (by omega), wI64 (n := (t.length : Int) - xat - 6) (by omega) (by omega), wI64 (n := (xat : Int) + 5) (by omega) (by omega), wI64 (n := (xat : Int) + 6) (by omega) (by omega), wI64 (n := (xat : Int) + 2) (by omega) (by omega), wI64 (n := (xat : Int) + 4) (by omega) (by omega)]
  by_cases h6 : s.length < 6
  · simp only []
    rw [cond_p (by omega), if_pos (.inl h6)]; rfl
  · simp only []
    rw [cond_n (by omega), oreq_p (by omega)]
    have h5 : xat + 5 < t.length := by omega
    have e5 : ((xat : Int) + 5).toNat = xat + 5 := by omega
    have hg5 : t[xat + 5]? = some t[xat + 5] := List.getElem?_eq_getElem h5
    have ha : alen s = (t[xat + 5]).toNat := by
      unfold alen
      refine one_at ?_
      rw [← hs, List.getElem?_drop]; exact hg5
    rw [e5, hg5, Option.bind_some]
    generalize t[xat + 5] = y at ha hg5
    have hy8 := UInt8.toNat_lt y
    rw [wI64 (n := (y.toNat : Int)) (by omega) (by omega)]
    by_cases hsh : s.length < 6 + alen s
    · rw [cond_p (by omega), if_pos (.inr hsh)]; rfl
    · rw [cond_n (by omega), oreq_p (by omega), Option.bind_some]
      rw [wI64 (n := (y.toNat : Int)) (by omega) (by omega), wI64 (n := (xat : Int) + 6 + (y.toNat : Int)) (by omega) (by omega), oreq_p (by omega)]
      have e6 : ((xat : Int) + 6).toNat = xat + 6 := by omega
      have e7 : ((xat : Int) + 6 + (y.toNat : Int)).toNat - ((xat : Int) + 6).toNat = alen s := by omega
      rw [e7, e6]
      have eadr : (t.drop (xat + 6)).take (alen s) = adrS s := by
        unfold adrS; rw [← hs, List.drop_drop]
      have h4 : xat + 4 < t.length := by omega
      have e4 : ((xat : Int) + 4).toNat = xat + 4 := by omega
      have hg4 : t[xat + 4]? = some t[xat + 4] := List.getElem?_eq_getElem h4
      have hz : valL ((s.drop 4).take 1) = (t[xat + 4]).toNat := one_at (by rw [← hs, List.getElem?_drop]; exact hg4)
      have hz8 := UInt8.toNat_lt t[xat + 4]
      have m1 := must_at (s := t) (p := xat) (by omega) (by omega)
      have m2 := must_at (s := t) (p := xat + 2) (by omega) (by omega)
      rw [show ((xat + 2 : Nat) : Int) = (xat : Int) + 2 by omega] at m2
      rw [eadr, raget_eq (by unfold adrS; rw [List.length_take]; omega), Option.bind_some, m1, m2]
      simp only [Option.bind_some]
      rw [oreq_p (by omega), e4, hg4]
      simp only [Option.bind_some]
      rw [wI64 (n := ((t[xat + 4]).toNat : Int)) (by omega) (by omega), wI64 (n := (i : Int) + 1) (by omega) (by omega)]
      have er : api_Backend.mk ((valL ((t.drop xat).take 2) : Nat) : Int) ((valL ((t.drop (xat + 2)).take 2) : Nat) : Int) ((t[xat + 4]).toNat : Int) (addrG (adrS s)).1 = rec1 s := by
        unfold rec1
        rw [hz, ← hs, List.drop_drop]
      rw [er, oreq_p (by omega), oreq_p (by omega), if_neg (fun q => q.elim h6 hsh)]
      have ex : (xat : Int) + 6 + (y.toNat : Int) = ((xat + (6 + alen s) : Nat) : Int) := by omega
      have ei : (i : Int) + 1 = ((i + 1 : Nat) : Int) := by omega
      rw [ex, ei]
      cases bad
      · simp only [cond_false]
        rw [oreq_p (by omega)]; rfl
      · rfl
theorem rget_end {t : List UInt8} (ht : t.length < 2 ^ 30) {xg xg1 : Int × Bool} {m : Int} {b : UInt8} (hb : t[22]? = some b) {i xat : Nat} {bad : Bool} {c : List api_Backend} (he : i = b.toNat) (hx : xat ≤ t.length) :
    R55_Get_s1 R02_Must R04_Get R55_Right t xg xg1 m xat bad i c = some (.inr (finG xg.1 xg1.1 m (recs 0 (t.drop xat)) c (!bad))) := by
  have hb8 := UInt8.toNat_lt b
  unfold R55_Get_s1
  rw [hb, Option.bind_some, wI64 (n := (b.toNat : Int)) (by omega) (by omega), cond_n (by omega)]
  unfold finG
  simp only [recs, Bool.and_true, List.append_nil]
  by_cases hxl : xat = t.length
  · have hn : t.drop xat = [] := by rw [hxl]; simp
    rw [show ((xat : Int) != (t.length : Int)) = false from by rw [bne_eq_false_iff_eq]; omega, cond_false, hn]
    cases bad with
    | true => simp [zeroR]
    | false =>
      simp only [cond_false]
      rw [rright55_eq, Option.bind_some]
      cases hR : rightB ⟨⟨xg.1, xg1.1⟩, m, c⟩ <;> simp [zeroR]
  · have hn : t.drop xat ≠ [] := by
      intro h
      have := congrArg List.length h
      rw [List.length_drop] at this; simp at this; omega
    rw [show ((xat : Int) != (t.length : Int)) = true from by rw [bne_iff_ne]; omega, cond_true, if_pos (.inl hn)]; rfl
theorem rget_loop {t : List UInt8} (ht : t.length < 2 ^ 30) {xg xg1 : Int × Bool} {m : Int} {b : UInt8} (hb : t[22]? = some b) : ∀ (d i n : Nat) (bad : Bool) (c : List api_Backend) (xat : Nat), i + d = b.toNat → d < n → c.length ≤ i → xat ≤ t.length →
    iter (fun st => R55_Get_s1 R02_Must R04_Get R55_Right t xg xg1 m st.1 st.2.1 st.2.2.1 st.2.2.2) n ((xat : Int), bad, (i : Int), c) = some (finG xg.1 xg1.1 m (recs d (t.drop xat)) c (!bad))
  | 0, i, n, bad, c, xat, he, hd, hc, hx => by
    obtain ⟨k, rfl⟩ : ∃ k, n = k + 1 := ⟨n - 1, by omega⟩
    rw [iter]
    simp only []
    rw [rget_end ht hb (by omega) hx]
  | d + 1, i, n, bad, c, xat, he, hd, hc, hx => by
    obtain ⟨k, rfl⟩ : ∃ k, n = k + 1 := ⟨n - 1, by omega⟩
    obtain ⟨s, hs⟩ : ∃ s, t.drop xat = s := ⟨_, rfl⟩
    have hsl : s.length = t.length - xat := by rw [← hs, List.length_drop]
    rw [iter]
    simp only []
    rw [rget_step ht hb (by omega) hc hx hs, hs]
    by_cases hsh : s.length < 6 ∨ s.length < 6 + alen s
    · have hrec : recs (d + 1) s = none := by
        simp only [recs]
        rcases hsh with h | h
        · rw [if_pos h]
        · by_cases h6 : s.length < 6
          · rw [if_pos h6]
          · rw [if_neg h6, if_pos h]
      rw [if_pos hsh, hrec]; rfl
    · have hrec : recs (d + 1) s = match recs d (s.drop (6 + alen s)) with | none => none | some (l, g, r) => some (rec1 s :: l, (addrG (adrS s)).2 && g, r) := by
        simp only [recs]; rw [if_neg (by omega), if_neg (by omega)]; try rfl
      rw [if_neg hsh]
      simp only []
      rw [rget_loop ht hb d (i + 1) k (bad || !(addrG (adrS s)).2) (c ++ [rec1 s]) (xat + (6 + alen s)) (by omega) (by omega) (by simp; omega) (by omega), ← List.drop_drop, hs, hrec]
      cases recs d (s.drop (6 + alen s)) with
      | none => rfl
      | some q =>
        obtain ⟨l, g', r⟩ := q
        unfold finG
        simp only [Bool.not_or, Bool.not_not, Bool.and_assoc, List.append_assoc, List.singleton_append]
theorem rgetR_eq {s : List UInt8} (h : s.length < 2 ^ 30) : R55_Get s = some (getR s) := by
  unfold R55_Get R55_GetF getR
  by_cases h1 : (s.length : Int) < 31
  · rw [cond_p h1, if_pos (by omega)]; rfl
  rw [cond_n h1, if_neg (by omega), wI64 (n := (s.length : Int) - 8) (by omega) (by omega), oreq_p (by omega), oreq_p (by omega)]
  have en : ((s.length : Int) - 8).toNat = s.length - 8 := by omega
  simp only [en]
  by_cases h3 : s.take 4 = [67, 76, 75, 49]
  · rw [show (s.take 4 == [67, 76, 75, 49]) = true from by rw [beq_iff_eq]; exact h3, if_neg (by simpa using h3)]
    simp only [Bool.not_true, cond_false]
    have e8 : (s.drop (s.length - 8)).take (s.length - (s.length - 8)) = s.drop (s.length - 8) := List.take_of_length_le (by rw [List.length_drop]; exact Nat.le_refl _)
    have hbl : (s.take (s.length - 8)).length = s.length - 8 := by rw [List.length_take]; omega
    obtain ⟨bd, hbd⟩ : ∃ bd, s.take (s.length - 8) = bd := ⟨_, rfl⟩
    have tk : ∀ a n, a + n ≤ 23 → (bd.drop a).take n = (s.drop a).take n := fun a n hh => by rw [← hbd]; exact take_in (by omega)
    rw [hbd] at hbl ⊢
    rw [rseal_eq (by omega), Option.bind_some, oreq_p (by omega), e8]
    by_cases h4 : sealS bd = s.drop (s.length - 8)
    · rw [show (sealS bd == s.drop (s.length - 8)) = true from by rw [beq_iff_eq]; exact h4, if_neg (by simpa using h4)]
      simp only [Bool.not_true, cond_false]
      rw [R02_Get_eq (by omega), Option.bind_some, R02_Get_eq (by omega), Option.bind_some, show R02_Must bd 20 2 = _ from must_at (p := 20) (by omega) (by omega), Option.bind_some, getS_at (by omega) (by omega) (by omega) (by omega), getS_at (by omega) (by omega) (by omega) (by omega)]
      simp only [show (4 : Int).toNat = 4 from rfl, show (12 : Int).toNat = 12 from rfl, show (8 : Int).toNat = 8 from rfl]
      have hb : bd[22]? = some bd[22] := List.getElem?_eq_getElem (by omega)
      have hv := one_at hb
      rw [tk 4 8 (by omega), tk 12 8 (by omega), tk 20 2 (by omega)]
      rw [tk 22 1 (by omega)] at hv
      have := rget_loop (t := bd) (by omega) (xg := (((valL ((s.drop 4).take 8) : Nat) : Int), true)) (xg1 := (((valL ((s.drop 12).take 8) : Nat) : Int), true)) (m := ((valL ((s.drop 20).take 2) : Nat) : Int)) hb (bd[22]).toNat 0 FUEL false [] 23 (by omega) (by rw [FUEL_eq]; have := UInt8.toNat_lt bd[22]; omega) (by simp) (by omega)
      rw [hv]
      exact this
    · rw [show (sealS bd == s.drop (s.length - 8)) = false from by rw [beq_eq_false_iff_ne]; exact h4, if_pos h4]; rfl
  · rw [show (s.take 4 == [67, 76, 75, 49]) = false from by rw [beq_eq_false_iff_ne]; exact h3, if_pos h3]; rfl
end Go.Vm.Code
namespace Go.Vm.Code
open Go Go.Vm Go.Proofs
set_option maxRecDepth 100000
set_option maxHeartbeats 4000000
set_option linter.unusedVariables false
def law55_awakeF (saved_Get : (List UInt8) → Option (saved_Record × Int)) (saved_Of : api_Key → Int → (List api_Backend) → Option saved_Record) (saved_Put : saved_Record → Option ((List UInt8) × Int)) (saved_Right : saved_Record → Option Bool) : Option Bool :=
  (saved_Put (saved_Record.mk (api_Key.mk 0 0) 0 [])).bind fun p =>
  (saved_Get []).bind fun xg =>
  (saved_Of (api_Key.mk 0 0) 3 [api_Backend.mk 1 0 2 (api_Addr.mk false 0 0), api_Backend.mk 2 0 4 (api_Addr.mk false 0 0), api_Backend.mk 3 0 3 (api_Addr.mk false 0 0)]).bind fun xo =>
  cond (p.2 == 0)
    (
    cond ((p.1.length : Int) == 31)
      (
      cond (xg.2 == 2)
        (
        cond ((xo.L.length : Int) == 2)
          (
          oreq (decide ((0 : Int) ≤ (0 : Int) ∧ (0 : Int) < (xo.L.length : Int))) <|
          (xo.L[0]?).bind fun (e : api_Backend) =>
          cond (e.State == 1)
            (
            (saved_Right xo).bind fun xr =>
            some (xr))
            (
            some (false)))
          (
          some (false)))
        (
        some (false)))
      (
      some (false)))
    (
    some (false))
def rx47 (x : Bool) : SRes := ⟨.bool x, [], []⟩
def r47 (g : Option Bool) : Dec := dEnd (ofG (g) rx47)
theorem r47_c {g : Option Bool} {x : Bool} (hx : g = some x) : r47 g [] [] = some (rx47 x) := ofG_eq hx
def s47 (g : Option Bool) : Summ := ⟨[], r47 g⟩
theorem r47_eq {g : Option Bool} {x : Bool} (hx : g = some x) : (s47 g).run [] [] = some (rx47 x) := r47_c hx
abbrev sums47 (saved_Get : (List UInt8) → Option (saved_Record × Int)) (saved_Of : api_Key → Int → (List api_Backend) → Option saved_Record) (saved_Put : saved_Record → Option ((List UInt8) × Int)) (saved_Right : saved_Record → Option Bool) : List (Nat × Summ) := [(48, s48 saved_Get), (58, s58 saved_Of), (53, s53 saved_Put), (56, s56 saved_Right)]
theorem leads47 (saved_Get : (List UInt8) → Option (saved_Record × Int)) (saved_Of : api_Key → Int → (List api_Backend) → Option saved_Record) (saved_Put : saved_Record → Option ((List UInt8) × Int)) (saved_Right : saved_Record → Option Bool) (hS : SumsOK Try.prog (aget (sums47 saved_Get saved_Of saved_Put saved_Right))) (res : Bool) (h : law55_awakeF saved_Get saved_Of saved_Put saved_Right = some res) :
    Leads Try.prog 47 0 ⟨⟨47, 50, [], [.code k47_9], [], false, none⟩, [], [], 0⟩ (fun v H _ => Res 0 (rx47 res) v H) := by
  unfold law55_awakeF at h
  refine ev_ok tab_ok hS true 3000 ?_
  conv => whnf
  replace h := obind.elim h; obtain ⟨p, hy, h⟩ := h
  refine sumK.introF [] (sumRun_of (aqs := [.agg ⟨[.int .u64 (saved_Record.mk (api_Key.mk 0 0) 0 []).Key.A, .int .u64 (saved_Record.mk (api_Key.mk 0 0) 0 []).Key.B, .int .i64 (saved_Record.mk (api_Key.mk 0 0) 0 []).Last, .slice (some ⟨0, 0, none⟩) (saved_Record.mk (api_Key.mk 0 0) 0 []).L.length 6]⟩]) (ws := [.emp false]) (n := 0) (m := 1) (t' := 1) (ra_cons (ra_tr rfl rfl (vp_emp vp_nil) rfl) rfl ra_nil) rfl (by rfl) (r53_eq hy) rfl rfl rfl rfl (wb_skip rfl wb_nil) an_nil rfl) ?_
  conv => whnf
  replace h := obind.elim h; obtain ⟨xg, hy, h⟩ := h
  refine sumK.introF [] (sumRun_of (aqs := [.string ⟨⟨[]⟩⟩]) (ws := []) (n := 1) (m := 0) (t' := 2) (ra_cons rfl rfl ra_nil) rfl (by rfl) (r48_eq hy) rfl rfl rfl rfl wb_nil (an_cons (rn_T capi_Backend_flat) an_nil) rfl) ?_
  conv => whnf
  replace h := obind.elim h; obtain ⟨xo, hy, h⟩ := h
  refine sumK.introF [] (sumRun_of (aqs := [.agg ⟨[.int .u64 0, .int .u64 0]⟩, .int .i64 3, .slice (some ⟨0, 0, none⟩) ([api_Backend.mk 1 0 2 (api_Addr.mk false 0 0), api_Backend.mk 2 0 4 (api_Addr.mk false 0 0), api_Backend.mk 3 0 3 (api_Addr.mk false 0 0)] : List api_Backend).length 6]) (ws := [.win 3 0 (3 * 6) false]) (n := 1) (m := 0) (t' := 5) (ra_cons rfl rfl (ra_cons rfl rfl (ra_cons (by first | rfl | exact ra_allT capi_Backend_len capi_Backend_flat rfl rfl (by first | rfl | omega) (by first | rfl | (simp; done)) | exact ra_slT capi_Backend_len capi_Backend_flat rfl rfl (by first | rfl | omega) (by first | rfl | omega) (by first | omega | (simp at *; omega))) rfl ra_nil))) rfl (by rfl) (r58_eq hy) rfl rfl rfl rfl (wb_skip rfl wb_nil) (an_cons (rn_T capi_Backend_flat) an_nil) rfl) ?_
  conv => whnf
  refine br.h2 h ?_ ?_ ?_
  · rfl
  · clear h; intro hb h; conv => whnf
    all_goals (cases h; exact Res.z rfl rfl rfl)
  clear h; intro hb h; conv => whnf
  refine br.h2 h ?_ ?_ ?_
  · rfl
  · clear h; intro hb h; conv => whnf
    all_goals (cases h; exact Res.z rfl rfl rfl)
  clear h; intro hb h; conv => whnf
  refine br.h2 h ?_ ?_ ?_
  · rfl
  · clear h; intro hb h; conv => whnf
    all_goals (cases h; exact Res.z rfl rfl rfl)
  clear h; intro hb h; conv => whnf
  refine br.h2 h ?_ ?_ ?_
  · rfl
  · clear h; intro hb h; conv => whnf
    all_goals (cases h; exact Res.z rfl rfl rfl)
  clear h; intro hb h; conv => whnf
  replace h := oreq.elim h; obtain ⟨hb, h⟩ := h
  first | (refine req.intro hb ?_; conv => whnf) | skip
  replace h := obind.elim h; obtain ⟨e, hy, h⟩ := h
  refine rd.T (j := 2) capi_Backend_len hy (by first | omega | exact Nat.zero_add _ | exact congrArg (· + _) (Nat.zero_add _)) (by decide) rfl ?_
  conv => whnf
  refine br.h2 h ?_ ?_ ?_
  · rfl
  · clear h; intro hb h; conv => whnf
    all_goals (cases h; exact Res.z rfl rfl rfl)
  clear h; intro hb h; conv => whnf
  replace h := obind.elim h; obtain ⟨xr, hy, h⟩ := h
  refine sumK.introF [] (sumRun_of (aqs := [.agg ⟨[.int .u64 xo.Key.A, .int .u64 xo.Key.B, .int .i64 xo.Last, .slice (some ⟨0, 0, none⟩) xo.L.length 6]⟩]) (ws := [.blk 4 false]) (n := 0) (m := 0) (t' := 6) (ra_cons (ra_tr rfl rfl (vp_at rfl rfl (rn_T capi_Backend_flat) rfl vp_nil) rfl) rfl ra_nil) rfl (by rfl) (r56_eq hy) rfl rfl rfl rfl (wb_skip rfl wb_nil) an_nil rfl) ?_
  conv => whnf
  all_goals (cases h; exact Res.z rfl rfl rfl)
theorem ok47 (saved_Get : (List UInt8) → Option (saved_Record × Int)) (saved_Of : api_Key → Int → (List api_Backend) → Option saved_Record) (saved_Put : saved_Record → Option ((List UInt8) × Int)) (saved_Right : saved_Record → Option Bool) (hS : SumsOK Try.prog (aget (sums47 saved_Get saved_Of saved_Put saved_Right))) : SumOK Try.prog 47 (s47 (law55_awakeF saved_Get saved_Of saved_Put saved_Right)) := by
  refine SumOK.of_leads tab_ok (fun ar os r ha hr => ?_) ⟨Try.f47, rfl, by decide, rfl⟩
  replace hr : r47 (law55_awakeF saved_Get saved_Of saved_Put saved_Right) ar (conts os) = some r := hr
  unfold r47 at hr
  generalize hc : conts os = C at hr
  replace hr := dFin hr; obtain ⟨rfl, rfl, x, h, rfl⟩ := hr
  obtain rfl := kinds_nil hc
  exact ⟨_, rfl, leads47 saved_Get saved_Of saved_Put saved_Right hS x h⟩
def law55_awake : Option Bool := law55_awakeF saved_Get saved_Of saved_Put saved_Right
theorem lift47 : SumOK Try.prog 47 (s47 law55_awake) := ok47 saved_Get saved_Of saved_Put saved_Right (SumsOK.of_tab ⟨lift48, lift58, lift53, lift56, trivial⟩)
def law55_backF (ra0 : saved_Record) : Option saved_Record :=
  some (ra0)
def rx52 (x : saved_Record) : SRes := ⟨.agg ⟨[.int .u64 x.Key.A, .int .u64 x.Key.B, .int .i64 x.Last, .slice (some ⟨0, 0, none⟩) x.L.length 6]⟩, [], [none]⟩
def r52 (g : saved_Record → Option saved_Record) : Dec := dTr 1 (udsaved_Record 0) fun (y0 : saved_Record) => dEnd (ofG (g y0) rx52)
theorem r52_c {g : saved_Record → Option saved_Record} {y0 : saved_Record} {x : saved_Record} (hx : g y0 = some x) : r52 g [.agg ⟨[.int .u64 y0.Key.A, .int .u64 y0.Key.B, .int .i64 y0.Last, .slice (some ⟨0, 0, none⟩) y0.L.length 6]⟩] [some (vT capi_Backend y0.L)] = some (rx52 x) := (dTr_eq rfl rfl (udsaved_Record_c 0 _)).trans (ofG_eq hx)
def s52 (g : saved_Record → Option saved_Record) : Summ := ⟨[.tr [⟨none, 3, 0, 0, some 6⟩]], r52 g⟩
theorem r52_eq {g : saved_Record → Option saved_Record} {y0 : saved_Record} {x : saved_Record} (hx : g y0 = some x) : (s52 g).run [.agg ⟨[.int .u64 y0.Key.A, .int .u64 y0.Key.B, .int .i64 y0.Last, .slice (some ⟨0, 0, none⟩) y0.L.length 6]⟩] [some (vT capi_Backend y0.L)] = some (rx52 x) := r52_c hx
abbrev sums52 : List (Nat × Summ) := []
theorem leads52 (hS : SumsOK Try.prog (aget (sums52))) (ra0 : saved_Record) (res : saved_Record) (h : law55_backF ra0 = some res) :
    Leads Try.prog 52 1 ⟨⟨52, 10, [(0, .agg ⟨[.int .u64 ra0.Key.A, .int .u64 ra0.Key.B, .int .i64 ra0.Last, .slice (some ⟨0, 0, none⟩) ra0.L.length 6]⟩)], [.code k52_3], [], false, none⟩, [], [(0, .row false (vT capi_Backend ra0.L))], 1⟩ (fun v H _ => Res 1 (rx52 res) v H) := by
  unfold law55_backF at h
  refine ev_ok tab_ok hS true 3000 ?_
  conv => whnf
  all_goals (cases h)
  all_goals exact Res.of [] rfl nw_0 (by decide) js_0 (wr_n wr_0)
theorem ok52 (hS : SumsOK Try.prog (aget (sums52))) : SumOK Try.prog 52 (s52 (law55_backF)) := by
  refine SumOK.of_leads tab_ok (fun ar os r ha hr => ?_) ⟨Try.f52, rfl, by decide, rfl⟩
  replace hr : r52 (law55_backF) ar (conts os) = some r := hr
  unfold r52 at hr
  generalize hc : conts os = C at hr
  have hq := dTr.elim hr; clear hr; obtain ⟨v0, l1, c0, C, y0, rfl, rfl, e0, hr⟩ := hq; obtain ⟨rfl, rfl⟩ := udsaved_Record_eq e0; simp only [List.nil_append, List.cons_append] at hc
  replace hr := dFin hr; obtain ⟨rfl, rfl, x, h, rfl⟩ := hr
  obtain ⟨os, rfl, ha, hc⟩ := kinds_some ha hc
  obtain rfl := kinds_nil hc
  exact ⟨_, rfl, leads52 hS _ x h⟩
def law55_back : saved_Record → Option saved_Record := law55_backF
theorem lift52 : SumOK Try.prog 52 (s52 law55_back) := ok52 (SumsOK.of_tab trivial)
def law55_SavedSealedF (R55_Get : (List UInt8) → Option (saved_Record × Int)) (R55_Same : saved_Record → saved_Record → Option Bool) (R55_Seal : (List UInt8) → Option (List UInt8)) (law55_awake : Option Bool) (law55_back : saved_Record → Option saved_Record) (saved_Get : (List UInt8) → Option (saved_Record × Int)) (s : List UInt8) : Option Bool :=
  cond (decide ((s.length : Int) > 300))
    (
    (law55_awake).bind fun a =>
    some (a))
    (
    oreq (decide (4 + s.length < 2 ^ 63)) <|
    (R55_Seal ([67, 76, 75, 49] ++ s)).bind fun s1 =>
    oreq (decide (([67, 76, 75, 49] ++ s).length + s1.length < 2 ^ 63)) <|
    (saved_Get (([67, 76, 75, 49] ++ s) ++ s1)).bind fun xg =>
    (R55_Seal ([67, 76, 75, 49] ++ s)).bind fun s2 =>
    oreq (decide (([67, 76, 75, 49] ++ s).length + s2.length < 2 ^ 63)) <|
    (R55_Get (([67, 76, 75, 49] ++ s) ++ s2)).bind fun xg1 =>
    (law55_back xg.1).bind fun b =>
    oreq (decide (b.L = xg.1.L)) <|
    (R55_Same (saved_Record.mk b.Key b.Last xg.1.L) xg1.1).bind fun s3 =>
    cond (s3)
      (
      cond (xg.2 == xg1.2)
        (
        (law55_awake).bind fun a1 =>
        some (a1))
        (
        some (false)))
      (
      some (false)))
def rx8 (x : Bool) : SRes := ⟨.bool x, [], []⟩
abbrev sums8 (R55_Get : (List UInt8) → Option (saved_Record × Int)) (R55_Same : saved_Record → saved_Record → Option Bool) (R55_Seal : (List UInt8) → Option (List UInt8)) (law55_awake : Option Bool) (law55_back : saved_Record → Option saved_Record) (saved_Get : (List UInt8) → Option (saved_Record × Int)) : List (Nat × Summ) := [(50, s50 R55_Get), (51, s51 R55_Same), (49, s49 R55_Seal), (47, s47 law55_awake), (52, s52 law55_back), (48, s48 saved_Get)]
theorem leads8 (R55_Get : (List UInt8) → Option (saved_Record × Int)) (R55_Same : saved_Record → saved_Record → Option Bool) (R55_Seal : (List UInt8) → Option (List UInt8)) (law55_awake : Option Bool) (law55_back : saved_Record → Option saved_Record) (saved_Get : (List UInt8) → Option (saved_Record × Int)) (hS : SumsOK Try.prog (aget (sums8 R55_Get R55_Same R55_Seal law55_awake law55_back saved_Get))) (s : List UInt8) (res : Bool) (h : law55_SavedSealedF R55_Get R55_Same R55_Seal law55_awake law55_back saved_Get s = some res) :
    Leads Try.prog 8 0 ⟨⟨8, 42, [(0, .string ⟨⟨s⟩⟩)], [.code k8_15], [], false, none⟩, [], [], 0⟩ (fun v H _ => Res 0 (rx8 res) v H) := by
  unfold law55_SavedSealedF at h
  refine ev_ok tab_ok hS true 3000 ?_
  conv => whnf
  refine br.h h ?_ ?_ ?_
  · rfl
  · clear h; intro hb h; conv => whnf
    replace h := obind.elim h; obtain ⟨a, hy, h⟩ := h
    refine sumK.q rfl rfl (r47_eq hy) rfl rfl rfl ?_
    conv => whnf
    all_goals (cases h; exact Res.z rfl rfl rfl)
  clear h; intro hb h; conv => whnf
  replace h := oreq.elim h; obtain ⟨hb, h⟩ := h
  first | (refine req.intro hb ?_; conv => whnf) | skip
  replace h := obind.elim h; obtain ⟨s1, hy, h⟩ := h
  refine sumK.q rfl rfl (r49_eq hy) rfl rfl rfl ?_
  conv => whnf
  replace h := oreq.elim h; obtain ⟨hb, h⟩ := h
  first | (refine req.intro hb ?_; conv => whnf) | skip
  replace h := obind.elim h; obtain ⟨xg, hy, h⟩ := h
  refine sumK.introF [] (sumRun_of (aqs := [.string ⟨⟨([67, 76, 75, 49] ++ s) ++ s1⟩⟩]) (ws := []) (n := 1) (m := 0) (t' := 1) (ra_cons rfl rfl ra_nil) rfl (by rfl) (r48_eq hy) rfl rfl rfl rfl wb_nil (an_cons (rn_T capi_Backend_flat) an_nil) rfl) ?_
  conv => whnf
  replace h := obind.elim h; obtain ⟨s2, hy, h⟩ := h
  refine sumK.q rfl rfl (r49_eq hy) rfl rfl rfl ?_
  conv => whnf
  replace h := oreq.elim h; obtain ⟨hb, h⟩ := h
  first | (refine req.intro hb ?_; conv => whnf) | skip
  replace h := obind.elim h; obtain ⟨xg1, hy, h⟩ := h
  refine sumK.introF [] (sumRun_of (aqs := [.string ⟨⟨([67, 76, 75, 49] ++ s) ++ s2⟩⟩]) (ws := []) (n := 1) (m := 0) (t' := 3) (ra_cons rfl rfl ra_nil) rfl (by rfl) (r50_eq hy) rfl rfl rfl rfl wb_nil (an_cons (rn_T capi_Backend_flat) an_nil) rfl) ?_
  conv => whnf
  replace h := obind.elim h; obtain ⟨b, hy, h⟩ := h
  refine sumK.introF [] (sumRun_of (aqs := [.agg ⟨[.int .u64 xg.1.Key.A, .int .u64 xg.1.Key.B, .int .i64 xg.1.Last, .slice (some ⟨0, 0, none⟩) xg.1.L.length 6]⟩]) (ws := [.blk 0 false]) (n := 0) (m := 0) (t' := 5) (ra_cons (ra_tr rfl rfl (vp_at rfl rfl (rn_T capi_Backend_flat) rfl vp_nil) rfl) rfl ra_nil) rfl (by rfl) (r52_eq hy) rfl rfl rfl rfl (wb_skip rfl wb_nil) an_nil rfl) ?_
  conv => whnf
  replace h := oreq.elim h; obtain ⟨hb, h⟩ := h
  rw [of_decide_eq_true hb]
  conv => whnf
  replace h := obind.elim h; obtain ⟨s3, hy, h⟩ := h
  refine sumK.introF [] (sumRun_of (aqs := [.agg ⟨[.int .u64 (saved_Record.mk b.Key b.Last xg.1.L).Key.A, .int .u64 (saved_Record.mk b.Key b.Last xg.1.L).Key.B, .int .i64 (saved_Record.mk b.Key b.Last xg.1.L).Last, .slice (some ⟨0, 0, none⟩) (saved_Record.mk b.Key b.Last xg.1.L).L.length 6]⟩, .agg ⟨[.int .u64 xg1.1.Key.A, .int .u64 xg1.1.Key.B, .int .i64 xg1.1.Last, .slice (some ⟨1, 0, none⟩) xg1.1.L.length 6]⟩]) (ws := [.blk 0 false, .blk 2 false]) (n := 0) (m := 0) (t' := 7) (ra_cons (ra_tr rfl rfl (vp_at rfl rfl (rn_T capi_Backend_flat) rfl vp_nil) rfl) rfl (ra_cons (ra_tr rfl rfl (vp_at rfl rfl (rn_T capi_Backend_flat) rfl vp_nil) rfl) rfl ra_nil)) rfl (by rfl) (r51_eq hy) rfl rfl rfl rfl (wb_skip rfl (wb_skip rfl wb_nil)) an_nil rfl) ?_
  conv => whnf
  refine br.h2 h ?_ ?_ ?_
  · rfl
  · clear h; intro hb h; conv => whnf
    all_goals (cases h; exact Res.z rfl rfl rfl)
  clear h; intro hb h; conv => whnf
  refine br.h2 h ?_ ?_ ?_
  · rfl
  · clear h; intro hb h; conv => whnf
    all_goals (cases h; exact Res.z rfl rfl rfl)
  clear h; intro hb h; conv => whnf
  replace h := obind.elim h; obtain ⟨a1, hy, h⟩ := h
  refine sumK.q rfl rfl (r47_eq hy) rfl rfl rfl ?_
  conv => whnf
  all_goals (cases h; exact Res.z rfl rfl rfl)
def law55_SavedSealed : (List UInt8) → Option Bool := law55_SavedSealedF R55_Get R55_Same R55_Seal law55_awake law55_back saved_Get
end Go.Vm.Code
namespace Go.Vm.Code
open Go Go.Vm
def bkEq (a b : api_Backend) : Bool := (a.ID == b.ID) && ((a.Weight == b.Weight) && ((a.State == b.State) && ((a.Addr.V6 == b.Addr.V6) && ((a.Addr.Hi == b.Addr.Hi) && ((a.Addr.Lo == b.Addr.Lo) && true)))))
theorem bkEq_eq (a b : api_Backend) : bkEq a b = decide (a = b) := by
  rw [Bool.eq_iff_iff, decide_eq_true_iff]
  unfold bkEq
  constructor
  · intro h
    simp only [Bool.and_true, Bool.and_eq_true, beq_iff_eq] at h
    obtain ⟨h1, h2, h3, h4, h5, h6⟩ := h
    exact api_Backend.ext h1 h2 h3 (api_Addr.ext h4 h5 h6)
  · rintro rfl; simp
theorem eqL {a b : List api_Backend} (hl : a.length < 2 ^ 60) (step : Int → Option (Sum Int Bool))
    (h1 : ∀ i (hi : i < a.length) (hb : i < b.length), step (i : Int) = if bkEq a[i] b[i] = true then some (.inl ((i + 1 : Nat) : Int)) else some (.inr false)) (h2 : step (a.length : Int) = some (.inr true)) (hab : a.length = b.length) : iter step FUEL 0 = some (decide (a = b)) := by
  refine iter_eq (fun _ => decide (a = b)) (fun (s : Int) => 0 ≤ s ∧ s ≤ a.length ∧ ∀ j : Nat, (j : Int) < s → a[j]? = b[j]?) (fun s => ((a.length : Int) - s).toNat) ?_ FUEL 0 ⟨by omega, by omega, fun j hj => by omega⟩ (by rw [FUEL_eq]; omega)
  rintro s ⟨g0, g1, g2⟩
  obtain ⟨i, rfl⟩ := Int.eq_ofNat_of_zero_le g0
  rcases Nat.lt_or_ge i a.length with hi | hi
  · rw [h1 i hi (by omega), bkEq_eq]
    by_cases he : a[i] = b[i]
    · right
      rw [decide_eq_true he, if_pos rfl]
      refine ⟨_, rfl, ⟨by omega, by omega, fun j hj => ?_⟩, by omega, by trivial⟩
      rcases Nat.lt_or_ge j i with h | h
      · exact g2 j (by omega)
      · have : j = i := by omega
        subst this
        rw [List.getElem?_eq_getElem hi, List.getElem?_eq_getElem (show j < b.length by omega), he]
    · left
      rw [decide_eq_false he, if_neg (by decide), decide_eq_false]
      rintro rfl
      exact he rfl
  · left
    have : i = a.length := by omega
    subst this
    rw [h2, decide_eq_true]
    apply List.ext_getElem?
    intro j
    rcases Nat.lt_or_ge j a.length with h | h
    · exact g2 j (by omega)
    · rw [List.getElem?_eq_none (by omega), List.getElem?_eq_none (by omega)]
theorem gsame_eq {a b : List api_Backend} (hl : a.length < 2 ^ 60) : R23_Same a b = some (decide (a = b)) := by
  unfold R23_Same R23_SameF
  by_cases hab : a.length = b.length
  · rw [show ((a.length : Int) != (b.length : Int)) = false from by rw [bne_eq_false_iff_eq]; omega, cond_false]
    refine eqL hl _ (fun i hi hb => ?_) ?_ hab
    · unfold R23_Same_s1
      rw [cond_p (by omega), oreq_p ⟨by omega, by omega⟩, Int.toNat_natCast, List.getElem?_eq_getElem hi, Option.bind_some, oreq_p ⟨by omega, by omega⟩, List.getElem?_eq_getElem hb, Option.bind_some, wI64 (by omega) (by omega), show (i : Int) + 1 = ((i + 1 : Nat) : Int) by omega]
      show cond (!bkEq a[i] b[i]) _ _ = _
      cases bkEq a[i] b[i] <;> rfl
    · unfold R23_Same_s1
      rw [cond_n (by omega)]
  · rw [show ((a.length : Int) != (b.length : Int)) = true from by rw [bne_iff_ne]; omega, cond_true, decide_eq_false]
    rintro rfl; exact hab rfl
theorem keyEq (a b : api_Key) : ((a.A == b.A) && ((a.B == b.B) && true)) = decide (a = b) := by
  rw [Bool.eq_iff_iff, decide_eq_true_iff]
  constructor
  · intro h
    simp only [Bool.and_true, Bool.and_eq_true, beq_iff_eq] at h
    exact api_Key.ext h.1 h.2
  · rintro rfl; simp
theorem rsame_eq {a b : saved_Record} (hl : a.L.length < 2 ^ 60) : R55_Same a b = some (decide (a = b)) := by
  unfold R55_Same R55_SameF
  simp only [keyEq]
  by_cases h1 : a.Key = b.Key
  · rw [decide_eq_true h1, cond_true]
    by_cases h2 : a.Last = b.Last
    · rw [show (a.Last == b.Last) = true from by simpa using h2, cond_true, gsame_eq hl]
      simp only [Option.bind_some]
      congr 1
      rw [decide_eq_decide]
      exact ⟨fun h => saved_Record.ext h1 h2 h, fun h => by rw [h]⟩
    · rw [show (a.Last == b.Last) = false from by simpa using h2, cond_false, decide_eq_false]
      rintro rfl; exact h2 rfl
  · rw [decide_eq_false h1, cond_false, decide_eq_false]
    rintro rfl; exact h1 rfl
theorem awake55 : law55_awake = some true := by decide +kernel
theorem lback_eq (r : saved_Record) : law55_back r = some r := rfl
theorem getR_len (s : List UInt8) : (getR s).1.L.length ≤ 255 := by
  unfold getR
  split
  · simp [zeroR]
  split
  · simp [zeroR]
  split
  · simp [zeroR]
  · have hv : valL ((s.drop 22).take 1) < 256 := val_take_lt _ (by decide)
    unfold finG
    split
    · simp [zeroR]
    · rename_i l g' r e
      have := (recs_len e).1
      split
      · simp [zeroR]
      · split
        · simp; omega
        · simp [zeroR]
theorem savedSealed (s : List UInt8) : law55_SavedSealed s = some true := by
  unfold law55_SavedSealed law55_SavedSealedF
  rw [awake55, Option.bind_some]
  by_cases h : (s.length : Int) > 300
  · rw [cond_p h]
  rw [cond_n h, oreq_p (by omega), rseal_eq (by simp; omega), Option.bind_some, oreq_p (by simp [sealS_len]; omega)]
  obtain ⟨t, ht⟩ : ∃ t, ([67, 76, 75, 49] ++ s) ++ sealS ([67, 76, 75, 49] ++ s) = t := ⟨_, rfl⟩
  have htl : t.length < 2 ^ 30 := by rw [← ht]; simp [sealS_len]; omega
  have := getR_len t
  rw [ht, pgetR_eq htl, Option.bind_some, Option.bind_some, oreq_p (by simp [sealS_len]; omega), ht, rgetR_eq htl, Option.bind_some, lback_eq, Option.bind_some, oreq_p rfl, rsame_eq (by simp only []; omega), Option.bind_some]
  simp
end Go.Vm.Code
