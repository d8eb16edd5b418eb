import Derived.Test.YtdnbalelfakjhaaNStampPatche
namespace Go.Vm.Code
open Go Go.Vm Go.Proofs
set_option maxRecDepth 100000
set_option maxHeartbeats 4000000
set_option linter.unusedVariables false
def R07_List_s1 (options : List UInt8) (i : Int) (out1 : List R07_Opt) : Option (Sum (Int × (List R07_Opt)) ((List R07_Opt) × Int)) :=
  cond (decide (i < (options.length : Int)))
    (
    oreq (decide (0 ≤ i)) <|
    (options[i.toNat]?).bind fun (b : UInt8) =>
    cond ((b.toNat : Int) != 0)
      (
      oreq (decide (0 ≤ i)) <|
      (options[i.toNat]?).bind fun (b1 : UInt8) =>
      cond ((b1.toNat : Int) == 1)
        (
        some (.inl (wI .i64 (i + 1), out1)))
        (
        let t := decide ((wI .i64 (i + 1)) ≥ (options.length : Int))
        cond (t)
          (
          some (.inr (([], 3))))
          (
          oreq (decide (0 ≤ (wI .i64 (i + 1)))) <|
          (options[(wI .i64 (i + 1)).toNat]?).bind fun (b2 : UInt8) =>
          cond (decide ((b2.toNat : Int) < 2))
            (
            some (.inr (([], 3))))
            (
            oreq (decide (0 ≤ (wI .i64 (i + 1)))) <|
            (options[(wI .i64 (i + 1)).toNat]?).bind fun (b3 : UInt8) =>
            let t1 := decide ((wI .i64 (b3.toNat : Int)) > (wI .i64 ((options.length : Int) - i)))
            cond (t1)
              (
              some (.inr (([], 3))))
              (
              oreq (decide (0 ≤ (wI .i64 (i + 1)))) <|
              (options[(wI .i64 (i + 1)).toNat]?).bind fun (b4 : UInt8) =>
              oreq (decide (0 ≤ i)) <|
              (options[i.toNat]?).bind fun (b5 : UInt8) =>
              oreq (decide ((0 : Int) ≤ (wI .i64 (i + (wI .i64 (b4.toNat : Int)))) ∧ (wI .i64 (i + (wI .i64 (b4.toNat : Int)))) ≤ (options.length : Int) ∧ (0 : Int) ≤ (wI .i64 (i + 2)) ∧ (wI .i64 (i + 2)) ≤ ((wI .i64 (i + (wI .i64 (b4.toNat : Int)))).toNat : Int))) <|
              let t2 := (options.drop (wI .i64 (i + 2)).toNat).take ((wI .i64 (i + (wI .i64 (b4.toNat : Int)))).toNat - (wI .i64 (i + 2)).toNat)
              oreq (decide ((out1.length + 1) * 32 ≤ 2 ^ 47)) <|
              let row := out1 ++ [R07_Opt.mk (wI .i64 (b5.toNat : Int)) t2 (wI .i64 (i + 2))]
              some (.inl (wI .i64 (i + (wI .i64 (b4.toNat : Int))), row)))))))
      (
      some (.inr ((out1, 0)))))
    (
    some (.inr ((out1, 0))))
def R07_ListF (options : List UInt8) : Option ((List R07_Opt) × Int) :=
  iter (fun st => R07_List_s1 options st.1 st.2) FUEL (0, [])
def rx95 (x : (List R07_Opt) × Int) : SRes := ⟨.tuple ⟨[.slice (some ⟨0, 0, none⟩) x.1.length 3, .int .i64 x.2]⟩, [(vT cR07_Opt x.1)], []⟩
def r95 (g : (List UInt8) → Option ((List R07_Opt) × Int)) : Dec := dV asS fun (y0 : List UInt8) => dEnd (ofG (g y0) rx95)
theorem r95_c {g : (List UInt8) → Option ((List R07_Opt) × Int)} {y0 : List UInt8} {x : (List R07_Opt) × Int} (hx : g y0 = some x) : r95 g [.string ⟨⟨y0⟩⟩] [] = some (rx95 x) := (dV_eq (asS_c)).trans (ofG_eq hx)
def s95 (g : (List UInt8) → Option ((List R07_Opt) × Int)) : Summ := ⟨[.v], r95 g⟩
theorem r95_eq {g : (List UInt8) → Option ((List R07_Opt) × Int)} {y0 : List UInt8} {x : (List R07_Opt) × Int} (hx : g y0 = some x) : (s95 g).run [.string ⟨⟨y0⟩⟩] [] = some (rx95 x) := r95_c hx
abbrev sums95 : List (Nat × Summ) := []
def head95_1 (options : List UInt8) (i : Int) (out1 : List R07_Opt) : VM :=
  ⟨⟨95, 73, [(0, .string ⟨⟨options⟩⟩), (4, .slice (some ⟨0, 0, none⟩) out1.length 3), (5, .int .i64 i)], [.code k95_24, .inLoop k95_24, .inBlock 0, .code k95_29], [], false, none⟩, [], [(0, .row true (vT cR07_Opt out1))], 1⟩
theorem loop95_1 (hS : SumsOK Try.prog (aget (sums95))) (options : List UInt8) (res : (List R07_Opt) × Int) : ∀ fuel (st : Int × (List R07_Opt)) (o : (List R07_Opt) × Int), iter (fun st => R07_List_s1 options st.1 st.2) fuel st = some o → (o = res) →
    Leads Try.prog 95 0 (head95_1 options st.1 st.2) (fun v H t => ∃ v' H' t', NilW v H t v' H' t' ∧ Res 0 (rx95 res) v' H') := by
  intro fuel st o h hc
  refine iter_leads (head := fun st => head95_1 options st.1 st.2) (C := fun o => (o = res)) ?_ fuel st o h hc
  clear h hc o st fuel
  intro st o h hc
  obtain ⟨i, out1⟩ := st
  replace h : R07_List_s1 options i out1 = some o := h
  show Leads Try.prog 95 0 (head95_1 options i out1) (fun v H t => ∃ v' H' t', NilW v H t v' H' t' ∧ Res 0 (rx95 res) v' H')
  unfold R07_List_s1 at h
  refine ev_ok tab_ok hS true 3000 ?_
  conv => whnf
  refine br.h2 h ?_ ?_ ?_
  · rfl
  · clear h; intro hb h; conv => whnf
    all_goals (cases h; cases hc)
    all_goals exact ⟨_, _, _, (.refl _ _ _), Res.of [0] rfl (nw_s (rn_T cR07_Opt_flat) (hs_row rfl) nw_0) (by decide) (js_l (by decide) js_0) wr_0⟩
  clear h; intro hb h; conv => whnf
  replace h := oreq.elim h; obtain ⟨hb, h⟩ := h
  first | (refine req.intro hb ?_; conv => whnf) | skip
  replace h := obind.elim h; obtain ⟨b, hy, h⟩ := h
  refine rdS.intro hy ?_
  conv => whnf
  refine br.h2 h ?_ ?_ ?_
  · rfl
  · clear h; intro hb h; conv => whnf
    all_goals (cases h; cases hc)
    all_goals exact ⟨_, _, _, (.refl _ _ _), Res.of [0] rfl (nw_s (rn_T cR07_Opt_flat) (hs_row rfl) nw_0) (by decide) (js_l (by decide) js_0) wr_0⟩
  clear h; intro hb h; conv => whnf
  replace h := oreq.elim h; obtain ⟨hb, h⟩ := h
  first | (refine req.intro hb ?_; conv => whnf) | skip
  replace h := obind.elim h; obtain ⟨b1, hy, h⟩ := h
  refine rdS.intro hy ?_
  conv => whnf
  refine br.h h ?_ ?_ ?_
  · rfl
  · clear h; intro hb h; conv => whnf
    cases h; simp only [Sum.elim_inl, head95_1] at hc
    exact lrA0 hc [(0, 0)] rfl
  clear h; intro hb h; conv => whnf
  let t : Bool := decide ((wI .i64 (i + 1)) ≥ (options.length : Int))
  refine br.h h ?_ ?_ ?_
  · rfl
  · clear h; intro hb h; conv => whnf
    all_goals (cases h; cases hc)
    all_goals exact ⟨_, _, _, (.val (.tup (.cons (.nil _ _) (.cons (.same _) .nil))) (.refl _ _ _)), Res.of [1] rfl (nw_s (rn_T cR07_Opt_flat) (hs_row rfl) nw_0) (by decide) (js_l (by decide) js_0) wr_0⟩
  clear h; intro hb h; conv => whnf
  replace h := oreq.elim h; obtain ⟨hb, h⟩ := h
  first | (refine req.intro hb ?_; conv => whnf) | skip
  replace h := obind.elim h; obtain ⟨b2, hy, h⟩ := h
  refine rdS.intro hy ?_
  conv => whnf
  refine br.h h ?_ ?_ ?_
  · rfl
  · clear h; intro hb h; conv => whnf
    all_goals (cases h; cases hc)
    all_goals exact ⟨_, _, _, (.val (.tup (.cons (.nil _ _) (.cons (.same _) .nil))) (.refl _ _ _)), Res.of [1] rfl (nw_s (rn_T cR07_Opt_flat) (hs_row rfl) nw_0) (by decide) (js_l (by decide) js_0) wr_0⟩
  clear h; intro hb h; conv => whnf
  replace h := oreq.elim h; obtain ⟨hb, h⟩ := h
  first | (refine req.intro hb ?_; conv => whnf) | skip
  replace h := obind.elim h; obtain ⟨b3, hy, h⟩ := h
  refine rdS.intro hy ?_
  conv => whnf
  let t1 : Bool := decide ((wI .i64 (b3.toNat : Int)) > (wI .i64 ((options.length : Int) - i)))
  refine br.h h ?_ ?_ ?_
  · rfl
  · clear h; intro hb h; conv => whnf
    all_goals (cases h; cases hc)
    all_goals exact ⟨_, _, _, (.val (.tup (.cons (.nil _ _) (.cons (.same _) .nil))) (.refl _ _ _)), Res.of [1] rfl (nw_s (rn_T cR07_Opt_flat) (hs_row rfl) nw_0) (by decide) (js_l (by decide) js_0) wr_0⟩
  clear h; intro hb h; conv => whnf
  replace h := oreq.elim h; obtain ⟨hb, h⟩ := h
  first | (refine req.intro hb ?_; conv => whnf) | skip
  replace h := obind.elim h; obtain ⟨b4, hy, h⟩ := h
  refine rdS.intro hy ?_
  conv => whnf
  replace h := oreq.elim h; obtain ⟨hb, h⟩ := h
  first | (refine req.intro hb ?_; conv => whnf) | skip
  replace h := obind.elim h; obtain ⟨b5, hy, h⟩ := h
  refine rdS.intro hy ?_
  conv => whnf
  replace h := oreq.elim h; obtain ⟨hb, h⟩ := h
  first | (refine req.intro hb ?_; conv => whnf) | skip
  let t2 : List UInt8 := (options.drop (wI .i64 (i + 2)).toNat).take ((wI .i64 (i + (wI .i64 (b4.toNat : Int)))).toNat - (wI .i64 (i + 2)).toNat)
  replace h := oreq.elim h; obtain ⟨hb, h⟩ := h
  refine req.intro (ap_req (of_decide_eq_true hb) (by first | rfl | omega | (simp; done) | (simp; omega) | (simp at *; omega)) rfl (by first | rfl | omega | (simp; done) | (simp; omega) | (simp at *; omega)) (by first | rfl | exact vI_one _ _ | exact vS_one _ | exact vB_one _ | exact vT_one (by first | exact capi_Addr_one | exact capi_Tuple_one | exact ctcp_Head_one | exact cipsix_Head_one | exact cipfour_Head_one | exact capi_Packet_one | exact cpacket_outer_one | exact coctet_Reader_one | exact ctcp_Opt_one | exact cudp_Head_one | exact cquic_Head_one | exact cR11_head_one | exact cR07_Opt_one) _ | (rw [ofBytes_vI]; exact vI_one _ _) | simp [vI_one, vS_one, vB_one, vI_drop, vI_take, vS_drop, vS_take]) rfl) ?_
  conv => whnf
  let row : List R07_Opt := out1 ++ [R07_Opt.mk (wI .i64 (b5.toNat : Int)) t2 (wI .i64 (i + 2))]
  refine pk_apT cR07_Opt_len (xs := out1) (ys := [R07_Opt.mk (wI .i64 (b5.toNat : Int)) t2 (wI .i64 (i + 2))]) rfl (by first | rfl | omega) (by first | (simp; done) | (simp; omega)) (by first | (simp; done) | (simp; omega)) ?_
  conv => whnf
  cases h; simp only [Sum.elim_inl, head95_1] at hc
  exact lrA0 hc [(0, 18)] rfl
theorem leads95 (hS : SumsOK Try.prog (aget (sums95))) (options : List UInt8) (res : (List R07_Opt) × Int) (h : R07_ListF options = some res) :
    Leads Try.prog 95 0 ⟨⟨95, 73, [(0, .string ⟨⟨options⟩⟩)], [.code k95_32], [], false, none⟩, [], [], 0⟩ (fun v H _ => Res 0 (rx95 res) v H) := by
  refine Leads.nilW (R := fun v' H' => Res 0 (rx95 res) v' H') ?_
  unfold R07_ListF at h
  refine ev_ok tab_ok hS true 3000 ?_
  conv => whnf
  have hl := loop95_1 hS _ res _ _ _ h rfl; simp only [head95_1] at hl
  refine Leads.nilT 4 3 ?_
  exact lrA0 hl [(0, 0)] rfl
theorem ok95 (hS : SumsOK Try.prog (aget (sums95))) : SumOK Try.prog 95 (s95 (R07_ListF)) := by
  refine SumOK.of_leads tab_ok (fun ar os r ha hr => ?_) ⟨Try.f95, rfl, by decide, rfl⟩
  replace hr : r95 (R07_ListF) ar (conts os) = some r := hr
  unfold r95 at hr
  generalize hc : conts os = C at hr
  replace hr := dV.elim hr; obtain ⟨v0, l1, y0, rfl, e0, hr⟩ := hr; obtain rfl := asS_eq _ _ e0
  replace hr := dFin hr; obtain ⟨rfl, rfl, x, h, rfl⟩ := hr
  obtain rfl := kinds_nil hc
  exact ⟨_, rfl, leads95 hS _ x h⟩
def R07_List : (List UInt8) → Option ((List R07_Opt) × Int) := R07_ListF
theorem lift95 : SumOK Try.prog 95 (s95 R07_List) := ok95 (SumsOK.of_tab trivial)
def R07_GetF (R02_Must : (List UInt8) → Int → Int → Option Int) (R03_Sum : (List UInt8) → Option Int) (R05_Pseudo : api_Addr → api_Addr → Int → Int → Option (List UInt8)) (R07_List : (List UInt8) → Option ((List R07_Opt) × Int)) (s : List UInt8) (src : api_Addr) (dst : api_Addr) : Option (tcp_Head × (List UInt8) × Int) :=
  cond (decide ((s.length : Int) < 20))
    (
    some ((tcp_Head.mk 0 0 0 0 0 0 0 [], [], 2)))
    (
    (s[12]?).bind fun (b : UInt8) =>
    let t := wI .i64 (wI .u8 ((b.toNat : Int).tdiv 16))
    cond (decide ((wI .i64 (4 * t)) < 20))
      (
      some ((tcp_Head.mk 0 0 0 0 0 0 0 [], [], 3)))
      (
      (s[12]?).bind fun (b1 : UInt8) =>
      cond (((b1.toNat : Int).tmod 16) != 0)
        (
        some ((tcp_Head.mk 0 0 0 0 0 0 0 [], [], 3)))
        (
        let t1 := decide ((s.length : Int) < (wI .i64 (4 * t)))
        cond (t1)
          (
          some ((tcp_Head.mk 0 0 0 0 0 0 0 [], [], 2)))
          (
          (R05_Pseudo src dst 6 (s.length : Int)).bind fun p =>
          cond (p == [])
            (
            some ((tcp_Head.mk 0 0 0 0 0 0 0 [], [], 1)))
            (
            oreq (decide (p.length + s.length < 2 ^ 63)) <|
            (R03_Sum (p ++ s)).bind fun s1 =>
            cond (s1 != 65535)
              (
              some ((tcp_Head.mk 0 0 0 0 0 0 0 [], [], 4)))
              (
              oreq (decide ((0 : Int) ≤ (wI .i64 (4 * t)) ∧ (wI .i64 (4 * t)) ≤ (s.length : Int) ∧ (0 : Int) ≤ (20 : Int) ∧ (20 : Int) ≤ ((wI .i64 (4 * t)).toNat : Int))) <|
              let t2 := (s.drop 20).take ((wI .i64 (4 * t)).toNat - 20)
              (R07_List t2).bind fun l =>
              cond (l.2 != 0)
                (
                some ((tcp_Head.mk 0 0 0 0 0 0 0 [], [], l.2)))
                (
                (R02_Must s 0 2).bind fun m =>
                (R02_Must s 2 2).bind fun m1 =>
                (R02_Must s 4 4).bind fun m2 =>
                (R02_Must s 8 4).bind fun m3 =>
                (s[13]?).bind fun (b2 : UInt8) =>
                (R02_Must s 14 2).bind fun m4 =>
                (R02_Must s 18 2).bind fun m5 =>
                oreq (decide ((0 : Int) ≤ (wI .i64 (4 * t)) ∧ (wI .i64 (4 * t)) ≤ (s.length : Int) ∧ (0 : Int) ≤ (20 : Int) ∧ (20 : Int) ≤ ((wI .i64 (4 * t)).toNat : Int))) <|
                let t3 := (s.drop 20).take ((wI .i64 (4 * t)).toNat - 20)
                oreq (decide ((0 : Int) ≤ (wI .i64 (4 * t)) ∧ (wI .i64 (4 * t)) ≤ (s.length : Int))) <|
                let t4 := (s.drop (wI .i64 (4 * t)).toNat).take (s.length - (wI .i64 (4 * t)).toNat)
                some ((tcp_Head.mk m m1 (wI .u32 m2) (wI .u32 m3) (wI .i64 (b2.toNat : Int)) m4 m5 t3, t4, 0)))))))))
def rx67 (x : tcp_Head × (List UInt8) × Int) : SRes := ⟨.tuple ⟨[.agg ⟨[.int .i64 x.1.SPort, .int .i64 x.1.DPort, .int .u32 x.1.Seq, .int .u32 x.1.Ack, .int .i64 x.1.Flags, .int .i64 x.1.Window, .int .i64 x.1.Urgent, .string ⟨⟨x.1.Options⟩⟩]⟩, .string ⟨⟨x.2.1⟩⟩, .int .i64 x.2.2]⟩, [], []⟩
def r67 (g : (List UInt8) → api_Addr → api_Addr → Option (tcp_Head × (List UInt8) × Int)) : Dec := dV asS fun (y0 : List UInt8) => dV uvapi_Addr fun (y1 : api_Addr) => dV uvapi_Addr fun (y2 : api_Addr) => dEnd (ofG (g y0 y1 y2) rx67)
theorem r67_c {g : (List UInt8) → api_Addr → api_Addr → Option (tcp_Head × (List UInt8) × Int)} {y0 : List UInt8} {y1 : api_Addr} {y2 : api_Addr} {x : tcp_Head × (List UInt8) × Int} (hx : g y0 y1 y2 = some x) : r67 g [.string ⟨⟨y0⟩⟩, .agg ⟨[.bool y1.V6, .int .u64 y1.Hi, .int .u64 y1.Lo]⟩, .agg ⟨[.bool y2.V6, .int .u64 y2.Hi, .int .u64 y2.Lo]⟩] [] = some (rx67 x) := (dV_eq (asS_c)).trans ((dV_eq (uvapi_Addr_c _)).trans ((dV_eq (uvapi_Addr_c _)).trans (ofG_eq hx)))
def s67 (g : (List UInt8) → api_Addr → api_Addr → Option (tcp_Head × (List UInt8) × Int)) : Summ := ⟨[.v, .v, .v], r67 g⟩
theorem r67_eq {g : (List UInt8) → api_Addr → api_Addr → Option (tcp_Head × (List UInt8) × Int)} {y0 : List UInt8} {y1 : api_Addr} {y2 : api_Addr} {x : tcp_Head × (List UInt8) × Int} (hx : g y0 y1 y2 = some x) : (s67 g).run [.string ⟨⟨y0⟩⟩, .agg ⟨[.bool y1.V6, .int .u64 y1.Hi, .int .u64 y1.Lo]⟩, .agg ⟨[.bool y2.V6, .int .u64 y2.Hi, .int .u64 y2.Lo]⟩] [] = some (rx67 x) := r67_c hx
abbrev sums67 (R02_Must : (List UInt8) → Int → Int → Option Int) (R03_Sum : (List UInt8) → Option Int) (R05_Pseudo : api_Addr → api_Addr → Int → Int → Option (List UInt8)) (R07_List : (List UInt8) → Option ((List R07_Opt) × Int)) : List (Nat × Summ) := [(45, s45 R02_Must), (12, s12 R03_Sum), (59, s59 R05_Pseudo), (95, s95 R07_List)]
theorem leads67 (R02_Must : (List UInt8) → Int → Int → Option Int) (R03_Sum : (List UInt8) → Option Int) (R05_Pseudo : api_Addr → api_Addr → Int → Int → Option (List UInt8)) (R07_List : (List UInt8) → Option ((List R07_Opt) × Int)) (hS : SumsOK Try.prog (aget (sums67 R02_Must R03_Sum R05_Pseudo R07_List))) (s : List UInt8) (src : api_Addr) (dst : api_Addr) (res : tcp_Head × (List UInt8) × Int) (h : R07_GetF R02_Must R03_Sum R05_Pseudo R07_List s src dst = some res) :
    Leads Try.prog 67 0 ⟨⟨67, 85, [(0, .string ⟨⟨s⟩⟩), (1, .agg ⟨[.bool src.V6, .int .u64 src.Hi, .int .u64 src.Lo]⟩), (2, .agg ⟨[.bool dst.V6, .int .u64 dst.Hi, .int .u64 dst.Lo]⟩)], [.code k67_45], [], false, none⟩, [], [], 0⟩ (fun v H _ => Res 0 (rx67 res) v H) := by
  unfold R07_GetF at h
  refine ev_ok tab_ok hS true 3000 ?_
  conv => whnf
  refine br.h h ?_ ?_ ?_
  · rfl
  · clear h; intro hb h; conv => whnf
    all_goals (cases h; exact Res.z rfl rfl rfl)
  clear h; intro hb h; conv => whnf
  replace h := obind.elim h; obtain ⟨b, hy, h⟩ := h
  refine rdS.intro hy ?_
  conv => whnf
  let t : Int := wI .i64 (wI .u8 ((b.toNat : Int).tdiv 16))
  refine br.h h ?_ ?_ ?_
  · rfl
  · clear h; intro hb h; conv => whnf
    all_goals (cases h; exact Res.z rfl rfl rfl)
  clear h; intro hb h; conv => whnf
  replace h := obind.elim h; obtain ⟨b1, hy, h⟩ := h
  refine rdS.intro hy ?_
  conv => whnf
  refine br.h h ?_ ?_ ?_
  · rfl
  · clear h; intro hb h; conv => whnf
    all_goals (cases h; exact Res.z rfl rfl rfl)
  clear h; intro hb h; conv => whnf
  let t1 : Bool := decide ((s.length : Int) < (wI .i64 (4 * t)))
  refine br.h h ?_ ?_ ?_
  · rfl
  · clear h; intro hb h; conv => whnf
    all_goals (cases h; exact Res.z rfl rfl rfl)
  clear h; intro hb h; conv => whnf
  replace h := obind.elim h; obtain ⟨p, hy, h⟩ := h
  refine sumK.q rfl rfl (r59_eq hy) rfl rfl rfl ?_
  conv => whnf
  refine br.h h ?_ ?_ ?_
  · rfl
  · clear h; intro hb h; conv => whnf
    all_goals (cases h; exact Res.z rfl rfl rfl)
  clear h; intro hb h; conv => whnf
  replace h := oreq.elim h; obtain ⟨hb, h⟩ := h
  first | (refine req.intro hb ?_; conv => whnf) | skip
  replace h := obind.elim h; obtain ⟨s1, hy, h⟩ := h
  refine sumK.q rfl rfl (r12_eq hy) rfl rfl rfl ?_
  conv => whnf
  refine br.h h ?_ ?_ ?_
  · rfl
  · clear h; intro hb h; conv => whnf
    all_goals (cases h; exact Res.z rfl rfl rfl)
  clear h; intro hb h; conv => whnf
  replace h := oreq.elim h; obtain ⟨hb, h⟩ := h
  first | (refine req.intro hb ?_; conv => whnf) | skip
  let t2 : List UInt8 := (s.drop 20).take ((wI .i64 (4 * t)).toNat - 20)
  replace h := obind.elim h; obtain ⟨l, hy, h⟩ := h
  refine sumK.introF [] (sumRun_of (aqs := [.string ⟨⟨t2⟩⟩]) (ws := []) (n := 1) (m := 0) (t' := 4) (ra_cons rfl rfl ra_nil) rfl (by rfl) (r95_eq hy) rfl rfl rfl rfl wb_nil (an_cons (rn_T cR07_Opt_flat) an_nil) rfl) ?_
  conv => whnf
  refine br.h h ?_ ?_ ?_
  · rfl
  · clear h; intro hb h; conv => whnf
    all_goals (cases h; exact Res.z rfl rfl rfl)
  clear h; intro hb h; conv => whnf
  replace h := obind.elim h; obtain ⟨m, hy, h⟩ := h
  refine sumK.q rfl rfl (r45_eq hy) rfl rfl rfl ?_
  conv => whnf
  replace h := obind.elim h; obtain ⟨m1, hy, h⟩ := h
  refine sumK.q rfl rfl (r45_eq hy) rfl rfl rfl ?_
  conv => whnf
  replace h := obind.elim h; obtain ⟨m2, hy, h⟩ := h
  refine sumK.q rfl rfl (r45_eq hy) rfl rfl rfl ?_
  conv => whnf
  replace h := obind.elim h; obtain ⟨m3, hy, h⟩ := h
  refine sumK.q rfl rfl (r45_eq hy) rfl rfl rfl ?_
  conv => whnf
  replace h := obind.elim h; obtain ⟨b2, hy, h⟩ := h
  refine rdS.intro hy ?_
  conv => whnf
  replace h := obind.elim h; obtain ⟨m4, hy, h⟩ := h
  refine sumK.q rfl rfl (r45_eq hy) rfl rfl rfl ?_
  conv => whnf
  replace h := obind.elim h; obtain ⟨m5, hy, h⟩ := h
  refine sumK.q rfl rfl (r45_eq hy) rfl rfl rfl ?_
  conv => whnf
  replace h := oreq.elim h; obtain ⟨hb, h⟩ := h
  first | (refine req.intro hb ?_; conv => whnf) | skip
  let t3 : List UInt8 := (s.drop 20).take ((wI .i64 (4 * t)).toNat - 20)
  replace h := oreq.elim h; obtain ⟨hb, h⟩ := h
  first | (refine req.intro hb ?_; conv => whnf) | skip
  let t4 : List UInt8 := (s.drop (wI .i64 (4 * t)).toNat).take (s.length - (wI .i64 (4 * t)).toNat)
  all_goals (cases h; exact Res.z rfl rfl rfl)
theorem ok67 (R02_Must : (List UInt8) → Int → Int → Option Int) (R03_Sum : (List UInt8) → Option Int) (R05_Pseudo : api_Addr → api_Addr → Int → Int → Option (List UInt8)) (R07_List : (List UInt8) → Option ((List R07_Opt) × Int)) (hS : SumsOK Try.prog (aget (sums67 R02_Must R03_Sum R05_Pseudo R07_List))) : SumOK Try.prog 67 (s67 (R07_GetF R02_Must R03_Sum R05_Pseudo R07_List)) := by
  refine SumOK.of_leads tab_ok (fun ar os r ha hr => ?_) ⟨Try.f67, rfl, by decide, rfl⟩
  replace hr : r67 (R07_GetF R02_Must R03_Sum R05_Pseudo R07_List) ar (conts os) = some r := hr
  unfold r67 at hr
  generalize hc : conts os = C at hr
  replace hr := dV.elim hr; obtain ⟨v0, l1, y0, rfl, e0, hr⟩ := hr; obtain rfl := asS_eq _ _ e0
  replace hr := dV.elim hr; obtain ⟨v1, l2, y1, rfl, e1, hr⟩ := hr; obtain rfl := uvapi_Addr_eq _ _ e1
  replace hr := dV.elim hr; obtain ⟨v2, l3, y2, rfl, e2, hr⟩ := hr; obtain rfl := uvapi_Addr_eq _ _ e2
  replace hr := dFin hr; obtain ⟨rfl, rfl, x, h, rfl⟩ := hr
  obtain rfl := kinds_nil hc
  exact ⟨_, rfl, leads67 R02_Must R03_Sum R05_Pseudo R07_List hS _ _ _ x h⟩
def R07_Get : (List UInt8) → api_Addr → api_Addr → Option (tcp_Head × (List UInt8) × Int) := R07_GetF R02_Must R03_Sum R05_Pseudo R07_List
theorem lift67 : SumOK Try.prog 67 (s67 R07_Get) := ok67 R02_Must R03_Sum R05_Pseudo R07_List (SumsOK.of_tab ⟨lift45, lift12, lift59, lift95, trivial⟩)
def R07_Stamp_s1 (R02_Must : (List UInt8) → Int → Int → Option Int) (l : (List R07_Opt) × Int) (i : Int) : Option (Sum Int (Int × Int × Int)) :=
  cond (decide (i < (l.1.length : Int)))
    (
    oreq (decide ((0 : Int) ≤ i ∧ i < (l.1.length : Int))) <|
    (l.1[i.toNat]?).bind fun (e : R07_Opt) =>
    cond (e.Kind == 8)
      (
      oreq (decide ((0 : Int) ≤ i ∧ i < (l.1.length : Int))) <|
      cond ((e.Data.length : Int) != 8)
        (
        some (.inr ((0, 0, (-1)))))
        (
        oreq (decide ((0 : Int) ≤ i ∧ i < (l.1.length : Int))) <|
        (R02_Must e.Data 0 4).bind fun m =>
        oreq (decide ((0 : Int) ≤ i ∧ i < (l.1.length : Int))) <|
        (R02_Must e.Data 4 4).bind fun m1 =>
        oreq (decide ((0 : Int) ≤ i ∧ i < (l.1.length : Int))) <|
        some (.inr ((wI .u32 m, wI .u32 m1, e.At)))))
      (
      some (.inl (wI .i64 (i + 1)))))
    (
    some (.inr ((0, 0, (-1)))))
def R07_StampF (R02_Must : (List UInt8) → Int → Int → Option Int) (R07_List : (List UInt8) → Option ((List R07_Opt) × Int)) (options : List UInt8) : Option (Int × Int × Int) :=
  (R07_List options).bind fun l =>
  iter (fun st => R07_Stamp_s1 R02_Must l st) FUEL 0
def rx68 (x : Int × Int × Int) : SRes := ⟨.tuple ⟨[.int .u32 x.1, .int .u32 x.2.1, .int .i64 x.2.2]⟩, [], []⟩
def r68 (g : (List UInt8) → Option (Int × Int × Int)) : Dec := dV asS fun (y0 : List UInt8) => dEnd (ofG (g y0) rx68)
theorem r68_c {g : (List UInt8) → Option (Int × Int × Int)} {y0 : List UInt8} {x : Int × Int × Int} (hx : g y0 = some x) : r68 g [.string ⟨⟨y0⟩⟩] [] = some (rx68 x) := (dV_eq (asS_c)).trans (ofG_eq hx)
def s68 (g : (List UInt8) → Option (Int × Int × Int)) : Summ := ⟨[.v], r68 g⟩
theorem r68_eq {g : (List UInt8) → Option (Int × Int × Int)} {y0 : List UInt8} {x : Int × Int × Int} (hx : g y0 = some x) : (s68 g).run [.string ⟨⟨y0⟩⟩] [] = some (rx68 x) := r68_c hx
abbrev sums68 (R02_Must : (List UInt8) → Int → Int → Option Int) (R07_List : (List UInt8) → Option ((List R07_Opt) × Int)) : List (Nat × Summ) := [(45, s45 R02_Must), (95, s95 R07_List)]
def head68_1 (l : (List R07_Opt) × Int) (i : Int) : VM :=
  ⟨⟨68, 51, [(5, .slice (some ⟨0, 0, none⟩) l.1.length 3), (7, .int .i64 i)], [.code k68_20, .inLoop k68_20, .inBlock 0, .code k68_25], [], false, none⟩, [], [(0, .row true (vT cR07_Opt l.1))], 1⟩
theorem loop68_1 (R02_Must : (List UInt8) → Int → Int → Option Int) (R07_List : (List UInt8) → Option ((List R07_Opt) × Int)) (hS : SumsOK Try.prog (aget (sums68 R02_Must R07_List))) (l : (List R07_Opt) × Int) (res : Int × Int × Int) : ∀ fuel (st : Int) (o : Int × Int × Int), iter (fun st => R07_Stamp_s1 R02_Must l st) fuel st = some o → (o = res) →
    Leads Try.prog 68 0 (head68_1 l st) (fun v H _ => Res 0 (rx68 res) v H) := by
  intro fuel st o h hc
  refine iter_leads (head := fun st => head68_1 l st) (C := fun o => (o = res)) ?_ fuel st o h hc
  clear h hc o st fuel
  intro i o h hc
  replace h : R07_Stamp_s1 R02_Must l i = some o := h
  show Leads Try.prog 68 0 (head68_1 l i) (fun v H _ => Res 0 (rx68 res) v H)
  unfold R07_Stamp_s1 at h
  refine ev_ok tab_ok hS true 3000 ?_
  conv => whnf
  refine br.h2 h ?_ ?_ ?_
  · rfl
  · clear h; intro hb h; conv => whnf
    all_goals (cases h; cases hc; exact Res.z rfl rfl rfl)
  clear h; intro hb h; conv => whnf
  replace h := oreq.elim h; obtain ⟨hb, h⟩ := h
  first | (refine req.intro hb ?_; conv => whnf) | skip
  replace h := obind.elim h; obtain ⟨e, hy, h⟩ := h
  refine rd.T (j := 0) cR07_Opt_len hy (by omega) (by decide) rfl ?_
  conv => whnf
  refine br.h2 h ?_ ?_ ?_
  · rfl
  · clear h; intro hb h; conv => whnf
    cases h; simp only [Sum.elim_inl, head68_1] at hc
    exact lrA0 hc [(0, 0)] rfl
  clear h; intro hb h; conv => whnf
  replace h := oreq.elim h; obtain ⟨hb, h⟩ := h
  first | (refine req.intro hb ?_; conv => whnf) | skip
  refine rd.T (j := 1) cR07_Opt_len (by assumption) (by omega) (by decide) rfl ?_
  conv => whnf
  refine br.h h ?_ ?_ ?_
  · rfl
  · clear h; intro hb h; conv => whnf
    all_goals (cases h; cases hc; exact Res.z rfl rfl rfl)
  clear h; intro hb h; conv => whnf
  replace h := oreq.elim h; obtain ⟨hb, h⟩ := h
  first | (refine req.intro hb ?_; conv => whnf) | skip
  refine rd.T (j := 1) cR07_Opt_len (by assumption) (by omega) (by decide) rfl ?_
  conv => whnf
  replace h := obind.elim h; obtain ⟨m, hy, h⟩ := h
  refine sumK.q rfl rfl (r45_eq hy) rfl rfl rfl ?_
  conv => whnf
  replace h := oreq.elim h; obtain ⟨hb, h⟩ := h
  first | (refine req.intro hb ?_; conv => whnf) | skip
  refine rd.T (j := 1) cR07_Opt_len (by assumption) (by omega) (by decide) rfl ?_
  conv => whnf
  replace h := obind.elim h; obtain ⟨m1, hy, h⟩ := h
  refine sumK.q rfl rfl (r45_eq hy) rfl rfl rfl ?_
  conv => whnf
  replace h := oreq.elim h; obtain ⟨hb, h⟩ := h
  first | (refine req.intro hb ?_; conv => whnf) | skip
  refine rd.T (j := 2) cR07_Opt_len (by assumption) (by omega) (by decide) rfl ?_
  conv => whnf
  all_goals (cases h; cases hc; exact Res.z rfl rfl rfl)
theorem leads68 (R02_Must : (List UInt8) → Int → Int → Option Int) (R07_List : (List UInt8) → Option ((List R07_Opt) × Int)) (hS : SumsOK Try.prog (aget (sums68 R02_Must R07_List))) (options : List UInt8) (res : Int × Int × Int) (h : R07_StampF R02_Must R07_List options = some res) :
    Leads Try.prog 68 0 ⟨⟨68, 51, [(0, .string ⟨⟨options⟩⟩)], [.code k68_28], [], false, none⟩, [], [], 0⟩ (fun v H _ => Res 0 (rx68 res) v H) := by
  unfold R07_StampF at h
  refine ev_ok tab_ok hS true 3000 ?_
  conv => whnf
  replace h := obind.elim h; obtain ⟨l, hy, h⟩ := h
  refine sumK.introF [] (sumRun_of (aqs := [.string ⟨⟨options⟩⟩]) (ws := []) (n := 1) (m := 0) (t' := 1) (ra_cons rfl rfl ra_nil) rfl (by rfl) (r95_eq hy) rfl rfl rfl rfl wb_nil (an_cons (rn_T cR07_Opt_flat) an_nil) rfl) ?_
  conv => whnf
  have hl := loop68_1 R02_Must R07_List hS _ res _ _ _ h rfl; simp only [head68_1] at hl
  exact lrA0 hl [(0, 0)] rfl
theorem ok68 (R02_Must : (List UInt8) → Int → Int → Option Int) (R07_List : (List UInt8) → Option ((List R07_Opt) × Int)) (hS : SumsOK Try.prog (aget (sums68 R02_Must R07_List))) : SumOK Try.prog 68 (s68 (R07_StampF R02_Must R07_List)) := by
  refine SumOK.of_leads tab_ok (fun ar os r ha hr => ?_) ⟨Try.f68, rfl, by decide, rfl⟩
  replace hr : r68 (R07_StampF R02_Must R07_List) ar (conts os) = some r := hr
  unfold r68 at hr
  generalize hc : conts os = C at hr
  replace hr := dV.elim hr; obtain ⟨v0, l1, y0, rfl, e0, hr⟩ := hr; obtain rfl := asS_eq _ _ e0
  replace hr := dFin hr; obtain ⟨rfl, rfl, x, h, rfl⟩ := hr
  obtain rfl := kinds_nil hc
  exact ⟨_, rfl, leads68 R02_Must R07_List hS _ x h⟩
def R07_Stamp : (List UInt8) → Option (Int × Int × Int) := R07_StampF R02_Must R07_List
theorem lift68 : SumOK Try.prog 68 (s68 R07_Stamp) := ok68 R02_Must R07_List (SumsOK.of_tab ⟨lift45, lift95, trivial⟩)
def R08_GetF (R02_Must : (List UInt8) → Int → Int → Option Int) (R03_Sum : (List UInt8) → Option Int) (R05_Pseudo : api_Addr → api_Addr → Int → Int → Option (List UInt8)) (s : List UInt8) (src : api_Addr) (dst : api_Addr) : Option (udp_Head × (List UInt8) × Int) :=
  cond (decide ((s.length : Int) < 8))
    (
    some ((udp_Head.mk 0 0, [], 2)))
    (
    (R02_Must s 4 2).bind fun m =>
    cond (decide (m < 8))
      (
      some ((udp_Head.mk 0 0, [], 3)))
      (
      cond (decide ((s.length : Int) < m))
        (
        some ((udp_Head.mk 0 0, [], 2)))
        (
        (R05_Pseudo src dst 17 m).bind fun p =>
        cond (p == [])
          (
          some ((udp_Head.mk 0 0, [], 1)))
          (
          (R02_Must s 6 2).bind fun m1 =>
          cond (m1 == 0)
            (
            cond (src.V6)
              (
              some ((udp_Head.mk 0 0, [], 4)))
              (
              (R02_Must s 0 2).bind fun m2 =>
              (R02_Must s 2 2).bind fun m3 =>
              oreq (decide ((0 : Int) ≤ m ∧ m ≤ (s.length : Int) ∧ (0 : Int) ≤ (8 : Int) ∧ (8 : Int) ≤ (m.toNat : Int))) <|
              some ((udp_Head.mk m2 m3, (s.drop 8).take (m.toNat - 8), 0))))
            (
            oreq (decide ((0 : Int) ≤ m ∧ m ≤ (s.length : Int))) <|
            oreq (decide (p.length + (s.take m.toNat).length < 2 ^ 63)) <|
            (R03_Sum (p ++ (s.take m.toNat))).bind fun s1 =>
            cond (s1 != 65535)
              (
              some ((udp_Head.mk 0 0, [], 4)))
              (
              (R02_Must s 0 2).bind fun m4 =>
              (R02_Must s 2 2).bind fun m5 =>
              oreq (decide ((0 : Int) ≤ m ∧ m ≤ (s.length : Int) ∧ (0 : Int) ≤ (8 : Int) ∧ (8 : Int) ≤ (m.toNat : Int))) <|
              some ((udp_Head.mk m4 m5, (s.drop 8).take (m.toNat - 8), 0))))))))
def rx69 (x : udp_Head × (List UInt8) × Int) : SRes := ⟨.tuple ⟨[.agg ⟨[.int .i64 x.1.SPort, .int .i64 x.1.DPort]⟩, .string ⟨⟨x.2.1⟩⟩, .int .i64 x.2.2]⟩, [], []⟩
def r69 (g : (List UInt8) → api_Addr → api_Addr → Option (udp_Head × (List UInt8) × Int)) : Dec := dV asS fun (y0 : List UInt8) => dV uvapi_Addr fun (y1 : api_Addr) => dV uvapi_Addr fun (y2 : api_Addr) => dEnd (ofG (g y0 y1 y2) rx69)
theorem r69_c {g : (List UInt8) → api_Addr → api_Addr → Option (udp_Head × (List UInt8) × Int)} {y0 : List UInt8} {y1 : api_Addr} {y2 : api_Addr} {x : udp_Head × (List UInt8) × Int} (hx : g y0 y1 y2 = some x) : r69 g [.string ⟨⟨y0⟩⟩, .agg ⟨[.bool y1.V6, .int .u64 y1.Hi, .int .u64 y1.Lo]⟩, .agg ⟨[.bool y2.V6, .int .u64 y2.Hi, .int .u64 y2.Lo]⟩] [] = some (rx69 x) := (dV_eq (asS_c)).trans ((dV_eq (uvapi_Addr_c _)).trans ((dV_eq (uvapi_Addr_c _)).trans (ofG_eq hx)))
def s69 (g : (List UInt8) → api_Addr → api_Addr → Option (udp_Head × (List UInt8) × Int)) : Summ := ⟨[.v, .v, .v], r69 g⟩
theorem r69_eq {g : (List UInt8) → api_Addr → api_Addr → Option (udp_Head × (List UInt8) × Int)} {y0 : List UInt8} {y1 : api_Addr} {y2 : api_Addr} {x : udp_Head × (List UInt8) × Int} (hx : g y0 y1 y2 = some x) : (s69 g).run [.string ⟨⟨y0⟩⟩, .agg ⟨[.bool y1.V6, .int .u64 y1.Hi, .int .u64 y1.Lo]⟩, .agg ⟨[.bool y2.V6, .int .u64 y2.Hi, .int .u64 y2.Lo]⟩] [] = some (rx69 x) := r69_c hx
abbrev sums69 (R02_Must : (List UInt8) → Int → Int → Option Int) (R03_Sum : (List UInt8) → Option Int) (R05_Pseudo : api_Addr → api_Addr → Int → Int → Option (List UInt8)) : List (Nat × Summ) := [(45, s45 R02_Must), (12, s12 R03_Sum), (59, s59 R05_Pseudo)]
theorem leads69 (R02_Must : (List UInt8) → Int → Int → Option Int) (R03_Sum : (List UInt8) → Option Int) (R05_Pseudo : api_Addr → api_Addr → Int → Int → Option (List UInt8)) (hS : SumsOK Try.prog (aget (sums69 R02_Must R03_Sum R05_Pseudo))) (s : List UInt8) (src : api_Addr) (dst : api_Addr) (res : udp_Head × (List UInt8) × Int) (h : R08_GetF R02_Must R03_Sum R05_Pseudo s src dst = some res) :
    Leads Try.prog 69 0 ⟨⟨69, 54, [(0, .string ⟨⟨s⟩⟩), (1, .agg ⟨[.bool src.V6, .int .u64 src.Hi, .int .u64 src.Lo]⟩), (2, .agg ⟨[.bool dst.V6, .int .u64 dst.Hi, .int .u64 dst.Lo]⟩)], [.code k69_45], [], false, none⟩, [], [], 0⟩ (fun v H _ => Res 0 (rx69 res) v H) := by
  unfold R08_GetF at h
  refine ev_ok tab_ok hS true 3000 ?_
  conv => whnf
  refine br.h h ?_ ?_ ?_
  · rfl
  · clear h; intro hb h; conv => whnf
    all_goals (cases h; exact Res.z rfl rfl rfl)
  clear h; intro hb h; conv => whnf
  replace h := obind.elim h; obtain ⟨m, hy, h⟩ := h
  refine sumK.q rfl rfl (r45_eq hy) rfl rfl rfl ?_
  conv => whnf
  refine br.h h ?_ ?_ ?_
  · rfl
  · clear h; intro hb h; conv => whnf
    all_goals (cases h; exact Res.z rfl rfl rfl)
  clear h; intro hb h; conv => whnf
  refine br.h h ?_ ?_ ?_
  · rfl
  · clear h; intro hb h; conv => whnf
    all_goals (cases h; exact Res.z rfl rfl rfl)
  clear h; intro hb h; conv => whnf
  replace h := obind.elim h; obtain ⟨p, hy, h⟩ := h
  refine sumK.q rfl rfl (r59_eq hy) rfl rfl rfl ?_
  conv => whnf
  refine br.h h ?_ ?_ ?_
  · rfl
  · clear h; intro hb h; conv => whnf
    all_goals (cases h; exact Res.z rfl rfl rfl)
  clear h; intro hb h; conv => whnf
  replace h := obind.elim h; obtain ⟨m1, hy, h⟩ := h
  refine sumK.q rfl rfl (r45_eq hy) rfl rfl rfl ?_
  conv => whnf
  refine br.h h ?_ ?_ ?_
  · rfl
  · clear h; intro hb h; conv => whnf
    refine br.h h ?_ ?_ ?_
    · rfl
    · clear h; intro hb h; conv => whnf
      all_goals (cases h; exact Res.z rfl rfl rfl)
    clear h; intro hb h; conv => whnf
    replace h := obind.elim h; obtain ⟨m2, hy, h⟩ := h
    refine sumK.q rfl rfl (r45_eq hy) rfl rfl rfl ?_
    conv => whnf
    replace h := obind.elim h; obtain ⟨m3, hy, h⟩ := h
    refine sumK.q rfl rfl (r45_eq hy) rfl rfl rfl ?_
    conv => whnf
    replace h := oreq.elim h; obtain ⟨hb, h⟩ := h
    first | (refine req.intro hb ?_; conv => whnf) | skip
    all_goals (cases h; exact Res.z rfl rfl rfl)
  clear h; intro hb h; conv => whnf
  replace h := oreq.elim h; obtain ⟨hb, h⟩ := h
  first | (refine req.intro hb ?_; conv => whnf) | skip
  replace h := oreq.elim h; obtain ⟨hb, h⟩ := h
  first | (refine req.intro hb ?_; conv => whnf) | skip
  replace h := obind.elim h; obtain ⟨s1, hy, h⟩ := h
  refine sumK.q rfl rfl (r12_eq hy) rfl rfl rfl ?_
  conv => whnf
  refine br.h h ?_ ?_ ?_
  · rfl
  · clear h; intro hb h; conv => whnf
    all_goals (cases h; exact Res.z rfl rfl rfl)
  clear h; intro hb h; conv => whnf
  replace h := obind.elim h; obtain ⟨m4, hy, h⟩ := h
  refine sumK.q rfl rfl (r45_eq hy) rfl rfl rfl ?_
  conv => whnf
  replace h := obind.elim h; obtain ⟨m5, hy, h⟩ := h
  refine sumK.q rfl rfl (r45_eq hy) rfl rfl rfl ?_
  conv => whnf
  replace h := oreq.elim h; obtain ⟨hb, h⟩ := h
  first | (refine req.intro hb ?_; conv => whnf) | skip
  all_goals (cases h; exact Res.z rfl rfl rfl)
theorem ok69 (R02_Must : (List UInt8) → Int → Int → Option Int) (R03_Sum : (List UInt8) → Option Int) (R05_Pseudo : api_Addr → api_Addr → Int → Int → Option (List UInt8)) (hS : SumsOK Try.prog (aget (sums69 R02_Must R03_Sum R05_Pseudo))) : SumOK Try.prog 69 (s69 (R08_GetF R02_Must R03_Sum R05_Pseudo)) := by
  refine SumOK.of_leads tab_ok (fun ar os r ha hr => ?_) ⟨Try.f69, rfl, by decide, rfl⟩
  replace hr : r69 (R08_GetF R02_Must R03_Sum R05_Pseudo) ar (conts os) = some r := hr
  unfold r69 at hr
  generalize hc : conts os = C at hr
  replace hr := dV.elim hr; obtain ⟨v0, l1, y0, rfl, e0, hr⟩ := hr; obtain rfl := asS_eq _ _ e0
  replace hr := dV.elim hr; obtain ⟨v1, l2, y1, rfl, e1, hr⟩ := hr; obtain rfl := uvapi_Addr_eq _ _ e1
  replace hr := dV.elim hr; obtain ⟨v2, l3, y2, rfl, e2, hr⟩ := hr; obtain rfl := uvapi_Addr_eq _ _ e2
  replace hr := dFin hr; obtain ⟨rfl, rfl, x, h, rfl⟩ := hr
  obtain rfl := kinds_nil hc
  exact ⟨_, rfl, leads69 R02_Must R03_Sum R05_Pseudo hS _ _ _ x h⟩
def R08_Get : (List UInt8) → api_Addr → api_Addr → Option (udp_Head × (List UInt8) × Int) := R08_GetF R02_Must R03_Sum R05_Pseudo
theorem lift69 : SumOK Try.prog 69 (s69 R08_Get) := ok69 R02_Must R03_Sum R05_Pseudo (SumsOK.of_tab ⟨lift45, lift12, lift59, trivial⟩)
def R09_idF (s : List UInt8) (ata1 : Int) : Option ((List UInt8) × Int × Int) :=
  cond (decide (ata1 ≥ (s.length : Int)))
    (
    some (([], 2, 0)))
    (
    oreq (decide (0 ≤ ata1)) <|
    (s[ata1.toNat]?).bind fun (b : UInt8) =>
    cond (decide ((wI .i64 (b.toNat : Int)) > 20))
      (
      some (([], 3, 0)))
      (
      let t := wI .i64 ((wI .i64 ((s.length : Int) - ata1)) - 1)
      cond (decide ((wI .i64 (b.toNat : Int)) > t))
        (
        some (([], 2, 0)))
        (
        let t1 := wI .i64 ((wI .i64 (ata1 + 1)) + (wI .i64 (b.toNat : Int)))
        oreq (decide ((0 : Int) ≤ t1 ∧ t1 ≤ (s.length : Int) ∧ (0 : Int) ≤ (wI .i64 (ata1 + 1)) ∧ (wI .i64 (ata1 + 1)) ≤ (t1.toNat : Int))) <|
        let t2 := (s.drop (wI .i64 (ata1 + 1)).toNat).take (t1.toNat - (wI .i64 (ata1 + 1)).toNat)
        let t3 := wI .i64 ((wI .i64 (ata1 + 1)) + (wI .i64 (b.toNat : Int)))
        some ((t2, 0, t3)))))
def rx96 (x : (List UInt8) × Int × Int) : SRes := ⟨.tuple ⟨[.string ⟨⟨x.1⟩⟩, .int .i64 x.2.1, .int .i64 x.2.2]⟩, [], []⟩
def r96 (g : (List UInt8) → Int → Option ((List UInt8) × Int × Int)) : Dec := dV asS fun (y0 : List UInt8) => dV (asI .i64) fun (y1 : Int) => dEnd (ofG (g y0 y1) rx96)
theorem r96_c {g : (List UInt8) → Int → Option ((List UInt8) × Int × Int)} {y0 : List UInt8} {y1 : Int} {x : (List UInt8) × Int × Int} (hx : g y0 y1 = some x) : r96 g [.string ⟨⟨y0⟩⟩, .int .i64 y1] [] = some (rx96 x) := (dV_eq (asS_c)).trans ((dV_eq (asI_c _)).trans (ofG_eq hx))
def s96 (g : (List UInt8) → Int → Option ((List UInt8) × Int × Int)) : Summ := ⟨[.v, .v], r96 g⟩
theorem r96_eq {g : (List UInt8) → Int → Option ((List UInt8) × Int × Int)} {y0 : List UInt8} {y1 : Int} {x : (List UInt8) × Int × Int} (hx : g y0 y1 = some x) : (s96 g).run [.string ⟨⟨y0⟩⟩, .int .i64 y1] [] = some (rx96 x) := r96_c hx
abbrev sums96 : List (Nat × Summ) := []
theorem leads96 (hS : SumsOK Try.prog (aget (sums96))) (s : List UInt8) (ata1 : Int) (res : (List UInt8) × Int × Int) (h : R09_idF s ata1 = some res) :
    Leads Try.prog 96 0 ⟨⟨96, 37, [(0, .string ⟨⟨s⟩⟩), (1, .int .i64 ata1)], [.code k96_23], [], false, none⟩, [], [], 0⟩ (fun v H _ => Res 0 (rx96 res) v H) := by
  unfold R09_idF at h
  refine ev_ok tab_ok hS true 3000 ?_
  conv => whnf
  refine br.h h ?_ ?_ ?_
  · rfl
  · clear h; intro hb h; conv => whnf
    all_goals (cases h; exact Res.z rfl rfl rfl)
  clear h; intro hb h; conv => whnf
  replace h := oreq.elim h; obtain ⟨hb, h⟩ := h
  first | (refine req.intro hb ?_; conv => whnf) | skip
  replace h := obind.elim h; obtain ⟨b, hy, h⟩ := h
  refine rdS.intro hy ?_
  conv => whnf
  refine br.h h ?_ ?_ ?_
  · rfl
  · clear h; intro hb h; conv => whnf
    all_goals (cases h; exact Res.z rfl rfl rfl)
  clear h; intro hb h; conv => whnf
  let t : Int := wI .i64 ((wI .i64 ((s.length : Int) - ata1)) - 1)
  refine br.h h ?_ ?_ ?_
  · rfl
  · clear h; intro hb h; conv => whnf
    all_goals (cases h; exact Res.z rfl rfl rfl)
  clear h; intro hb h; conv => whnf
  let t1 : Int := wI .i64 ((wI .i64 (ata1 + 1)) + (wI .i64 (b.toNat : Int)))
  replace h := oreq.elim h; obtain ⟨hb, h⟩ := h
  first | (refine req.intro hb ?_; conv => whnf) | skip
  let t2 : List UInt8 := (s.drop (wI .i64 (ata1 + 1)).toNat).take (t1.toNat - (wI .i64 (ata1 + 1)).toNat)
  let t3 : Int := wI .i64 ((wI .i64 (ata1 + 1)) + (wI .i64 (b.toNat : Int)))
  all_goals (cases h; exact Res.z rfl rfl rfl)
theorem ok96 (hS : SumsOK Try.prog (aget (sums96))) : SumOK Try.prog 96 (s96 (R09_idF)) := by
  refine SumOK.of_leads tab_ok (fun ar os r ha hr => ?_) ⟨Try.f96, rfl, by decide, rfl⟩
  replace hr : r96 (R09_idF) ar (conts os) = some r := hr
  unfold r96 at hr
  generalize hc : conts os = C at hr
  replace hr := dV.elim hr; obtain ⟨v0, l1, y0, rfl, e0, hr⟩ := hr; obtain rfl := asS_eq _ _ e0
  replace hr := dV.elim hr; obtain ⟨v1, l2, y1, rfl, e1, hr⟩ := hr; obtain rfl := asI_eq _ _ _ e1
  replace hr := dFin hr; obtain ⟨rfl, rfl, x, h, rfl⟩ := hr
  obtain rfl := kinds_nil hc
  exact ⟨_, rfl, leads96 hS _ _ x h⟩
def R09_id : (List UInt8) → Int → Option ((List UInt8) × Int × Int) := R09_idF
theorem lift96 : SumOK Try.prog 96 (s96 R09_id) := ok96 (SumsOK.of_tab trivial)
def R09_GetF (R02_Must : (List UInt8) → Int → Int → Option Int) (R09_id : (List UInt8) → Int → Option ((List UInt8) × Int × Int)) (s : List UInt8) : Option (quic_Head × Int) :=
  cond (s == [])
    (
    some ((quic_Head.mk false 0 0 [] [] [], 2)))
    (
    (s[0]?).bind fun (b : UInt8) =>
    let t := (wI .u8 ((b.toNat : Int).tdiv 64)).tmod 2
    cond (t == 0)
      (
      some ((quic_Head.mk false 0 0 [] [] [], 3)))
      (
      (s[0]?).bind fun (b1 : UInt8) =>
      (s[0]?).bind fun (b2 : UInt8) =>
      cond (!(decide ((b1.toNat : Int) ≥ 128)))
        (
        cond (decide ((s.length : Int) < 9))
          (
          some ((quic_Head.mk false 0 0 [] [] [], 2)))
          (
          oreq (decide ((0 : Int) ≤ (9 : Int) ∧ (9 : Int) ≤ (s.length : Int) ∧ (0 : Int) ≤ (1 : Int) ∧ (1 : Int) ≤ (9 : Int))) <|
          oreq (decide ((0 : Int) ≤ (9 : Int) ∧ (9 : Int) ≤ (s.length : Int))) <|
          some ((quic_Head.mk (decide ((b1.toNat : Int) ≥ 128)) (wI .i64 ((b2.toNat : Int).tmod 64)) 0 ((s.drop 1).take 8) [] ((s.drop 9).take (s.length - 9)), 0))))
        (
        cond (decide ((s.length : Int) < 5))
          (
          some ((quic_Head.mk false 0 0 [] [] [], 2)))
          (
          (R02_Must s 1 4).bind fun m =>
          (R09_id s 5).bind fun i =>
          cond (i.2.1 != 0)
            (
            some ((quic_Head.mk false 0 0 [] [] [], i.2.1)))
            (
            (R09_id s i.2.2).bind fun i1 =>
            cond (i1.2.1 != 0)
              (
              some ((quic_Head.mk false 0 0 [] [] [], i1.2.1)))
              (
              oreq (decide ((0 : Int) ≤ i1.2.2 ∧ i1.2.2 ≤ (s.length : Int))) <|
              let t1 := (s.drop i1.2.2.toNat).take (s.length - i1.2.2.toNat)
              some ((quic_Head.mk (decide ((b1.toNat : Int) ≥ 128)) (wI .i64 ((b2.toNat : Int).tmod 64)) (wI .u32 m) i.1 i1.1 t1, 0))))))))
def rx70 (x : quic_Head × Int) : SRes := ⟨.tuple ⟨[.agg ⟨[.bool x.1.Long, .int .i64 x.1.Bits, .int .u32 x.1.Version, .string ⟨⟨x.1.DCID⟩⟩, .string ⟨⟨x.1.SCID⟩⟩, .string ⟨⟨x.1.Rest⟩⟩]⟩, .int .i64 x.2]⟩, [], []⟩
def r70 (g : (List UInt8) → Option (quic_Head × Int)) : Dec := dV asS fun (y0 : List UInt8) => dEnd (ofG (g y0) rx70)
theorem r70_c {g : (List UInt8) → Option (quic_Head × Int)} {y0 : List UInt8} {x : quic_Head × Int} (hx : g y0 = some x) : r70 g [.string ⟨⟨y0⟩⟩] [] = some (rx70 x) := (dV_eq (asS_c)).trans (ofG_eq hx)
def s70 (g : (List UInt8) → Option (quic_Head × Int)) : Summ := ⟨[.v], r70 g⟩
theorem r70_eq {g : (List UInt8) → Option (quic_Head × Int)} {y0 : List UInt8} {x : quic_Head × Int} (hx : g y0 = some x) : (s70 g).run [.string ⟨⟨y0⟩⟩] [] = some (rx70 x) := r70_c hx
abbrev sums70 (R02_Must : (List UInt8) → Int → Int → Option Int) (R09_id : (List UInt8) → Int → Option ((List UInt8) × Int × Int)) : List (Nat × Summ) := [(45, s45 R02_Must), (96, s96 R09_id)]
theorem leads70 (R02_Must : (List UInt8) → Int → Int → Option Int) (R09_id : (List UInt8) → Int → Option ((List UInt8) × Int × Int)) (hS : SumsOK Try.prog (aget (sums70 R02_Must R09_id))) (s : List UInt8) (res : quic_Head × Int) (h : R09_GetF R02_Must R09_id s = some res) :
    Leads Try.prog 70 0 ⟨⟨70, 79, [(0, .string ⟨⟨s⟩⟩)], [.code k70_63], [], false, none⟩, [], [], 0⟩ (fun v H _ => Res 0 (rx70 res) v H) := by
  unfold R09_GetF at h
  refine ev_ok tab_ok hS true 3000 ?_
  conv => whnf
  refine br.h h ?_ ?_ ?_
  · rfl
  · clear h; intro hb h; conv => whnf
    all_goals (cases h; exact Res.z rfl rfl rfl)
  clear h; intro hb h; conv => whnf
  replace h := obind.elim h; obtain ⟨b, hy, h⟩ := h
  refine rdS.intro hy ?_
  conv => whnf
  let t : Int := (wI .u8 ((b.toNat : Int).tdiv 64)).tmod 2
  refine br.h h ?_ ?_ ?_
  · rfl
  · clear h; intro hb h; conv => whnf
    all_goals (cases h; exact Res.z rfl rfl rfl)
  clear h; intro hb h; conv => whnf
  replace h := obind.elim h; obtain ⟨b1, hy, h⟩ := h
  refine rdS.intro hy ?_
  conv => whnf
  replace h := obind.elim h; obtain ⟨b2, hy, h⟩ := h
  refine rdS.intro hy ?_
  conv => whnf
  refine br.h h ?_ ?_ ?_
  · rfl
  · clear h; intro hb h; conv => whnf
    refine br.h h ?_ ?_ ?_
    · rfl
    · clear h; intro hb h; conv => whnf
      all_goals (cases h; exact Res.z rfl rfl rfl)
    clear h; intro hb h; conv => whnf
    replace h := oreq.elim h; obtain ⟨hb, h⟩ := h
    first | (refine req.intro hb ?_; conv => whnf) | skip
    replace h := oreq.elim h; obtain ⟨hb, h⟩ := h
    first | (refine req.intro hb ?_; conv => whnf) | skip
    all_goals (cases h; exact Res.z rfl rfl rfl)
  clear h; intro hb h; conv => whnf
  refine br.h h ?_ ?_ ?_
  · rfl
  · clear h; intro hb h; conv => whnf
    all_goals (cases h; exact Res.z rfl rfl rfl)
  clear h; intro hb h; conv => whnf
  replace h := obind.elim h; obtain ⟨m, hy, h⟩ := h
  refine sumK.q rfl rfl (r45_eq hy) rfl rfl rfl ?_
  conv => whnf
  replace h := obind.elim h; obtain ⟨i, hy, h⟩ := h
  refine sumK.q rfl rfl (r96_eq hy) rfl rfl rfl ?_
  conv => whnf
  refine br.h h ?_ ?_ ?_
  · rfl
  · clear h; intro hb h; conv => whnf
    all_goals (cases h; exact Res.z rfl rfl rfl)
  clear h; intro hb h; conv => whnf
  replace h := obind.elim h; obtain ⟨i1, hy, h⟩ := h
  refine sumK.q rfl rfl (r96_eq hy) rfl rfl rfl ?_
  conv => whnf
  refine br.h h ?_ ?_ ?_
  · rfl
  · clear h; intro hb h; conv => whnf
    all_goals (cases h; exact Res.z rfl rfl rfl)
  clear h; intro hb h; conv => whnf
  replace h := oreq.elim h; obtain ⟨hb, h⟩ := h
  first | (refine req.intro hb ?_; conv => whnf) | skip
  let t1 : List UInt8 := (s.drop i1.2.2.toNat).take (s.length - i1.2.2.toNat)
  all_goals (cases h; exact Res.z rfl rfl rfl)
theorem ok70 (R02_Must : (List UInt8) → Int → Int → Option Int) (R09_id : (List UInt8) → Int → Option ((List UInt8) × Int × Int)) (hS : SumsOK Try.prog (aget (sums70 R02_Must R09_id))) : SumOK Try.prog 70 (s70 (R09_GetF R02_Must R09_id)) := by
  refine SumOK.of_leads tab_ok (fun ar os r ha hr => ?_) ⟨Try.f70, rfl, by decide, rfl⟩
  replace hr : r70 (R09_GetF R02_Must R09_id) ar (conts os) = some r := hr
  unfold r70 at hr
  generalize hc : conts os = C at hr
  replace hr := dV.elim hr; obtain ⟨v0, l1, y0, rfl, e0, hr⟩ := hr; obtain rfl := asS_eq _ _ e0
  replace hr := dFin hr; obtain ⟨rfl, rfl, x, h, rfl⟩ := hr
  obtain rfl := kinds_nil hc
  exact ⟨_, rfl, leads70 R02_Must R09_id hS _ x h⟩
def R09_Get : (List UInt8) → Option (quic_Head × Int) := R09_GetF R02_Must R09_id
theorem lift70 : SumOK Try.prog 70 (s70 R09_Get) := ok70 R02_Must R09_id (SumsOK.of_tab ⟨lift45, lift96, trivial⟩)
def R11_toldF (R07_Get : (List UInt8) → api_Addr → api_Addr → Option (tcp_Head × (List UInt8) × Int)) (R07_Stamp : (List UInt8) → Option (Int × Int × Int)) (R08_Get : (List UInt8) → api_Addr → api_Addr → Option (udp_Head × (List UInt8) × Int)) (R09_Get : (List UInt8) → Option (quic_Head × Int)) (R11_read : (List UInt8) → Option (R11_head × Int)) (s : List UInt8) : Option (api_Packet × Int × Int × Int) :=
  cond (decide ((s.length : Int) > 9000))
    (
    some ((api_Packet.mk (api_Tuple.mk 0 (api_Addr.mk false 0 0) (api_Addr.mk false 0 0) 0 0) 0 false 0 0 false [] 0, 0, 0, 5)))
    (
    cond (s == [])
      (
      some ((api_Packet.mk (api_Tuple.mk 0 (api_Addr.mk false 0 0) (api_Addr.mk false 0 0) 0 0) 0 false 0 0 false [] 0, 0, 0, 2)))
      (
      (R11_read s).bind fun xr =>
      cond (xr.2 != 0)
        (
        some ((api_Packet.mk (api_Tuple.mk 0 (api_Addr.mk false 0 0) (api_Addr.mk false 0 0) 0 0) 0 false 0 0 false [] 0, 0, 0, xr.2)))
        (
        let t := wI .i64 (xr.1.size + (xr.1.body.length : Int))
        cond (t != (s.length : Int))
          (
          some ((api_Packet.mk (api_Tuple.mk 0 (api_Addr.mk false 0 0) (api_Addr.mk false 0 0) 0 0) 0 false 0 0 false [] 0, 0, 0, 5)))
          (
          cond (xr.1.proto == 6)
            (
            (R07_Get xr.1.body xr.1.src xr.1.dst).bind fun xg =>
            cond (xg.2.2 != 0)
              (
              some ((api_Packet.mk (api_Tuple.mk 0 (api_Addr.mk false 0 0) (api_Addr.mk false 0 0) 0 0) 0 false 0 0 false [] 0, 0, 0, xg.2.2)))
              (
              (R07_Stamp xg.1.Options).bind fun s1 =>
              cond (decide (s1.2.2 ≥ 0))
                (
                let t1 := wI .i64 ((wI .i64 (xr.1.size + 20)) + (xg.1.Options.length : Int))
                some ((api_Packet.mk (api_Tuple.mk xr.1.proto xr.1.src xr.1.dst xg.1.SPort xg.1.DPort) xg.1.Flags true s1.1 s1.2.1 false [] (s.length : Int), xr.1.size, t1, 0)))
                (
                let t2 := wI .i64 ((wI .i64 (xr.1.size + 20)) + (xg.1.Options.length : Int))
                some ((api_Packet.mk (api_Tuple.mk xr.1.proto xr.1.src xr.1.dst xg.1.SPort xg.1.DPort) xg.1.Flags false 0 0 false [] (s.length : Int), xr.1.size, t2, 0)))))
            (
            cond (xr.1.proto != 17)
              (
              some ((api_Packet.mk (api_Tuple.mk 0 (api_Addr.mk false 0 0) (api_Addr.mk false 0 0) 0 0) 0 false 0 0 false [] 0, 0, 0, 6)))
              (
              (R08_Get xr.1.body xr.1.src xr.1.dst).bind fun xg1 =>
              cond (xg1.2.2 != 0)
                (
                some ((api_Packet.mk (api_Tuple.mk 0 (api_Addr.mk false 0 0) (api_Addr.mk false 0 0) 0 0) 0 false 0 0 false [] 0, 0, 0, xg1.2.2)))
                (
                let t3 := (wI .i64 ((xg1.2.1.length : Int) + 8)) != (xr.1.body.length : Int)
                cond (t3)
                  (
                  some ((api_Packet.mk (api_Tuple.mk 0 (api_Addr.mk false 0 0) (api_Addr.mk false 0 0) 0 0) 0 false 0 0 false [] 0, 0, 0, 5)))
                  (
                  (R09_Get xg1.2.1).bind fun xg2 =>
                  cond (xg2.2 == 0)
                    (
                    some ((api_Packet.mk (api_Tuple.mk xr.1.proto xr.1.src xr.1.dst xg1.1.SPort xg1.1.DPort) 0 false 0 0 xg2.1.Long xg2.1.DCID (s.length : Int), xr.1.size, wI .i64 (xr.1.size + 8), 0)))
                    (
                    some ((api_Packet.mk (api_Tuple.mk xr.1.proto xr.1.src xr.1.dst xg1.1.SPort xg1.1.DPort) 0 false 0 0 false [] (s.length : Int), xr.1.size, wI .i64 (xr.1.size + 8), 0)))))))))))
def rx41 (x : api_Packet × Int × Int × Int) : SRes := ⟨.tuple ⟨[.agg ⟨[.int .i64 x.1.Tuple.Proto, .bool x.1.Tuple.Src.V6, .int .u64 x.1.Tuple.Src.Hi, .int .u64 x.1.Tuple.Src.Lo, .bool x.1.Tuple.Dst.V6, .int .u64 x.1.Tuple.Dst.Hi, .int .u64 x.1.Tuple.Dst.Lo, .int .i64 x.1.Tuple.SPort, .int .i64 x.1.Tuple.DPort, .int .i64 x.1.Flags, .bool x.1.Stamped, .int .u32 x.1.Val, .int .u32 x.1.Echo, .bool x.1.Long, .string ⟨⟨x.1.CID⟩⟩, .int .i64 x.1.Size]⟩, .int .i64 x.2.1, .int .i64 x.2.2.1, .int .i64 x.2.2.2]⟩, [], []⟩
def r41 (g : (List UInt8) → Option (api_Packet × Int × Int × Int)) : Dec := dV asS fun (y0 : List UInt8) => dEnd (ofG (g y0) rx41)
theorem r41_c {g : (List UInt8) → Option (api_Packet × Int × Int × Int)} {y0 : List UInt8} {x : api_Packet × Int × Int × Int} (hx : g y0 = some x) : r41 g [.string ⟨⟨y0⟩⟩] [] = some (rx41 x) := (dV_eq (asS_c)).trans (ofG_eq hx)
def s41 (g : (List UInt8) → Option (api_Packet × Int × Int × Int)) : Summ := ⟨[.v], r41 g⟩
theorem r41_eq {g : (List UInt8) → Option (api_Packet × Int × Int × Int)} {y0 : List UInt8} {x : api_Packet × Int × Int × Int} (hx : g y0 = some x) : (s41 g).run [.string ⟨⟨y0⟩⟩] [] = some (rx41 x) := r41_c hx
abbrev sums41 (R07_Get : (List UInt8) → api_Addr → api_Addr → Option (tcp_Head × (List UInt8) × Int)) (R07_Stamp : (List UInt8) → Option (Int × Int × Int)) (R08_Get : (List UInt8) → api_Addr → api_Addr → Option (udp_Head × (List UInt8) × Int)) (R09_Get : (List UInt8) → Option (quic_Head × Int)) (R11_read : (List UInt8) → Option (R11_head × Int)) : List (Nat × Summ) := [(67, s67 R07_Get), (68, s68 R07_Stamp), (69, s69 R08_Get), (70, s70 R09_Get), (66, s66 R11_read)]
theorem leads41 (R07_Get : (List UInt8) → api_Addr → api_Addr → Option (tcp_Head × (List UInt8) × Int)) (R07_Stamp : (List UInt8) → Option (Int × Int × Int)) (R08_Get : (List UInt8) → api_Addr → api_Addr → Option (udp_Head × (List UInt8) × Int)) (R09_Get : (List UInt8) → Option (quic_Head × Int)) (R11_read : (List UInt8) → Option (R11_head × Int)) (hS : SumsOK Try.prog (aget (sums41 R07_Get R07_Stamp R08_Get R09_Get R11_read))) (s : List UInt8) (res : api_Packet × Int × Int × Int) (h : R11_toldF R07_Get R07_Stamp R08_Get R09_Get R11_read s = some res) :
    Leads Try.prog 41 0 ⟨⟨41, 161, [(0, .string ⟨⟨s⟩⟩)], [.code k41_95], [], false, none⟩, [], [], 0⟩ (fun v H _ => Res 0 (rx41 res) v H) := by
  unfold R11_toldF at h
  refine ev_ok tab_ok hS true 3000 ?_
  conv => whnf
  refine br.h h ?_ ?_ ?_
  · rfl
  · clear h; intro hb h; conv => whnf
    all_goals (cases h; exact Res.z rfl rfl rfl)
  clear h; intro hb h; conv => whnf
  refine br.h h ?_ ?_ ?_
  · rfl
  · clear h; intro hb h; conv => whnf
    all_goals (cases h; exact Res.z rfl rfl rfl)
  clear h; intro hb h; conv => whnf
  replace h := obind.elim h; obtain ⟨xr, hy, h⟩ := h
  refine sumK.q rfl rfl (r66_eq hy) rfl rfl rfl ?_
  conv => whnf
  refine br.h h ?_ ?_ ?_
  · rfl
  · clear h; intro hb h; conv => whnf
    all_goals (cases h; exact Res.z rfl rfl rfl)
  clear h; intro hb h; conv => whnf
  let t : Int := wI .i64 (xr.1.size + (xr.1.body.length : Int))
  refine br.h h ?_ ?_ ?_
  · rfl
  · clear h; intro hb h; conv => whnf
    all_goals (cases h; exact Res.z rfl rfl rfl)
  clear h; intro hb h; conv => whnf
  refine br.h h ?_ ?_ ?_
  · rfl
  · clear h; intro hb h; conv => whnf
    replace h := obind.elim h; obtain ⟨xg, hy, h⟩ := h
    refine sumK.q rfl rfl (r67_eq hy) rfl rfl rfl ?_
    conv => whnf
    refine br.h h ?_ ?_ ?_
    · rfl
    · clear h; intro hb h; conv => whnf
      all_goals (cases h; exact Res.z rfl rfl rfl)
    clear h; intro hb h; conv => whnf
    replace h := obind.elim h; obtain ⟨s1, hy, h⟩ := h
    refine sumK.q rfl rfl (r68_eq hy) rfl rfl rfl ?_
    conv => whnf
    refine br.h h ?_ ?_ ?_
    · rfl
    · clear h; intro hb h; conv => whnf
      let t1 : Int := wI .i64 ((wI .i64 (xr.1.size + 20)) + (xg.1.Options.length : Int))
      all_goals (cases h; exact Res.z rfl rfl rfl)
    clear h; intro hb h; conv => whnf
    let t2 : Int := wI .i64 ((wI .i64 (xr.1.size + 20)) + (xg.1.Options.length : Int))
    all_goals (cases h; exact Res.z rfl rfl rfl)
  clear h; intro hb h; conv => whnf
  refine br.h h ?_ ?_ ?_
  · rfl
  · clear h; intro hb h; conv => whnf
    all_goals (cases h; exact Res.z rfl rfl rfl)
  clear h; intro hb h; conv => whnf
  replace h := obind.elim h; obtain ⟨xg1, hy, h⟩ := h
  refine sumK.q rfl rfl (r69_eq hy) rfl rfl rfl ?_
  conv => whnf
  refine br.h h ?_ ?_ ?_
  · rfl
  · clear h; intro hb h; conv => whnf
    all_goals (cases h; exact Res.z rfl rfl rfl)
  clear h; intro hb h; conv => whnf
  let t3 : Bool := (wI .i64 ((xg1.2.1.length : Int) + 8)) != (xr.1.body.length : Int)
  refine br.h h ?_ ?_ ?_
  · rfl
  · clear h; intro hb h; conv => whnf
    all_goals (cases h; exact Res.z rfl rfl rfl)
  clear h; intro hb h; conv => whnf
  replace h := obind.elim h; obtain ⟨xg2, hy, h⟩ := h
  refine sumK.q rfl rfl (r70_eq hy) rfl rfl rfl ?_
  conv => whnf
  refine br.h h ?_ ?_ ?_
  · rfl
  · clear h; intro hb h; conv => whnf
    all_goals (cases h; exact Res.z rfl rfl rfl)
  clear h; intro hb h; conv => whnf
  all_goals (cases h; exact Res.z rfl rfl rfl)
theorem ok41 (R07_Get : (List UInt8) → api_Addr → api_Addr → Option (tcp_Head × (List UInt8) × Int)) (R07_Stamp : (List UInt8) → Option (Int × Int × Int)) (R08_Get : (List UInt8) → api_Addr → api_Addr → Option (udp_Head × (List UInt8) × Int)) (R09_Get : (List UInt8) → Option (quic_Head × Int)) (R11_read : (List UInt8) → Option (R11_head × Int)) (hS : SumsOK Try.prog (aget (sums41 R07_Get R07_Stamp R08_Get R09_Get R11_read))) : SumOK Try.prog 41 (s41 (R11_toldF R07_Get R07_Stamp R08_Get R09_Get R11_read)) := by
  refine SumOK.of_leads tab_ok (fun ar os r ha hr => ?_) ⟨Try.f41, rfl, by decide, rfl⟩
  replace hr : r41 (R11_toldF R07_Get R07_Stamp R08_Get R09_Get R11_read) ar (conts os) = some r := hr
  unfold r41 at hr
  generalize hc : conts os = C at hr
  replace hr := dV.elim hr; obtain ⟨v0, l1, y0, rfl, e0, hr⟩ := hr; obtain rfl := asS_eq _ _ e0
  replace hr := dFin hr; obtain ⟨rfl, rfl, x, h, rfl⟩ := hr
  obtain rfl := kinds_nil hc
  exact ⟨_, rfl, leads41 R07_Get R07_Stamp R08_Get R09_Get R11_read hS _ x h⟩
def R11_told : (List UInt8) → Option (api_Packet × Int × Int × Int) := R11_toldF R07_Get R07_Stamp R08_Get R09_Get R11_read
theorem lift41 : SumOK Try.prog 41 (s41 R11_told) := ok41 R07_Get R07_Stamp R08_Get R09_Get R11_read (SumsOK.of_tab ⟨lift67, lift68, lift69, lift70, lift66, trivial⟩)
def R11_ParseF (R11_told : (List UInt8) → Option (api_Packet × Int × Int × Int)) (s : List UInt8) : Option (api_Packet × Int) :=
  (R11_told s).bind fun t =>
  some ((t.1, t.2.2.2))
def rx22 (x : api_Packet × Int) : SRes := ⟨.tuple ⟨[.agg ⟨[.int .i64 x.1.Tuple.Proto, .bool x.1.Tuple.Src.V6, .int .u64 x.1.Tuple.Src.Hi, .int .u64 x.1.Tuple.Src.Lo, .bool x.1.Tuple.Dst.V6, .int .u64 x.1.Tuple.Dst.Hi, .int .u64 x.1.Tuple.Dst.Lo, .int .i64 x.1.Tuple.SPort, .int .i64 x.1.Tuple.DPort, .int .i64 x.1.Flags, .bool x.1.Stamped, .int .u32 x.1.Val, .int .u32 x.1.Echo, .bool x.1.Long, .string ⟨⟨x.1.CID⟩⟩, .int .i64 x.1.Size]⟩, .int .i64 x.2]⟩, [], []⟩
def r22 (g : (List UInt8) → Option (api_Packet × Int)) : Dec := dV asS fun (y0 : List UInt8) => dEnd (ofG (g y0) rx22)
theorem r22_c {g : (List UInt8) → Option (api_Packet × Int)} {y0 : List UInt8} {x : api_Packet × Int} (hx : g y0 = some x) : r22 g [.string ⟨⟨y0⟩⟩] [] = some (rx22 x) := (dV_eq (asS_c)).trans (ofG_eq hx)
def s22 (g : (List UInt8) → Option (api_Packet × Int)) : Summ := ⟨[.v], r22 g⟩
theorem r22_eq {g : (List UInt8) → Option (api_Packet × Int)} {y0 : List UInt8} {x : api_Packet × Int} (hx : g y0 = some x) : (s22 g).run [.string ⟨⟨y0⟩⟩] [] = some (rx22 x) := r22_c hx
abbrev sums22 (R11_told : (List UInt8) → Option (api_Packet × Int × Int × Int)) : List (Nat × Summ) := [(41, s41 R11_told)]
theorem leads22 (R11_told : (List UInt8) → Option (api_Packet × Int × Int × Int)) (hS : SumsOK Try.prog (aget (sums22 R11_told))) (s : List UInt8) (res : api_Packet × Int) (h : R11_ParseF R11_told s = some res) :
    Leads Try.prog 22 0 ⟨⟨22, 17, [(0, .string ⟨⟨s⟩⟩)], [.code k22_5], [], false, none⟩, [], [], 0⟩ (fun v H _ => Res 0 (rx22 res) v H) := by
  unfold R11_ParseF at h
  refine ev_ok tab_ok hS true 3000 ?_
  conv => whnf
  replace h := obind.elim h; obtain ⟨t, hy, h⟩ := h
  refine sumK.q rfl rfl (r41_eq hy) rfl rfl rfl ?_
  conv => whnf
  all_goals (cases h; exact Res.z rfl rfl rfl)
theorem ok22 (R11_told : (List UInt8) → Option (api_Packet × Int × Int × Int)) (hS : SumsOK Try.prog (aget (sums22 R11_told))) : SumOK Try.prog 22 (s22 (R11_ParseF R11_told)) := by
  refine SumOK.of_leads tab_ok (fun ar os r ha hr => ?_) ⟨Try.f22, rfl, by decide, rfl⟩
  replace hr : r22 (R11_ParseF R11_told) ar (conts os) = some r := hr
  unfold r22 at hr
  generalize hc : conts os = C at hr
  replace hr := dV.elim hr; obtain ⟨v0, l1, y0, rfl, e0, hr⟩ := hr; obtain rfl := asS_eq _ _ e0
  replace hr := dFin hr; obtain ⟨rfl, rfl, x, h, rfl⟩ := hr
  obtain rfl := kinds_nil hc
  exact ⟨_, rfl, leads22 R11_told hS _ x h⟩
def R11_Parse : (List UInt8) → Option (api_Packet × Int) := R11_ParseF R11_told
theorem lift22 : SumOK Try.prog 22 (s22 R11_Parse) := ok22 R11_told (SumsOK.of_tab ⟨lift41, trivial⟩)
def law36_awakeF (R07_Stamped : Int → Int → Option (List UInt8)) (R11_Parse : (List UInt8) → Option (api_Packet × Int)) (R11_Segment : api_Tuple → Int → (List UInt8) → (List UInt8) → Option ((List UInt8) × Int)) (stamp_Out : (List UInt8) → Int → Option ((List UInt8) × Int)) : Option Bool :=
  (R11_Segment (api_Tuple.mk 6 (api_Addr.mk false 0 1) (api_Addr.mk false 0 2) 0 0) 16 [] []).bind fun s =>
  (R07_Stamped 74565 7).bind fun s1 =>
  (R11_Segment (api_Tuple.mk 6 (api_Addr.mk false 0 1) (api_Addr.mk false 0 2) 0 0) 16 s1 []).bind fun s2 =>
  (stamp_Out s.1 1).bind fun xo =>
  (stamp_Out s2.1 43981).bind fun xo1 =>
  (R11_Parse xo1.1).bind fun p =>
  cond (xo.2 == 6)
    (
    cond (xo1.2 == 0)
      (
      cond (p.2 == 0)
        (
        some (p.1.Val == 2882347845))
        (
        some (false)))
      (
      some (false)))
    (
    some (false))
def rx8 (x : Bool) : SRes := ⟨.bool x, [], []⟩
def r8 (g : Option Bool) : Dec := dEnd (ofG (g) rx8)
theorem r8_c {g : Option Bool} {x : Bool} (hx : g = some x) : r8 g [] [] = some (rx8 x) := ofG_eq hx
def s8 (g : Option Bool) : Summ := ⟨[], r8 g⟩
theorem r8_eq {g : Option Bool} {x : Bool} (hx : g = some x) : (s8 g).run [] [] = some (rx8 x) := r8_c hx
abbrev sums8 (R07_Stamped : Int → Int → Option (List UInt8)) (R11_Parse : (List UInt8) → Option (api_Packet × Int)) (R11_Segment : api_Tuple → Int → (List UInt8) → (List UInt8) → Option ((List UInt8) × Int)) (stamp_Out : (List UInt8) → Int → Option ((List UInt8) × Int)) : List (Nat × Summ) := [(15, s15 R07_Stamped), (22, s22 R11_Parse), (20, s20 R11_Segment), (21, s21 stamp_Out)]
theorem leads8 (R07_Stamped : Int → Int → Option (List UInt8)) (R11_Parse : (List UInt8) → Option (api_Packet × Int)) (R11_Segment : api_Tuple → Int → (List UInt8) → (List UInt8) → Option ((List UInt8) × Int)) (stamp_Out : (List UInt8) → Int → Option ((List UInt8) × Int)) (hS : SumsOK Try.prog (aget (sums8 R07_Stamped R11_Parse R11_Segment stamp_Out))) (res : Bool) (h : law36_awakeF R07_Stamped R11_Parse R11_Segment stamp_Out = some res) :
    Leads Try.prog 8 0 ⟨⟨8, 56, [], [.code k8_15], [], false, none⟩, [], [], 0⟩ (fun v H _ => Res 0 (rx8 res) v H) := by
  unfold law36_awakeF at h
  refine ev_ok tab_ok hS true 3000 ?_
  conv => whnf
  replace h := obind.elim h; obtain ⟨s, hy, h⟩ := h
  refine sumK.q rfl rfl (r20_eq hy) rfl rfl rfl ?_
  conv => whnf
  replace h := obind.elim h; obtain ⟨s1, hy, h⟩ := h
  refine sumK.q rfl rfl (r15_eq hy) rfl rfl rfl ?_
  conv => whnf
  replace h := obind.elim h; obtain ⟨s2, hy, h⟩ := h
  refine sumK.q rfl rfl (r20_eq hy) rfl rfl rfl ?_
  conv => whnf
  replace h := obind.elim h; obtain ⟨xo, hy, h⟩ := h
  refine sumK.q rfl rfl (r21_eq hy) rfl rfl rfl ?_
  conv => whnf
  replace h := obind.elim h; obtain ⟨xo1, hy, h⟩ := h
  refine sumK.q rfl rfl (r21_eq hy) rfl rfl rfl ?_
  conv => whnf
  replace h := obind.elim h; obtain ⟨p, hy, h⟩ := h
  refine sumK.q rfl rfl (r22_eq hy) rfl rfl rfl ?_
  conv => whnf
  refine br.h2 h ?_ ?_ ?_
  · rfl
  · clear h; intro hb h; conv => whnf
    all_goals (cases h; exact Res.z rfl rfl rfl)
  clear h; intro hb h; conv => whnf
  refine br.h2 h ?_ ?_ ?_
  · rfl
  · clear h; intro hb h; conv => whnf
    all_goals (cases h; exact Res.z rfl rfl rfl)
  clear h; intro hb h; conv => whnf
  refine br.h h ?_ ?_ ?_
  · rfl
  · clear h; intro hb h; conv => whnf
    all_goals (cases h; exact Res.z rfl rfl rfl)
  clear h; intro hb h; conv => whnf
  all_goals (cases h; exact Res.z rfl rfl rfl)
theorem ok8 (R07_Stamped : Int → Int → Option (List UInt8)) (R11_Parse : (List UInt8) → Option (api_Packet × Int)) (R11_Segment : api_Tuple → Int → (List UInt8) → (List UInt8) → Option ((List UInt8) × Int)) (stamp_Out : (List UInt8) → Int → Option ((List UInt8) × Int)) (hS : SumsOK Try.prog (aget (sums8 R07_Stamped R11_Parse R11_Segment stamp_Out))) : SumOK Try.prog 8 (s8 (law36_awakeF R07_Stamped R11_Parse R11_Segment stamp_Out)) := by
  refine SumOK.of_leads tab_ok (fun ar os r ha hr => ?_) ⟨Try.f8, rfl, by decide, rfl⟩
  replace hr : r8 (law36_awakeF R07_Stamped R11_Parse R11_Segment stamp_Out) ar (conts os) = some r := hr
  unfold r8 at hr
  generalize hc : conts os = C at hr
  replace hr := dFin hr; obtain ⟨rfl, rfl, x, h, rfl⟩ := hr
  obtain rfl := kinds_nil hc
  exact ⟨_, rfl, leads8 R07_Stamped R11_Parse R11_Segment stamp_Out hS x h⟩
def law36_awake : Option Bool := law36_awakeF R07_Stamped R11_Parse R11_Segment stamp_Out
theorem lift8 : SumOK Try.prog 8 (s8 law36_awake) := ok8 R07_Stamped R11_Parse R11_Segment stamp_Out (SumsOK.of_tab ⟨lift15, lift22, lift20, lift21, trivial⟩)
def law36_StampPatch_s1 (R03_Sum : (List UInt8) → Option Int) (law36_awake : Option Bool) (body : List UInt8) (ata1 : Int) (witha2 : List UInt8) (t : Int) (s2 : List UInt8) (p : (List UInt8) × Bool) (zero : Bool) (k : Int) : Option (Sum (Bool × Int) Bool) :=
  cond (decide (k < (p.1.length : Int)))
    (
    cond (zero)
      (
      oreq (decide (0 ≤ k)) <|
      (p.1[k.toNat]?).bind fun (b : UInt8) =>
      let t4 := decide (k ≥ ((wI .i64 ata1).tmod (body.length : Int)))
      cond (t4)
        (
        let t5 := wI .i64 (((wI .i64 ata1).tmod (body.length : Int)) + (witha2.length : Int))
        cond (decide (k < t5))
          (
          oreq (decide (0 ≤ k)) <|
          (p.1[k.toNat]?).bind fun (b1 : UInt8) =>
          let t6 := wI .i64 (k - ((wI .i64 ata1).tmod (body.length : Int)))
          oreq (decide (0 ≤ t6)) <|
          (witha2[t6.toNat]?).bind fun (b2 : UInt8) =>
          cond ((b1.toNat : Int) != (b2.toNat : Int))
            (
            some (.inr (false)))
            (
            some (.inl ((b.toNat : Int) == 0, wI .i64 (k + 1)))))
          (
          cond (k != (wI .i64 (t * 2)))
            (
            cond (k != (wI .i64 ((wI .i64 (t * 2)) + 1)))
              (
              oreq (decide (0 ≤ k)) <|
              (p.1[k.toNat]?).bind fun (b3 : UInt8) =>
              oreq (decide (0 ≤ k)) <|
              (s2[k.toNat]?).bind fun (b4 : UInt8) =>
              cond ((b3.toNat : Int) != (b4.toNat : Int))
                (
                some (.inr (false)))
                (
                some (.inl ((b.toNat : Int) == 0, wI .i64 (k + 1)))))
              (
              some (.inl ((b.toNat : Int) == 0, wI .i64 (k + 1)))))
            (
            some (.inl ((b.toNat : Int) == 0, wI .i64 (k + 1))))))
        (
        cond (k != (wI .i64 (t * 2)))
          (
          cond (k != (wI .i64 ((wI .i64 (t * 2)) + 1)))
            (
            oreq (decide (0 ≤ k)) <|
            (p.1[k.toNat]?).bind fun (b5 : UInt8) =>
            oreq (decide (0 ≤ k)) <|
            (s2[k.toNat]?).bind fun (b6 : UInt8) =>
            cond ((b5.toNat : Int) != (b6.toNat : Int))
              (
              some (.inr (false)))
              (
              some (.inl ((b.toNat : Int) == 0, wI .i64 (k + 1)))))
            (
            some (.inl ((b.toNat : Int) == 0, wI .i64 (k + 1)))))
          (
          some (.inl ((b.toNat : Int) == 0, wI .i64 (k + 1))))))
      (
      let t7 := decide (k ≥ ((wI .i64 ata1).tmod (body.length : Int)))
      cond (t7)
        (
        let t8 := wI .i64 (((wI .i64 ata1).tmod (body.length : Int)) + (witha2.length : Int))
        cond (decide (k < t8))
          (
          oreq (decide (0 ≤ k)) <|
          (p.1[k.toNat]?).bind fun (b7 : UInt8) =>
          let t9 := wI .i64 (k - ((wI .i64 ata1).tmod (body.length : Int)))
          oreq (decide (0 ≤ t9)) <|
          (witha2[t9.toNat]?).bind fun (b8 : UInt8) =>
          cond ((b7.toNat : Int) != (b8.toNat : Int))
            (
            some (.inr (false)))
            (
            some (.inl (false, wI .i64 (k + 1)))))
          (
          cond (k != (wI .i64 (t * 2)))
            (
            cond (k != (wI .i64 ((wI .i64 (t * 2)) + 1)))
              (
              oreq (decide (0 ≤ k)) <|
              (p.1[k.toNat]?).bind fun (b9 : UInt8) =>
              oreq (decide (0 ≤ k)) <|
              (s2[k.toNat]?).bind fun (b10 : UInt8) =>
              cond ((b9.toNat : Int) != (b10.toNat : Int))
                (
                some (.inr (false)))
                (
                some (.inl (false, wI .i64 (k + 1)))))
              (
              some (.inl (false, wI .i64 (k + 1)))))
            (
            some (.inl (false, wI .i64 (k + 1))))))
        (
        cond (k != (wI .i64 (t * 2)))
          (
          cond (k != (wI .i64 ((wI .i64 (t * 2)) + 1)))
            (
            oreq (decide (0 ≤ k)) <|
            (p.1[k.toNat]?).bind fun (b11 : UInt8) =>
            oreq (decide (0 ≤ k)) <|
            (s2[k.toNat]?).bind fun (b12 : UInt8) =>
            cond ((b11.toNat : Int) != (b12.toNat : Int))
              (
              some (.inr (false)))
              (
              some (.inl (false, wI .i64 (k + 1)))))
            (
            some (.inl (false, wI .i64 (k + 1)))))
          (
          some (.inl (false, wI .i64 (k + 1)))))))
    (
    cond (zero)
      (
      (law36_awake).bind fun a4 =>
      some (.inr (a4)))
      (
      (R03_Sum p.1).bind fun s3 =>
      cond (s3 == 65535)
        (
        (law36_awake).bind fun a5 =>
        some (.inr (a5)))
        (
        some (.inr (false)))))
def law36_StampPatchF (R03_Of : (List UInt8) → Option Int) (R03_Set : (List UInt8) → Int → Int → Int → Option (List UInt8)) (R03_Sum : (List UInt8) → Option Int) (R07_Small : (List (List UInt8)) → Int → Option Bool) (law36_awake : Option Bool) (stamp_Patch : (List UInt8) → Int → (List UInt8) → Int → Option ((List UInt8) × Bool)) (body : List UInt8) (ata1 : Int) (witha2 : List UInt8) (sum : Int) : Option Bool :=
  (R07_Small [body, witha2] 200).bind fun s =>
  cond (!s)
    (
    (law36_awake).bind fun a =>
    some (a))
    (
    cond (decide ((body.length : Int) < 2))
      (
      (law36_awake).bind fun a1 =>
      some (a1))
      (
      oreq (!(decide ((body.length : Int) = 0))) <|
      oreq (!(decide (wI .i64 ((body.length : Int).tdiv 2) = 0))) <|
      let t := (wI .i64 sum).tmod (wI .i64 ((body.length : Int).tdiv 2))
      (R03_Set body (wI .i64 (t * 2)) 2 0).bind fun s1 =>
      (R03_Of s1).bind fun xo =>
      (R03_Set s1 (wI .i64 (t * 2)) 2 (wI .u64 xo)).bind fun s2 =>
      (stamp_Patch s2 ((wI .i64 ata1).tmod (body.length : Int)) witha2 (wI .i64 (t * 2))).bind fun p =>
      cond (!p.2)
        (
        let t1 := wI .i64 ((s2.length : Int) - ((wI .i64 ata1).tmod (body.length : Int)))
        cond (decide ((witha2.length : Int) > t1))
          (
          cond (p.1 == [])
            (
            (law36_awake).bind fun a2 =>
            some (a2))
            (
            some (false)))
          (
          let t2 := decide (((wI .i64 ata1).tmod (body.length : Int)) < (wI .i64 ((wI .i64 (t * 2)) + 2)))
          cond (t2)
            (
            let t3 := wI .i64 (((wI .i64 ata1).tmod (body.length : Int)) + (witha2.length : Int))
            cond (decide ((wI .i64 (t * 2)) < t3))
              (
              cond (p.1 == [])
                (
                (law36_awake).bind fun a3 =>
                some (a3))
                (
                some (false)))
              (
              some (false)))
            (
            some (false))))
        (
        cond ((p.1.length : Int) != (s2.length : Int))
          (
          some (false))
          (
          iter (fun st => law36_StampPatch_s1 R03_Sum law36_awake body ata1 witha2 t s2 p st.1 st.2) FUEL (true, 0)))))
def rx3 (x : Bool) : SRes := ⟨.bool x, [], []⟩
def r3 (g : (List UInt8) → Int → (List UInt8) → Int → Option Bool) : Dec := dV asS fun (y0 : List UInt8) => dV (asI .u8) fun (y1 : Int) => dV asS fun (y2 : List UInt8) => dV (asI .u8) fun (y3 : Int) => dEnd (ofG (g y0 y1 y2 y3) rx3)
def s3 (g : (List UInt8) → Int → (List UInt8) → Int → Option Bool) : Summ := ⟨[.v, .v, .v, .v], r3 g⟩
abbrev sums3 (R03_Of : (List UInt8) → Option Int) (R03_Set : (List UInt8) → Int → Int → Int → Option (List UInt8)) (R03_Sum : (List UInt8) → Option Int) (R07_Small : (List (List UInt8)) → Int → Option Bool) (law36_awake : Option Bool) (stamp_Patch : (List UInt8) → Int → (List UInt8) → Int → Option ((List UInt8) × Bool)) : List (Nat × Summ) := [(10, s10 R03_Of), (9, s9 R03_Set), (12, s12 R03_Sum), (7, s7 R07_Small), (8, s8 law36_awake), (11, s11 stamp_Patch)]
def head3_1 (body : List UInt8) (ata1 : Int) (witha2 : List UInt8) (t : Int) (s2 : List UInt8) (p : (List UInt8) × Bool) (zero : Bool) (k : Int) : VM :=
  ⟨⟨3, 160, [(0, .string ⟨⟨s2⟩⟩), (2, .string ⟨⟨witha2⟩⟩), (9, .int .i64 ((wI .i64 ata1).tmod (body.length : Int))), (10, .int .i64 (wI .i64 (t * 2))), (11, .string ⟨⟨p.1⟩⟩), (13, .bool zero), (14, .int .i64 k)], [.code k3_37, .inLoop k3_37, .inBlock 0, .code k3_42], [], false, none⟩, [], [], 14⟩
theorem loop3_1 (R03_Of : (List UInt8) → Option Int) (R03_Set : (List UInt8) → Int → Int → Int → Option (List UInt8)) (R03_Sum : (List UInt8) → Option Int) (R07_Small : (List (List UInt8)) → Int → Option Bool) (law36_awake : Option Bool) (stamp_Patch : (List UInt8) → Int → (List UInt8) → Int → Option ((List UInt8) × Bool)) (hS : SumsOK Try.prog (aget (sums3 R03_Of R03_Set R03_Sum R07_Small law36_awake stamp_Patch))) (body : List UInt8) (ata1 : Int) (witha2 : List UInt8) (t : Int) (s2 : List UInt8) (p : (List UInt8) × Bool) (res : Bool) : ∀ fuel (st : Bool × Int) (o : Bool), iter (fun st => law36_StampPatch_s1 R03_Sum law36_awake body ata1 witha2 t s2 p st.1 st.2) fuel st = some o → (o = res) →
    Leads Try.prog 3 0 (head3_1 body ata1 witha2 t s2 p st.1 st.2) (fun v H _ => Res 0 (rx3 res) v H) := by
  intro fuel st o h hc
  refine iter_leads (head := fun st => head3_1 body ata1 witha2 t s2 p st.1 st.2) (C := fun o => (o = res)) ?_ fuel st o h hc
  clear h hc o st fuel
  intro st o h hc
  obtain ⟨zero, k⟩ := st
  replace h : law36_StampPatch_s1 R03_Sum law36_awake body ata1 witha2 t s2 p zero k = some o := h
  show Leads Try.prog 3 0 (head3_1 body ata1 witha2 t s2 p zero k) (fun v H _ => Res 0 (rx3 res) v H)
  unfold law36_StampPatch_s1 at h
  refine ev_ok tab_ok hS true 3000 ?_
  conv => whnf
  refine br.h2 h ?_ ?_ ?_
  · rfl
  · clear h; intro hb h; conv => whnf
    refine br.h h ?_ ?_ ?_
    · rfl
    · clear h; intro hb h; conv => whnf
      replace h := obind.elim h; obtain ⟨a4, hy, h⟩ := h
      refine sumK.q rfl rfl (r8_eq hy) rfl rfl rfl ?_
      conv => whnf
      all_goals (cases h; cases hc; exact Res.z rfl rfl rfl)
    clear h; intro hb h; conv => whnf
    replace h := obind.elim h; obtain ⟨s3, hy, h⟩ := h
    refine sumK.q rfl rfl (r12_eq hy) rfl rfl rfl ?_
    conv => whnf
    refine br.h2 h ?_ ?_ ?_
    · rfl
    · clear h; intro hb h; conv => whnf
      all_goals (cases h; cases hc; exact Res.z rfl rfl rfl)
    clear h; intro hb h; conv => whnf
    replace h := obind.elim h; obtain ⟨a5, hy, h⟩ := h
    refine sumK.q rfl rfl (r8_eq hy) rfl rfl rfl ?_
    conv => whnf
    all_goals (cases h; cases hc; exact Res.z rfl rfl rfl)
  clear h; intro hb h; conv => whnf
  refine br.h2 h ?_ ?_ ?_
  · rfl
  · clear h; intro hb h; conv => whnf
    let t7 : Bool := decide (k ≥ ((wI .i64 ata1).tmod (body.length : Int)))
    refine br.h2 h ?_ ?_ ?_
    · rfl
    · clear h; intro hb h; conv => whnf
      refine br.h2 h ?_ ?_ ?_
      · rfl
      · clear h; intro hb h; conv => whnf
        cases h; simp only [Sum.elim_inl, head3_1] at hc
        exact lrA0 hc [] rfl
      clear h; intro hb h; conv => whnf
      refine br.h2 h ?_ ?_ ?_
      · rfl
      · clear h; intro hb h; conv => whnf
        cases h; simp only [Sum.elim_inl, head3_1] at hc
        exact lrA0 hc [] rfl
      clear h; intro hb h; conv => whnf
      replace h := oreq.elim h; obtain ⟨hb, h⟩ := h
      first | (refine req.intro hb ?_; conv => whnf) | skip
      replace h := obind.elim h; obtain ⟨b11, hy, h⟩ := h
      refine rdS.intro hy ?_
      conv => whnf
      replace h := oreq.elim h; obtain ⟨hb, h⟩ := h
      first | (refine req.intro hb ?_; conv => whnf) | skip
      replace h := obind.elim h; obtain ⟨b12, hy, h⟩ := h
      refine rdS.intro hy ?_
      conv => whnf
      refine br.h h ?_ ?_ ?_
      · rfl
      · clear h; intro hb h; conv => whnf
        all_goals (cases h; cases hc; exact Res.z rfl rfl rfl)
      clear h; intro hb h; conv => whnf
      cases h; simp only [Sum.elim_inl, head3_1] at hc
      exact lrA0 hc [] rfl
    clear h; intro hb h; conv => whnf
    let t8 : Int := wI .i64 (((wI .i64 ata1).tmod (body.length : Int)) + (witha2.length : Int))
    refine br.h h ?_ ?_ ?_
    · rfl
    · clear h; intro hb h; conv => whnf
      replace h := oreq.elim h; obtain ⟨hb, h⟩ := h
      first | (refine req.intro hb ?_; conv => whnf) | skip
      replace h := obind.elim h; obtain ⟨b7, hy, h⟩ := h
      refine rdS.intro hy ?_
      conv => whnf
      let t9 : Int := wI .i64 (k - ((wI .i64 ata1).tmod (body.length : Int)))
      replace h := oreq.elim h; obtain ⟨hb, h⟩ := h
      first | (refine req.intro hb ?_; conv => whnf) | skip
      replace h := obind.elim h; obtain ⟨b8, hy, h⟩ := h
      refine rdS.intro hy ?_
      conv => whnf
      refine br.h h ?_ ?_ ?_
      · rfl
      · clear h; intro hb h; conv => whnf
        all_goals (cases h; cases hc; exact Res.z rfl rfl rfl)
      clear h; intro hb h; conv => whnf
      refine br.neg ?_ ?_; (focus (clear h; first | assumption | (simp_all; done)))
      conv => whnf
      cases h; simp only [Sum.elim_inl, head3_1] at hc
      exact lrA0 hc [] rfl
    clear h; intro hb h; conv => whnf
    refine br.pos ?_ ?_; (focus (clear h; first | assumption | (simp_all; done)))
    conv => whnf
    refine br.h2 h ?_ ?_ ?_
    · rfl
    · clear h; intro hb h; conv => whnf
      cases h; simp only [Sum.elim_inl, head3_1] at hc
      exact lrA0 hc [] rfl
    clear h; intro hb h; conv => whnf
    refine br.h2 h ?_ ?_ ?_
    · rfl
    · clear h; intro hb h; conv => whnf
      cases h; simp only [Sum.elim_inl, head3_1] at hc
      exact lrA0 hc [] rfl
    clear h; intro hb h; conv => whnf
    replace h := oreq.elim h; obtain ⟨hb, h⟩ := h
    first | (refine req.intro hb ?_; conv => whnf) | skip
    replace h := obind.elim h; obtain ⟨b9, hy, h⟩ := h
    refine rdS.intro hy ?_
    conv => whnf
    replace h := oreq.elim h; obtain ⟨hb, h⟩ := h
    first | (refine req.intro hb ?_; conv => whnf) | skip
    replace h := obind.elim h; obtain ⟨b10, hy, h⟩ := h
    refine rdS.intro hy ?_
    conv => whnf
    refine br.h h ?_ ?_ ?_
    · rfl
    · clear h; intro hb h; conv => whnf
      all_goals (cases h; cases hc; exact Res.z rfl rfl rfl)
    clear h; intro hb h; conv => whnf
    cases h; simp only [Sum.elim_inl, head3_1] at hc
    exact lrA0 hc [] rfl
  clear h; intro hb h; conv => whnf
  replace h := oreq.elim h; obtain ⟨hb, h⟩ := h
  first | (refine req.intro hb ?_; conv => whnf) | skip
  replace h := obind.elim h; obtain ⟨b, hy, h⟩ := h
  refine rdS.intro hy ?_
  conv => whnf
  let t4 : Bool := decide (k ≥ ((wI .i64 ata1).tmod (body.length : Int)))
  refine br.h2 h ?_ ?_ ?_
  · rfl
  · clear h; intro hb h; conv => whnf
    refine br.h2 h ?_ ?_ ?_
    · rfl
    · clear h; intro hb h; conv => whnf
      cases h; simp only [Sum.elim_inl, head3_1] at hc
      exact lrA0 hc [] rfl
    clear h; intro hb h; conv => whnf
    refine br.h2 h ?_ ?_ ?_
    · rfl
    · clear h; intro hb h; conv => whnf
      cases h; simp only [Sum.elim_inl, head3_1] at hc
      exact lrA0 hc [] rfl
    clear h; intro hb h; conv => whnf
    replace h := oreq.elim h; obtain ⟨hb, h⟩ := h
    first | (refine req.intro hb ?_; conv => whnf) | skip
    replace h := obind.elim h; obtain ⟨b5, hy, h⟩ := h
    refine rdS.intro hy ?_
    conv => whnf
    replace h := oreq.elim h; obtain ⟨hb, h⟩ := h
    first | (refine req.intro hb ?_; conv => whnf) | skip
    replace h := obind.elim h; obtain ⟨b6, hy, h⟩ := h
    refine rdS.intro hy ?_
    conv => whnf
    refine br.h h ?_ ?_ ?_
    · rfl
    · clear h; intro hb h; conv => whnf
      all_goals (cases h; cases hc; exact Res.z rfl rfl rfl)
    clear h; intro hb h; conv => whnf
    cases h; simp only [Sum.elim_inl, head3_1] at hc
    exact lrA0 hc [] rfl
  clear h; intro hb h; conv => whnf
  let t5 : Int := wI .i64 (((wI .i64 ata1).tmod (body.length : Int)) + (witha2.length : Int))
  refine br.h h ?_ ?_ ?_
  · rfl
  · clear h; intro hb h; conv => whnf
    replace h := oreq.elim h; obtain ⟨hb, h⟩ := h
    first | (refine req.intro hb ?_; conv => whnf) | skip
    replace h := obind.elim h; obtain ⟨b1, hy, h⟩ := h
    refine rdS.intro hy ?_
    conv => whnf
    let t6 : Int := wI .i64 (k - ((wI .i64 ata1).tmod (body.length : Int)))
    replace h := oreq.elim h; obtain ⟨hb, h⟩ := h
    first | (refine req.intro hb ?_; conv => whnf) | skip
    replace h := obind.elim h; obtain ⟨b2, hy, h⟩ := h
    refine rdS.intro hy ?_
    conv => whnf
    refine br.h h ?_ ?_ ?_
    · rfl
    · clear h; intro hb h; conv => whnf
      all_goals (cases h; cases hc; exact Res.z rfl rfl rfl)
    clear h; intro hb h; conv => whnf
    refine br.neg ?_ ?_; (focus (clear h; first | assumption | (simp_all; done)))
    conv => whnf
    cases h; simp only [Sum.elim_inl, head3_1] at hc
    exact lrA0 hc [] rfl
  clear h; intro hb h; conv => whnf
  refine br.pos ?_ ?_; (focus (clear h; first | assumption | (simp_all; done)))
  conv => whnf
  refine br.h2 h ?_ ?_ ?_
  · rfl
  · clear h; intro hb h; conv => whnf
    cases h; simp only [Sum.elim_inl, head3_1] at hc
    exact lrA0 hc [] rfl
  clear h; intro hb h; conv => whnf
  refine br.h2 h ?_ ?_ ?_
  · rfl
  · clear h; intro hb h; conv => whnf
    cases h; simp only [Sum.elim_inl, head3_1] at hc
    exact lrA0 hc [] rfl
  clear h; intro hb h; conv => whnf
  replace h := oreq.elim h; obtain ⟨hb, h⟩ := h
  first | (refine req.intro hb ?_; conv => whnf) | skip
  replace h := obind.elim h; obtain ⟨b3, hy, h⟩ := h
  refine rdS.intro hy ?_
  conv => whnf
  replace h := oreq.elim h; obtain ⟨hb, h⟩ := h
  first | (refine req.intro hb ?_; conv => whnf) | skip
  replace h := obind.elim h; obtain ⟨b4, hy, h⟩ := h
  refine rdS.intro hy ?_
  conv => whnf
  refine br.h h ?_ ?_ ?_
  · rfl
  · clear h; intro hb h; conv => whnf
    all_goals (cases h; cases hc; exact Res.z rfl rfl rfl)
  clear h; intro hb h; conv => whnf
  cases h; simp only [Sum.elim_inl, head3_1] at hc
  exact lrA0 hc [] rfl
theorem leads3 (R03_Of : (List UInt8) → Option Int) (R03_Set : (List UInt8) → Int → Int → Int → Option (List UInt8)) (R03_Sum : (List UInt8) → Option Int) (R07_Small : (List (List UInt8)) → Int → Option Bool) (law36_awake : Option Bool) (stamp_Patch : (List UInt8) → Int → (List UInt8) → Int → Option ((List UInt8) × Bool)) (hS : SumsOK Try.prog (aget (sums3 R03_Of R03_Set R03_Sum R07_Small law36_awake stamp_Patch))) (body : List UInt8) (ata1 : Int) (witha2 : List UInt8) (sum : Int) (res : Bool) (h : law36_StampPatchF R03_Of R03_Set R03_Sum R07_Small law36_awake stamp_Patch body ata1 witha2 sum = some res) :
    Leads Try.prog 3 0 ⟨⟨3, 160, [(0, .string ⟨⟨body⟩⟩), (1, .int .u8 ata1), (2, .string ⟨⟨witha2⟩⟩), (3, .int .u8 sum)], [.code k3_52], [], false, none⟩, [], [], 0⟩ (fun v H _ => Res 0 (rx3 res) v H) := by
  unfold law36_StampPatchF at h
  refine ev_ok tab_ok hS true 3000 ?_
  conv => whnf
  replace h := obind.elim h; obtain ⟨s, hy, h⟩ := h
  refine sumK.introF [] (sumRun_of (aqs := [.slice (some ⟨0, 0, none⟩) ([body, witha2] : List (List UInt8)).length 1, .int .i64 200]) (ws := [.win 0 0 (2 * 1) false]) (n := 0) (m := 0) (t' := 1) (ra_cons (by first | rfl | exact ra_allS rfl rfl (by first | rfl | omega) (by first | rfl | (simp; done)) | exact ra_slS rfl rfl (by first | rfl | omega) (by first | rfl | omega) (by first | omega | (simp at *; omega))) rfl (ra_cons rfl rfl ra_nil)) rfl (by rfl) (r7_eq hy) rfl rfl rfl rfl (wb_skip rfl wb_nil) an_nil rfl) ?_
  conv => whnf
  refine br.h h ?_ ?_ ?_
  · rfl
  · clear h; intro hb h; conv => whnf
    replace h := obind.elim h; obtain ⟨a, hy, h⟩ := h
    refine sumK.q rfl rfl (r8_eq hy) rfl rfl rfl ?_
    conv => whnf
    all_goals (cases h; exact Res.z rfl rfl rfl)
  clear h; intro hb h; conv => whnf
  refine br.h h ?_ ?_ ?_
  · rfl
  · clear h; intro hb h; conv => whnf
    replace h := obind.elim h; obtain ⟨a1, hy, h⟩ := h
    refine sumK.q rfl rfl (r8_eq hy) rfl rfl rfl ?_
    conv => whnf
    all_goals (cases h; exact Res.z rfl rfl rfl)
  clear h; intro hb h; conv => whnf
  replace h := oreq.elim h; obtain ⟨hb, h⟩ := h
  first | (refine req.intro hb ?_; conv => whnf) | skip
  replace h := oreq.elim h; obtain ⟨hb, h⟩ := h
  first | (refine req.intro hb ?_; conv => whnf) | skip
  let t : Int := (wI .i64 sum).tmod (wI .i64 ((body.length : Int).tdiv 2))
  replace h := obind.elim h; obtain ⟨s1, hy, h⟩ := h
  refine sumK.q rfl rfl (r9_eq hy) rfl rfl rfl ?_
  conv => whnf
  replace h := obind.elim h; obtain ⟨xo, hy, h⟩ := h
  refine sumK.q rfl rfl (r10_eq hy) rfl rfl rfl ?_
  conv => whnf
  replace h := obind.elim h; obtain ⟨s2, hy, h⟩ := h
  refine sumK.q rfl rfl (r9_eq hy) rfl rfl rfl ?_
  conv => whnf
  replace h := obind.elim h; obtain ⟨p, hy, h⟩ := h
  refine sumK.q rfl rfl (r11_eq hy) rfl rfl rfl ?_
  conv => whnf
  refine br.h2 h ?_ ?_ ?_
  · rfl
  · clear h; intro hb h; conv => whnf
    refine br.h h ?_ ?_ ?_
    · rfl
    · clear h; intro hb h; conv => whnf
      all_goals (cases h; exact Res.z rfl rfl rfl)
    clear h; intro hb h; conv => whnf
    have hl := loop3_1 R03_Of R03_Set R03_Sum R07_Small law36_awake stamp_Patch hS _ _ _ _ _ _ res _ _ _ h rfl; simp only [head3_1] at hl
    exact lrA0 hl [] rfl
  clear h; intro hb h; conv => whnf
  let t1 : Int := wI .i64 ((s2.length : Int) - ((wI .i64 ata1).tmod (body.length : Int)))
  refine br.h h ?_ ?_ ?_
  · rfl
  · clear h; intro hb h; conv => whnf
    refine br.h2 h ?_ ?_ ?_
    · rfl
    · clear h; intro hb h; conv => whnf
      all_goals (cases h; exact Res.z rfl rfl rfl)
    clear h; intro hb h; conv => whnf
    replace h := obind.elim h; obtain ⟨a2, hy, h⟩ := h
    refine sumK.q rfl rfl (r8_eq hy) rfl rfl rfl ?_
    conv => whnf
    all_goals (cases h; exact Res.z rfl rfl rfl)
  clear h; intro hb h; conv => whnf
  let t2 : Bool := decide (((wI .i64 ata1).tmod (body.length : Int)) < (wI .i64 ((wI .i64 (t * 2)) + 2)))
  refine br.h2 h ?_ ?_ ?_
  · rfl
  · clear h; intro hb h; conv => whnf
    all_goals (cases h; exact Res.z rfl rfl rfl)
  clear h; intro hb h; conv => whnf
  let t3 : Int := wI .i64 (((wI .i64 ata1).tmod (body.length : Int)) + (witha2.length : Int))
  refine br.h2 h ?_ ?_ ?_
  · rfl
  · clear h; intro hb h; conv => whnf
    all_goals (cases h; exact Res.z rfl rfl rfl)
  clear h; intro hb h; conv => whnf
  refine br.h2 h ?_ ?_ ?_
  · rfl
  · clear h; intro hb h; conv => whnf
    all_goals (cases h; exact Res.z rfl rfl rfl)
  clear h; intro hb h; conv => whnf
  replace h := obind.elim h; obtain ⟨a3, hy, h⟩ := h
  refine sumK.q rfl rfl (r8_eq hy) rfl rfl rfl ?_
  conv => whnf
  all_goals (cases h; exact Res.z rfl rfl rfl)
def law36_StampPatch : (List UInt8) → Int → (List UInt8) → Int → Option Bool := law36_StampPatchF R03_Of R03_Set R03_Sum R07_Small law36_awake stamp_Patch
end Go.Vm.Code
namespace Go.Vm.Code
open Go Go.Vm
theorem awake36 : law36_awake = some true := by decide +kernel
theorem setS_sset {s : List UInt8} {p k : Nat} {n : Int} (h1 : 1 ≤ k) (h8 : k ≤ 8) (h : p + k ≤ s.length) : setS s (p : Int) (k : Int) n = sset s p k n.toNat := by
  unfold setS
  rw [if_pos (by omega)]
  have e : ((p : Int) + k).toNat = p + k := by omega
  rw [e]; rfl
theorem wsum_allz : ∀ a : List UInt8, wsum a = 0 → allz a = true
  | [], _ => rfl
  | [x], h => by
    have : x.toNat = 0 := by rw [wsum] at h; omega
    have e : x = 0 := UInt8.toNat_inj.1 this
    subst e; rfl
  | x :: y :: a, h => by
    rw [wsum] at h
    have ex : x = 0 := UInt8.toNat_inj.1 (show x.toNat = 0 by omega)
    have ey : y = 0 := UInt8.toNat_inj.1 (show y.toNat = 0 by omega)
    have := wsum_allz a (by omega)
    subst ex ey
    exact this
theorem loop36 {body s2 w T : List UInt8} {a t : Int} {i j : Nat} (hI : (wI .i64 a).tmod (body.length : Int) = (i : Int)) (hJ : wI .i64 (t * 2) = (j : Int)) (hl : T.length = s2.length) (hb : T.length ≤ 200) (hw : w.length ≤ 200) (hi : i ≤ 200) (hj : j ≤ 200) (k1 : ∀ k, i ≤ k → k < i + w.length → k < T.length → T[k]? = w[k - i]?) (k2 : ∀ k, (k < i ∨ i + w.length ≤ k) → k ≠ j → k ≠ j + 1 → T[k]? = s2[k]?) (hm : wsum T % 65535 = 0) : iter (fun (st : Bool × Int) => law36_StampPatch_s1 R03_Sum law36_awake body a w t s2 (T, true) st.1 st.2) FUEL (true, 0) = some true := by
  rw [awake36]
  refine iter_eq (fun _ => true) (fun (st : Bool × Int) => ∃ x : Nat, st.2 = x ∧ x ≤ T.length ∧ st.1 = allz (T.take x)) (fun st => (T.length - st.2).toNat) ?_ FUEL _ ⟨0, rfl, by omega, rfl⟩ (by rw [FUEL_eq]; simp only; omega)
  rintro ⟨z, p⟩ ⟨x, h3, h4, h5⟩
  simp only at h3 h5 ⊢
  subst h3 h5
  unfold law36_StampPatch_s1
  simp only [hI, hJ]
  by_cases hx : x < T.length
  · have hz : allz (T.take (x + 1)) = (allz (T.take x) && (T[x] == 0)) := by
      unfold allz
      rw [List.take_succ_eq_append_getElem hx, List.all_append]
      simp only [List.all_cons, List.all_nil, Bool.and_true]
    refine .inr ⟨(allz (T.take (x + 1)), ((x + 1 : Nat) : Int)), ?_, ⟨x + 1, rfl, by omega, rfl⟩, by simp only; omega, trivial⟩
    have hT : T[x]? = some T[x] := List.getElem?_eq_getElem hx
    have hb0 : ((T[x].toNat : Int) != (T[x].toNat : Int)) = false := by simp
    have e5 : ((x : Int) - (i : Int)).toNat = x - i := by omega
    have n1 : ((x : Int) != (j : Int)) = decide (x ≠ j) := by rw [Bool.eq_iff_iff, bne_iff_ne, decide_eq_true_eq]; omega
    have n2 : ((x : Int) != (j : Int) + 1) = decide (x ≠ j + 1) := by rw [Bool.eq_iff_iff, bne_iff_ne, decide_eq_true_eq]; omega
    have w1 : wI .i64 ((i : Int) + (w.length : Int)) = (i : Int) + (w.length : Int) := wI64 (by omega) (by omega)
    have w2 : wI .i64 ((x : Int) - (i : Int)) = (x : Int) - (i : Int) := wI64 (by omega) (by omega)
    have w3 : wI .i64 ((j : Int) + 1) = (j : Int) + 1 := wI64 (by omega) (by omega)
    have w4 : wI .i64 ((x : Int) + 1) = ((x + 1 : Nat) : Int) := wI64 (by omega) (by omega)
    rw [cond_p (by omega), hz]
    simp only [w1, w2, w3, w4, n1, n2, e5, Int.toNat_natCast, hT, Option.bind_some, bz]
    by_cases g1 : i ≤ x
    · by_cases g2 : x < i + w.length
      · have e := k1 x g1 g2 hx
        rw [hT] at e
        cases allz (T.take x) <;> simp (disch := omega) only [cond_true, cond_false, cond_p, oreq_p, ← e, Option.bind_some, hb0, Bool.true_and, Bool.false_and]
      · by_cases g3 : x = j
        · cases allz (T.take x) <;> simp (disch := omega) only [cond_true, cond_false, cond_p, cond_n, oreq_p, Option.bind_some, Bool.true_and, Bool.false_and]
        · by_cases g4 : x = j + 1
          · cases allz (T.take x) <;> simp (disch := omega) only [cond_true, cond_false, cond_p, cond_n, oreq_p, Option.bind_some, Bool.true_and, Bool.false_and]
          · have e := k2 x (by omega) g3 g4
            rw [hT] at e
            cases allz (T.take x) <;> simp (disch := omega) only [cond_true, cond_false, cond_p, cond_n, oreq_p, ← e, Option.bind_some, hb0, Bool.true_and, Bool.false_and]
    · by_cases g3 : x = j
      · cases allz (T.take x) <;> simp (disch := omega) only [cond_true, cond_false, cond_p, cond_n, oreq_p, Option.bind_some, Bool.true_and, Bool.false_and]
      · by_cases g4 : x = j + 1
        · cases allz (T.take x) <;> simp (disch := omega) only [cond_true, cond_false, cond_p, cond_n, oreq_p, Option.bind_some, Bool.true_and, Bool.false_and]
        · have e := k2 x (by omega) g3 g4
          rw [hT] at e
          cases allz (T.take x) <;> simp (disch := omega) only [cond_true, cond_false, cond_p, cond_n, oreq_p, ← e, Option.bind_some, hb0, Bool.true_and, Bool.false_and]
  · refine .inl ?_
    have ex : T.take x = T := List.take_of_length_le (by omega)
    rw [cond_n (by omega), ex]
    cases hz : allz T with
    | true => rfl
    | false =>
      have : wsum T ≠ 0 := fun e => by rw [wsum_allz T e] at hz; cases hz
      rw [cond_false, R03_Sum_eq (by omega), Option.bind_some, norm_zero_mod hm this]; rfl
theorem stampPatch (body : List UInt8) (a : Int) (w : List UInt8) (sum : Int) (ha : 0 ≤ a ∧ a < 256) (hs : 0 ≤ sum ∧ sum < 256) : law36_StampPatch body a w sum = some true := by
  unfold law36_StampPatch law36_StampPatchF
  rw [small_eq (by simp), Option.bind_some]
  cases hc : [body, w].all fun x => decide ((x.length : Int) ≤ 200)
  · rw [awake36]; rfl
  simp only [List.all_cons, List.all_nil, Bool.and_true, Bool.and_eq_true, decide_eq_true_eq] at hc
  rw [Bool.not_true, cond_false]
  by_cases h2 : body.length < 2
  · rw [cond_p (by omega), awake36]; rfl
  rw [cond_n (by omega)]
  have e1 : wI .i64 ((body.length : Int).tdiv 2) = ((body.length / 2 : Nat) : Int) := by rw [Int.tdiv_eq_ediv_of_nonneg (by omega), wI64 (by omega) (by omega)]; rfl
  have n1 : (!(decide ((body.length : Int) = 0))) = true := by rw [decide_eq_false (by omega)]; rfl
  have n2 : (!(decide (((body.length / 2 : Nat) : Int) = 0))) = true := by rw [decide_eq_false (by omega)]; rfl
  rw [e1, oreq.mk n1, oreq.mk n2]
  have e2 : wI .i64 sum = sum := wI64 (by omega) (by omega)
  have e3 : sum.tmod ((body.length / 2 : Nat) : Int) = ((sum.toNat % (body.length / 2) : Nat) : Int) := by
    rw [Int.tmod_eq_emod_of_nonneg hs.1, Int.natCast_emod, Int.toNat_of_nonneg hs.1]
  have hI : (wI .i64 a).tmod (body.length : Int) = ((a.toNat % body.length : Nat) : Int) := by
    rw [wI64 (by omega) (by omega), Int.tmod_eq_emod_of_nonneg ha.1, Int.natCast_emod, Int.toNat_of_nonneg ha.1]
  have b1 := Nat.mod_lt a.toNat (show body.length > 0 by omega)
  have b2 := Nat.mod_lt sum.toNat (show body.length / 2 > 0 by omega)
  simp only [e2, e3]
  generalize a.toNat % body.length = i at *
  generalize sum.toNat % (body.length / 2) = m at *
  have hJ : wI .i64 ((m : Int) * 2) = ((m * 2 : Nat) : Int) := by rw [wI64 (by omega) (by omega)]; omega
  have hj : m * 2 + 2 ≤ body.length := by omega
  simp only [hI]
  rw [hJ]
  have l1 := sset_len (n := 0) hj
  rw [show (2 : Int) = ((2 : Nat) : Int) from rfl, R03_Set_eq (by omega) (by omega) (by omega), setS_sset (by omega) (by omega) hj, Option.bind_some, show (0 : Int).toNat = 0 from rfl]
  have z1 : ((sset body (m * 2) 2 0).drop (m * 2)).take 2 = be 0 2 := slice_same hj
  generalize hs1 : sset body (m * 2) 2 0 = s1 at *
  have q1 := norm_le (wsum s1)
  have q2 := norm_mod (wsum s1)
  rw [R03_Of_eq (by omega), Option.bind_some]
  have ec : wI .u64 (65535 - ((norm (wsum s1) : Nat) : Int)) = ((65535 - norm (wsum s1) : Nat) : Int) := by rw [wU64 (by omega) (by omega)]; omega
  have l2 := sset_len (s := s1) (p := m * 2) (k := 2) (n := 65535 - norm (wsum s1)) (by omega)
  have w1 := wsum_sset (s := s1) (p := m * 2) (k := 2) (n := 65535 - norm (wsum s1)) (by omega) (by omega) (by omega)
  rw [z1, wsum_be2 (by omega), wsum_be2 (by omega)] at w1
  rw [ec, R03_Set_eq (by omega) (by omega) (by omega), setS_sset (by omega) (by omega) (by omega), Option.bind_some, Int.toNat_natCast]
  generalize hs2 : sset s1 (m * 2) 2 (65535 - norm (wsum s1)) = s2 at *
  have hm2 : wsum s2 % 65535 = 0 := by omega
  rw [patch_eq (by omega) (by omega) (by omega) (by omega) (by omega), Option.bind_some]
  by_cases g1 : s2.length < i + w.length
  · rw [show patch36 s2 i w (m * 2) = ([], false) by unfold patch36; rw [if_pos g1]]
    simp only [Bool.not_false, cond_true]
    rw [wI64 (n := (s2.length : Int) - (i : Int)) (by omega) (by omega), cond_p (by omega), awake36]; rfl
  by_cases g2 : w = []
  · rw [show patch36 s2 i w (m * 2) = (s2, true) by unfold patch36; rw [if_neg g1, if_pos g2]]
    simp only [Bool.not_true, cond_false, bne_self_eq_false]
    subst g2
    exact loop36 hI hJ rfl (by omega) (by simp) (by omega) (by omega) (fun k h h' _ => absurd h' (by simp; omega)) (fun _ _ _ _ => rfl) hm2
  by_cases g3 : i < m * 2 + 2 ∧ m * 2 < i + w.length
  · rw [show patch36 s2 i w (m * 2) = ([], false) by unfold patch36; rw [if_neg g1, if_neg g2, if_pos g3]]
    simp only [Bool.not_false, cond_true]
    rw [wI64 (n := (s2.length : Int) - (i : Int)) (by omega) (by omega), cond_n (by omega)]
    rw [wI64 (n := ((m * 2 : Nat) : Int) + ((2 : Nat) : Int)) (by omega) (by omega), cond_p (by omega), wI64 (n := (i : Int) + (w.length : Int)) (by omega) (by omega), cond_p (by omega), awake36]; rfl
  · have h1 : i + w.length ≤ s2.length := by omega
    obtain ⟨d, d1, d2, d3⟩ := patch36_ok (b := s2) (w := w) (i := i) (j := m * 2) g2 h1 (by omega) (by omega) (by omega)
    have hl := repl_len h1
    have hl2 := sset_len (s := repl s2 i w) (p := m * 2) (k := 2) (n := d) (by omega)
    rw [show patch36 s2 i w (m * 2) = (sset (repl s2 i w) (m * 2) 2 d, true) by unfold patch36; rw [if_neg g1, if_neg g2, if_neg g3, d1, Int.toNat_natCast]]
    simp only [Bool.not_true, cond_false]
    rw [show (((sset (repl s2 i w) (m * 2) 2 d).length : Int) != (s2.length : Int)) = false by rw [bne_eq_false_iff_eq]; omega, cond_false]
    refine loop36 hI hJ (by omega) (by omega) (by omega) (by omega) (by omega) (fun k h h' h3 => ?_) (fun k h h' h3 => ?_) (by omega)
    · rw [sset_get (by omega), repl_get h1, if_neg (show ¬ k < i by omega), if_pos h']
      by_cases c1 : k < m * 2
      · rw [if_pos c1]
      · rw [if_neg c1, if_neg (by omega)]
    · rw [sset_get (by omega), repl_get h1]
      have e : (if k < i then s2[k]? else if k < i + w.length then w[k - i]? else s2[k]?) = s2[k]? := by
        by_cases c : k < i
        · rw [if_pos c]
        · rw [if_neg c, if_neg (by omega)]
      rw [e]
      by_cases c1 : k < m * 2
      · rw [if_pos c1]
      · rw [if_neg c1, if_neg (by omega)]
end Go.Vm.Code
