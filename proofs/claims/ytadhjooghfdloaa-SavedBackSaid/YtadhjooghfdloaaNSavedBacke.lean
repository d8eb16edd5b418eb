import Derived.Test.YtadhjooghfdloaaNSavedBackd
namespace Go.Vm.Code
open Go Go.Vm Go.Proofs
set_option maxRecDepth 100000
set_option maxHeartbeats 4000000
set_option linter.unusedVariables false
def saved_sealF (octet_Put : Int → Int → Option (List UInt8)) (sip_Hash : api_Key → (List UInt8) → Option Int) (s : List UInt8) : Option (List UInt8) :=
  (sip_Hash (api_Key.mk 1 2) s).bind fun xh =>
  (octet_Put xh 8).bind fun p =>
  some (p)
def rx98 (x : List UInt8) : SRes := ⟨.string ⟨⟨x⟩⟩, [], []⟩
def r98 (g : (List UInt8) → Option (List UInt8)) : Dec := dV asS fun (y0 : List UInt8) => dEnd (ofG (g y0) rx98)
theorem r98_c {g : (List UInt8) → Option (List UInt8)} {y0 : List UInt8} {x : List UInt8} (hx : g y0 = some x) : r98 g [.string ⟨⟨y0⟩⟩] [] = some (rx98 x) := (dV_eq (asS_c)).trans (ofG_eq hx)
def s98 (g : (List UInt8) → Option (List UInt8)) : Summ := ⟨[.v], r98 g⟩
theorem r98_eq {g : (List UInt8) → Option (List UInt8)} {y0 : List UInt8} {x : List UInt8} (hx : g y0 = some x) : (s98 g).run [.string ⟨⟨y0⟩⟩] [] = some (rx98 x) := r98_c hx
abbrev sums98 (octet_Put : Int → Int → Option (List UInt8)) (sip_Hash : api_Key → (List UInt8) → Option Int) : List (Nat × Summ) := [(109, s109 octet_Put), (94, s94 sip_Hash)]
theorem leads98 (octet_Put : Int → Int → Option (List UInt8)) (sip_Hash : api_Key → (List UInt8) → Option Int) (hS : SumsOK Try.prog (aget (sums98 octet_Put sip_Hash))) (s : List UInt8) (res : List UInt8) (h : saved_sealF octet_Put sip_Hash s = some res) :
    Leads Try.prog 98 0 ⟨⟨98, 7, [(0, .string ⟨⟨s⟩⟩)], [.code k98_3], [], false, none⟩, [], [], 0⟩ (fun v H _ => Res 0 (rx98 res) v H) := by
  unfold saved_sealF at h
  refine ev_ok tab_ok hS true 3000 ?_
  conv => whnf
  replace h := obind.elim h; obtain ⟨xh, hy, h⟩ := h
  refine sumK.q rfl rfl (r94_eq hy) rfl rfl rfl ?_
  conv => whnf
  replace h := obind.elim h; obtain ⟨p, hy, h⟩ := h
  refine sumK.q rfl rfl (r109_eq hy) rfl rfl rfl ?_
  conv => whnf
  all_goals (cases h; exact Res.z rfl rfl rfl)
theorem ok98 (octet_Put : Int → Int → Option (List UInt8)) (sip_Hash : api_Key → (List UInt8) → Option Int) (hS : SumsOK Try.prog (aget (sums98 octet_Put sip_Hash))) : SumOK Try.prog 98 (s98 (saved_sealF octet_Put sip_Hash)) := by
  refine SumOK.of_leads tab_ok (fun ar os r ha hr => ?_) ⟨Try.f98, rfl, by decide, rfl⟩
  replace hr : r98 (saved_sealF octet_Put sip_Hash) ar (conts os) = some r := hr
  unfold r98 at hr
  generalize hc : conts os = C at hr
  replace hr := dV.elim hr; obtain ⟨v0, l1, y0, rfl, e0, hr⟩ := hr; obtain rfl := asS_eq _ _ e0
  replace hr := dFin hr; obtain ⟨rfl, rfl, x, h, rfl⟩ := hr
  obtain rfl := kinds_nil hc
  exact ⟨_, rfl, leads98 octet_Put sip_Hash hS _ x h⟩
def saved_seal : (List UInt8) → Option (List UInt8) := saved_sealF octet_Put sip_Hash
theorem lift98 : SumOK Try.prog 98 (s98 saved_seal) := ok98 octet_Put sip_Hash (SumsOK.of_tab ⟨lift109, lift94, trivial⟩)
def saved_Put_s1 (addr_Put : api_Addr → Option (List UInt8)) (octet_Put : Int → Int → Option (List UInt8)) (saved_seal : (List UInt8) → Option (List UInt8)) (ra0 : saved_Record) (t37 : Int) (s : List UInt8) : Option (Sum (Int × (List UInt8)) ((List UInt8) × Int)) :=
  cond (decide (t37 < (ra0.L.length : Int)))
    (
    oreq (decide ((0 : Int) ≤ t37 ∧ t37 < (ra0.L.length : Int))) <|
    (ra0.L[t37.toNat]?).bind fun (e : api_Backend) =>
    (addr_Put e.Addr).bind fun p4 =>
    let t1 := iorI .u64 (wI .u64 ((wI .u64 e.ID) * 2 ^ 16)) (wI .u64 e.Weight)
    (octet_Put t1 4).bind fun p5 =>
    oreq (decide (s.length + p5.length < 2 ^ 63)) <|
    let t2 := iorI .u64 (wI .u64 ((wI .u64 e.State) * 2 ^ 8)) (wI .u64 (p4.length : Int))
    (octet_Put t2 2).bind fun p6 =>
    oreq (decide ((s ++ p5).length + p6.length < 2 ^ 63)) <|
    oreq (decide (((s ++ p5) ++ p6).length + p4.length < 2 ^ 63)) <|
    some (.inl (wI .i64 (t37 + 1), ((s ++ p5) ++ p6) ++ p4)))
    (
    (saved_seal s).bind fun s1 =>
    oreq (decide (s.length + s1.length < 2 ^ 63)) <|
    some (.inr ((s ++ s1, 0))))
def saved_PutF (addr_Put : api_Addr → Option (List UInt8)) (octet_Put : Int → Int → Option (List UInt8)) (saved_Right : saved_Record → Option Bool) (saved_seal : (List UInt8) → Option (List UInt8)) (ra0 : saved_Record) : Option ((List UInt8) × Int) :=
  (saved_Right ra0).bind fun xr =>
  cond (!xr)
    (
    some (([], 1)))
    (
    (octet_Put ra0.Key.A 8).bind fun p =>
    oreq (decide (4 + p.length < 2 ^ 63)) <|
    (octet_Put ra0.Key.B 8).bind fun p1 =>
    oreq (decide (([67, 76, 75, 49] ++ p).length + p1.length < 2 ^ 63)) <|
    (octet_Put (wI .u64 ra0.Last) 2).bind fun p2 =>
    oreq (decide ((([67, 76, 75, 49] ++ p) ++ p1).length + p2.length < 2 ^ 63)) <|
    (octet_Put (wI .u64 (ra0.L.length : Int)) 1).bind fun p3 =>
    oreq (decide (((([67, 76, 75, 49] ++ p) ++ p1) ++ p2).length + p3.length < 2 ^ 63)) <|
    let t := ((([67, 76, 75, 49] ++ p) ++ p1) ++ p2) ++ p3
    iter (fun st => saved_Put_s1 addr_Put octet_Put saved_seal ra0 st.1 st.2) FUEL (0, t))
def rx53 (x : (List UInt8) × Int) : SRes := ⟨.tuple ⟨[.string ⟨⟨x.1⟩⟩, .int .i64 x.2]⟩, [], [none]⟩
def r53 (g : saved_Record → Option ((List UInt8) × Int)) : Dec := dTr 1 (udsaved_Record 0) fun (y0 : saved_Record) => dEnd (ofG (g y0) rx53)
theorem r53_c {g : saved_Record → Option ((List UInt8) × Int)} {y0 : saved_Record} {x : (List UInt8) × Int} (hx : g y0 = some x) : r53 g [.agg ⟨[.int .u64 y0.Key.A, .int .u64 y0.Key.B, .int .i64 y0.Last, .slice (some ⟨0, 0, none⟩) y0.L.length 6]⟩] [some (vT capi_Backend y0.L)] = some (rx53 x) := (dTr_eq rfl rfl (udsaved_Record_c 0 _)).trans (ofG_eq hx)
def s53 (g : saved_Record → Option ((List UInt8) × Int)) : Summ := ⟨[.tr [⟨none, 3, 0, 0, some 6⟩]], r53 g⟩
theorem r53_eq {g : saved_Record → Option ((List UInt8) × Int)} {y0 : saved_Record} {x : (List UInt8) × Int} (hx : g y0 = some x) : (s53 g).run [.agg ⟨[.int .u64 y0.Key.A, .int .u64 y0.Key.B, .int .i64 y0.Last, .slice (some ⟨0, 0, none⟩) y0.L.length 6]⟩] [some (vT capi_Backend y0.L)] = some (rx53 x) := r53_c hx
abbrev sums53 (addr_Put : api_Addr → Option (List UInt8)) (octet_Put : Int → Int → Option (List UInt8)) (saved_Right : saved_Record → Option Bool) (saved_seal : (List UInt8) → Option (List UInt8)) : List (Nat × Summ) := [(110, s110 addr_Put), (109, s109 octet_Put), (56, s56 saved_Right), (98, s98 saved_seal)]
def head53_1 (ra0 : saved_Record) (t37 : Int) (s : List UInt8) : VM :=
  ⟨⟨53, 72, [(4, .pointer (some ⟨2, 0, none⟩)), (5, .func (.func 108) ⟨[]⟩ ⟨[.pointer (some ⟨2, 0, none⟩)]⟩), (35, .slice (some ⟨0, 0, none⟩) ra0.L.length 6), (36, .int .i64 (ra0.L.length : Int)), (37, .int .i64 t37)], [.code k53_28, .inLoop k53_28, .inBlock 0, .code k53_33], [], false, none⟩, [], [(0, .row false (vT capi_Backend ra0.L)), (2, .cells [.string ⟨⟨s⟩⟩])], 19⟩
theorem loop53_1 (addr_Put : api_Addr → Option (List UInt8)) (octet_Put : Int → Int → Option (List UInt8)) (saved_Right : saved_Record → Option Bool) (saved_seal : (List UInt8) → Option (List UInt8)) (hS : SumsOK Try.prog (aget (sums53 addr_Put octet_Put saved_Right saved_seal))) (ra0 : saved_Record) (res : (List UInt8) × Int) : ∀ fuel (st : Int × (List UInt8)) (o : (List UInt8) × Int), iter (fun st => saved_Put_s1 addr_Put octet_Put saved_seal ra0 st.1 st.2) fuel st = some o → (o = res) →
    Leads Try.prog 53 1 (head53_1 ra0 st.1 st.2) (fun v H _ => Res 1 (rx53 res) v H) := by
  intro fuel st o h hc
  refine iter_leads (head := fun st => head53_1 ra0 st.1 st.2) (C := fun o => (o = res)) ?_ fuel st o h hc
  clear h hc o st fuel
  intro st o h hc
  obtain ⟨t37, s⟩ := st
  replace h : saved_Put_s1 addr_Put octet_Put saved_seal ra0 t37 s = some o := h
  show Leads Try.prog 53 1 (head53_1 ra0 t37 s) (fun v H _ => Res 1 (rx53 res) v H)
  unfold saved_Put_s1 at h
  refine ev_ok tab_ok hS true 3000 ?_
  conv => whnf
  refine br.h2 h ?_ ?_ ?_
  · rfl
  · clear h; intro hb h; conv => whnf
    replace h := obind.elim h; obtain ⟨s1, hy, h⟩ := h
    refine sumK.q rfl rfl (r98_eq hy) rfl rfl rfl ?_
    conv => whnf
    replace h := oreq.elim h; obtain ⟨hb, h⟩ := h
    first | (refine req.intro hb ?_; conv => whnf) | skip
    all_goals (cases h; cases hc)
    all_goals exact Res.of [] rfl nw_0 (by decide) js_0 (wr_n wr_0)
  clear h; intro hb h; conv => whnf
  replace h := oreq.elim h; obtain ⟨hb, h⟩ := h
  first | (refine req.intro hb ?_; conv => whnf) | skip
  replace h := obind.elim h; obtain ⟨e, hy, h⟩ := h
  refine ld_T capi_Backend_len hy (by first | omega | exact Nat.zero_add _ | exact congrArg (· + _) (Nat.zero_add _)) rfl ?_
  conv => whnf
  replace h := obind.elim h; obtain ⟨p4, hy, h⟩ := h
  refine sumK.q rfl rfl (r110_eq hy) rfl rfl rfl ?_
  conv => whnf
  let t1 : Int := iorI .u64 (wI .u64 ((wI .u64 e.ID) * 2 ^ 16)) (wI .u64 e.Weight)
  replace h := obind.elim h; obtain ⟨p5, hy, h⟩ := h
  refine sumK.q rfl rfl (r109_eq hy) rfl rfl rfl ?_
  conv => whnf
  replace h := oreq.elim h; obtain ⟨hb, h⟩ := h
  first | (refine req.intro hb ?_; conv => whnf) | skip
  let t2 : Int := iorI .u64 (wI .u64 ((wI .u64 e.State) * 2 ^ 8)) (wI .u64 (p4.length : Int))
  replace h := obind.elim h; obtain ⟨p6, hy, h⟩ := h
  refine sumK.q rfl rfl (r109_eq hy) rfl rfl rfl ?_
  conv => whnf
  replace h := oreq.elim h; obtain ⟨hb, h⟩ := h
  first | (refine req.intro hb ?_; conv => whnf) | skip
  replace h := oreq.elim h; obtain ⟨hb, h⟩ := h
  first | (refine req.intro hb ?_; conv => whnf) | skip
  cases h; simp only [Sum.elim_inl, head53_1] at hc
  exact lrA0 hc [(0, 0), (2, 2)] rfl
theorem leads53 (addr_Put : api_Addr → Option (List UInt8)) (octet_Put : Int → Int → Option (List UInt8)) (saved_Right : saved_Record → Option Bool) (saved_seal : (List UInt8) → Option (List UInt8)) (hS : SumsOK Try.prog (aget (sums53 addr_Put octet_Put saved_Right saved_seal))) (ra0 : saved_Record) (res : (List UInt8) × Int) (h : saved_PutF addr_Put octet_Put saved_Right saved_seal ra0 = some res) :
    Leads Try.prog 53 1 ⟨⟨53, 72, [(0, .agg ⟨[.int .u64 ra0.Key.A, .int .u64 ra0.Key.B, .int .i64 ra0.Last, .slice (some ⟨0, 0, none⟩) ra0.L.length 6]⟩)], [.code k53_42], [], false, none⟩, [], [(0, .row false (vT capi_Backend ra0.L))], 1⟩ (fun v H _ => Res 1 (rx53 res) v H) := by
  unfold saved_PutF at h
  refine ev_ok tab_ok hS true 3000 ?_
  conv => whnf
  replace h := obind.elim h; obtain ⟨xr, hy, h⟩ := h
  refine sumK.introF [] (sumRun_of (aqs := [.agg ⟨[.int .u64 ra0.Key.A, .int .u64 ra0.Key.B, .int .i64 ra0.Last, .slice (some ⟨0, 0, none⟩) ra0.L.length 6]⟩]) (ws := [.blk 0 false]) (n := 0) (m := 0) (t' := 2) (ra_cons (ra_tr rfl rfl (vp_at rfl rfl (rn_T capi_Backend_flat) rfl vp_nil) rfl) rfl ra_nil) rfl (by rfl) (r56_eq hy) rfl rfl rfl rfl (wb_skip rfl wb_nil) an_nil rfl) ?_
  conv => whnf
  refine br.h h ?_ ?_ ?_
  · rfl
  · clear h; intro hb h; conv => whnf
    all_goals (cases h)
    all_goals exact Res.of [] rfl nw_0 (by decide) js_0 (wr_n wr_0)
  clear h; intro hb h; conv => whnf
  replace h := obind.elim h; obtain ⟨p, hy, h⟩ := h
  refine sumK.q rfl rfl (r109_eq hy) rfl rfl rfl ?_
  conv => whnf
  replace h := oreq.elim h; obtain ⟨hb, h⟩ := h
  first | (refine req.intro hb ?_; conv => whnf) | skip
  replace h := obind.elim h; obtain ⟨p1, hy, h⟩ := h
  refine sumK.q rfl rfl (r109_eq hy) rfl rfl rfl ?_
  conv => whnf
  replace h := oreq.elim h; obtain ⟨hb, h⟩ := h
  first | (refine req.intro hb ?_; conv => whnf) | skip
  replace h := obind.elim h; obtain ⟨p2, hy, h⟩ := h
  refine sumK.q rfl rfl (r109_eq hy) rfl rfl rfl ?_
  conv => whnf
  replace h := oreq.elim h; obtain ⟨hb, h⟩ := h
  first | (refine req.intro hb ?_; conv => whnf) | skip
  replace h := obind.elim h; obtain ⟨p3, hy, h⟩ := h
  refine sumK.q rfl rfl (r109_eq hy) rfl rfl rfl ?_
  conv => whnf
  replace h := oreq.elim h; obtain ⟨hb, h⟩ := h
  first | (refine req.intro hb ?_; conv => whnf) | skip
  let t : List UInt8 := ((([67, 76, 75, 49] ++ p) ++ p1) ++ p2) ++ p3
  have hl := loop53_1 addr_Put octet_Put saved_Right saved_seal hS _ res _ _ _ h rfl; simp only [head53_1] at hl
  exact lrA0 hl [(0, 0), (2, 2)] rfl
theorem ok53 (addr_Put : api_Addr → Option (List UInt8)) (octet_Put : Int → Int → Option (List UInt8)) (saved_Right : saved_Record → Option Bool) (saved_seal : (List UInt8) → Option (List UInt8)) (hS : SumsOK Try.prog (aget (sums53 addr_Put octet_Put saved_Right saved_seal))) : SumOK Try.prog 53 (s53 (saved_PutF addr_Put octet_Put saved_Right saved_seal)) := by
  refine SumOK.of_leads tab_ok (fun ar os r ha hr => ?_) ⟨Try.f53, rfl, by decide, rfl⟩
  replace hr : r53 (saved_PutF addr_Put octet_Put saved_Right saved_seal) ar (conts os) = some r := hr
  unfold r53 at hr
  generalize hc : conts os = C at hr
  have hq := dTr.elim hr; clear hr; obtain ⟨v0, l1, c0, C, y0, rfl, rfl, e0, hr⟩ := hq; obtain ⟨rfl, rfl⟩ := udsaved_Record_eq e0; simp only [List.nil_append, List.cons_append] at hc
  replace hr := dFin hr; obtain ⟨rfl, rfl, x, h, rfl⟩ := hr
  obtain ⟨os, rfl, ha, hc⟩ := kinds_some ha hc
  obtain rfl := kinds_nil hc
  exact ⟨_, rfl, leads53 addr_Put octet_Put saved_Right saved_seal hS _ x h⟩
def saved_Put : saved_Record → Option ((List UInt8) × Int) := saved_PutF addr_Put octet_Put saved_Right saved_seal
theorem lift53 : SumOK Try.prog 53 (s53 saved_Put) := ok53 addr_Put octet_Put saved_Right saved_seal (SumsOK.of_tab ⟨lift110, lift109, lift56, lift98, trivial⟩)
def saved_Of_s1 (k : api_Key) (last : Int) (l : List api_Backend) (t15 : Int) (c : List api_Backend) : Option (Sum (Int × (List api_Backend)) saved_Record) :=
  cond (decide (t15 < (l.length : Int)))
    (
    oreq (decide ((0 : Int) ≤ t15 ∧ t15 < (l.length : Int))) <|
    (l[t15.toNat]?).bind fun (e : api_Backend) =>
    cond (e.State == 4)
      (
      some (.inl (wI .i64 (t15 + 1), c)))
      (
      cond (e.State == 3)
        (
        oreq (decide ((c.length + 1) * 48 ≤ 2 ^ 47)) <|
        let row := c ++ [e]
        some (.inl (wI .i64 (t15 + 1), row)))
        (
        oreq (decide ((c.length + 1) * 48 ≤ 2 ^ 47)) <|
        let row1 := c ++ [api_Backend.mk e.ID e.Weight 1 e.Addr]
        some (.inl (wI .i64 (t15 + 1), row1)))))
    (
    some (.inr (saved_Record.mk k last c)))
def saved_OfF (k : api_Key) (last : Int) (l : List api_Backend) : Option saved_Record :=
  iter (fun st => saved_Of_s1 k last l st.1 st.2) FUEL (0, [])
def rx58 (x : saved_Record) : SRes := ⟨.agg ⟨[.int .u64 x.Key.A, .int .u64 x.Key.B, .int .i64 x.Last, .slice (some ⟨0, 0, none⟩) x.L.length 6]⟩, [(vT capi_Backend x.L)], [none]⟩
def r58 (g : api_Key → Int → (List api_Backend) → Option saved_Record) : Dec := dV uvapi_Key fun (y0 : api_Key) => dV (asI .i64) fun (y1 : Int) => dSl 0 6 (unR 6 unapi_Backend) fun (y2 : List api_Backend) => dEnd (ofG (g y0 y1 y2) rx58)
theorem r58_c {g : api_Key → Int → (List api_Backend) → Option saved_Record} {y0 : api_Key} {y1 : Int} {y2 : List api_Backend} {x : saved_Record} (hx : g y0 y1 y2 = some x) : r58 g [.agg ⟨[.int .u64 y0.A, .int .u64 y0.B]⟩, .int .i64 y1, .slice (some ⟨0, 0, none⟩) y2.length 6] [some (vT capi_Backend y2)] = some (rx58 x) := (dV_eq (uvapi_Key_c _)).trans ((dV_eq (asI_c _)).trans ((dSl_eq (unR_vT (by first | exact capi_Key_len | exact capi_Addr_len | exact capi_Backend_len | exact cArr4_Int_len | exact csip_Hasher_len | exact coctet_Reader_len | exact cR23_Step_len | exact chealth_Rule_len | exact chealth_State_len | exact cregistry_row_len) (by decide) unapi_Backend_c _)).trans (ofG_eq hx)))
def s58 (g : api_Key → Int → (List api_Backend) → Option saved_Record) : Summ := ⟨[.v, .v, .sl 6], r58 g⟩
theorem r58_eq {g : api_Key → Int → (List api_Backend) → Option saved_Record} {y0 : api_Key} {y1 : Int} {y2 : List api_Backend} {x : saved_Record} (hx : g y0 y1 y2 = some x) : (s58 g).run [.agg ⟨[.int .u64 y0.A, .int .u64 y0.B]⟩, .int .i64 y1, .slice (some ⟨0, 0, none⟩) y2.length 6] [some (vT capi_Backend y2)] = some (rx58 x) := r58_c hx
abbrev sums58 : List (Nat × Summ) := []
def head58_1 (k : api_Key) (last : Int) (l : List api_Backend) (t15 : Int) (c : List api_Backend) : VM :=
  ⟨⟨58, 34, [(6, .pointer (some ⟨2, 0, none⟩)), (7, .pointer (some ⟨3, 0, none⟩)), (13, .slice (some ⟨0, 0, none⟩) l.length 6), (14, .int .i64 (l.length : Int)), (15, .int .i64 t15)], [.code k58_23, .inLoop k58_23, .inBlock 0, .code k58_28], [], false, none⟩, [], [(0, .row false (vT capi_Backend l)), (2, .cells [.int .u64 0, .int .u64 0, .int .i64 0, .slice none 0 0]), (3, .cells [.int .u64 k.A, .int .u64 k.B, .int .i64 last, .slice (some ⟨4, 0, none⟩) c.length 6]), (4, .row true (vT capi_Backend c))], 5⟩
theorem loop58_1 (hS : SumsOK Try.prog (aget (sums58))) (k : api_Key) (last : Int) (l : List api_Backend) (res : saved_Record) : ∀ fuel (st : Int × (List api_Backend)) (o : saved_Record), iter (fun st => saved_Of_s1 k last l st.1 st.2) fuel st = some o → (o = res) →
    Leads Try.prog 58 1 (head58_1 k last l st.1 st.2) (fun v H _ => Res 1 (rx58 res) v H) := by
  intro fuel st o h hc
  refine iter_leads (head := fun st => head58_1 k last l st.1 st.2) (C := fun o => (o = res)) ?_ fuel st o h hc
  clear h hc o st fuel
  intro st o h hc
  obtain ⟨t15, c⟩ := st
  replace h : saved_Of_s1 k last l t15 c = some o := h
  show Leads Try.prog 58 1 (head58_1 k last l t15 c) (fun v H _ => Res 1 (rx58 res) v H)
  unfold saved_Of_s1 at h
  refine ev_ok tab_ok hS true 3000 ?_
  conv => whnf
  refine br.h2 h ?_ ?_ ?_
  · rfl
  · clear h; intro hb h; conv => whnf
    all_goals (cases h; cases hc)
    all_goals exact Res.of [4] rfl (nw_s (rn_T capi_Backend_flat) (hs_row rfl) nw_0) (by decide) (js_l (by decide) js_0) (wr_n wr_0)
  clear h; intro hb h; conv => whnf
  replace h := oreq.elim h; obtain ⟨hb, h⟩ := h
  first | (refine req.intro hb ?_; conv => whnf) | skip
  replace h := obind.elim h; obtain ⟨e, hy, h⟩ := h
  refine ld_T capi_Backend_len hy (by first | omega | exact Nat.zero_add _ | exact congrArg (· + _) (Nat.zero_add _)) rfl ?_
  conv => whnf
  refine br.h h ?_ ?_ ?_
  · rfl
  · clear h; intro hb h; conv => whnf
    cases h; simp only [Sum.elim_inl, head58_1] at hc
    exact lrA0 hc [(0, 0), (2, 2), (3, 3), (4, 4)] rfl
  clear h; intro hb h; conv => whnf
  refine br.h h ?_ ?_ ?_
  · rfl
  · clear h; intro hb h; conv => whnf
    replace h := oreq.elim h; obtain ⟨hb, h⟩ := h
    refine req.intro (ap_req (of_decide_eq_true hb) (by first | rfl | omega | (simp; done) | (simp; omega) | (simp at *; omega)) rfl (by first | rfl | omega | (simp; done) | (simp; omega) | (simp at *; omega)) (by first | rfl | exact vI_one _ _ | exact vS_one _ | exact vB_one _ | exact vT_one (by first | exact capi_Key_one | exact capi_Addr_one | exact capi_Backend_one | exact cArr4_Int_one | exact csip_Hasher_one | exact coctet_Reader_one | exact cR23_Step_one | exact chealth_Rule_one | exact chealth_State_one | exact cregistry_row_one) _ | (rw [ofBytes_vI]; exact vI_one _ _) | (simp [vI_one, vS_one, vB_one, vI_drop, vI_take, vS_drop, vS_take]; done) | (simp; exact List.all_eq_true.1 (vT_one (by first | exact capi_Key_one | exact capi_Addr_one | exact capi_Backend_one | exact cArr4_Int_one | exact csip_Hasher_one | exact coctet_Reader_one | exact cR23_Step_one | exact chealth_Rule_one | exact chealth_State_one | exact cregistry_row_one) _))) rfl) ?_
    conv => whnf
    let row : List api_Backend := c ++ [e]
    refine pk_apT capi_Backend_len (xs := c) (ys := [e]) rfl (by first | rfl | omega) (by first | rfl | omega | (simp; done) | (simp; omega) | (simp at *; omega)) (by first | rfl | omega | (simp; done) | (simp; omega) | (simp at *; omega)) ?_
    conv => whnf
    cases h; simp only [Sum.elim_inl, head58_1] at hc
    exact lrA0 hc [(0, 0), (2, 2), (3, 3), (4, 7)] rfl
  clear h; intro hb h; conv => whnf
  replace h := oreq.elim h; obtain ⟨hb, h⟩ := h
  refine req.intro (ap_req (of_decide_eq_true hb) (by first | rfl | omega | (simp; done) | (simp; omega) | (simp at *; omega)) rfl (by first | rfl | omega | (simp; done) | (simp; omega) | (simp at *; omega)) (by first | rfl | exact vI_one _ _ | exact vS_one _ | exact vB_one _ | exact vT_one (by first | exact capi_Key_one | exact capi_Addr_one | exact capi_Backend_one | exact cArr4_Int_one | exact csip_Hasher_one | exact coctet_Reader_one | exact cR23_Step_one | exact chealth_Rule_one | exact chealth_State_one | exact cregistry_row_one) _ | (rw [ofBytes_vI]; exact vI_one _ _) | (simp [vI_one, vS_one, vB_one, vI_drop, vI_take, vS_drop, vS_take]; done) | (simp; exact List.all_eq_true.1 (vT_one (by first | exact capi_Key_one | exact capi_Addr_one | exact capi_Backend_one | exact cArr4_Int_one | exact csip_Hasher_one | exact coctet_Reader_one | exact cR23_Step_one | exact chealth_Rule_one | exact chealth_State_one | exact cregistry_row_one) _))) rfl) ?_
  conv => whnf
  let row1 : List api_Backend := c ++ [api_Backend.mk e.ID e.Weight 1 e.Addr]
  refine pk_apT capi_Backend_len (xs := c) (ys := [api_Backend.mk e.ID e.Weight 1 e.Addr]) rfl (by first | rfl | omega) (by first | rfl | omega | (simp; done) | (simp; omega) | (simp at *; omega)) (by first | rfl | omega | (simp; done) | (simp; omega) | (simp at *; omega)) ?_
  conv => whnf
  cases h; simp only [Sum.elim_inl, head58_1] at hc
  exact lrA0 hc [(0, 0), (2, 2), (3, 3), (4, 7)] rfl
theorem leads58 (hS : SumsOK Try.prog (aget (sums58))) (k : api_Key) (last : Int) (l : List api_Backend) (res : saved_Record) (h : saved_OfF k last l = some res) :
    Leads Try.prog 58 1 ⟨⟨58, 34, [(0, .agg ⟨[.int .u64 k.A, .int .u64 k.B]⟩), (1, .int .i64 last), (2, .slice (some ⟨0, 0, none⟩) l.length 6)], [.code k58_31], [], false, none⟩, [], [(0, .row false (vT capi_Backend l))], 1⟩ (fun v H _ => Res 1 (rx58 res) v H) := by
  unfold saved_OfF at h
  refine ev_ok tab_ok hS true 3000 ?_
  conv => whnf
  have hl := loop58_1 hS _ _ _ res _ _ _ h rfl; simp only [head58_1] at hl
  refine Leads.nilC 3 3 6 ?_
  exact lrA0 hl [(0, 0), (2, 2), (3, 3), (4, 4)] rfl
theorem ok58 (hS : SumsOK Try.prog (aget (sums58))) : SumOK Try.prog 58 (s58 (saved_OfF)) := by
  refine SumOK.of_leads tab_ok (fun ar os r ha hr => ?_) ⟨Try.f58, rfl, by decide, rfl⟩
  replace hr : r58 (saved_OfF) ar (conts os) = some r := hr
  unfold r58 at hr
  generalize hc : conts os = C at hr
  replace hr := dV.elim hr; obtain ⟨v0, l1, y0, rfl, e0, hr⟩ := hr; obtain rfl := uvapi_Key_eq _ _ e0
  replace hr := dV.elim hr; obtain ⟨v1, l2, y1, rfl, e1, hr⟩ := hr; obtain rfl := asI_eq _ _ _ e1
  have hq := dSl.elim hr; clear hr; obtain ⟨c2, l3, C, y2, rfl, rfl, e2, hr⟩ := hq; obtain rfl := unT_eq unapi_Backend_eq e2
  replace hr := dFin hr; obtain ⟨rfl, rfl, x, h, rfl⟩ := hr
  obtain ⟨os, rfl, ha, hc⟩ := kinds_some ha hc
  obtain rfl := kinds_nil hc
  exact ⟨_, rfl, leads58 hS _ _ _ x h⟩
def saved_Of : api_Key → Int → (List api_Backend) → Option saved_Record := saved_OfF
theorem lift58 : SumOK Try.prog 58 (s58 saved_Of) := ok58 (SumsOK.of_tab trivial)
def slices_Equal_api_Backend_api_Backend_s1 (s1 : List api_Backend) (s2 : List api_Backend) (t13 : Int) : Option (Sum Int Bool) :=
  cond (decide (t13 < (s1.length : Int)))
    (
    oreq (decide ((0 : Int) ≤ t13 ∧ t13 < (s1.length : Int))) <|
    (s1[t13.toNat]?).bind fun (e : api_Backend) =>
    oreq (decide ((0 : Int) ≤ t13 ∧ t13 < (s2.length : Int))) <|
    (s2[t13.toNat]?).bind fun (e1 : api_Backend) =>
    let t := !((e.ID == e1.ID) && ((e.Weight == e1.Weight) && ((e.State == e1.State) && ((e.Addr.V6 == e1.Addr.V6) && ((e.Addr.Hi == e1.Addr.Hi) && ((e.Addr.Lo == e1.Addr.Lo) && true))))))
    cond (t)
      (
      some (.inr (false)))
      (
      some (.inl (wI .i64 (t13 + 1)))))
    (
    some (.inr (true)))
def slices_Equal_api_Backend_api_BackendF (s1 : List api_Backend) (s2 : List api_Backend) : Option Bool :=
  cond ((s1.length : Int) != (s2.length : Int))
    (
    some (false))
    (
    iter (fun st => slices_Equal_api_Backend_api_Backend_s1 s1 s2 st) FUEL 0)
def rx116 (x : Bool) : SRes := ⟨.bool x, [], [none, none]⟩
def r116 (g : (List api_Backend) → (List api_Backend) → Option Bool) : Dec := dSl 0 6 (unR 6 unapi_Backend) fun (y0 : List api_Backend) => dSl 1 6 (unR 6 unapi_Backend) fun (y1 : List api_Backend) => dEnd (ofG (g y0 y1) rx116)
theorem r116_c {g : (List api_Backend) → (List api_Backend) → Option Bool} {y0 : List api_Backend} {y1 : List api_Backend} {x : Bool} (hx : g y0 y1 = some x) : r116 g [.slice (some ⟨0, 0, none⟩) y0.length 6, .slice (some ⟨1, 0, none⟩) y1.length 6] [some (vT capi_Backend y0), some (vT capi_Backend y1)] = some (rx116 x) := (dSl_eq (unR_vT (by first | exact capi_Key_len | exact capi_Addr_len | exact capi_Backend_len | exact cArr4_Int_len | exact csip_Hasher_len | exact coctet_Reader_len | exact cR23_Step_len | exact chealth_Rule_len | exact chealth_State_len | exact cregistry_row_len) (by decide) unapi_Backend_c _)).trans ((dSl_eq (unR_vT (by first | exact capi_Key_len | exact capi_Addr_len | exact capi_Backend_len | exact cArr4_Int_len | exact csip_Hasher_len | exact coctet_Reader_len | exact cR23_Step_len | exact chealth_Rule_len | exact chealth_State_len | exact cregistry_row_len) (by decide) unapi_Backend_c _)).trans (ofG_eq hx))
def s116 (g : (List api_Backend) → (List api_Backend) → Option Bool) : Summ := ⟨[.sl 6, .sl 6], r116 g⟩
theorem r116_eq {g : (List api_Backend) → (List api_Backend) → Option Bool} {y0 : List api_Backend} {y1 : List api_Backend} {x : Bool} (hx : g y0 y1 = some x) : (s116 g).run [.slice (some ⟨0, 0, none⟩) y0.length 6, .slice (some ⟨1, 0, none⟩) y1.length 6] [some (vT capi_Backend y0), some (vT capi_Backend y1)] = some (rx116 x) := r116_c hx
abbrev sums116 : List (Nat × Summ) := []
def head116_1 (s1 : List api_Backend) (s2 : List api_Backend) (t13 : Int) : VM :=
  ⟨⟨116, 26, [(0, .slice (some ⟨0, 0, none⟩) s1.length 6), (1, .slice (some ⟨1, 0, none⟩) s2.length 6), (12, .int .i64 (s1.length : Int)), (13, .int .i64 t13)], [.code k116_20, .inLoop k116_20, .inBlock 0, .code k116_25], [], false, none⟩, [], [(0, .row false (vT capi_Backend s1)), (1, .row false (vT capi_Backend s2))], 2⟩
theorem loop116_1 (hS : SumsOK Try.prog (aget (sums116))) (s1 : List api_Backend) (s2 : List api_Backend) (res : Bool) : ∀ fuel (st : Int) (o : Bool), iter (fun st => slices_Equal_api_Backend_api_Backend_s1 s1 s2 st) fuel st = some o → (o = res) →
    Leads Try.prog 116 2 (head116_1 s1 s2 st) (fun v H _ => Res 2 (rx116 res) v H) := by
  intro fuel st o h hc
  refine iter_leads (head := fun st => head116_1 s1 s2 st) (C := fun o => (o = res)) ?_ fuel st o h hc
  clear h hc o st fuel
  intro t13 o h hc
  replace h : slices_Equal_api_Backend_api_Backend_s1 s1 s2 t13 = some o := h
  show Leads Try.prog 116 2 (head116_1 s1 s2 t13) (fun v H _ => Res 2 (rx116 res) v H)
  unfold slices_Equal_api_Backend_api_Backend_s1 at h
  refine ev_ok tab_ok hS true 3000 ?_
  conv => whnf
  refine br.h2 h ?_ ?_ ?_
  · rfl
  · clear h; intro hb h; conv => whnf
    all_goals (cases h; cases hc)
    all_goals exact Res.of [] rfl nw_0 (by decide) js_0 (wr_n (wr_n wr_0))
  clear h; intro hb h; conv => whnf
  replace h := oreq.elim h; obtain ⟨hb, h⟩ := h
  first | (refine req.intro hb ?_; conv => whnf) | skip
  replace h := obind.elim h; obtain ⟨e, hy, h⟩ := h
  refine ld_T capi_Backend_len hy (by first | omega | exact Nat.zero_add _ | exact congrArg (· + _) (Nat.zero_add _)) rfl ?_
  conv => whnf
  replace h := oreq.elim h; obtain ⟨hb, h⟩ := h
  first | (refine req.intro hb ?_; conv => whnf) | skip
  replace h := obind.elim h; obtain ⟨e1, hy, h⟩ := h
  refine ld_T capi_Backend_len hy (by first | omega | exact Nat.zero_add _ | exact congrArg (· + _) (Nat.zero_add _)) rfl ?_
  conv => whnf
  let t : Bool := !((e.ID == e1.ID) && ((e.Weight == e1.Weight) && ((e.State == e1.State) && ((e.Addr.V6 == e1.Addr.V6) && ((e.Addr.Hi == e1.Addr.Hi) && ((e.Addr.Lo == e1.Addr.Lo) && true))))))
  refine br.h h ?_ ?_ ?_
  · rfl
  · clear h; intro hb h; conv => whnf
    all_goals (cases h; cases hc)
    all_goals exact Res.of [] rfl nw_0 (by decide) js_0 (wr_n (wr_n wr_0))
  clear h; intro hb h; conv => whnf
  cases h; simp only [Sum.elim_inl, head116_1] at hc
  exact lrA0 hc [(0, 0), (1, 1)] rfl
theorem leads116 (hS : SumsOK Try.prog (aget (sums116))) (s1 : List api_Backend) (s2 : List api_Backend) (res : Bool) (h : slices_Equal_api_Backend_api_BackendF s1 s2 = some res) :
    Leads Try.prog 116 2 ⟨⟨116, 26, [(0, .slice (some ⟨0, 0, none⟩) s1.length 6), (1, .slice (some ⟨1, 0, none⟩) s2.length 6)], [.code k116_28], [], false, none⟩, [], [(0, .row false (vT capi_Backend s1)), (1, .row false (vT capi_Backend s2))], 2⟩ (fun v H _ => Res 2 (rx116 res) v H) := by
  unfold slices_Equal_api_Backend_api_BackendF at h
  refine ev_ok tab_ok hS true 3000 ?_
  conv => whnf
  refine br.h h ?_ ?_ ?_
  · rfl
  · clear h; intro hb h; conv => whnf
    all_goals (cases h)
    all_goals exact Res.of [] rfl nw_0 (by decide) js_0 (wr_n (wr_n wr_0))
  clear h; intro hb h; conv => whnf
  have hl := loop116_1 hS _ _ res _ _ _ h rfl; simp only [head116_1] at hl
  exact lrA0 hl [(0, 0), (1, 1)] rfl
theorem ok116 (hS : SumsOK Try.prog (aget (sums116))) : SumOK Try.prog 116 (s116 (slices_Equal_api_Backend_api_BackendF)) := by
  refine SumOK.of_leads tab_ok (fun ar os r ha hr => ?_) ⟨Try.f116, rfl, by decide, rfl⟩
  replace hr : r116 (slices_Equal_api_Backend_api_BackendF) ar (conts os) = some r := hr
  unfold r116 at hr
  generalize hc : conts os = C at hr
  have hq := dSl.elim hr; clear hr; obtain ⟨c0, l1, C, y0, rfl, rfl, e0, hr⟩ := hq; obtain rfl := unT_eq unapi_Backend_eq e0
  have hq := dSl.elim hr; clear hr; obtain ⟨c1, l2, C, y1, rfl, rfl, e1, hr⟩ := hq; obtain rfl := unT_eq unapi_Backend_eq e1
  replace hr := dFin hr; obtain ⟨rfl, rfl, x, h, rfl⟩ := hr
  obtain ⟨os, rfl, ha, hc⟩ := kinds_some ha hc
  obtain ⟨os, rfl, ha, hc⟩ := kinds_some ha hc
  obtain rfl := kinds_nil hc
  exact ⟨_, rfl, leads116 hS _ _ x h⟩
def slices_Equal_api_Backend_api_Backend : (List api_Backend) → (List api_Backend) → Option Bool := slices_Equal_api_Backend_api_BackendF
theorem lift116 : SumOK Try.prog 116 (s116 slices_Equal_api_Backend_api_Backend) := ok116 (SumsOK.of_tab trivial)
def saved_SameF (slices_Equal_api_Backend_api_Backend : (List api_Backend) → (List api_Backend) → Option Bool) (a : saved_Record) (b : saved_Record) : Option Bool :=
  let t := (a.Key.A == b.Key.A) && ((a.Key.B == b.Key.B) && true)
  cond (t)
    (
    cond (a.Last == b.Last)
      (
      (slices_Equal_api_Backend_api_Backend a.L b.L).bind fun b1 =>
      some (b1))
      (
      some (false)))
    (
    some (false))
def rx60 (x : Bool) : SRes := ⟨.bool x, [], [none, none]⟩
def r60 (g : saved_Record → saved_Record → Option Bool) : Dec := dTr 1 (udsaved_Record 0) fun (y0 : saved_Record) => dTr 1 (udsaved_Record 1) fun (y1 : saved_Record) => dEnd (ofG (g y0 y1) rx60)
theorem r60_c {g : saved_Record → saved_Record → Option Bool} {y0 : saved_Record} {y1 : saved_Record} {x : Bool} (hx : g y0 y1 = some x) : r60 g [.agg ⟨[.int .u64 y0.Key.A, .int .u64 y0.Key.B, .int .i64 y0.Last, .slice (some ⟨0, 0, none⟩) y0.L.length 6]⟩, .agg ⟨[.int .u64 y1.Key.A, .int .u64 y1.Key.B, .int .i64 y1.Last, .slice (some ⟨1, 0, none⟩) y1.L.length 6]⟩] [some (vT capi_Backend y0.L), some (vT capi_Backend y1.L)] = some (rx60 x) := (dTr_eq rfl rfl (udsaved_Record_c 0 _)).trans ((dTr_eq rfl rfl (udsaved_Record_c 1 _)).trans (ofG_eq hx))
def s60 (g : saved_Record → saved_Record → Option Bool) : Summ := ⟨[.tr [⟨none, 3, 0, 0, some 6⟩], .tr [⟨none, 3, 0, 0, some 6⟩]], r60 g⟩
theorem r60_eq {g : saved_Record → saved_Record → Option Bool} {y0 : saved_Record} {y1 : saved_Record} {x : Bool} (hx : g y0 y1 = some x) : (s60 g).run [.agg ⟨[.int .u64 y0.Key.A, .int .u64 y0.Key.B, .int .i64 y0.Last, .slice (some ⟨0, 0, none⟩) y0.L.length 6]⟩, .agg ⟨[.int .u64 y1.Key.A, .int .u64 y1.Key.B, .int .i64 y1.Last, .slice (some ⟨1, 0, none⟩) y1.L.length 6]⟩] [some (vT capi_Backend y0.L), some (vT capi_Backend y1.L)] = some (rx60 x) := r60_c hx
abbrev sums60 (slices_Equal_api_Backend_api_Backend : (List api_Backend) → (List api_Backend) → Option Bool) : List (Nat × Summ) := [(116, s116 slices_Equal_api_Backend_api_Backend)]
theorem leads60 (slices_Equal_api_Backend_api_Backend : (List api_Backend) → (List api_Backend) → Option Bool) (hS : SumsOK Try.prog (aget (sums60 slices_Equal_api_Backend_api_Backend))) (a : saved_Record) (b : saved_Record) (res : Bool) (h : saved_SameF slices_Equal_api_Backend_api_Backend a b = some res) :
    Leads Try.prog 60 2 ⟨⟨60, 24, [(0, .agg ⟨[.int .u64 a.Key.A, .int .u64 a.Key.B, .int .i64 a.Last, .slice (some ⟨0, 0, none⟩) a.L.length 6]⟩), (1, .agg ⟨[.int .u64 b.Key.A, .int .u64 b.Key.B, .int .i64 b.Last, .slice (some ⟨1, 0, none⟩) b.L.length 6]⟩)], [.code k60_3], [], false, none⟩, [], [(0, .row false (vT capi_Backend a.L)), (1, .row false (vT capi_Backend b.L))], 2⟩ (fun v H _ => Res 2 (rx60 res) v H) := by
  unfold saved_SameF at h
  refine ev_ok tab_ok hS true 3000 ?_
  conv => whnf
  let t : Bool := (a.Key.A == b.Key.A) && ((a.Key.B == b.Key.B) && true)
  refine br.h2 h ?_ ?_ ?_
  · rfl
  · clear h; intro hb h; conv => whnf
    all_goals (cases h)
    all_goals exact Res.of [] rfl nw_0 (by decide) js_0 (wr_n (wr_n wr_0))
  clear h; intro hb h; conv => whnf
  refine br.h2 h ?_ ?_ ?_
  · rfl
  · clear h; intro hb h; conv => whnf
    all_goals (cases h)
    all_goals exact Res.of [] rfl nw_0 (by decide) js_0 (wr_n (wr_n wr_0))
  clear h; intro hb h; conv => whnf
  replace h := obind.elim h; obtain ⟨b1, hy, h⟩ := h
  refine sumK.introF [] (sumRun_of (aqs := [.slice (some ⟨0, 0, none⟩) (a.L : List api_Backend).length 6, .slice (some ⟨1, 0, none⟩) (b.L : List api_Backend).length 6]) (ws := [.win 0 0 (a.L.length * 6) false, .win 1 0 (b.L.length * 6) false]) (n := 0) (m := 0) (t' := 4) (ra_cons (by first | rfl | exact ra_allT capi_Backend_len capi_Backend_flat rfl rfl (by first | rfl | omega) (by first | rfl | (simp; done)) | exact ra_slT capi_Backend_len capi_Backend_flat rfl rfl (by first | rfl | omega) (by first | rfl | omega) (by first | omega | (simp at *; omega))) rfl (ra_cons (by first | rfl | exact ra_allT capi_Backend_len capi_Backend_flat rfl rfl (by first | rfl | omega) (by first | rfl | (simp; done)) | exact ra_slT capi_Backend_len capi_Backend_flat rfl rfl (by first | rfl | omega) (by first | rfl | omega) (by first | omega | (simp at *; omega))) rfl ra_nil)) rfl (by rfl) (r116_eq hy) rfl rfl rfl rfl (wb_skip rfl (wb_skip rfl wb_nil)) an_nil rfl) ?_
  conv => whnf
  all_goals (cases h)
  all_goals exact Res.of [] rfl nw_0 (by decide) js_0 (wr_n (wr_n wr_0))
theorem ok60 (slices_Equal_api_Backend_api_Backend : (List api_Backend) → (List api_Backend) → Option Bool) (hS : SumsOK Try.prog (aget (sums60 slices_Equal_api_Backend_api_Backend))) : SumOK Try.prog 60 (s60 (saved_SameF slices_Equal_api_Backend_api_Backend)) := by
  refine SumOK.of_leads tab_ok (fun ar os r ha hr => ?_) ⟨Try.f60, rfl, by decide, rfl⟩
  replace hr : r60 (saved_SameF slices_Equal_api_Backend_api_Backend) ar (conts os) = some r := hr
  unfold r60 at hr
  generalize hc : conts os = C at hr
  have hq := dTr.elim hr; clear hr; obtain ⟨v0, l1, c0, C, y0, rfl, rfl, e0, hr⟩ := hq; obtain ⟨rfl, rfl⟩ := udsaved_Record_eq e0; simp only [List.nil_append, List.cons_append] at hc
  have hq := dTr.elim hr; clear hr; obtain ⟨v1, l2, c1, C, y1, rfl, rfl, e1, hr⟩ := hq; obtain ⟨rfl, rfl⟩ := udsaved_Record_eq e1; simp only [List.nil_append, List.cons_append] at hc
  replace hr := dFin hr; obtain ⟨rfl, rfl, x, h, rfl⟩ := hr
  obtain ⟨os, rfl, ha, hc⟩ := kinds_some ha hc
  obtain ⟨os, rfl, ha, hc⟩ := kinds_some ha hc
  obtain rfl := kinds_nil hc
  exact ⟨_, rfl, leads60 slices_Equal_api_Backend_api_Backend hS _ _ x h⟩
def saved_Same : saved_Record → saved_Record → Option Bool := saved_SameF slices_Equal_api_Backend_api_Backend
theorem lift60 : SumOK Try.prog 60 (s60 saved_Same) := ok60 slices_Equal_api_Backend_api_Backend (SumsOK.of_tab ⟨lift116, trivial⟩)
end Go.Vm.Code
namespace Go.Vm.Code
open Go Go.Vm
def scan {α σ ρ : Type} (f : α → σ → Sum σ ρ) (fin : σ → ρ) : List α → σ → ρ
  | [], s => fin s
  | a :: l, s => match f a s with
    | .inl s' => scan f fin l s'
    | .inr r => r
theorem iter_scan {α σ ρ S : Type} (L : List α) (f : α → σ → Sum σ ρ) (fin : σ → ρ) (emb : Nat → σ → S) (step : S → Option (Sum S ρ)) (I : Nat → σ → Prop)
    (h1 : ∀ i s (hi : i < L.length), I i s → (∀ s', f L[i] s = .inl s' → step (emb i s) = some (.inl (emb (i + 1) s')) ∧ I (i + 1) s') ∧ ∀ r, f L[i] s = .inr r → step (emb i s) = some (.inr r))
    (h2 : ∀ s, I L.length s → step (emb L.length s) = some (.inr (fin s))) : ∀ (d i : Nat) s n, i + d = L.length → d < n → I i s → iter step n (emb i s) = some (scan f fin (L.drop i) s)
  | 0, i, s, n, he, hn, hI => by
    obtain ⟨m, rfl⟩ : ∃ m, n = m + 1 := ⟨n - 1, by omega⟩
    have e : i = L.length := by omega
    subst e
    rw [iter, h2 s hI, List.drop_length]; rfl
  | d + 1, i, s, n, he, hn, hI => by
    obtain ⟨m, rfl⟩ : ∃ m, n = m + 1 := ⟨n - 1, by omega⟩
    have hi : i < L.length := by omega
    obtain ⟨g1, g2⟩ := h1 i s hi hI
    rw [iter, List.drop_eq_getElem_cons hi, scan]
    cases hf : f L[i] s with
    | inl s' =>
      obtain ⟨e1, e2⟩ := g1 s' hf
      rw [e1]
      exact iter_scan L f fin emb step I h1 h2 d (i + 1) s' m (by omega) (by omega) e2
    | inr r => rw [g2 r hf]
theorem iter_scan0 {α σ ρ S : Type} (L : List α) (f : α → σ → Sum σ ρ) (fin : σ → ρ) (emb : Nat → σ → S) (step : S → Option (Sum S ρ)) (I : Nat → σ → Prop)
    (h1 : ∀ i s (hi : i < L.length), I i s → (∀ s', f L[i] s = .inl s' → step (emb i s) = some (.inl (emb (i + 1) s')) ∧ I (i + 1) s') ∧ ∀ r, f L[i] s = .inr r → step (emb i s) = some (.inr r))
    (h2 : ∀ s, I L.length s → step (emb L.length s) = some (.inr (fin s))) {s : σ} (hl : L.length < 2 ^ 60) (hI : I 0 s) {x : S} (hx : x = emb 0 s) : iter step FUEL x = some (scan f fin L s) := by
  subst hx
  have := iter_scan L f fin emb step I h1 h2 L.length 0 s FUEL (by omega) (by rw [FUEL_eq]; omega) hI
  rwa [List.drop_zero] at this
def bkOK (b : api_Backend) (last top : Int) : Bool := decide (last < b.ID ∧ b.ID ≤ top ∧ 0 ≤ b.Weight ∧ b.Weight ≤ 1000 ∧ (b.State = 1 ∨ b.State = 3)) && adr b.Addr
def chn (top : Int) : List api_Backend → Int → Bool := scan (fun b last => if bkOK b last top = true then .inl b.ID else .inr false) (fun _ => true)
def rightB (r : saved_Record) : Bool := decide (0 ≤ r.Last ∧ r.Last ≤ 65535 ∧ r.L.length ≤ 64) && chn r.Last r.L 0
theorem chn_cons (top : Int) (b : api_Backend) (l : List api_Backend) (last : Int) : chn top (b :: l) last = (bkOK b last top && chn top l b.ID) := by
  unfold chn
  rw [scan]
  cases bkOK b last top <;> simp
theorem pright_eq (r : saved_Record) : saved_Right r = some (rightB r) := by
  unfold saved_Right saved_RightF rightB
  by_cases h1 : r.Last ≥ 0
  · rw [cond_p h1]
    by_cases h2 : r.Last ≤ 65535
    · rw [cond_p h2]
      by_cases h3 : (r.L.length : Int) ≤ 64
      · rw [cond_p h3, decide_eq_true ⟨h1, h2, by omega⟩, Bool.true_and]
        refine iter_scan0 r.L _ _ (fun i (s : Int) => ((i : Int), s)) _ (fun _ _ => True) ?_ ?_ (by omega) trivial rfl
        · intro i s hi _
          dsimp only
          have key : saved_Right_s1 addr_Right r i s = if bkOK r.L[i] s r.Last = true then some (.inl (((i + 1 : Nat) : Int), (r.L[i]).ID)) else some (.inr false) := by
            unfold saved_Right_s1 bkOK
            rw [cond_p (by omega), oreq_p (by omega), Int.toNat_natCast, List.getElem?_eq_getElem hi, Option.bind_some, decide_eq_true (show (i : Int) ≥ 0 by omega), wI64 (by omega) (by omega), tuRight_eq, show ((i + 1 : Nat) : Int) = (i : Int) + 1 by omega]
            simp only [Bool.not_true, Option.bind_some]
            generalize r.L[i] = b
            by_cases c1 : b.ID ≤ s
            · rw [cond_p c1, cond_p c1, decide_eq_false (by omega)]
              cases b.State == 1 <;> rfl
            rw [cond_n c1, cond_n c1]
            by_cases c2 : b.ID > r.Last
            · rw [cond_p c2, cond_p c2, decide_eq_false (by omega)]
              cases b.State == 1 <;> rfl
            rw [cond_n c2, cond_n c2]
            by_cases c3 : b.Weight < 0
            · rw [cond_p c3, cond_p c3, decide_eq_false (by omega)]
              cases b.State == 1 <;> rfl
            rw [cond_n c3, cond_n c3]
            by_cases c4 : b.Weight > 1000
            · rw [cond_p c4, cond_p c4, decide_eq_false (by omega)]
              cases b.State == 1 <;> rfl
            rw [cond_n c4, cond_n c4]
            by_cases c5 : b.State = 1
            · rw [show (b.State == 1) = true from by simpa using c5, cond_true, decide_eq_true (by omega)]
              cases adr b.Addr <;> rfl
            · rw [show (b.State == 1) = false from by simpa using c5, cond_false]
              by_cases c6 : b.State = 3
              · rw [show (b.State == 3) = true from by simpa using c6, decide_eq_true (by omega)]
                cases adr b.Addr <;> rfl
              · rw [show (b.State == 3) = false from by simpa using c6, decide_eq_false (by omega)]; rfl
          rw [key]
          cases bkOK r.L[i] s r.Last with
          | true => exact ⟨fun s' e => (by cases e; exact ⟨rfl, trivial⟩), fun q e => (by cases e)⟩
          | false => exact ⟨fun s' e => (by cases e), fun q e => (by cases e; rfl)⟩
        · intro s _
          dsimp only
          unfold saved_Right_s1
          rw [cond_n (by omega)]
      · rw [cond_n h3, decide_eq_false (by omega)]; rfl
    · rw [cond_n h2, decide_eq_false (by omega)]; rfl
  · rw [cond_n h1, decide_eq_false (by omega)]; rfl
def hash12 (s : List UInt8) : Int := hashR tak finQ s.length (newV ⟨1, 2⟩).s s
theorem hash12_rng (s : List UInt8) : 0 ≤ hash12 s ∧ hash12 s < 2 ^ 64 := hashR_rng tak finQ finQ_rng _ _ _ _ (Nat.le_refl _)
def sealS (s : List UInt8) : List UInt8 := be (hash12 s).toNat 8
theorem sealS_len (s : List UInt8) : (sealS s).length = 8 := by simp [sealS]
theorem pseal_eq {s : List UInt8} (h : s.length < 2 ^ 40) : saved_seal s = some (sealS s) := by
  unfold saved_seal saved_sealF
  rw [Hash_R (by omega), Option.bind_some]
  show (octet_Put (hash12 s) 8).bind _ = _
  rw [octet_Put_eq (hash12_rng s).1, Option.bind_some]
  unfold putS; rw [if_pos (by decide)]; rfl
def encB (b : api_Backend) : List UInt8 := be b.ID.toNat 2 ++ be b.Weight.toNat 2 ++ be b.State.toNat 1 ++ be (adB b.Addr).length 1 ++ adB b.Addr
def encH (r : saved_Record) : List UInt8 := [67, 76, 75, 49] ++ be r.Key.A.toNat 8 ++ be r.Key.B.toNat 8 ++ be r.Last.toNat 2 ++ be r.L.length 1
def body (r : saved_Record) : List UInt8 := encH r ++ r.L.flatMap encB
def putR (r : saved_Record) : List UInt8 × Int := if rightB r = true then (body r ++ sealS (body r), 0) else ([], 1)
def recOK (r : saved_Record) : Prop := (0 ≤ r.Key.A ∧ r.Key.A < 2 ^ 64) ∧ (0 ≤ r.Key.B ∧ r.Key.B < 2 ^ 64) ∧ ∀ b ∈ r.L, inU b.Addr
theorem encB_len (b : api_Backend) : (encB b).length ≤ 22 := by
  have := adB_len b.Addr
  simp [encB]; omega
theorem scan_flat {ρ : Type} (fin : List UInt8 → ρ) : ∀ (L : List api_Backend) (s : List UInt8), scan (fun b s => (.inl (s ++ encB b) : Sum (List UInt8) ρ)) fin L s = fin (s ++ L.flatMap encB)
  | [], s => by simp [scan]
  | b :: L, s => by rw [scan]; simp only []; rw [scan_flat fin L]; simp
theorem chn_all {top : Int} : ∀ {l : List api_Backend} {last : Int}, chn top l last = true → ∀ b ∈ l, last < b.ID ∧ b.ID ≤ top ∧ 0 ≤ b.Weight ∧ b.Weight ≤ 1000 ∧ (b.State = 1 ∨ b.State = 3) ∧ adr b.Addr = true
  | [], last, h, b, hb => by cases hb
  | a :: l, last, h, b, hb => by
    rw [chn_cons, Bool.and_eq_true] at h
    have h1 := h.1
    unfold bkOK at h1
    rw [Bool.and_eq_true, decide_eq_true_iff] at h1
    rcases List.mem_cons.1 hb with rfl | hb
    · obtain ⟨⟨c1, c2, c3, c4, c5⟩, c6⟩ := h1
      exact ⟨c1, c2, c3, c4, c5, c6⟩
    · obtain ⟨c1, c2, c3, c4, c5, c6⟩ := chn_all h.2 b hb
      exact ⟨by omega, c2, c3, c4, c5, c6⟩
theorem be42 {x y : Int} (hx : 0 ≤ x ∧ x ≤ 65535) (hy : 0 ≤ y ∧ y ≤ 65535) : putS (iorI .u64 (wI .u64 ((wI .u64 x) * 2 ^ 16)) (wI .u64 y)) 4 = be x.toNat 2 ++ be y.toNat 2 := by
  rw [wU64 (n := x) (by omega) (by omega), wU64 (n := y) (by omega) (by omega), wU64 (n := x * 2 ^ 16) (by omega) (by omega), iorU64_low 16 (by omega) (by omega) (by omega) (by omega) (by omega)]
  unfold putS
  rw [if_pos (by decide)]
  obtain ⟨a, rfl⟩ := Int.eq_ofNat_of_zero_le hx.1
  obtain ⟨b, rfl⟩ := Int.eq_ofNat_of_zero_le hy.1
  show be ((a : Int) * 2 ^ 16 + (b : Int)).toNat (2 + 2) = _
  have e1 : ((a : Int) * 2 ^ 16 + (b : Int)).toNat = a * 65536 + b := by omega
  rw [e1, be_split, show (a * 65536 + b) / 256 ^ 2 = a by omega, ← be_mod (a * 65536 + b) 2, show (a * 65536 + b) % 256 ^ 2 = b by omega]
  simp
theorem be21 {x y : Int} (hx : 0 ≤ x ∧ x ≤ 255) (hy : 0 ≤ y ∧ y ≤ 255) : putS (iorI .u64 (wI .u64 ((wI .u64 x) * 2 ^ 8)) (wI .u64 y)) 2 = be x.toNat 1 ++ be y.toNat 1 := by
  rw [wU64 (n := x) (by omega) (by omega), wU64 (n := y) (by omega) (by omega), wU64 (n := x * 2 ^ 8) (by omega) (by omega), iorU64_low 8 (by omega) (by omega) (by omega) (by omega) (by omega)]
  unfold putS
  rw [if_pos (by decide)]
  obtain ⟨a, rfl⟩ := Int.eq_ofNat_of_zero_le hx.1
  obtain ⟨b, rfl⟩ := Int.eq_ofNat_of_zero_le hy.1
  show be ((a : Int) * 2 ^ 8 + (b : Int)).toNat (1 + 1) = _
  have e1 : ((a : Int) * 2 ^ 8 + (b : Int)).toNat = a * 256 + b := by omega
  rw [e1, be_split, show (a * 256 + b) / 256 ^ 1 = a by omega, ← be_mod (a * 256 + b) 1, show (a * 256 + b) % 256 ^ 1 = b by omega]
  simp
theorem pput_eq {r : saved_Record} (hr : recOK r) : saved_Put r = some (putR r) := by
  unfold saved_Put saved_PutF putR
  rw [pright_eq, Option.bind_some]
  cases hR : rightB r with
  | false => rfl
  | true =>
  have h := hR
  unfold rightB at h
  rw [Bool.and_eq_true, decide_eq_true_iff] at h
  obtain ⟨⟨l0, l1, l2⟩, hc⟩ := h
  have hall := chn_all hc
  obtain ⟨⟨a0, a1⟩, ⟨b0, b1⟩, hadr⟩ := hr
  simp only [Bool.not_true, cond_false]
  rw [octet_Put_eq a0, Option.bind_some, octet_Put_eq b0, Option.bind_some, wU64 (n := r.Last) (by omega) (by omega), octet_Put_eq l0, Option.bind_some, wU64 (n := (r.L.length : Int)) (by omega) (by omega), octet_Put_eq (by omega), Option.bind_some]
  simp only [putS, show (1 : Int) ≤ 8 ∧ (8 : Int) ≤ 8 from by decide, show (1 : Int) ≤ 2 ∧ (2 : Int) ≤ 8 from by decide, show (1 : Int) ≤ 1 ∧ (1 : Int) ≤ 8 from by decide, and_self, ↓reduceIte, Int.toNat_natCast, show (8 : Int).toNat = 8 from rfl, show (2 : Int).toNat = 2 from rfl, show (1 : Int).toNat = 1 from rfl]
  rw [oreq_p (by simp), oreq_p (by simp), oreq_p (by simp), oreq_p (by simp)]
  have e0 := iter_scan0 r.L (fun b s => (.inl (s ++ encB b) : Sum (List UInt8) (List UInt8 × Int))) (fun s => (s ++ sealS s, (0 : Int))) (fun i (s : List UInt8) => ((i : Int), s)) (fun st => saved_Put_s1 addr_Put octet_Put saved_seal r st.1 st.2) (fun i s => s.length ≤ 100 + 22 * i) (s := encH r) ?_ ?_ (by omega) (by simp [encH]) rfl
  · rw [scan_flat] at e0
    exact e0
  · intro i s hi hs
    dsimp only
    refine ⟨fun s' e => ?_, fun q e => (by cases e)⟩
    cases e
    obtain ⟨c1, c2, c3, c4, c5, c6⟩ := hall _ (List.getElem_mem hi)
    have hu := hadr _ (List.getElem_mem hi)
    have hlb := encB_len r.L[i]
    refine ⟨?_, by simp only [List.length_append]; omega⟩
    unfold saved_Put_s1
    rw [cond_p (by omega), oreq_p (by omega), Int.toNat_natCast, List.getElem?_eq_getElem hi, Option.bind_some]
    generalize r.L[i] = b at *
    have hal := adB_len b.Addr
    rw [tuPut_eq hu c6, Option.bind_some]
    simp only []
    rw [octet_Put_eq (by rw [wU64 (n := b.ID) (by omega) (by omega), wU64 (n := b.Weight) (by omega) (by omega), wU64 (n := b.ID * 2 ^ 16) (by omega) (by omega), iorU64_low 16 (by omega) (by omega) (by omega) (by omega) (by omega)]; omega), be42 (by omega) (by omega), Option.bind_some]
    rw [octet_Put_eq (by rw [wU64 (n := b.State) (by omega) (by omega), wU64 (n := ((adB b.Addr).length : Int)) (by omega) (by omega), wU64 (n := b.State * 2 ^ 8) (by omega) (by omega), iorU64_low 8 (by omega) (by omega) (by omega) (by omega) (by omega)]; omega), be21 (by omega) (by omega), Option.bind_some]
    rw [oreq_p (by simp; omega), oreq_p (by simp; omega), oreq_p (by simp; omega), wI64 (by omega) (by omega), Int.toNat_natCast]
    congr 3
    simp [encB]
  · intro s hs
    dsimp only
    unfold saved_Put_s1
    rw [cond_n (by omega), pseal_eq (by omega), Option.bind_some, oreq_p (by rw [sealS_len]; omega)]
end Go.Vm.Code
namespace Go.Vm.Code
open Go Go.Vm Go.Proofs
set_option maxRecDepth 100000
set_option maxHeartbeats 4000000
set_option linter.unusedVariables false
def addr_GetF (octet_Get : (List UInt8) → Int → Int → Option (Int × Bool)) (s : List UInt8) : Option (api_Addr × Bool) :=
  cond ((s.length : Int) == 4)
    (
    (octet_Get s 0 4).bind fun xg =>
    some ((api_Addr.mk false 0 xg.1, true)))
    (
    cond ((s.length : Int) == 16)
      (
      (octet_Get s 0 8).bind fun xg1 =>
      (octet_Get s 8 8).bind fun xg2 =>
      some ((api_Addr.mk true xg1.1 xg2.1, true)))
      (
      some ((api_Addr.mk false 0 0, false))))
def rx138 (x : api_Addr × Bool) : SRes := ⟨.tuple ⟨[.agg ⟨[.bool x.1.V6, .int .u64 x.1.Hi, .int .u64 x.1.Lo]⟩, .bool x.2]⟩, [], []⟩
def r138 (g : (List UInt8) → Option (api_Addr × Bool)) : Dec := dV asS fun (y0 : List UInt8) => dEnd (ofG (g y0) rx138)
theorem r138_c {g : (List UInt8) → Option (api_Addr × Bool)} {y0 : List UInt8} {x : api_Addr × Bool} (hx : g y0 = some x) : r138 g [.string ⟨⟨y0⟩⟩] [] = some (rx138 x) := (dV_eq (asS_c)).trans (ofG_eq hx)
def s138 (g : (List UInt8) → Option (api_Addr × Bool)) : Summ := ⟨[.v], r138 g⟩
theorem r138_eq {g : (List UInt8) → Option (api_Addr × Bool)} {y0 : List UInt8} {x : api_Addr × Bool} (hx : g y0 = some x) : (s138 g).run [.string ⟨⟨y0⟩⟩] [] = some (rx138 x) := r138_c hx
abbrev sums138 (octet_Get : (List UInt8) → Int → Int → Option (Int × Bool)) : List (Nat × Summ) := [(99, s99 octet_Get)]
theorem leads138 (octet_Get : (List UInt8) → Int → Int → Option (Int × Bool)) (hS : SumsOK Try.prog (aget (sums138 octet_Get))) (s : List UInt8) (res : api_Addr × Bool) (h : addr_GetF octet_Get s = some res) :
    Leads Try.prog 138 0 ⟨⟨138, 35, [(0, .string ⟨⟨s⟩⟩)], [.code k138_25], [], false, none⟩, [], [], 0⟩ (fun v H _ => Res 0 (rx138 res) v H) := by
  unfold addr_GetF at h
  refine ev_ok tab_ok hS true 3000 ?_
  conv => whnf
  refine br.h h ?_ ?_ ?_
  · rfl
  · clear h; intro hb h; conv => whnf
    replace h := obind.elim h; obtain ⟨xg, hy, h⟩ := h
    refine sumK.q rfl rfl (r99_eq hy) rfl rfl rfl ?_
    conv => whnf
    all_goals (cases h; exact Res.z rfl rfl rfl)
  clear h; intro hb h; conv => whnf
  refine br.h2 h ?_ ?_ ?_
  · rfl
  · clear h; intro hb h; conv => whnf
    all_goals (cases h; exact Res.z rfl rfl rfl)
  clear h; intro hb h; conv => whnf
  replace h := obind.elim h; obtain ⟨xg1, hy, h⟩ := h
  refine sumK.q rfl rfl (r99_eq hy) rfl rfl rfl ?_
  conv => whnf
  replace h := obind.elim h; obtain ⟨xg2, hy, h⟩ := h
  refine sumK.q rfl rfl (r99_eq hy) rfl rfl rfl ?_
  conv => whnf
  all_goals (cases h; exact Res.z rfl rfl rfl)
theorem ok138 (octet_Get : (List UInt8) → Int → Int → Option (Int × Bool)) (hS : SumsOK Try.prog (aget (sums138 octet_Get))) : SumOK Try.prog 138 (s138 (addr_GetF octet_Get)) := by
  refine SumOK.of_leads tab_ok (fun ar os r ha hr => ?_) ⟨Try.f138, rfl, by decide, rfl⟩
  replace hr : r138 (addr_GetF octet_Get) ar (conts os) = some r := hr
  unfold r138 at hr
  generalize hc : conts os = C at hr
  replace hr := dV.elim hr; obtain ⟨v0, l1, y0, rfl, e0, hr⟩ := hr; obtain rfl := asS_eq _ _ e0
  replace hr := dFin hr; obtain ⟨rfl, rfl, x, h, rfl⟩ := hr
  obtain rfl := kinds_nil hc
  exact ⟨_, rfl, leads138 octet_Get hS _ x h⟩
def addr_Get : (List UInt8) → Option (api_Addr × Bool) := addr_GetF octet_Get
theorem lift138 : SumOK Try.prog 138 (s138 addr_Get) := ok138 octet_Get (SumsOK.of_tab ⟨lift99, trivial⟩)
def saved_backendF (addr_Get : (List UInt8) → Option (api_Addr × Bool)) (octet_Reader_Num : octet_Reader → Int → Option (Int × octet_Reader)) (octet_Reader_Text : octet_Reader → Int → Option ((List UInt8) × octet_Reader)) (ra0 : octet_Reader) : Option (api_Backend × Bool × octet_Reader) :=
  (octet_Reader_Num ra0 2).bind fun n =>
  (octet_Reader_Num n.2 2).bind fun n1 =>
  (octet_Reader_Num n1.2 1).bind fun n2 =>
  (octet_Reader_Num n2.2 1).bind fun n3 =>
  (octet_Reader_Text n3.2 n3.1).bind fun t =>
  (addr_Get t.1).bind fun xg =>
  some ((api_Backend.mk n.1 n1.1 n2.1 xg.1, xg.2, t.2))
def rx101 (x : api_Backend × Bool × octet_Reader) : SRes := ⟨.tuple ⟨[.agg ⟨[.int .i64 x.1.ID, .int .i64 x.1.Weight, .int .i64 x.1.State, .bool x.1.Addr.V6, .int .u64 x.1.Addr.Hi, .int .u64 x.1.Addr.Lo]⟩, .bool x.2.1]⟩, [], [some [.string ⟨⟨x.2.2.s⟩⟩, .bool x.2.2.made, .bool x.2.2.bad]]⟩
def r101 (g : octet_Reader → Option (api_Backend × Bool × octet_Reader)) : Dec := dPt 0 unoctet_Reader fun (y0 : octet_Reader) => dEnd (ofG (g y0) rx101)
theorem r101_c {g : octet_Reader → Option (api_Backend × Bool × octet_Reader)} {y0 : octet_Reader} {x : api_Backend × Bool × octet_Reader} (hx : g y0 = some x) : r101 g [.pointer (some ⟨0, 0, none⟩)] [some [.string ⟨⟨y0.s⟩⟩, .bool y0.made, .bool y0.bad]] = some (rx101 x) := (dPt_eq (unoctet_Reader_c _)).trans (ofG_eq hx)
def s101 (g : octet_Reader → Option (api_Backend × Bool × octet_Reader)) : Summ := ⟨[.pt 3], r101 g⟩
theorem r101_eq {g : octet_Reader → Option (api_Backend × Bool × octet_Reader)} {y0 : octet_Reader} {x : api_Backend × Bool × octet_Reader} (hx : g y0 = some x) : (s101 g).run [.pointer (some ⟨0, 0, none⟩)] [some [.string ⟨⟨y0.s⟩⟩, .bool y0.made, .bool y0.bad]] = some (rx101 x) := r101_c hx
abbrev sums101 (addr_Get : (List UInt8) → Option (api_Addr × Bool)) (octet_Reader_Num : octet_Reader → Int → Option (Int × octet_Reader)) (octet_Reader_Text : octet_Reader → Int → Option ((List UInt8) × octet_Reader)) : List (Nat × Summ) := [(138, s138 addr_Get), (100, s100 octet_Reader_Num), (97, s97 octet_Reader_Text)]
theorem leads101 (addr_Get : (List UInt8) → Option (api_Addr × Bool)) (octet_Reader_Num : octet_Reader → Int → Option (Int × octet_Reader)) (octet_Reader_Text : octet_Reader → Int → Option ((List UInt8) × octet_Reader)) (hS : SumsOK Try.prog (aget (sums101 addr_Get octet_Reader_Num octet_Reader_Text))) (ra0 : octet_Reader) (res : api_Backend × Bool × octet_Reader) (h : saved_backendF addr_Get octet_Reader_Num octet_Reader_Text ra0 = some res) :
    Leads Try.prog 101 1 ⟨⟨101, 26, [(0, .pointer (some ⟨0, 0, none⟩))], [.code k101_9], [], false, none⟩, [], [(0, .cells [.string ⟨⟨ra0.s⟩⟩, .bool ra0.made, .bool ra0.bad])], 1⟩ (fun v H _ => Res 1 (rx101 res) v H) := by
  unfold saved_backendF at h
  refine ev_ok tab_ok hS true 3000 ?_
  conv => whnf
  replace h := obind.elim h; obtain ⟨n, hy, h⟩ := h
  refine sumK.introF [0] (sumRun_of (aqs := [.pointer (some ⟨0, 0, none⟩), .int .i64 2]) (ws := [.win 0 0 3 true]) (n := 0) (m := 0) (t' := 2) (ra_cons rfl rfl (ra_cons rfl rfl ra_nil)) rfl (by rfl) (r100_eq hy) rfl rfl rfl rfl (wb_win rfl rfl rfl ⟨rfl, Nat.le_of_ble_eq_true rfl⟩ rfl rfl wb_nil) an_nil rfl) ?_
  conv => whnf
  replace h := obind.elim h; obtain ⟨n1, hy, h⟩ := h
  refine sumK.introF [0] (sumRun_of (aqs := [.pointer (some ⟨0, 0, none⟩), .int .i64 2]) (ws := [.win 0 0 3 true]) (n := 0) (m := 0) (t' := 2) (ra_cons rfl rfl (ra_cons rfl rfl ra_nil)) rfl (by rfl) (r100_eq hy) rfl rfl rfl rfl (wb_win rfl rfl rfl ⟨rfl, Nat.le_of_ble_eq_true rfl⟩ rfl rfl wb_nil) an_nil rfl) ?_
  conv => whnf
  replace h := obind.elim h; obtain ⟨n2, hy, h⟩ := h
  refine sumK.introF [0] (sumRun_of (aqs := [.pointer (some ⟨0, 0, none⟩), .int .i64 1]) (ws := [.win 0 0 3 true]) (n := 0) (m := 0) (t' := 2) (ra_cons rfl rfl (ra_cons rfl rfl ra_nil)) rfl (by rfl) (r100_eq hy) rfl rfl rfl rfl (wb_win rfl rfl rfl ⟨rfl, Nat.le_of_ble_eq_true rfl⟩ rfl rfl wb_nil) an_nil rfl) ?_
  conv => whnf
  replace h := obind.elim h; obtain ⟨n3, hy, h⟩ := h
  refine sumK.introF [0] (sumRun_of (aqs := [.pointer (some ⟨0, 0, none⟩), .int .i64 1]) (ws := [.win 0 0 3 true]) (n := 0) (m := 0) (t' := 3) (ra_cons rfl rfl (ra_cons rfl rfl ra_nil)) rfl (by rfl) (r100_eq hy) rfl rfl rfl rfl (wb_win rfl rfl rfl ⟨rfl, Nat.le_of_ble_eq_true rfl⟩ rfl rfl wb_nil) an_nil rfl) ?_
  conv => whnf
  replace h := obind.elim h; obtain ⟨t, hy, h⟩ := h
  refine sumK.introF [0] (sumRun_of (aqs := [.pointer (some ⟨0, 0, none⟩), .int .i64 n3.1]) (ws := [.win 0 0 3 true]) (n := 0) (m := 0) (t' := 3) (ra_cons rfl rfl (ra_cons rfl rfl ra_nil)) rfl (by rfl) (r97_eq hy) rfl rfl rfl rfl (wb_win rfl rfl rfl ⟨rfl, Nat.le_of_ble_eq_true rfl⟩ rfl rfl wb_nil) an_nil rfl) ?_
  conv => whnf
  replace h := obind.elim h; obtain ⟨xg, hy, h⟩ := h
  refine sumK.q rfl rfl (r138_eq hy) rfl rfl rfl ?_
  conv => whnf
  all_goals (cases h)
  all_goals exact Res.of [] rfl nw_0 (by decide) js_0 (wr_s (rfl) (hs_cells rfl) wr_0)
theorem ok101 (addr_Get : (List UInt8) → Option (api_Addr × Bool)) (octet_Reader_Num : octet_Reader → Int → Option (Int × octet_Reader)) (octet_Reader_Text : octet_Reader → Int → Option ((List UInt8) × octet_Reader)) (hS : SumsOK Try.prog (aget (sums101 addr_Get octet_Reader_Num octet_Reader_Text))) : SumOK Try.prog 101 (s101 (saved_backendF addr_Get octet_Reader_Num octet_Reader_Text)) := by
  refine SumOK.of_leads tab_ok (fun ar os r ha hr => ?_) ⟨Try.f101, rfl, by decide, rfl⟩
  replace hr : r101 (saved_backendF addr_Get octet_Reader_Num octet_Reader_Text) ar (conts os) = some r := hr
  unfold r101 at hr
  generalize hc : conts os = C at hr
  have hq := dPt.elim hr; clear hr; obtain ⟨c0, l1, C, y0, rfl, rfl, e0, hr⟩ := hq; obtain rfl := unoctet_Reader_eq _ _ e0
  replace hr := dFin hr; obtain ⟨rfl, rfl, x, h, rfl⟩ := hr
  obtain ⟨os, rfl, ha, hc⟩ := kinds_some ha hc
  obtain rfl := kinds_nil hc
  exact ⟨_, rfl, leads101 addr_Get octet_Reader_Num octet_Reader_Text hS _ x h⟩
def saved_backend : octet_Reader → Option (api_Backend × Bool × octet_Reader) := saved_backendF addr_Get octet_Reader_Num octet_Reader_Text
theorem lift101 : SumOK Try.prog 101 (s101 saved_backend) := ok101 addr_Get octet_Reader_Num octet_Reader_Text (SumsOK.of_tab ⟨lift138, lift100, lift97, trivial⟩)
def octet_Reader_RestF (octet_Reader_Bad : octet_Reader → Option (Bool × octet_Reader)) (octet_Reader_Text : octet_Reader → Int → Option ((List UInt8) × octet_Reader)) (ra0 : octet_Reader) : Option ((List UInt8) × octet_Reader) :=
  (octet_Reader_Bad ra0).bind fun b =>
  cond (b.1)
    (
    some (([], b.2)))
    (
    (octet_Reader_Text b.2 (b.2.s.length : Int)).bind fun t =>
    some ((t.1, t.2)))
def rx103 (x : (List UInt8) × octet_Reader) : SRes := ⟨.string ⟨⟨x.1⟩⟩, [], [some [.string ⟨⟨x.2.s⟩⟩, .bool x.2.made, .bool x.2.bad]]⟩
def r103 (g : octet_Reader → Option ((List UInt8) × octet_Reader)) : Dec := dPt 0 unoctet_Reader fun (y0 : octet_Reader) => dEnd (ofG (g y0) rx103)
theorem r103_c {g : octet_Reader → Option ((List UInt8) × octet_Reader)} {y0 : octet_Reader} {x : (List UInt8) × octet_Reader} (hx : g y0 = some x) : r103 g [.pointer (some ⟨0, 0, none⟩)] [some [.string ⟨⟨y0.s⟩⟩, .bool y0.made, .bool y0.bad]] = some (rx103 x) := (dPt_eq (unoctet_Reader_c _)).trans (ofG_eq hx)
def s103 (g : octet_Reader → Option ((List UInt8) × octet_Reader)) : Summ := ⟨[.pt 3], r103 g⟩
theorem r103_eq {g : octet_Reader → Option ((List UInt8) × octet_Reader)} {y0 : octet_Reader} {x : (List UInt8) × octet_Reader} (hx : g y0 = some x) : (s103 g).run [.pointer (some ⟨0, 0, none⟩)] [some [.string ⟨⟨y0.s⟩⟩, .bool y0.made, .bool y0.bad]] = some (rx103 x) := r103_c hx
abbrev sums103 (octet_Reader_Bad : octet_Reader → Option (Bool × octet_Reader)) (octet_Reader_Text : octet_Reader → Int → Option ((List UInt8) × octet_Reader)) : List (Nat × Summ) := [(102, s102 octet_Reader_Bad), (97, s97 octet_Reader_Text)]
theorem leads103 (octet_Reader_Bad : octet_Reader → Option (Bool × octet_Reader)) (octet_Reader_Text : octet_Reader → Int → Option ((List UInt8) × octet_Reader)) (hS : SumsOK Try.prog (aget (sums103 octet_Reader_Bad octet_Reader_Text))) (ra0 : octet_Reader) (res : (List UInt8) × octet_Reader) (h : octet_Reader_RestF octet_Reader_Bad octet_Reader_Text ra0 = some res) :
    Leads Try.prog 103 1 ⟨⟨103, 12, [(0, .pointer (some ⟨0, 0, none⟩))], [.code k103_9], [], false, none⟩, [], [(0, .cells [.string ⟨⟨ra0.s⟩⟩, .bool ra0.made, .bool ra0.bad])], 1⟩ (fun v H _ => Res 1 (rx103 res) v H) := by
  unfold octet_Reader_RestF at h
  refine ev_ok tab_ok hS true 3000 ?_
  conv => whnf
  replace h := obind.elim h; obtain ⟨b, hy, h⟩ := h
  refine sumK.introF [0] (sumRun_of (aqs := [.pointer (some ⟨0, 0, none⟩)]) (ws := [.win 0 0 3 true]) (n := 0) (m := 0) (t' := 1) (ra_cons rfl rfl ra_nil) rfl (by rfl) (r102_eq hy) rfl rfl rfl rfl (wb_win rfl rfl rfl ⟨rfl, Nat.le_of_ble_eq_true rfl⟩ rfl rfl wb_nil) an_nil rfl) ?_
  conv => whnf
  refine br.h h ?_ ?_ ?_
  · rfl
  · clear h; intro hb h; conv => whnf
    all_goals (cases h)
    all_goals exact Res.of [] rfl nw_0 (by decide) js_0 (wr_s (rfl) (hs_cells rfl) wr_0)
  clear h; intro hb h; conv => whnf
  replace h := obind.elim h; obtain ⟨t, hy, h⟩ := h
  refine sumK.introF [0] (sumRun_of (aqs := [.pointer (some ⟨0, 0, none⟩), .int .i64 (b.2.s.length : Int)]) (ws := [.win 0 0 3 true]) (n := 0) (m := 0) (t' := 1) (ra_cons rfl rfl (ra_cons rfl rfl ra_nil)) rfl (by rfl) (r97_eq hy) rfl rfl rfl rfl (wb_win rfl rfl rfl ⟨rfl, Nat.le_of_ble_eq_true rfl⟩ rfl rfl wb_nil) an_nil rfl) ?_
  conv => whnf
  all_goals (cases h)
  all_goals exact Res.of [] rfl nw_0 (by decide) js_0 (wr_s (rfl) (hs_cells rfl) wr_0)
theorem ok103 (octet_Reader_Bad : octet_Reader → Option (Bool × octet_Reader)) (octet_Reader_Text : octet_Reader → Int → Option ((List UInt8) × octet_Reader)) (hS : SumsOK Try.prog (aget (sums103 octet_Reader_Bad octet_Reader_Text))) : SumOK Try.prog 103 (s103 (octet_Reader_RestF octet_Reader_Bad octet_Reader_Text)) := by
  refine SumOK.of_leads tab_ok (fun ar os r ha hr => ?_) ⟨Try.f103, rfl, by decide, rfl⟩
  replace hr : r103 (octet_Reader_RestF octet_Reader_Bad octet_Reader_Text) ar (conts os) = some r := hr
  unfold r103 at hr
  generalize hc : conts os = C at hr
  have hq := dPt.elim hr; clear hr; obtain ⟨c0, l1, C, y0, rfl, rfl, e0, hr⟩ := hq; obtain rfl := unoctet_Reader_eq _ _ e0
  replace hr := dFin hr; obtain ⟨rfl, rfl, x, h, rfl⟩ := hr
  obtain ⟨os, rfl, ha, hc⟩ := kinds_some ha hc
  obtain rfl := kinds_nil hc
  exact ⟨_, rfl, leads103 octet_Reader_Bad octet_Reader_Text hS _ x h⟩
def octet_Reader_Rest : octet_Reader → Option ((List UInt8) × octet_Reader) := octet_Reader_RestF octet_Reader_Bad octet_Reader_Text
theorem lift103 : SumOK Try.prog 103 (s103 octet_Reader_Rest) := ok103 octet_Reader_Bad octet_Reader_Text (SumsOK.of_tab ⟨lift102, lift97, trivial⟩)
def saved_Get_s1 (octet_Reader_Bad : octet_Reader → Option (Bool × octet_Reader)) (octet_Reader_Rest : octet_Reader → Option ((List UInt8) × octet_Reader)) (saved_Right : saved_Record → Option Bool) (saved_backend : octet_Reader → Option (api_Backend × Bool × octet_Reader)) (xg : Int × Bool) (xg1 : Int × Bool) (n1 : Int × octet_Reader) (n2 : Int × octet_Reader) (good : Bool) (t60 : Int) (xr : List UInt8) (xr1 : Bool) (xr2 : Bool) (c : List api_Backend) : Option (Sum (Bool × Int × (List UInt8) × Bool × Bool × (List api_Backend)) (saved_Record × Int)) :=
  cond (decide (t60 < n2.1))
    (
    (saved_backend (octet_Reader.mk xr xr1 xr2)).bind fun b =>
    cond (good)
      (
      oreq (decide ((c.length + 1) * 48 ≤ 2 ^ 47)) <|
      let row := c ++ [b.1]
      some (.inl (b.2.1, wI .i64 (t60 + 1), b.2.2.s, b.2.2.made, b.2.2.bad, row)))
      (
      oreq (decide ((c.length + 1) * 48 ≤ 2 ^ 47)) <|
      let row1 := c ++ [b.1]
      some (.inl (false, wI .i64 (t60 + 1), b.2.2.s, b.2.2.made, b.2.2.bad, row1))))
    (
    (octet_Reader_Bad (octet_Reader.mk xr xr1 xr2)).bind fun b1 =>
    cond (b1.1)
      (
      some (.inr ((saved_Record.mk (api_Key.mk 0 0) 0 [], 2))))
      (
      (octet_Reader_Rest b1.2).bind fun xr3 =>
      cond (!(xr3.1 == []))
        (
        some (.inr ((saved_Record.mk (api_Key.mk 0 0) 0 [], 3))))
        (
        cond (!good)
          (
          some (.inr ((saved_Record.mk (api_Key.mk 0 0) 0 [], 3))))
          (
          (saved_Right (saved_Record.mk (api_Key.mk xg.1 xg1.1) n1.1 c)).bind fun xr4 =>
          cond (!xr4)
            (
            some (.inr ((saved_Record.mk (api_Key.mk 0 0) 0 [], 1))))
            (
            some (.inr ((saved_Record.mk (api_Key.mk xg.1 xg1.1) n1.1 c, 0))))))))
def saved_GetF (octet_Get : (List UInt8) → Int → Int → Option (Int × Bool)) (octet_New : (List UInt8) → Option octet_Reader) (octet_Reader_Bad : octet_Reader → Option (Bool × octet_Reader)) (octet_Reader_Num : octet_Reader → Int → Option (Int × octet_Reader)) (octet_Reader_Rest : octet_Reader → Option ((List UInt8) × octet_Reader)) (octet_Reader_Text : octet_Reader → Int → Option ((List UInt8) × octet_Reader)) (saved_Right : saved_Record → Option Bool) (saved_backend : octet_Reader → Option (api_Backend × Bool × octet_Reader)) (saved_seal : (List UInt8) → Option (List UInt8)) (s : List UInt8) : Option (saved_Record × Int) :=
  cond (decide ((s.length : Int) < 31))
    (
    some ((saved_Record.mk (api_Key.mk 0 0) 0 [], 2)))
    (
    oreq (decide ((0 : Int) ≤ (wI .i64 ((s.length : Int) - 8)) ∧ (wI .i64 ((s.length : Int) - 8)) ≤ (s.length : Int))) <|
    let t := s.take (wI .i64 ((s.length : Int) - 8)).toNat
    oreq (decide ((0 : Int) ≤ (wI .i64 ((s.length : Int) - 8)) ∧ (wI .i64 ((s.length : Int) - 8)) ≤ (s.length : Int))) <|
    let t1 := (s.drop (wI .i64 ((s.length : Int) - 8)).toNat).take (s.length - (wI .i64 ((s.length : Int) - 8)).toNat)
    (octet_New t).bind fun n =>
    (octet_Reader_Text n 4).bind fun t2 =>
    cond (!(t2.1 == [67, 76, 75, 49]))
      (
      some ((saved_Record.mk (api_Key.mk 0 0) 0 [], 3)))
      (
      (saved_seal t).bind fun s1 =>
      cond (!(s1 == t1))
        (
        some ((saved_Record.mk (api_Key.mk 0 0) 0 [], 4)))
        (
        (octet_Reader_Text t2.2 8).bind fun t3 =>
        (octet_Get t3.1 0 8).bind fun xg =>
        (octet_Reader_Text t3.2 8).bind fun t4 =>
        (octet_Get t4.1 0 8).bind fun xg1 =>
        (octet_Reader_Num t4.2 2).bind fun n1 =>
        (octet_Reader_Num n1.2 1).bind fun n2 =>
        iter (fun st => saved_Get_s1 octet_Reader_Bad octet_Reader_Rest saved_Right saved_backend xg xg1 n1 n2 st.1 st.2.1 st.2.2.1 st.2.2.2.1 st.2.2.2.2.1 st.2.2.2.2.2) FUEL (true, 0, n2.2.s, n2.2.made, n2.2.bad, []))))
def rx48 (x : saved_Record × Int) : SRes := ⟨.tuple ⟨[.agg ⟨[.int .u64 x.1.Key.A, .int .u64 x.1.Key.B, .int .i64 x.1.Last, .slice (some ⟨0, 0, none⟩) x.1.L.length 6]⟩, .int .i64 x.2]⟩, [(vT capi_Backend x.1.L)], []⟩
def r48 (g : (List UInt8) → Option (saved_Record × Int)) : Dec := dV asS fun (y0 : List UInt8) => dEnd (ofG (g y0) rx48)
theorem r48_c {g : (List UInt8) → Option (saved_Record × Int)} {y0 : List UInt8} {x : saved_Record × Int} (hx : g y0 = some x) : r48 g [.string ⟨⟨y0⟩⟩] [] = some (rx48 x) := (dV_eq (asS_c)).trans (ofG_eq hx)
def s48 (g : (List UInt8) → Option (saved_Record × Int)) : Summ := ⟨[.v], r48 g⟩
theorem r48_eq {g : (List UInt8) → Option (saved_Record × Int)} {y0 : List UInt8} {x : saved_Record × Int} (hx : g y0 = some x) : (s48 g).run [.string ⟨⟨y0⟩⟩] [] = some (rx48 x) := r48_c hx
abbrev sums48 (octet_Get : (List UInt8) → Int → Int → Option (Int × Bool)) (octet_New : (List UInt8) → Option octet_Reader) (octet_Reader_Bad : octet_Reader → Option (Bool × octet_Reader)) (octet_Reader_Num : octet_Reader → Int → Option (Int × octet_Reader)) (octet_Reader_Rest : octet_Reader → Option ((List UInt8) × octet_Reader)) (octet_Reader_Text : octet_Reader → Int → Option ((List UInt8) × octet_Reader)) (saved_Right : saved_Record → Option Bool) (saved_backend : octet_Reader → Option (api_Backend × Bool × octet_Reader)) (saved_seal : (List UInt8) → Option (List UInt8)) : List (Nat × Summ) := [(99, s99 octet_Get), (96, s96 octet_New), (102, s102 octet_Reader_Bad), (100, s100 octet_Reader_Num), (103, s103 octet_Reader_Rest), (97, s97 octet_Reader_Text), (56, s56 saved_Right), (101, s101 saved_backend), (98, s98 saved_seal)]
def head48_1 (xg : Int × Bool) (xg1 : Int × Bool) (n1 : Int × octet_Reader) (n2 : Int × octet_Reader) (good : Bool) (t60 : Int) (xr : List UInt8) (xr1 : Bool) (xr2 : Bool) (c : List api_Backend) : VM :=
  ⟨⟨48, 97, [(2, .pointer (some ⟨0, 0, none⟩)), (6, .pointer (some ⟨12, 0, none⟩)), (7, .pointer (some ⟨13, 0, none⟩)), (8, .bool good), (59, .int .i64 n2.1), (60, .int .i64 t60)], [.code k48_36, .inLoop k48_36, .inBlock 1, .code k48_58], [], false, none⟩, [], [(0, .cells [.int .u64 0, .int .u64 0, .int .i64 0, .slice none 0 0]), (12, .row true [.string ⟨⟨xr⟩⟩, .bool xr1, .bool xr2]), (13, .cells [.int .u64 xg.1, .int .u64 xg1.1, .int .i64 n1.1, .slice (some ⟨14, 0, none⟩) c.length 6]), (14, .row true (vT capi_Backend c))], 15⟩
theorem loop48_1 (octet_Get : (List UInt8) → Int → Int → Option (Int × Bool)) (octet_New : (List UInt8) → Option octet_Reader) (octet_Reader_Bad : octet_Reader → Option (Bool × octet_Reader)) (octet_Reader_Num : octet_Reader → Int → Option (Int × octet_Reader)) (octet_Reader_Rest : octet_Reader → Option ((List UInt8) × octet_Reader)) (octet_Reader_Text : octet_Reader → Int → Option ((List UInt8) × octet_Reader)) (saved_Right : saved_Record → Option Bool) (saved_backend : octet_Reader → Option (api_Backend × Bool × octet_Reader)) (saved_seal : (List UInt8) → Option (List UInt8)) (hS : SumsOK Try.prog (aget (sums48 octet_Get octet_New octet_Reader_Bad octet_Reader_Num octet_Reader_Rest octet_Reader_Text saved_Right saved_backend saved_seal))) (xg : Int × Bool) (xg1 : Int × Bool) (n1 : Int × octet_Reader) (n2 : Int × octet_Reader) (res : saved_Record × Int) : ∀ fuel (st : Bool × Int × (List UInt8) × Bool × Bool × (List api_Backend)) (o : saved_Record × Int), iter (fun st => saved_Get_s1 octet_Reader_Bad octet_Reader_Rest saved_Right saved_backend xg xg1 n1 n2 st.1 st.2.1 st.2.2.1 st.2.2.2.1 st.2.2.2.2.1 st.2.2.2.2.2) fuel st = some o → (o = res) →
    Leads Try.prog 48 0 (head48_1 xg xg1 n1 n2 st.1 st.2.1 st.2.2.1 st.2.2.2.1 st.2.2.2.2.1 st.2.2.2.2.2) (fun v H t => ∃ v' H' t', NilW v H t v' H' t' ∧ Res 0 (rx48 res) v' H') := by
  intro fuel st o h hc
  refine iter_leads (head := fun st => head48_1 xg xg1 n1 n2 st.1 st.2.1 st.2.2.1 st.2.2.2.1 st.2.2.2.2.1 st.2.2.2.2.2) (C := fun o => (o = res)) ?_ fuel st o h hc
  clear h hc o st fuel
  intro st o h hc
  obtain ⟨good, t60, xr, xr1, xr2, c⟩ := st
  replace h : saved_Get_s1 octet_Reader_Bad octet_Reader_Rest saved_Right saved_backend xg xg1 n1 n2 good t60 xr xr1 xr2 c = some o := h
  show Leads Try.prog 48 0 (head48_1 xg xg1 n1 n2 good t60 xr xr1 xr2 c) (fun v H t => ∃ v' H' t', NilW v H t v' H' t' ∧ Res 0 (rx48 res) v' H')
  unfold saved_Get_s1 at h
  refine ev_ok tab_ok hS true 3000 ?_
  conv => whnf
  refine br.h h ?_ ?_ ?_
  · rfl
  · clear h; intro hb h; conv => whnf
    replace h := obind.elim h; obtain ⟨b, hy, h⟩ := h
    refine sumK.introF [12] (sumRun_of (aqs := [.pointer (some ⟨0, 0, none⟩)]) (ws := [.win 12 0 3 true]) (n := 0) (m := 0) (t' := 15) (ra_cons rfl rfl ra_nil) rfl (by rfl) (r101_eq hy) rfl rfl rfl rfl (wb_win rfl rfl rfl ⟨rfl, Nat.le_of_ble_eq_true rfl⟩ rfl rfl wb_nil) an_nil rfl) ?_
    conv => whnf
    refine br.h h ?_ ?_ ?_
    · rfl
    · clear h; intro hb h; conv => whnf
      replace h := oreq.elim h; obtain ⟨hb, h⟩ := h
      refine req.intro (ap_req (of_decide_eq_true hb) (by first | rfl | omega | (simp; done) | (simp; omega) | (simp at *; omega)) rfl (by first | rfl | omega | (simp; done) | (simp; omega) | (simp at *; omega)) (by first | rfl | exact vI_one _ _ | exact vS_one _ | exact vB_one _ | exact vT_one (by first | exact capi_Key_one | exact capi_Addr_one | exact capi_Backend_one | exact cArr4_Int_one | exact csip_Hasher_one | exact coctet_Reader_one | exact cR23_Step_one | exact chealth_Rule_one | exact chealth_State_one | exact cregistry_row_one) _ | (rw [ofBytes_vI]; exact vI_one _ _) | (simp [vI_one, vS_one, vB_one, vI_drop, vI_take, vS_drop, vS_take]; done) | (simp; exact List.all_eq_true.1 (vT_one (by first | exact capi_Key_one | exact capi_Addr_one | exact capi_Backend_one | exact cArr4_Int_one | exact csip_Hasher_one | exact coctet_Reader_one | exact cR23_Step_one | exact chealth_Rule_one | exact chealth_State_one | exact cregistry_row_one) _))) rfl) ?_
      conv => whnf
      let row : List api_Backend := c ++ [b.1]
      refine pk_apT capi_Backend_len (xs := c) (ys := [b.1]) rfl (by first | rfl | omega) (by first | rfl | omega | (simp; done) | (simp; omega) | (simp at *; omega)) (by first | rfl | omega | (simp; done) | (simp; omega) | (simp at *; omega)) ?_
      conv => whnf
      cases h; simp only [Sum.elim_inl, head48_1] at hc
      exact lrA0 hc [(0, 0), (12, 12), (13, 13), (14, 17)] rfl
    clear h; intro hb h; conv => whnf
    replace h := oreq.elim h; obtain ⟨hb, h⟩ := h
    refine req.intro (ap_req (of_decide_eq_true hb) (by first | rfl | omega | (simp; done) | (simp; omega) | (simp at *; omega)) rfl (by first | rfl | omega | (simp; done) | (simp; omega) | (simp at *; omega)) (by first | rfl | exact vI_one _ _ | exact vS_one _ | exact vB_one _ | exact vT_one (by first | exact capi_Key_one | exact capi_Addr_one | exact capi_Backend_one | exact cArr4_Int_one | exact csip_Hasher_one | exact coctet_Reader_one | exact cR23_Step_one | exact chealth_Rule_one | exact chealth_State_one | exact cregistry_row_one) _ | (rw [ofBytes_vI]; exact vI_one _ _) | (simp [vI_one, vS_one, vB_one, vI_drop, vI_take, vS_drop, vS_take]; done) | (simp; exact List.all_eq_true.1 (vT_one (by first | exact capi_Key_one | exact capi_Addr_one | exact capi_Backend_one | exact cArr4_Int_one | exact csip_Hasher_one | exact coctet_Reader_one | exact cR23_Step_one | exact chealth_Rule_one | exact chealth_State_one | exact cregistry_row_one) _))) rfl) ?_
    conv => whnf
    let row1 : List api_Backend := c ++ [b.1]
    refine pk_apT capi_Backend_len (xs := c) (ys := [b.1]) rfl (by first | rfl | omega) (by first | rfl | omega | (simp; done) | (simp; omega) | (simp at *; omega)) (by first | rfl | omega | (simp; done) | (simp; omega) | (simp at *; omega)) ?_
    conv => whnf
    cases h; simp only [Sum.elim_inl, head48_1] at hc
    exact lrA0 hc [(0, 0), (12, 12), (13, 13), (14, 17)] rfl
  clear h; intro hb h; conv => whnf
  replace h := obind.elim h; obtain ⟨b1, hy, h⟩ := h
  refine sumK.introF [12] (sumRun_of (aqs := [.pointer (some ⟨0, 0, none⟩)]) (ws := [.win 12 0 3 true]) (n := 0) (m := 0) (t' := 15) (ra_cons rfl rfl ra_nil) rfl (by rfl) (r102_eq hy) rfl rfl rfl rfl (wb_win rfl rfl rfl ⟨rfl, Nat.le_of_ble_eq_true rfl⟩ rfl rfl wb_nil) an_nil rfl) ?_
  conv => whnf
  refine br.h h ?_ ?_ ?_
  · rfl
  · clear h; intro hb h; conv => whnf
    all_goals (cases h; cases hc)
    all_goals exact ⟨_, _, _, (.val (.tup (.cons (.agg (.cons (.same _) (.cons (.same _) (.cons (.same _) (.cons (.nil _ _) .nil))))) (.cons (.same _) .nil))) (.refl _ _ _)), Res.of [15] rfl (nw_s (rn_T capi_Backend_flat) (hs_row rfl) nw_0) (by decide) (js_l (by decide) js_0) wr_0⟩
  clear h; intro hb h; conv => whnf
  replace h := obind.elim h; obtain ⟨xr3, hy, h⟩ := h
  refine sumK.introF [12] (sumRun_of (aqs := [.pointer (some ⟨0, 0, none⟩)]) (ws := [.win 12 0 3 true]) (n := 0) (m := 0) (t' := 15) (ra_cons rfl rfl ra_nil) rfl (by rfl) (r103_eq hy) rfl rfl rfl rfl (wb_win rfl rfl rfl ⟨rfl, Nat.le_of_ble_eq_true rfl⟩ rfl rfl wb_nil) an_nil rfl) ?_
  conv => whnf
  refine br.h h ?_ ?_ ?_
  · rfl
  · clear h; intro hb h; conv => whnf
    all_goals (cases h; cases hc)
    all_goals exact ⟨_, _, _, (.val (.tup (.cons (.agg (.cons (.same _) (.cons (.same _) (.cons (.same _) (.cons (.nil _ _) .nil))))) (.cons (.same _) .nil))) (.refl _ _ _)), Res.of [15] rfl (nw_s (rn_T capi_Backend_flat) (hs_row rfl) nw_0) (by decide) (js_l (by decide) js_0) wr_0⟩
  clear h; intro hb h; conv => whnf
  refine br.h h ?_ ?_ ?_
  · rfl
  · clear h; intro hb h; conv => whnf
    all_goals (cases h; cases hc)
    all_goals exact ⟨_, _, _, (.val (.tup (.cons (.agg (.cons (.same _) (.cons (.same _) (.cons (.same _) (.cons (.nil _ _) .nil))))) (.cons (.same _) .nil))) (.refl _ _ _)), Res.of [15] rfl (nw_s (rn_T capi_Backend_flat) (hs_row rfl) nw_0) (by decide) (js_l (by decide) js_0) wr_0⟩
  clear h; intro hb h; conv => whnf
  replace h := obind.elim h; obtain ⟨xr4, hy, h⟩ := h
  refine sumK.introF [] (sumRun_of (aqs := [.agg ⟨[.int .u64 (saved_Record.mk (api_Key.mk xg.1 xg1.1) n1.1 c).Key.A, .int .u64 (saved_Record.mk (api_Key.mk xg.1 xg1.1) n1.1 c).Key.B, .int .i64 (saved_Record.mk (api_Key.mk xg.1 xg1.1) n1.1 c).Last, .slice (some ⟨0, 0, none⟩) (saved_Record.mk (api_Key.mk xg.1 xg1.1) n1.1 c).L.length 6]⟩]) (ws := [.blk 14 false]) (n := 0) (m := 0) (t' := 15) (ra_cons (ra_tr rfl rfl (vp_at rfl rfl (rn_T capi_Backend_flat) rfl vp_nil) rfl) rfl ra_nil) rfl (by rfl) (r56_eq hy) rfl rfl rfl rfl (wb_skip rfl wb_nil) an_nil rfl) ?_
  conv => whnf
  refine br.h h ?_ ?_ ?_
  · rfl
  · clear h; intro hb h; conv => whnf
    all_goals (cases h; cases hc)
    all_goals exact ⟨_, _, _, (.val (.tup (.cons (.agg (.cons (.same _) (.cons (.same _) (.cons (.same _) (.cons (.nil _ _) .nil))))) (.cons (.same _) .nil))) (.refl _ _ _)), Res.of [15] rfl (nw_s (rn_T capi_Backend_flat) (hs_row rfl) nw_0) (by decide) (js_l (by decide) js_0) wr_0⟩
  clear h; intro hb h; conv => whnf
  all_goals (cases h; cases hc)
  all_goals exact ⟨_, _, _, (.refl _ _ _), Res.of [14] rfl (nw_s (rn_T capi_Backend_flat) (hs_row rfl) nw_0) (by decide) (js_l (by decide) js_0) wr_0⟩
theorem leads48 (octet_Get : (List UInt8) → Int → Int → Option (Int × Bool)) (octet_New : (List UInt8) → Option octet_Reader) (octet_Reader_Bad : octet_Reader → Option (Bool × octet_Reader)) (octet_Reader_Num : octet_Reader → Int → Option (Int × octet_Reader)) (octet_Reader_Rest : octet_Reader → Option ((List UInt8) × octet_Reader)) (octet_Reader_Text : octet_Reader → Int → Option ((List UInt8) × octet_Reader)) (saved_Right : saved_Record → Option Bool) (saved_backend : octet_Reader → Option (api_Backend × Bool × octet_Reader)) (saved_seal : (List UInt8) → Option (List UInt8)) (hS : SumsOK Try.prog (aget (sums48 octet_Get octet_New octet_Reader_Bad octet_Reader_Num octet_Reader_Rest octet_Reader_Text saved_Right saved_backend saved_seal))) (s : List UInt8) (res : saved_Record × Int) (h : saved_GetF octet_Get octet_New octet_Reader_Bad octet_Reader_Num octet_Reader_Rest octet_Reader_Text saved_Right saved_backend saved_seal s = some res) :
    Leads Try.prog 48 0 ⟨⟨48, 97, [(0, .string ⟨⟨s⟩⟩)], [.code k48_69], [], false, none⟩, [], [], 0⟩ (fun v H _ => Res 0 (rx48 res) v H) := by
  refine Leads.nilW (R := fun v' H' => Res 0 (rx48 res) v' H') ?_
  unfold saved_GetF at h
  refine ev_ok tab_ok hS true 3000 ?_
  conv => whnf
  refine br.h h ?_ ?_ ?_
  · rfl
  · clear h; intro hb h; conv => whnf
    all_goals (cases h)
    all_goals exact ⟨_, _, _, (.val (.tup (.cons (.agg (.cons (.same _) (.cons (.same _) (.cons (.same _) (.cons (.nil _ _) .nil))))) (.cons (.same _) .nil))) (.refl _ _ _)), Res.of [1] rfl (nw_s (rn_T capi_Backend_flat) (hs_row rfl) nw_0) (by decide) (js_l (by decide) js_0) wr_0⟩
  clear h; intro hb h; conv => whnf
  replace h := oreq.elim h; obtain ⟨hb, h⟩ := h
  first | (refine req.intro hb ?_; conv => whnf) | skip
  let t : List UInt8 := s.take (wI .i64 ((s.length : Int) - 8)).toNat
  replace h := oreq.elim h; obtain ⟨hb, h⟩ := h
  first | (refine req.intro hb ?_; conv => whnf) | skip
  let t1 : List UInt8 := (s.drop (wI .i64 ((s.length : Int) - 8)).toNat).take (s.length - (wI .i64 ((s.length : Int) - 8)).toNat)
  replace h := obind.elim h; obtain ⟨n, hy, h⟩ := h
  refine sumK.introF [12] (sumRun_of (aqs := [.string ⟨⟨t⟩⟩]) (ws := []) (n := 1) (m := 0) (t' := 13) (ra_cons rfl rfl ra_nil) rfl (by rfl) (r96_eq hy) rfl rfl rfl rfl wb_nil (an_cons (rfl) an_nil) rfl) ?_
  conv => whnf
  replace h := obind.elim h; obtain ⟨t2, hy, h⟩ := h
  refine sumK.introF [12] (sumRun_of (aqs := [.pointer (some ⟨0, 0, none⟩), .int .i64 4]) (ws := [.win 12 0 3 true]) (n := 0) (m := 0) (t' := 13) (ra_cons rfl rfl (ra_cons rfl rfl ra_nil)) rfl (by rfl) (r97_eq hy) rfl rfl rfl rfl (wb_win rfl rfl rfl ⟨rfl, Nat.le_of_ble_eq_true rfl⟩ rfl rfl wb_nil) an_nil rfl) ?_
  conv => whnf
  refine br.h h ?_ ?_ ?_
  · rfl
  · clear h; intro hb h; conv => whnf
    all_goals (cases h)
    all_goals exact ⟨_, _, _, (.val (.tup (.cons (.agg (.cons (.same _) (.cons (.same _) (.cons (.same _) (.cons (.nil _ _) .nil))))) (.cons (.same _) .nil))) (.refl _ _ _)), Res.of [13] rfl (nw_s (rn_T capi_Backend_flat) (hs_row rfl) nw_0) (by decide) (js_l (by decide) js_0) wr_0⟩
  clear h; intro hb h; conv => whnf
  replace h := obind.elim h; obtain ⟨s1, hy, h⟩ := h
  refine sumK.q rfl rfl (r98_eq hy) rfl rfl rfl ?_
  conv => whnf
  refine br.h h ?_ ?_ ?_
  · rfl
  · clear h; intro hb h; conv => whnf
    all_goals (cases h)
    all_goals exact ⟨_, _, _, (.val (.tup (.cons (.agg (.cons (.same _) (.cons (.same _) (.cons (.same _) (.cons (.nil _ _) .nil))))) (.cons (.same _) .nil))) (.refl _ _ _)), Res.of [13] rfl (nw_s (rn_T capi_Backend_flat) (hs_row rfl) nw_0) (by decide) (js_l (by decide) js_0) wr_0⟩
  clear h; intro hb h; conv => whnf
  replace h := obind.elim h; obtain ⟨t3, hy, h⟩ := h
  refine sumK.introF [12] (sumRun_of (aqs := [.pointer (some ⟨0, 0, none⟩), .int .i64 8]) (ws := [.win 12 0 3 true]) (n := 0) (m := 0) (t' := 14) (ra_cons rfl rfl (ra_cons rfl rfl ra_nil)) rfl (by rfl) (r97_eq hy) rfl rfl rfl rfl (wb_win rfl rfl rfl ⟨rfl, Nat.le_of_ble_eq_true rfl⟩ rfl rfl wb_nil) an_nil rfl) ?_
  conv => whnf
  replace h := obind.elim h; obtain ⟨xg, hy, h⟩ := h
  refine sumK.q rfl rfl (r99_eq hy) rfl rfl rfl ?_
  conv => whnf
  replace h := obind.elim h; obtain ⟨t4, hy, h⟩ := h
  refine sumK.introF [12] (sumRun_of (aqs := [.pointer (some ⟨0, 0, none⟩), .int .i64 8]) (ws := [.win 12 0 3 true]) (n := 0) (m := 0) (t' := 14) (ra_cons rfl rfl (ra_cons rfl rfl ra_nil)) rfl (by rfl) (r97_eq hy) rfl rfl rfl rfl (wb_win rfl rfl rfl ⟨rfl, Nat.le_of_ble_eq_true rfl⟩ rfl rfl wb_nil) an_nil rfl) ?_
  conv => whnf
  replace h := obind.elim h; obtain ⟨xg1, hy, h⟩ := h
  refine sumK.q rfl rfl (r99_eq hy) rfl rfl rfl ?_
  conv => whnf
  replace h := obind.elim h; obtain ⟨n1, hy, h⟩ := h
  refine sumK.introF [12] (sumRun_of (aqs := [.pointer (some ⟨0, 0, none⟩), .int .i64 2]) (ws := [.win 12 0 3 true]) (n := 0) (m := 0) (t' := 14) (ra_cons rfl rfl (ra_cons rfl rfl ra_nil)) rfl (by rfl) (r100_eq hy) rfl rfl rfl rfl (wb_win rfl rfl rfl ⟨rfl, Nat.le_of_ble_eq_true rfl⟩ rfl rfl wb_nil) an_nil rfl) ?_
  conv => whnf
  replace h := obind.elim h; obtain ⟨n2, hy, h⟩ := h
  refine sumK.introF [12] (sumRun_of (aqs := [.pointer (some ⟨0, 0, none⟩), .int .i64 1]) (ws := [.win 12 0 3 true]) (n := 0) (m := 0) (t' := 14) (ra_cons rfl rfl (ra_cons rfl rfl ra_nil)) rfl (by rfl) (r100_eq hy) rfl rfl rfl rfl (wb_win rfl rfl rfl ⟨rfl, Nat.le_of_ble_eq_true rfl⟩ rfl rfl wb_nil) an_nil rfl) ?_
  conv => whnf
  have hl := loop48_1 octet_Get octet_New octet_Reader_Bad octet_Reader_Num octet_Reader_Rest octet_Reader_Text saved_Right saved_backend saved_seal hS _ _ _ _ res _ _ _ h rfl; simp only [head48_1] at hl
  refine Leads.nilC 13 3 6 ?_
  exact lrA0 hl [(0, 0), (12, 12), (13, 13), (14, 14)] rfl
theorem ok48 (octet_Get : (List UInt8) → Int → Int → Option (Int × Bool)) (octet_New : (List UInt8) → Option octet_Reader) (octet_Reader_Bad : octet_Reader → Option (Bool × octet_Reader)) (octet_Reader_Num : octet_Reader → Int → Option (Int × octet_Reader)) (octet_Reader_Rest : octet_Reader → Option ((List UInt8) × octet_Reader)) (octet_Reader_Text : octet_Reader → Int → Option ((List UInt8) × octet_Reader)) (saved_Right : saved_Record → Option Bool) (saved_backend : octet_Reader → Option (api_Backend × Bool × octet_Reader)) (saved_seal : (List UInt8) → Option (List UInt8)) (hS : SumsOK Try.prog (aget (sums48 octet_Get octet_New octet_Reader_Bad octet_Reader_Num octet_Reader_Rest octet_Reader_Text saved_Right saved_backend saved_seal))) : SumOK Try.prog 48 (s48 (saved_GetF octet_Get octet_New octet_Reader_Bad octet_Reader_Num octet_Reader_Rest octet_Reader_Text saved_Right saved_backend saved_seal)) := by
  refine SumOK.of_leads tab_ok (fun ar os r ha hr => ?_) ⟨Try.f48, rfl, by decide, rfl⟩
  replace hr : r48 (saved_GetF octet_Get octet_New octet_Reader_Bad octet_Reader_Num octet_Reader_Rest octet_Reader_Text saved_Right saved_backend saved_seal) ar (conts os) = some r := hr
  unfold r48 at hr
  generalize hc : conts os = C at hr
  replace hr := dV.elim hr; obtain ⟨v0, l1, y0, rfl, e0, hr⟩ := hr; obtain rfl := asS_eq _ _ e0
  replace hr := dFin hr; obtain ⟨rfl, rfl, x, h, rfl⟩ := hr
  obtain rfl := kinds_nil hc
  exact ⟨_, rfl, leads48 octet_Get octet_New octet_Reader_Bad octet_Reader_Num octet_Reader_Rest octet_Reader_Text saved_Right saved_backend saved_seal hS _ x h⟩
def saved_Get : (List UInt8) → Option (saved_Record × Int) := saved_GetF octet_Get octet_New octet_Reader_Bad octet_Reader_Num octet_Reader_Rest octet_Reader_Text saved_Right saved_backend saved_seal
theorem lift48 : SumOK Try.prog 48 (s48 saved_Get) := ok48 octet_Get octet_New octet_Reader_Bad octet_Reader_Num octet_Reader_Rest octet_Reader_Text saved_Right saved_backend saved_seal (SumsOK.of_tab ⟨lift99, lift96, lift102, lift100, lift103, lift97, lift56, lift101, lift98, trivial⟩)
end Go.Vm.Code
namespace Go.Vm.Code
open Go Go.Vm
def addrG (a : List UInt8) : api_Addr × Bool :=
  if a.length = 4 then (⟨false, 0, ((valL a : Nat) : Int)⟩, true) else if a.length = 16 then (⟨true, ((valL (a.take 8) : Nat) : Int), ((valL (a.drop 8) : Nat) : Int)⟩, true) else (⟨false, 0, 0⟩, false)
theorem getS_all {a : List UInt8} {k : Nat} (hk : 1 ≤ k) (h8 : k ≤ 8) (h : a.length = k) : getS a 0 (k : Int) = (((valL a : Nat) : Int), true) := by
  rw [getS_at (by omega) (by omega) (by omega) (by omega)]
  simp only [Int.toNat_natCast, show (0 : Int).toNat = 0 from rfl, List.drop_zero]
  rw [List.take_of_length_le (by omega)]
theorem agetG {a : List UInt8} (G : List UInt8 → Int → Int → Option (Int × Bool)) (hG : ∀ p k, G a p k = some (getS a p k)) :
    cond ((a.length : Int) == 4) ((G a 0 4).bind fun xg => some ((api_Addr.mk false 0 xg.1, true)))
      (cond ((a.length : Int) == 16) ((G a 0 8).bind fun xg1 => (G a 8 8).bind fun xg2 => some ((api_Addr.mk true xg1.1 xg2.1, true))) (some ((api_Addr.mk false 0 0, false)))) = some (addrG a) := by
  unfold addrG
  by_cases h4 : a.length = 4
  · rw [show ((a.length : Int) == 4) = true from by rw [beq_iff_eq]; omega, cond_true, hG, Option.bind_some, show getS a 0 4 = _ from getS_all (k := 4) (by decide) (by decide) h4, if_pos h4]
  · rw [show ((a.length : Int) == 4) = false from by rw [beq_eq_false_iff_ne]; omega, cond_false, if_neg h4]
    by_cases h16 : a.length = 16
    · rw [show ((a.length : Int) == 16) = true from by rw [beq_iff_eq]; omega, cond_true, hG, Option.bind_some, hG, Option.bind_some, getS_at (by omega) (by omega) (by omega) (by omega), getS_at (by omega) (by omega) (by omega) (by omega), if_pos h16]
      simp only [show (0 : Int).toNat = 0 from rfl, show (8 : Int).toNat = 8 from rfl, List.drop_zero]
      rw [List.take_of_length_le (l := a.drop 8) (by rw [List.length_drop]; omega)]
    · rw [show ((a.length : Int) == 16) = false from by rw [beq_eq_false_iff_ne]; omega, cond_false, if_neg h16]
theorem paget_eq {a : List UInt8} (h : a.length < 2 ^ 40) : addr_Get a = some (addrG a) := by
  unfold addr_Get addr_GetF
  exact agetG octet_Get (fun p k => octet_Get_eq (by omega))
def alen (s : List UInt8) : Nat := valL ((s.drop 5).take 1)
def adrS (s : List UInt8) : List UInt8 := (s.drop 6).take (alen s)
def rec1 (s : List UInt8) : api_Backend := ⟨((valL (s.take 2) : Nat) : Int), ((valL ((s.drop 2).take 2) : Nat) : Int), ((valL ((s.drop 4).take 1) : Nat) : Int), (addrG (adrS s)).1⟩
def recs : Nat → List UInt8 → Option (List api_Backend × Bool × List UInt8)
  | 0, s => some ([], true, s)
  | n + 1, s => if s.length < 6 then none else if s.length < 6 + alen s then none else
    match recs n (s.drop (6 + alen s)) with
    | none => none
    | some (l, g, r) => some (rec1 s :: l, (addrG (adrS s)).2 && g, r)
theorem recs_len : ∀ {n : Nat} {s : List UInt8} {l : List api_Backend} {g : Bool} {r : List UInt8}, recs n s = some (l, g, r) → l.length = n ∧ r.length ≤ s.length
  | 0, s, l, g, r, h => by simp only [recs, Option.some.injEq, Prod.mk.injEq] at h; obtain ⟨rfl, -, rfl⟩ := h; exact ⟨rfl, Nat.le_refl _⟩
  | n + 1, s, l, g, r, h => by
    simp only [recs] at h
    split at h
    · cases h
    split at h
    · cases h
    split at h
    · cases h
    · rename_i l' g' r' e
      cases h
      obtain ⟨h1, h2⟩ := recs_len e
      exact ⟨by simp [h1], by rw [List.length_drop] at h2; omega⟩
theorem rdn_ok {s : List UInt8} {k : Nat} (h0 : 1 ≤ k) (h7 : k ≤ 7) (h : k ≤ s.length) : rdn ⟨s, true, false⟩ (k : Int) = ((valL (s.take k) : Nat) : Int) := by
  unfold rdn
  rw [if_neg (by omega), rdt_ok (by omega) (by omega), Int.toNat_natCast]
theorem rdr_bd (s : List UInt8) (m : Bool) (k : Int) : rdr ⟨s, m, true⟩ k = ⟨s, true, true⟩ := by unfold rdr; rw [if_pos (.inl rfl)]
theorem rdr_short {s : List UInt8} {k : Int} (h : k > s.length) : rdr ⟨s, true, false⟩ k = ⟨s, true, true⟩ := by unfold rdr; rw [if_pos (.inr (.inr h))]
def bkd (r : octet_Reader) : api_Backend × Bool × octet_Reader :=
  let r1 := rdr r 2; let r2 := rdr r1 2; let r3 := rdr r2 1; let r4 := rdr r3 1
  (⟨rdn r 2, rdn r1 2, rdn r2 1, (addrG (rdt r4 (rdn r3 1))).1⟩, (addrG (rdt r4 (rdn r3 1))).2, rdr r4 (rdn r3 1))
theorem rdr_le (r : octet_Reader) (k : Int) : (rdr r k).s.length ≤ r.s.length := by unfold rdr; split <;> simp
theorem pbackend_eq {r : octet_Reader} (h : r.made = true) (hl : r.s.length < 2 ^ 40) : saved_backend r = some (bkd r) := by
  unfold saved_backend saved_backendF bkd
  have l1 := rdr_le r 2; have l2 := rdr_le (rdr r 2) 2; have l3 := rdr_le (rdr (rdr r 2) 2) 1; have l4 := rdr_le (rdr (rdr (rdr r 2) 2) 1) 1
  rw [rNum_eq h (by omega), Option.bind_some, if_neg (by decide)]
  simp only []
  rw [rNum_eq (rdr_made _ _) (by omega), Option.bind_some, if_neg (by decide)]
  simp only []
  rw [rNum_eq (rdr_made _ _) (by omega), Option.bind_some, if_neg (by decide)]
  simp only []
  rw [rNum_eq (rdr_made _ _) (by omega), Option.bind_some, if_neg (by decide)]
  simp only []
  rw [rText_eq (rdr_made _ _), Option.bind_some]
  simp only []
  rw [paget_eq (by have := rdt_len (rdr (rdr (rdr (rdr r 2) 2) 1) 1) (rdn (rdr (rdr (rdr r 2) 2) 1) 1); omega), Option.bind_some]
theorem bkd_bad (s : List UInt8) : (bkd ⟨s, true, true⟩).2.2 = ⟨s, true, true⟩ := by
  unfold bkd; simp only [rdr_bd]
theorem bkd_short {s : List UInt8} (h : s.length < 6 ∨ s.length < 6 + alen s) : ∃ s', (bkd ⟨s, true, false⟩).2.2 = ⟨s', true, true⟩ ∧ s'.length ≤ s.length := by
  unfold bkd
  simp only []
  by_cases h2 : s.length < 2
  · rw [rdr_short (by omega)]; simp only [rdr_bd]; exact ⟨_, rfl, Nat.le_refl _⟩
  rw [rdr_ok (by omega) (by omega)]
  have e1 : (2 : Int).toNat = 2 := rfl
  have e2 : (1 : Int).toNat = 1 := rfl
  by_cases h4 : s.length < 4
  · rw [e1, rdr_short (s := s.drop 2) (by rw [List.length_drop]; omega)]; simp only [rdr_bd]; exact ⟨_, rfl, by simp⟩
  rw [e1, rdr_ok (s := s.drop 2) (by omega) (by rw [List.length_drop]; omega), e1, List.drop_drop]
  by_cases h5 : s.length < 5
  · rw [rdr_short (s := s.drop (2 + 2)) (by rw [List.length_drop]; omega)]; simp only [rdr_bd]; exact ⟨_, rfl, by simp⟩
  rw [rdr_ok (s := s.drop (2 + 2)) (by omega) (by rw [List.length_drop]; omega), e2, List.drop_drop]
  by_cases h6 : s.length < 6
  · rw [rdr_short (s := s.drop (2 + 2 + 1)) (by rw [List.length_drop]; omega)]; simp only [rdr_bd]; exact ⟨_, rfl, by simp⟩
  rw [rdr_ok (s := s.drop (2 + 2 + 1)) (by omega) (by rw [List.length_drop]; omega), e2, List.drop_drop]
  rw [show rdn ⟨s.drop (2 + 2 + 1), true, false⟩ 1 = ((alen s : Nat) : Int) from rdn_ok (k := 1) (by decide) (by decide) (by rw [List.length_drop]; omega)]
  rw [rdr_short (s := s.drop (2 + 2 + 1 + 1)) (by rw [List.length_drop]; omega)]
  exact ⟨_, rfl, by simp⟩
theorem bkd_ok {s : List UInt8} (h : 6 + alen s ≤ s.length) : bkd ⟨s, true, false⟩ = (rec1 s, (addrG (adrS s)).2, ⟨s.drop (6 + alen s), true, false⟩) := by
  unfold bkd
  have e1 : (2 : Int).toNat = 2 := rfl
  have e2 : (1 : Int).toNat = 1 := rfl
  simp only []
  rw [rdr_ok (s := s) (by omega) (by omega), e1, rdr_ok (s := s.drop 2) (by omega) (by rw [List.length_drop]; omega), e1, List.drop_drop, rdr_ok (s := s.drop (2 + 2)) (by omega) (by rw [List.length_drop]; omega), e2, List.drop_drop,
    rdr_ok (s := s.drop (2 + 2 + 1)) (by omega) (by rw [List.length_drop]; omega), e2, List.drop_drop]
  rw [show rdn ⟨s.drop (2 + 2 + 1), true, false⟩ 1 = ((alen s : Nat) : Int) from rdn_ok (k := 1) (by decide) (by decide) (by rw [List.length_drop]; omega)]
  rw [show rdn ⟨s.drop (2 + 2), true, false⟩ 1 = _ from rdn_ok (k := 1) (by decide) (by decide) (by rw [List.length_drop]; omega), show rdn ⟨s.drop 2, true, false⟩ 2 = _ from rdn_ok (k := 2) (by decide) (by decide) (by rw [List.length_drop]; omega), show rdn ⟨s, true, false⟩ 2 = _ from rdn_ok (k := 2) (by decide) (by decide) (by omega)]
  rw [rdt_ok (s := s.drop (2 + 2 + 1 + 1)) (by omega) (by rw [List.length_drop]; omega), rdr_ok (s := s.drop (2 + 2 + 1 + 1)) (by omega) (by rw [List.length_drop]; omega), Int.toNat_natCast, List.drop_drop]
  rfl
def zeroR : saved_Record := ⟨⟨0, 0⟩, 0, []⟩
def finG (A B last : Int) (o : Option (List api_Backend × Bool × List UInt8)) (c : List api_Backend) (g : Bool) : saved_Record × Int :=
  match o with
  | none => (zeroR, 2)
  | some (l, g', r) => if r ≠ [] ∨ (g && g') = false then (zeroR, 3) else if rightB ⟨⟨A, B⟩, last, c ++ l⟩ = true then (⟨⟨A, B⟩, last, c ++ l⟩, 0) else (zeroR, 1)
theorem prest_eq {r : octet_Reader} (h : r.made = true) (hb : r.bad = false) : octet_Reader_Rest r = some (r.s, rdr r (r.s.length : Int)) := by
  unfold octet_Reader_Rest octet_Reader_RestF
  rw [rBad_eq h, Option.bind_some, hb]
  simp only [cond_false]
  rw [rText_eq h, Option.bind_some]
  obtain ⟨s, m, b⟩ := r
  simp only at h hb
  subst h; subst hb
  rw [rdt_ok (by omega) (by simp only []; omega), Int.toNat_natCast, List.take_of_length_le (Nat.le_refl _)]
theorem pget_end {xg xg1 : Int × Bool} {n1 n2 : Int × octet_Reader} {good : Bool} {i : Int} {s : List UInt8} {b : Bool} {c : List api_Backend} (hi : ¬ i < n2.1) :
    saved_Get_s1 octet_Reader_Bad octet_Reader_Rest saved_Right saved_backend xg xg1 n1 n2 good i s true b c = some (.inr (if b = true then (zeroR, 2) else finG xg.1 xg1.1 n1.1 (some ([], true, s)) c good)) := by
  unfold saved_Get_s1
  rw [cond_n hi, rBad_eq rfl, Option.bind_some]
  cases b with
  | true => rfl
  | false =>
    simp only [cond_false]
    rw [prest_eq rfl rfl, Option.bind_some]
    unfold finG
    simp only [Bool.and_true, List.append_nil]
    by_cases hs : s = []
    · rw [show (s == []) = true from by simp [hs]]
      cases good with
      | false => simp [zeroR]
      | true =>
        simp only [Bool.not_true, cond_false]
        rw [pright_eq, Option.bind_some]
        cases hR : rightB ⟨⟨xg.1, xg1.1⟩, n1.1, c⟩ <;> simp [hs, zeroR]
    · rw [show (s == []) = false from by simpa using hs]
      simp [hs, zeroR]
theorem pget_bad {xg xg1 : Int × Bool} {n1 n2 : Int × octet_Reader} (hn : n2.1 < 256) {s : List UInt8} (hs : s.length < 2 ^ 40) : ∀ (d : Nat) (i : Int) (n : Nat) (good : Bool) (c : List api_Backend), 0 ≤ i → i + d = n2.1 → d < n → c.length ≤ i →
    iter (fun st => saved_Get_s1 octet_Reader_Bad octet_Reader_Rest saved_Right saved_backend xg xg1 n1 n2 st.1 st.2.1 st.2.2.1 st.2.2.2.1 st.2.2.2.2.1 st.2.2.2.2.2) n (good, i, s, true, true, c) = some (zeroR, 2)
  | 0, i, n, good, c, h0, he, hd, hc => by
    obtain ⟨m, rfl⟩ : ∃ m, n = m + 1 := ⟨n - 1, by omega⟩
    rw [iter]
    simp only []
    rw [pget_end (by omega), if_pos rfl]
  | d + 1, i, n, good, c, h0, he, hd, hc => by
    obtain ⟨m, rfl⟩ : ∃ m, n = m + 1 := ⟨n - 1, by omega⟩
    rw [iter]
    simp only []
    unfold saved_Get_s1
    rw [cond_p (by omega), pbackend_eq rfl hs, Option.bind_some, bkd_bad]
    cases good
    · simp only [cond_true, cond_false]; rw [oreq_p (by omega), wI64 (by omega) (by omega)]
      exact pget_bad (xg := xg) (xg1 := xg1) (n1 := n1) hn hs d (i + 1) m false (c ++ [(bkd ⟨s, true, true⟩).1]) (by omega) (by omega) (by omega) (by simp; omega)
    · simp only [cond_true, cond_false]; rw [oreq_p (by omega), wI64 (by omega) (by omega)]
      exact pget_bad (xg := xg) (xg1 := xg1) (n1 := n1) hn hs d (i + 1) m (bkd ⟨s, true, true⟩).2.1 (c ++ [(bkd ⟨s, true, true⟩).1]) (by omega) (by omega) (by omega) (by simp; omega)
theorem pget_loop {xg xg1 : Int × Bool} {n1 n2 : Int × octet_Reader} (hn : n2.1 < 256) : ∀ (d : Nat) (i : Int) (n : Nat) (good : Bool) (c : List api_Backend) (s : List UInt8), 0 ≤ i → i + d = n2.1 → d < n → c.length ≤ i → s.length < 2 ^ 40 →
    iter (fun st => saved_Get_s1 octet_Reader_Bad octet_Reader_Rest saved_Right saved_backend xg xg1 n1 n2 st.1 st.2.1 st.2.2.1 st.2.2.2.1 st.2.2.2.2.1 st.2.2.2.2.2) n (good, i, s, true, false, c) = some (finG xg.1 xg1.1 n1.1 (recs d s) c good)
  | 0, i, n, good, c, s, h0, he, hd, hc, hs => by
    obtain ⟨m, rfl⟩ : ∃ m, n = m + 1 := ⟨n - 1, by omega⟩
    rw [iter]
    simp only []
    rw [pget_end (by omega), if_neg (by decide)]; rfl
  | d + 1, i, n, good, c, s, h0, he, hd, hc, hs => by
    obtain ⟨m, rfl⟩ : ∃ m, n = m + 1 := ⟨n - 1, by omega⟩
    rw [iter]
    simp only []
    unfold saved_Get_s1
    rw [cond_p (by omega), pbackend_eq rfl hs, Option.bind_some]
    by_cases hsh : s.length < 6 ∨ s.length < 6 + alen s
    · obtain ⟨s', e, hl⟩ := bkd_short hsh
      have hrec : recs (d + 1) s = none := by
        simp only [recs]
        rcases hsh with h | h
        · rw [if_pos h]
        · by_cases h6 : s.length < 6
          · rw [if_pos h6]
          · rw [if_neg h6, if_pos h]
      rw [e, hrec]
      cases good
      · simp only [cond_true, cond_false]; rw [oreq_p (by omega), wI64 (by omega) (by omega)]
        exact pget_bad (xg := xg) (xg1 := xg1) (n1 := n1) hn (by omega) d (i + 1) m false (c ++ [(bkd ⟨s, true, false⟩).1]) (by omega) (by omega) (by omega) (by simp; omega)
      · simp only [cond_true, cond_false]; rw [oreq_p (by omega), wI64 (by omega) (by omega)]
        exact pget_bad (xg := xg) (xg1 := xg1) (n1 := n1) hn (by omega) d (i + 1) m (bkd ⟨s, true, false⟩).2.1 (c ++ [(bkd ⟨s, true, false⟩).1]) (by omega) (by omega) (by omega) (by simp; omega)
    · rw [bkd_ok (by omega)]
      have hrec : recs (d + 1) s = match recs d (s.drop (6 + alen s)) with | none => none | some (l, g, r) => some (rec1 s :: l, (addrG (adrS s)).2 && g, r) := by
        simp only [recs]; rw [if_neg (by omega), if_neg (by omega)]
      have fin : ∀ g : Bool, finG xg.1 xg1.1 n1.1 (recs d (s.drop (6 + alen s))) (c ++ [rec1 s]) (g && (addrG (adrS s)).2) = finG xg.1 xg1.1 n1.1 (recs (d + 1) s) c g := by
        intro g
        rw [hrec]
        cases recs d (s.drop (6 + alen s)) with
        | none => rfl
        | some q =>
          obtain ⟨l, g', r⟩ := q
          unfold finG
          simp only [Bool.and_assoc, List.append_assoc, List.singleton_append]
      cases good
      · simp only [cond_true, cond_false]; rw [oreq_p (by omega), wI64 (by omega) (by omega)]
        have := pget_loop (xg := xg) (xg1 := xg1) (n1 := n1) hn d (i + 1) m false (c ++ [rec1 s]) (s.drop (6 + alen s)) (by omega) (by omega) (by omega) (by simp; omega) (by rw [List.length_drop]; omega)
        rw [show finG xg.1 xg1.1 n1.1 (recs d (s.drop (6 + alen s))) (c ++ [rec1 s]) false = _ from fin false] at this
        exact this
      · simp only [cond_true, cond_false]; rw [oreq_p (by omega), wI64 (by omega) (by omega)]
        have := pget_loop (xg := xg) (xg1 := xg1) (n1 := n1) hn d (i + 1) m (addrG (adrS s)).2 (c ++ [rec1 s]) (s.drop (6 + alen s)) (by omega) (by omega) (by omega) (by simp; omega) (by rw [List.length_drop]; omega)
        have f := fin true
        rw [Bool.true_and] at f
        rw [f] at this
        exact this
def getR (s : List UInt8) : saved_Record × Int :=
  if s.length < 31 then (zeroR, 2) else
  if s.take 4 ≠ [67, 76, 75, 49] then (zeroR, 3) else
  if sealS (s.take (s.length - 8)) ≠ s.drop (s.length - 8) then (zeroR, 4) else
  finG ((valL ((s.drop 4).take 8) : Nat) : Int) ((valL ((s.drop 12).take 8) : Nat) : Int) ((valL ((s.drop 20).take 2) : Nat) : Int) (recs (valL ((s.drop 22).take 1)) ((s.take (s.length - 8)).drop 23)) [] true
theorem take_in {s : List UInt8} {a n m : Nat} (h : a + n ≤ m) : ((s.take m).drop a).take n = (s.drop a).take n := by
  rw [List.drop_take, List.take_take, Nat.min_eq_left (by omega)]
theorem pgetR_eq {s : List UInt8} (h : s.length < 2 ^ 30) : saved_Get s = some (getR s) := by
  unfold saved_Get saved_GetF getR
  by_cases h1 : (s.length : Int) < 31
  · rw [cond_p h1, if_pos (by omega)]; rfl
  rw [cond_n h1, if_neg (by omega), wI64 (by omega) (by omega), oreq_p (by omega), oreq_p (by omega)]
  have en : ((s.length : Int) - 8).toNat = s.length - 8 := by omega
  simp only [en]
  have e8 : (s.drop (s.length - 8)).take (s.length - (s.length - 8)) = s.drop (s.length - 8) := List.take_of_length_le (by rw [List.length_drop]; exact Nat.le_refl _)
  have hbl : (s.take (s.length - 8)).length = s.length - 8 := by rw [List.length_take]; omega
  rw [e8]
  obtain ⟨bd, hbd⟩ : ∃ bd, s.take (s.length - 8) = bd := ⟨_, rfl⟩
  have tk : ∀ a n, a + n ≤ 23 → (bd.drop a).take n = (s.drop a).take n := fun a n hh => by rw [← hbd]; exact take_in (by omega)
  rw [hbd] at hbl ⊢
  rw [rNew_eq, Option.bind_some, rText_eq rfl, Option.bind_some, rdt_ok (s := bd) (by omega) (by omega), rdr_ok (s := bd) (by omega) (by omega)]
  simp only [show (4 : Int).toNat = 4 from rfl]
  have t4 := tk 0 4 (by omega)
  rw [List.drop_zero, List.drop_zero] at t4
  rw [t4]
  by_cases h3 : s.take 4 = [67, 76, 75, 49]
  · rw [show (s.take 4 == [67, 76, 75, 49]) = true from by rw [beq_iff_eq]; exact h3, if_neg (by simpa using h3)]
    simp only [Bool.not_true, cond_false]
    rw [pseal_eq (by omega), Option.bind_some]
    by_cases h4 : sealS bd = s.drop (s.length - 8)
    · rw [show (sealS bd == s.drop (s.length - 8)) = true from by rw [beq_iff_eq]; exact h4, if_neg (by simpa using h4)]
      simp only [Bool.not_true, cond_false]
      have e8' : (8 : Int).toNat = 8 := rfl
      have e2' : (2 : Int).toNat = 2 := rfl
      have e1' : (1 : Int).toNat = 1 := rfl
      rw [rText_eq rfl, Option.bind_some, rdt_ok (s := bd.drop 4) (by omega) (by rw [List.length_drop]; omega), rdr_ok (s := bd.drop 4) (by omega) (by rw [List.length_drop]; omega)]
      simp only [e8', List.drop_drop]
      rw [octet_Get_eq (by rw [List.length_take]; omega), Option.bind_some, show getS ((bd.drop 4).take 8) 0 8 = _ from getS_all (k := 8) (by decide) (by decide) (by rw [List.length_take, List.length_drop]; omega)]
      rw [rText_eq rfl, Option.bind_some, rdt_ok (s := bd.drop (4 + 8)) (by omega) (by rw [List.length_drop]; omega), rdr_ok (s := bd.drop (4 + 8)) (by omega) (by rw [List.length_drop]; omega)]
      simp only [e8', List.drop_drop]
      rw [octet_Get_eq (by rw [List.length_take]; omega), Option.bind_some, show getS ((bd.drop (4 + 8)).take 8) 0 8 = _ from getS_all (k := 8) (by decide) (by decide) (by rw [List.length_take, List.length_drop]; omega)]
      rw [rNum_eq rfl (by simp only [List.length_drop]; omega), Option.bind_some, if_neg (by decide), show rdn ⟨bd.drop (4 + 8 + 8), true, false⟩ 2 = _ from rdn_ok (k := 2) (by decide) (by decide) (by rw [List.length_drop]; omega), rdr_ok (s := bd.drop (4 + 8 + 8)) (by omega) (by rw [List.length_drop]; omega)]
      simp only [e2', List.drop_drop]
      rw [rNum_eq rfl (by simp only [List.length_drop]; omega), Option.bind_some, if_neg (by decide), show rdn ⟨bd.drop (4 + 8 + 8 + 2), true, false⟩ 1 = _ from rdn_ok (k := 1) (by decide) (by decide) (by rw [List.length_drop]; omega), rdr_ok (s := bd.drop (4 + 8 + 8 + 2)) (by omega) (by rw [List.length_drop]; omega)]
      simp only [e1', List.drop_drop]
      have hv : valL ((bd.drop (4 + 8 + 8 + 2)).take 1) < 256 := val_take_lt _ (by decide)
      rw [show (4 + 8 : Nat) = 12 from rfl, show (12 + 8 : Nat) = 20 from rfl, show (20 + 2 : Nat) = 22 from rfl, show (22 + 1 : Nat) = 23 from rfl] at *
      rw [tk 4 8 (by omega), tk 12 8 (by omega), tk 20 2 (by omega), tk 22 1 (by omega)] at *
      exact pget_loop (by simp only []; omega) (valL ((s.drop 22).take 1)) 0 FUEL true [] (bd.drop 23) (by omega) (by simp only []; omega) (by rw [FUEL_eq]; omega) (by simp) (by rw [List.length_drop]; omega)
    · rw [show (sealS bd == s.drop (s.length - 8)) = false from by rw [beq_eq_false_iff_ne]; exact h4, if_pos h4]; rfl
  · rw [show (s.take 4 == [67, 76, 75, 49]) = false from by rw [beq_eq_false_iff_ne]; exact h3, if_pos h3]; rfl
end Go.Vm.Code
namespace Go.Vm.Code
open Go Go.Vm Go.Proofs
set_option maxRecDepth 100000
set_option maxHeartbeats 4000000
set_option linter.unusedVariables false
def law55_awakeF (saved_Get : (List UInt8) → Option (saved_Record × Int)) (saved_Of : api_Key → Int → (List api_Backend) → Option saved_Record) (saved_Put : saved_Record → Option ((List UInt8) × Int)) (saved_Right : saved_Record → Option Bool) : Option Bool :=
  (saved_Put (saved_Record.mk (api_Key.mk 0 0) 0 [])).bind fun p =>
  (saved_Get []).bind fun xg =>
  (saved_Of (api_Key.mk 0 0) 3 [api_Backend.mk 1 0 2 (api_Addr.mk false 0 0), api_Backend.mk 2 0 4 (api_Addr.mk false 0 0), api_Backend.mk 3 0 3 (api_Addr.mk false 0 0)]).bind fun xo =>
  cond (p.2 == 0)
    (
    cond ((p.1.length : Int) == 31)
      (
      cond (xg.2 == 2)
        (
        cond ((xo.L.length : Int) == 2)
          (
          oreq (decide ((0 : Int) ≤ (0 : Int) ∧ (0 : Int) < (xo.L.length : Int))) <|
          (xo.L[0]?).bind fun (e : api_Backend) =>
          cond (e.State == 1)
            (
            (saved_Right xo).bind fun xr =>
            some (xr))
            (
            some (false)))
          (
          some (false)))
        (
        some (false)))
      (
      some (false)))
    (
    some (false))
def rx47 (x : Bool) : SRes := ⟨.bool x, [], []⟩
def r47 (g : Option Bool) : Dec := dEnd (ofG (g) rx47)
theorem r47_c {g : Option Bool} {x : Bool} (hx : g = some x) : r47 g [] [] = some (rx47 x) := ofG_eq hx
def s47 (g : Option Bool) : Summ := ⟨[], r47 g⟩
theorem r47_eq {g : Option Bool} {x : Bool} (hx : g = some x) : (s47 g).run [] [] = some (rx47 x) := r47_c hx
abbrev sums47 (saved_Get : (List UInt8) → Option (saved_Record × Int)) (saved_Of : api_Key → Int → (List api_Backend) → Option saved_Record) (saved_Put : saved_Record → Option ((List UInt8) × Int)) (saved_Right : saved_Record → Option Bool) : List (Nat × Summ) := [(48, s48 saved_Get), (58, s58 saved_Of), (53, s53 saved_Put), (56, s56 saved_Right)]
theorem leads47 (saved_Get : (List UInt8) → Option (saved_Record × Int)) (saved_Of : api_Key → Int → (List api_Backend) → Option saved_Record) (saved_Put : saved_Record → Option ((List UInt8) × Int)) (saved_Right : saved_Record → Option Bool) (hS : SumsOK Try.prog (aget (sums47 saved_Get saved_Of saved_Put saved_Right))) (res : Bool) (h : law55_awakeF saved_Get saved_Of saved_Put saved_Right = some res) :
    Leads Try.prog 47 0 ⟨⟨47, 50, [], [.code k47_9], [], false, none⟩, [], [], 0⟩ (fun v H _ => Res 0 (rx47 res) v H) := by
  unfold law55_awakeF at h
  refine ev_ok tab_ok hS true 3000 ?_
  conv => whnf
  replace h := obind.elim h; obtain ⟨p, hy, h⟩ := h
  refine sumK.introF [] (sumRun_of (aqs := [.agg ⟨[.int .u64 (saved_Record.mk (api_Key.mk 0 0) 0 []).Key.A, .int .u64 (saved_Record.mk (api_Key.mk 0 0) 0 []).Key.B, .int .i64 (saved_Record.mk (api_Key.mk 0 0) 0 []).Last, .slice (some ⟨0, 0, none⟩) (saved_Record.mk (api_Key.mk 0 0) 0 []).L.length 6]⟩]) (ws := [.emp false]) (n := 0) (m := 1) (t' := 1) (ra_cons (ra_tr rfl rfl (vp_emp vp_nil) rfl) rfl ra_nil) rfl (by rfl) (r53_eq hy) rfl rfl rfl rfl (wb_skip rfl wb_nil) an_nil rfl) ?_
  conv => whnf
  replace h := obind.elim h; obtain ⟨xg, hy, h⟩ := h
  refine sumK.introF [] (sumRun_of (aqs := [.string ⟨⟨[]⟩⟩]) (ws := []) (n := 1) (m := 0) (t' := 2) (ra_cons rfl rfl ra_nil) rfl (by rfl) (r48_eq hy) rfl rfl rfl rfl wb_nil (an_cons (rn_T capi_Backend_flat) an_nil) rfl) ?_
  conv => whnf
  replace h := obind.elim h; obtain ⟨xo, hy, h⟩ := h
  refine sumK.introF [] (sumRun_of (aqs := [.agg ⟨[.int .u64 0, .int .u64 0]⟩, .int .i64 3, .slice (some ⟨0, 0, none⟩) ([api_Backend.mk 1 0 2 (api_Addr.mk false 0 0), api_Backend.mk 2 0 4 (api_Addr.mk false 0 0), api_Backend.mk 3 0 3 (api_Addr.mk false 0 0)] : List api_Backend).length 6]) (ws := [.win 3 0 (3 * 6) false]) (n := 1) (m := 0) (t' := 5) (ra_cons rfl rfl (ra_cons rfl rfl (ra_cons (by first | rfl | exact ra_allT capi_Backend_len capi_Backend_flat rfl rfl (by first | rfl | omega) (by first | rfl | (simp; done)) | exact ra_slT capi_Backend_len capi_Backend_flat rfl rfl (by first | rfl | omega) (by first | rfl | omega) (by first | omega | (simp at *; omega))) rfl ra_nil))) rfl (by rfl) (r58_eq hy) rfl rfl rfl rfl (wb_skip rfl wb_nil) (an_cons (rn_T capi_Backend_flat) an_nil) rfl) ?_
  conv => whnf
  refine br.h2 h ?_ ?_ ?_
  · rfl
  · clear h; intro hb h; conv => whnf
    all_goals (cases h; exact Res.z rfl rfl rfl)
  clear h; intro hb h; conv => whnf
  refine br.h2 h ?_ ?_ ?_
  · rfl
  · clear h; intro hb h; conv => whnf
    all_goals (cases h; exact Res.z rfl rfl rfl)
  clear h; intro hb h; conv => whnf
  refine br.h2 h ?_ ?_ ?_
  · rfl
  · clear h; intro hb h; conv => whnf
    all_goals (cases h; exact Res.z rfl rfl rfl)
  clear h; intro hb h; conv => whnf
  refine br.h2 h ?_ ?_ ?_
  · rfl
  · clear h; intro hb h; conv => whnf
    all_goals (cases h; exact Res.z rfl rfl rfl)
  clear h; intro hb h; conv => whnf
  replace h := oreq.elim h; obtain ⟨hb, h⟩ := h
  first | (refine req.intro hb ?_; conv => whnf) | skip
  replace h := obind.elim h; obtain ⟨e, hy, h⟩ := h
  refine rd.T (j := 2) capi_Backend_len hy (by first | omega | exact Nat.zero_add _ | exact congrArg (· + _) (Nat.zero_add _)) (by decide) rfl ?_
  conv => whnf
  refine br.h2 h ?_ ?_ ?_
  · rfl
  · clear h; intro hb h; conv => whnf
    all_goals (cases h; exact Res.z rfl rfl rfl)
  clear h; intro hb h; conv => whnf
  replace h := obind.elim h; obtain ⟨xr, hy, h⟩ := h
  refine sumK.introF [] (sumRun_of (aqs := [.agg ⟨[.int .u64 xo.Key.A, .int .u64 xo.Key.B, .int .i64 xo.Last, .slice (some ⟨0, 0, none⟩) xo.L.length 6]⟩]) (ws := [.blk 4 false]) (n := 0) (m := 0) (t' := 6) (ra_cons (ra_tr rfl rfl (vp_at rfl rfl (rn_T capi_Backend_flat) rfl vp_nil) rfl) rfl ra_nil) rfl (by rfl) (r56_eq hy) rfl rfl rfl rfl (wb_skip rfl wb_nil) an_nil rfl) ?_
  conv => whnf
  all_goals (cases h; exact Res.z rfl rfl rfl)
theorem ok47 (saved_Get : (List UInt8) → Option (saved_Record × Int)) (saved_Of : api_Key → Int → (List api_Backend) → Option saved_Record) (saved_Put : saved_Record → Option ((List UInt8) × Int)) (saved_Right : saved_Record → Option Bool) (hS : SumsOK Try.prog (aget (sums47 saved_Get saved_Of saved_Put saved_Right))) : SumOK Try.prog 47 (s47 (law55_awakeF saved_Get saved_Of saved_Put saved_Right)) := by
  refine SumOK.of_leads tab_ok (fun ar os r ha hr => ?_) ⟨Try.f47, rfl, by decide, rfl⟩
  replace hr : r47 (law55_awakeF saved_Get saved_Of saved_Put saved_Right) ar (conts os) = some r := hr
  unfold r47 at hr
  generalize hc : conts os = C at hr
  replace hr := dFin hr; obtain ⟨rfl, rfl, x, h, rfl⟩ := hr
  obtain rfl := kinds_nil hc
  exact ⟨_, rfl, leads47 saved_Get saved_Of saved_Put saved_Right hS x h⟩
def law55_awake : Option Bool := law55_awakeF saved_Get saved_Of saved_Put saved_Right
theorem lift47 : SumOK Try.prog 47 (s47 law55_awake) := ok47 saved_Get saved_Of saved_Put saved_Right (SumsOK.of_tab ⟨lift48, lift58, lift53, lift56, trivial⟩)
def law55_ofF (ra0 : saved_Record) : Option saved_Record :=
  some (ra0)
def rx54 (x : saved_Record) : SRes := ⟨.agg ⟨[.int .u64 x.Key.A, .int .u64 x.Key.B, .int .i64 x.Last, .slice (some ⟨0, 0, none⟩) x.L.length 6]⟩, [], [none]⟩
def r54 (g : saved_Record → Option saved_Record) : Dec := dTr 1 (udsaved_Record 0) fun (y0 : saved_Record) => dEnd (ofG (g y0) rx54)
theorem r54_c {g : saved_Record → Option saved_Record} {y0 : saved_Record} {x : saved_Record} (hx : g y0 = some x) : r54 g [.agg ⟨[.int .u64 y0.Key.A, .int .u64 y0.Key.B, .int .i64 y0.Last, .slice (some ⟨0, 0, none⟩) y0.L.length 6]⟩] [some (vT capi_Backend y0.L)] = some (rx54 x) := (dTr_eq rfl rfl (udsaved_Record_c 0 _)).trans (ofG_eq hx)
def s54 (g : saved_Record → Option saved_Record) : Summ := ⟨[.tr [⟨none, 3, 0, 0, some 6⟩]], r54 g⟩
theorem r54_eq {g : saved_Record → Option saved_Record} {y0 : saved_Record} {x : saved_Record} (hx : g y0 = some x) : (s54 g).run [.agg ⟨[.int .u64 y0.Key.A, .int .u64 y0.Key.B, .int .i64 y0.Last, .slice (some ⟨0, 0, none⟩) y0.L.length 6]⟩] [some (vT capi_Backend y0.L)] = some (rx54 x) := r54_c hx
abbrev sums54 : List (Nat × Summ) := []
theorem leads54 (hS : SumsOK Try.prog (aget (sums54))) (ra0 : saved_Record) (res : saved_Record) (h : law55_ofF ra0 = some res) :
    Leads Try.prog 54 1 ⟨⟨54, 10, [(0, .agg ⟨[.int .u64 ra0.Key.A, .int .u64 ra0.Key.B, .int .i64 ra0.Last, .slice (some ⟨0, 0, none⟩) ra0.L.length 6]⟩)], [.code k54_3], [], false, none⟩, [], [(0, .row false (vT capi_Backend ra0.L))], 1⟩ (fun v H _ => Res 1 (rx54 res) v H) := by
  unfold law55_ofF at h
  refine ev_ok tab_ok hS true 3000 ?_
  conv => whnf
  all_goals (cases h)
  all_goals exact Res.of [] rfl nw_0 (by decide) js_0 (wr_n wr_0)
theorem ok54 (hS : SumsOK Try.prog (aget (sums54))) : SumOK Try.prog 54 (s54 (law55_ofF)) := by
  refine SumOK.of_leads tab_ok (fun ar os r ha hr => ?_) ⟨Try.f54, rfl, by decide, rfl⟩
  replace hr : r54 (law55_ofF) ar (conts os) = some r := hr
  unfold r54 at hr
  generalize hc : conts os = C at hr
  have hq := dTr.elim hr; clear hr; obtain ⟨v0, l1, c0, C, y0, rfl, rfl, e0, hr⟩ := hq; obtain ⟨rfl, rfl⟩ := udsaved_Record_eq e0; simp only [List.nil_append, List.cons_append] at hc
  replace hr := dFin hr; obtain ⟨rfl, rfl, x, h, rfl⟩ := hr
  obtain ⟨os, rfl, ha, hc⟩ := kinds_some ha hc
  obtain rfl := kinds_nil hc
  exact ⟨_, rfl, leads54 hS _ x h⟩
def law55_of : saved_Record → Option saved_Record := law55_ofF
theorem lift54 : SumOK Try.prog 54 (s54 law55_of) := ok54 (SumsOK.of_tab trivial)
def law55_SavedBackF (law55_awake : Option Bool) (law55_of : saved_Record → Option saved_Record) (saved_Get : (List UInt8) → Option (saved_Record × Int)) (saved_Put : saved_Record → Option ((List UInt8) × Int)) (saved_Same : saved_Record → saved_Record → Option Bool) (ra0 : saved_Record) (s : List UInt8) : Option Bool :=
  cond (decide ((ra0.L.length : Int) > 64))
    (
    (law55_awake).bind fun a =>
    some (a))
    (
    cond (decide ((s.length : Int) > 800))
      (
      (law55_awake).bind fun a1 =>
      some (a1))
      (
      (saved_Get s).bind fun xg =>
      cond (xg.2 == 0)
        (
        (saved_Put xg.1).bind fun p =>
        cond (p.2 != 0)
          (
          some (false))
          (
          cond (!(p.1 == s))
            (
            some (false))
            (
            (law55_of ra0).bind fun xo =>
            oreq (decide (xo.L = ra0.L)) <|
            (saved_Put (saved_Record.mk xo.Key xo.Last ra0.L)).bind fun p1 =>
            cond (p1.2 != 0)
              (
              cond (p1.1 == [])
                (
                (law55_awake).bind fun a2 =>
                some (a2))
                (
                some (false)))
              (
              (saved_Get p1.1).bind fun xg1 =>
              cond (xg1.2 == 0)
                (
                (law55_of ra0).bind fun xo1 =>
                oreq (decide (xo1.L = ra0.L)) <|
                (saved_Same xg1.1 (saved_Record.mk xo1.Key xo1.Last ra0.L)).bind fun s1 =>
                cond (s1)
                  (
                  (law55_awake).bind fun a3 =>
                  some (a3))
                  (
                  some (false)))
                (
                some (false))))))
        (
        (law55_of ra0).bind fun xo2 =>
        oreq (decide (xo2.L = ra0.L)) <|
        (saved_Put (saved_Record.mk xo2.Key xo2.Last ra0.L)).bind fun p2 =>
        cond (p2.2 != 0)
          (
          cond (p2.1 == [])
            (
            (law55_awake).bind fun a4 =>
            some (a4))
            (
            some (false)))
          (
          (saved_Get p2.1).bind fun xg2 =>
          cond (xg2.2 == 0)
            (
            (law55_of ra0).bind fun xo3 =>
            oreq (decide (xo3.L = ra0.L)) <|
            (saved_Same xg2.1 (saved_Record.mk xo3.Key xo3.Last ra0.L)).bind fun s2 =>
            cond (s2)
              (
              (law55_awake).bind fun a5 =>
              some (a5))
              (
              some (false)))
            (
            some (false))))))
def rx10 (x : Bool) : SRes := ⟨.bool x, [], [none]⟩
abbrev sums10 (law55_awake : Option Bool) (law55_of : saved_Record → Option saved_Record) (saved_Get : (List UInt8) → Option (saved_Record × Int)) (saved_Put : saved_Record → Option ((List UInt8) × Int)) (saved_Same : saved_Record → saved_Record → Option Bool) : List (Nat × Summ) := [(47, s47 law55_awake), (54, s54 law55_of), (48, s48 saved_Get), (53, s53 saved_Put), (60, s60 saved_Same)]
theorem leads10 (law55_awake : Option Bool) (law55_of : saved_Record → Option saved_Record) (saved_Get : (List UInt8) → Option (saved_Record × Int)) (saved_Put : saved_Record → Option ((List UInt8) × Int)) (saved_Same : saved_Record → saved_Record → Option Bool) (hS : SumsOK Try.prog (aget (sums10 law55_awake law55_of saved_Get saved_Put saved_Same))) (ra0 : saved_Record) (s : List UInt8) (res : Bool) (h : law55_SavedBackF law55_awake law55_of saved_Get saved_Put saved_Same ra0 s = some res) :
    Leads Try.prog 10 1 ⟨⟨10, 71, [(0, .agg ⟨[.int .u64 ra0.Key.A, .int .u64 ra0.Key.B, .int .i64 ra0.Last, .slice (some ⟨0, 0, none⟩) ra0.L.length 6]⟩), (1, .string ⟨⟨s⟩⟩)], [.code k10_32], [], false, none⟩, [], [(0, .row false (vT capi_Backend ra0.L))], 1⟩ (fun v H _ => Res 1 (rx10 res) v H) := by
  unfold law55_SavedBackF at h
  refine ev_ok tab_ok hS true 3000 ?_
  conv => whnf
  refine br.h h ?_ ?_ ?_
  · rfl
  · clear h; intro hb h; conv => whnf
    replace h := obind.elim h; obtain ⟨a, hy, h⟩ := h
    refine sumK.q rfl rfl (r47_eq hy) rfl rfl rfl ?_
    conv => whnf
    all_goals (cases h)
    all_goals exact Res.of [] rfl nw_0 (by decide) js_0 (wr_n wr_0)
  clear h; intro hb h; conv => whnf
  refine br.h h ?_ ?_ ?_
  · rfl
  · clear h; intro hb h; conv => whnf
    replace h := obind.elim h; obtain ⟨a1, hy, h⟩ := h
    refine sumK.q rfl rfl (r47_eq hy) rfl rfl rfl ?_
    conv => whnf
    all_goals (cases h)
    all_goals exact Res.of [] rfl nw_0 (by decide) js_0 (wr_n wr_0)
  clear h; intro hb h; conv => whnf
  replace h := obind.elim h; obtain ⟨xg, hy, h⟩ := h
  refine sumK.introF [] (sumRun_of (aqs := [.string ⟨⟨s⟩⟩]) (ws := []) (n := 1) (m := 0) (t' := 3) (ra_cons rfl rfl ra_nil) rfl (by rfl) (r48_eq hy) rfl rfl rfl rfl wb_nil (an_cons (rn_T capi_Backend_flat) an_nil) rfl) ?_
  conv => whnf
  refine br.h2 h ?_ ?_ ?_
  · rfl
  · clear h; intro hb h; conv => whnf
    replace h := obind.elim h; obtain ⟨xo2, hy, h⟩ := h
    refine sumK.introF [] (sumRun_of (aqs := [.agg ⟨[.int .u64 ra0.Key.A, .int .u64 ra0.Key.B, .int .i64 ra0.Last, .slice (some ⟨0, 0, none⟩) ra0.L.length 6]⟩]) (ws := [.blk 0 false]) (n := 0) (m := 0) (t' := 4) (ra_cons (ra_tr rfl rfl (vp_at rfl rfl (rn_T capi_Backend_flat) rfl vp_nil) rfl) rfl ra_nil) rfl (by rfl) (r54_eq hy) rfl rfl rfl rfl (wb_skip rfl wb_nil) an_nil rfl) ?_
    conv => whnf
    replace h := oreq.elim h; obtain ⟨hb, h⟩ := h
    rw [of_decide_eq_true hb]
    conv => whnf
    replace h := obind.elim h; obtain ⟨p2, hy, h⟩ := h
    refine sumK.introF [] (sumRun_of (aqs := [.agg ⟨[.int .u64 (saved_Record.mk xo2.Key xo2.Last ra0.L).Key.A, .int .u64 (saved_Record.mk xo2.Key xo2.Last ra0.L).Key.B, .int .i64 (saved_Record.mk xo2.Key xo2.Last ra0.L).Last, .slice (some ⟨0, 0, none⟩) (saved_Record.mk xo2.Key xo2.Last ra0.L).L.length 6]⟩]) (ws := [.blk 0 false]) (n := 0) (m := 0) (t' := 4) (ra_cons (ra_tr rfl rfl (vp_at rfl rfl (rn_T capi_Backend_flat) rfl vp_nil) rfl) rfl ra_nil) rfl (by rfl) (r53_eq hy) rfl rfl rfl rfl (wb_skip rfl wb_nil) an_nil rfl) ?_
    conv => whnf
    refine br.h h ?_ ?_ ?_
    · rfl
    · clear h; intro hb h; conv => whnf
      refine br.h2 h ?_ ?_ ?_
      · rfl
      · clear h; intro hb h; conv => whnf
        all_goals (cases h)
        all_goals exact Res.of [] rfl nw_0 (by decide) js_0 (wr_n wr_0)
      clear h; intro hb h; conv => whnf
      replace h := obind.elim h; obtain ⟨a4, hy, h⟩ := h
      refine sumK.q rfl rfl (r47_eq hy) rfl rfl rfl ?_
      conv => whnf
      all_goals (cases h)
      all_goals exact Res.of [] rfl nw_0 (by decide) js_0 (wr_n wr_0)
    clear h; intro hb h; conv => whnf
    replace h := obind.elim h; obtain ⟨xg2, hy, h⟩ := h
    refine sumK.introF [] (sumRun_of (aqs := [.string ⟨⟨p2.1⟩⟩]) (ws := []) (n := 1) (m := 0) (t' := 5) (ra_cons rfl rfl ra_nil) rfl (by rfl) (r48_eq hy) rfl rfl rfl rfl wb_nil (an_cons (rn_T capi_Backend_flat) an_nil) rfl) ?_
    conv => whnf
    refine br.h2 h ?_ ?_ ?_
    · rfl
    · clear h; intro hb h; conv => whnf
      all_goals (cases h)
      all_goals exact Res.of [] rfl nw_0 (by decide) js_0 (wr_n wr_0)
    clear h; intro hb h; conv => whnf
    replace h := obind.elim h; obtain ⟨xo3, hy, h⟩ := h
    refine sumK.introF [] (sumRun_of (aqs := [.agg ⟨[.int .u64 ra0.Key.A, .int .u64 ra0.Key.B, .int .i64 ra0.Last, .slice (some ⟨0, 0, none⟩) ra0.L.length 6]⟩]) (ws := [.blk 0 false]) (n := 0) (m := 0) (t' := 11) (ra_cons (ra_tr rfl rfl (vp_at rfl rfl (rn_T capi_Backend_flat) rfl vp_nil) rfl) rfl ra_nil) rfl (by rfl) (r54_eq hy) rfl rfl rfl rfl (wb_skip rfl wb_nil) an_nil rfl) ?_
    conv => whnf
    replace h := oreq.elim h; obtain ⟨hb, h⟩ := h
    rw [of_decide_eq_true hb]
    conv => whnf
    replace h := obind.elim h; obtain ⟨s2, hy, h⟩ := h
    refine sumK.introF [] (sumRun_of (aqs := [.agg ⟨[.int .u64 xg2.1.Key.A, .int .u64 xg2.1.Key.B, .int .i64 xg2.1.Last, .slice (some ⟨0, 0, none⟩) xg2.1.L.length 6]⟩, .agg ⟨[.int .u64 (saved_Record.mk xo3.Key xo3.Last ra0.L).Key.A, .int .u64 (saved_Record.mk xo3.Key xo3.Last ra0.L).Key.B, .int .i64 (saved_Record.mk xo3.Key xo3.Last ra0.L).Last, .slice (some ⟨1, 0, none⟩) (saved_Record.mk xo3.Key xo3.Last ra0.L).L.length 6]⟩]) (ws := [.blk 4 false, .blk 0 false]) (n := 0) (m := 0) (t' := 12) (ra_cons (ra_tr rfl rfl (vp_at rfl rfl (rn_T capi_Backend_flat) rfl vp_nil) rfl) rfl (ra_cons (ra_tr rfl rfl (vp_at rfl rfl (rn_T capi_Backend_flat) rfl vp_nil) rfl) rfl ra_nil)) rfl (by rfl) (r60_eq hy) rfl rfl rfl rfl (wb_skip rfl (wb_skip rfl wb_nil)) an_nil rfl) ?_
    conv => whnf
    refine br.h2 h ?_ ?_ ?_
    · rfl
    · clear h; intro hb h; conv => whnf
      all_goals (cases h)
      all_goals exact Res.of [] rfl nw_0 (by decide) js_0 (wr_n wr_0)
    clear h; intro hb h; conv => whnf
    replace h := obind.elim h; obtain ⟨a5, hy, h⟩ := h
    refine sumK.q rfl rfl (r47_eq hy) rfl rfl rfl ?_
    conv => whnf
    all_goals (cases h)
    all_goals exact Res.of [] rfl nw_0 (by decide) js_0 (wr_n wr_0)
  clear h; intro hb h; conv => whnf
  replace h := obind.elim h; obtain ⟨p, hy, h⟩ := h
  refine sumK.introF [] (sumRun_of (aqs := [.agg ⟨[.int .u64 xg.1.Key.A, .int .u64 xg.1.Key.B, .int .i64 xg.1.Last, .slice (some ⟨0, 0, none⟩) xg.1.L.length 6]⟩]) (ws := [.blk 2 false]) (n := 0) (m := 0) (t' := 4) (ra_cons (ra_tr rfl rfl (vp_at rfl rfl (rn_T capi_Backend_flat) rfl vp_nil) rfl) rfl ra_nil) rfl (by rfl) (r53_eq hy) rfl rfl rfl rfl (wb_skip rfl wb_nil) an_nil rfl) ?_
  conv => whnf
  refine br.h h ?_ ?_ ?_
  · rfl
  · clear h; intro hb h; conv => whnf
    all_goals (cases h)
    all_goals exact Res.of [] rfl nw_0 (by decide) js_0 (wr_n wr_0)
  clear h; intro hb h; conv => whnf
  refine br.h h ?_ ?_ ?_
  · rfl
  · clear h; intro hb h; conv => whnf
    all_goals (cases h)
    all_goals exact Res.of [] rfl nw_0 (by decide) js_0 (wr_n wr_0)
  clear h; intro hb h; conv => whnf
  replace h := obind.elim h; obtain ⟨xo, hy, h⟩ := h
  refine sumK.introF [] (sumRun_of (aqs := [.agg ⟨[.int .u64 ra0.Key.A, .int .u64 ra0.Key.B, .int .i64 ra0.Last, .slice (some ⟨0, 0, none⟩) ra0.L.length 6]⟩]) (ws := [.blk 0 false]) (n := 0) (m := 0) (t' := 4) (ra_cons (ra_tr rfl rfl (vp_at rfl rfl (rn_T capi_Backend_flat) rfl vp_nil) rfl) rfl ra_nil) rfl (by rfl) (r54_eq hy) rfl rfl rfl rfl (wb_skip rfl wb_nil) an_nil rfl) ?_
  conv => whnf
  replace h := oreq.elim h; obtain ⟨hb, h⟩ := h
  rw [of_decide_eq_true hb]
  conv => whnf
  replace h := obind.elim h; obtain ⟨p1, hy, h⟩ := h
  refine sumK.introF [] (sumRun_of (aqs := [.agg ⟨[.int .u64 (saved_Record.mk xo.Key xo.Last ra0.L).Key.A, .int .u64 (saved_Record.mk xo.Key xo.Last ra0.L).Key.B, .int .i64 (saved_Record.mk xo.Key xo.Last ra0.L).Last, .slice (some ⟨0, 0, none⟩) (saved_Record.mk xo.Key xo.Last ra0.L).L.length 6]⟩]) (ws := [.blk 0 false]) (n := 0) (m := 0) (t' := 4) (ra_cons (ra_tr rfl rfl (vp_at rfl rfl (rn_T capi_Backend_flat) rfl vp_nil) rfl) rfl ra_nil) rfl (by rfl) (r53_eq hy) rfl rfl rfl rfl (wb_skip rfl wb_nil) an_nil rfl) ?_
  conv => whnf
  refine br.h h ?_ ?_ ?_
  · rfl
  · clear h; intro hb h; conv => whnf
    refine br.h2 h ?_ ?_ ?_
    · rfl
    · clear h; intro hb h; conv => whnf
      all_goals (cases h)
      all_goals exact Res.of [] rfl nw_0 (by decide) js_0 (wr_n wr_0)
    clear h; intro hb h; conv => whnf
    replace h := obind.elim h; obtain ⟨a2, hy, h⟩ := h
    refine sumK.q rfl rfl (r47_eq hy) rfl rfl rfl ?_
    conv => whnf
    all_goals (cases h)
    all_goals exact Res.of [] rfl nw_0 (by decide) js_0 (wr_n wr_0)
  clear h; intro hb h; conv => whnf
  replace h := obind.elim h; obtain ⟨xg1, hy, h⟩ := h
  refine sumK.introF [] (sumRun_of (aqs := [.string ⟨⟨p1.1⟩⟩]) (ws := []) (n := 1) (m := 0) (t' := 5) (ra_cons rfl rfl ra_nil) rfl (by rfl) (r48_eq hy) rfl rfl rfl rfl wb_nil (an_cons (rn_T capi_Backend_flat) an_nil) rfl) ?_
  conv => whnf
  refine br.h2 h ?_ ?_ ?_
  · rfl
  · clear h; intro hb h; conv => whnf
    all_goals (cases h)
    all_goals exact Res.of [] rfl nw_0 (by decide) js_0 (wr_n wr_0)
  clear h; intro hb h; conv => whnf
  replace h := obind.elim h; obtain ⟨xo1, hy, h⟩ := h
  refine sumK.introF [] (sumRun_of (aqs := [.agg ⟨[.int .u64 ra0.Key.A, .int .u64 ra0.Key.B, .int .i64 ra0.Last, .slice (some ⟨0, 0, none⟩) ra0.L.length 6]⟩]) (ws := [.blk 0 false]) (n := 0) (m := 0) (t' := 11) (ra_cons (ra_tr rfl rfl (vp_at rfl rfl (rn_T capi_Backend_flat) rfl vp_nil) rfl) rfl ra_nil) rfl (by rfl) (r54_eq hy) rfl rfl rfl rfl (wb_skip rfl wb_nil) an_nil rfl) ?_
  conv => whnf
  replace h := oreq.elim h; obtain ⟨hb, h⟩ := h
  rw [of_decide_eq_true hb]
  conv => whnf
  replace h := obind.elim h; obtain ⟨s1, hy, h⟩ := h
  refine sumK.introF [] (sumRun_of (aqs := [.agg ⟨[.int .u64 xg1.1.Key.A, .int .u64 xg1.1.Key.B, .int .i64 xg1.1.Last, .slice (some ⟨0, 0, none⟩) xg1.1.L.length 6]⟩, .agg ⟨[.int .u64 (saved_Record.mk xo1.Key xo1.Last ra0.L).Key.A, .int .u64 (saved_Record.mk xo1.Key xo1.Last ra0.L).Key.B, .int .i64 (saved_Record.mk xo1.Key xo1.Last ra0.L).Last, .slice (some ⟨1, 0, none⟩) (saved_Record.mk xo1.Key xo1.Last ra0.L).L.length 6]⟩]) (ws := [.blk 4 false, .blk 0 false]) (n := 0) (m := 0) (t' := 12) (ra_cons (ra_tr rfl rfl (vp_at rfl rfl (rn_T capi_Backend_flat) rfl vp_nil) rfl) rfl (ra_cons (ra_tr rfl rfl (vp_at rfl rfl (rn_T capi_Backend_flat) rfl vp_nil) rfl) rfl ra_nil)) rfl (by rfl) (r60_eq hy) rfl rfl rfl rfl (wb_skip rfl (wb_skip rfl wb_nil)) an_nil rfl) ?_
  conv => whnf
  refine br.h2 h ?_ ?_ ?_
  · rfl
  · clear h; intro hb h; conv => whnf
    all_goals (cases h)
    all_goals exact Res.of [] rfl nw_0 (by decide) js_0 (wr_n wr_0)
  clear h; intro hb h; conv => whnf
  replace h := obind.elim h; obtain ⟨a3, hy, h⟩ := h
  refine sumK.q rfl rfl (r47_eq hy) rfl rfl rfl ?_
  conv => whnf
  all_goals (cases h)
  all_goals exact Res.of [] rfl nw_0 (by decide) js_0 (wr_n wr_0)
def law55_SavedBack : saved_Record → (List UInt8) → Option Bool := law55_SavedBackF law55_awake law55_of saved_Get saved_Put saved_Same
end Go.Vm.Code
namespace Go.Vm.Code
open Go Go.Vm
def bkEq (a b : api_Backend) : Bool := (a.ID == b.ID) && ((a.Weight == b.Weight) && ((a.State == b.State) && ((a.Addr.V6 == b.Addr.V6) && ((a.Addr.Hi == b.Addr.Hi) && ((a.Addr.Lo == b.Addr.Lo) && true)))))
theorem bkEq_eq (a b : api_Backend) : bkEq a b = decide (a = b) := by
  rw [Bool.eq_iff_iff, decide_eq_true_iff]
  unfold bkEq
  constructor
  · intro h
    simp only [Bool.and_true, Bool.and_eq_true, beq_iff_eq] at h
    obtain ⟨h1, h2, h3, h4, h5, h6⟩ := h
    exact api_Backend.ext h1 h2 h3 (api_Addr.ext h4 h5 h6)
  · rintro rfl; simp
theorem eqL {a b : List api_Backend} (hl : a.length < 2 ^ 60) (step : Int → Option (Sum Int Bool))
    (h1 : ∀ i (hi : i < a.length) (hb : i < b.length), step (i : Int) = if bkEq a[i] b[i] = true then some (.inl ((i + 1 : Nat) : Int)) else some (.inr false)) (h2 : step (a.length : Int) = some (.inr true)) (hab : a.length = b.length) : iter step FUEL 0 = some (decide (a = b)) := by
  refine iter_eq (fun _ => decide (a = b)) (fun (s : Int) => 0 ≤ s ∧ s ≤ a.length ∧ ∀ j : Nat, (j : Int) < s → a[j]? = b[j]?) (fun s => ((a.length : Int) - s).toNat) ?_ FUEL 0 ⟨by omega, by omega, fun j hj => by omega⟩ (by rw [FUEL_eq]; omega)
  rintro s ⟨g0, g1, g2⟩
  obtain ⟨i, rfl⟩ := Int.eq_ofNat_of_zero_le g0
  rcases Nat.lt_or_ge i a.length with hi | hi
  · rw [h1 i hi (by omega), bkEq_eq]
    by_cases he : a[i] = b[i]
    · right
      rw [decide_eq_true he, if_pos rfl]
      refine ⟨_, rfl, ⟨by omega, by omega, fun j hj => ?_⟩, by omega, by trivial⟩
      rcases Nat.lt_or_ge j i with h | h
      · exact g2 j (by omega)
      · have : j = i := by omega
        subst this
        rw [List.getElem?_eq_getElem hi, List.getElem?_eq_getElem (show j < b.length by omega), he]
    · left
      rw [decide_eq_false he, if_neg (by decide), decide_eq_false]
      rintro rfl
      exact he rfl
  · left
    have : i = a.length := by omega
    subst this
    rw [h2, decide_eq_true]
    apply List.ext_getElem?
    intro j
    rcases Nat.lt_or_ge j a.length with h | h
    · exact g2 j (by omega)
    · rw [List.getElem?_eq_none (by omega), List.getElem?_eq_none (by omega)]
theorem slEq_eq {a b : List api_Backend} (hl : a.length < 2 ^ 60) : slices_Equal_api_Backend_api_Backend a b = some (decide (a = b)) := by
  unfold slices_Equal_api_Backend_api_Backend slices_Equal_api_Backend_api_BackendF
  by_cases hab : a.length = b.length
  · rw [show ((a.length : Int) != (b.length : Int)) = false from by rw [bne_eq_false_iff_eq]; omega, cond_false]
    refine eqL hl _ (fun i hi hb => ?_) ?_ hab
    · unfold slices_Equal_api_Backend_api_Backend_s1
      rw [cond_p (by omega), oreq_p ⟨by omega, by omega⟩, Int.toNat_natCast, List.getElem?_eq_getElem hi, Option.bind_some, oreq_p ⟨by omega, by omega⟩, List.getElem?_eq_getElem hb, Option.bind_some, wI64 (by omega) (by omega), show (i : Int) + 1 = ((i + 1 : Nat) : Int) by omega]
      show cond (!bkEq a[i] b[i]) _ _ = _
      cases bkEq a[i] b[i] <;> rfl
    · unfold slices_Equal_api_Backend_api_Backend_s1
      rw [cond_n (by omega)]
  · rw [show ((a.length : Int) != (b.length : Int)) = true from by rw [bne_iff_ne]; omega, cond_true, decide_eq_false]
    rintro rfl; exact hab rfl
theorem keyEq (a b : api_Key) : ((a.A == b.A) && ((a.B == b.B) && true)) = decide (a = b) := by
  rw [Bool.eq_iff_iff, decide_eq_true_iff]
  constructor
  · intro h
    simp only [Bool.and_true, Bool.and_eq_true, beq_iff_eq] at h
    exact api_Key.ext h.1 h.2
  · rintro rfl; simp
theorem psame_eq {a b : saved_Record} (hl : a.L.length < 2 ^ 60) : saved_Same a b = some (decide (a = b)) := by
  unfold saved_Same saved_SameF
  simp only [keyEq]
  by_cases h1 : a.Key = b.Key
  · rw [decide_eq_true h1, cond_true]
    by_cases h2 : a.Last = b.Last
    · rw [show (a.Last == b.Last) = true from by simpa using h2, cond_true, slEq_eq hl]
      simp only [Option.bind_some]
      congr 1
      rw [decide_eq_decide]
      exact ⟨fun h => saved_Record.ext h1 h2 h, fun h => by rw [h]⟩
    · rw [show (a.Last == b.Last) = false from by simpa using h2, cond_false, decide_eq_false]
      rintro rfl; exact h2 rfl
  · rw [decide_eq_false h1, cond_false, decide_eq_false]
    rintro rfl; exact h1 rfl
theorem awake55 : law55_awake = some true := by decide +kernel
theorem lof_eq (r : saved_Record) : law55_of r = some r := rfl
theorem valI {n : Int} {k : Nat} (h0 : 0 ≤ n) (h : n.toNat < 256 ^ k) : ((valL (be n.toNat k) : Nat) : Int) = n := by
  rw [val_be_lt h]; omega
theorem addr_back {a : api_Addr} (hu : inU a) (hr : adr a = true) : addrG (adB a) = (a, true) ∧ ((adB a).length = 4 ∨ (adB a).length = 16) := by
  obtain ⟨v, hi, lo⟩ := a
  obtain ⟨⟨u1, u2⟩, u3, u4⟩ := hu
  simp only at u1 u2 u3 u4
  unfold adr at hr
  unfold addrG adB
  cases v with
  | true =>
    have hl : (be hi.toNat 8 ++ be lo.toNat 8).length = 16 := by simp
    simp only [cond_true]
    rw [if_neg (by omega), if_pos hl]
    refine ⟨?_, .inr hl⟩
    rw [List.take_left' (by simp), List.drop_left' (by simp), valI u1 (by omega), valI u3 (by omega)]
  | false =>
    simp only [Bool.false_or, Bool.and_eq_true, decide_eq_true_iff] at hr
    have hl : (be lo.toNat 4).length = 4 := by simp
    simp only [cond_false]
    rw [if_pos hl, valI u3 (by omega)]
    exact ⟨by rw [hr.1], .inl hl⟩
structure bkFit (b : api_Backend) : Prop where
  id : 0 ≤ b.ID ∧ b.ID ≤ 65535
  w : 0 ≤ b.Weight ∧ b.Weight ≤ 1000
  st : 0 ≤ b.State ∧ b.State ≤ 255
  u : inU b.Addr
  a : adr b.Addr = true
theorem enc_parts {b : api_Backend} (h : bkFit b) (rest : List UInt8) : 6 + alen (encB b ++ rest) ≤ (encB b ++ rest).length ∧ rec1 (encB b ++ rest) = b ∧ (addrG (adrS (encB b ++ rest))).2 = true ∧ (encB b ++ rest).drop (6 + alen (encB b ++ rest)) = rest := by
  obtain ⟨g1, g2⟩ := addr_back h.u h.a
  have hid := h.id; have hw := h.w; have hst := h.st
  obtain ⟨ad, had⟩ : ∃ ad, adB b.Addr = ad := ⟨_, rfl⟩
  have hal : ad.length ≤ 16 := by rw [← had]; exact adB_len _
  have e : encB b ++ rest = be b.ID.toNat 2 ++ (be b.Weight.toNat 2 ++ (be b.State.toNat 1 ++ (be ad.length 1 ++ (ad ++ rest)))) := by simp [encB, had]
  rw [had] at g1
  obtain ⟨s, hs⟩ : ∃ s, encB b ++ rest = s := ⟨_, rfl⟩
  rw [hs] at e ⊢
  have d2 : s.drop 2 = be b.Weight.toNat 2 ++ (be b.State.toNat 1 ++ (be ad.length 1 ++ (ad ++ rest))) := by rw [e]; exact List.drop_left' (by simp)
  have d4 : s.drop 4 = be b.State.toNat 1 ++ (be ad.length 1 ++ (ad ++ rest)) := by
    rw [show (4 : Nat) = 2 + 2 from rfl, ← List.drop_drop, d2]; exact List.drop_left' (by simp)
  have d5 : s.drop 5 = be ad.length 1 ++ (ad ++ rest) := by
    rw [show (5 : Nat) = 4 + 1 from rfl, ← List.drop_drop, d4]; exact List.drop_left' (by simp)
  have d6 : s.drop 6 = ad ++ rest := by
    rw [show (6 : Nat) = 5 + 1 from rfl, ← List.drop_drop, d5]; exact List.drop_left' (by simp)
  have hlen : alen s = ad.length := by
    unfold alen
    rw [d5, List.take_left' (by simp), val_be_lt (by omega)]
  have hadr : adrS s = ad := by
    unfold adrS
    rw [d6, hlen, List.take_left' rfl]
  refine ⟨?_, ?_, ?_, ?_⟩
  · rw [hlen, e]; simp; omega
  · unfold rec1
    rw [hadr, g1, d2, d4, List.take_left' (by simp), List.take_left' (by simp), e, List.take_left' (by simp), valI hid.1 (by omega), valI hw.1 (by omega), valI hst.1 (by omega)]
  · rw [hadr, g1]
  · rw [hlen, ← List.drop_drop, d6, List.drop_left' rfl]
theorem recs_flat : ∀ (L : List api_Backend), (∀ b ∈ L, bkFit b) → recs L.length (L.flatMap encB) = some (L, true, [])
  | [], _ => rfl
  | b :: L, h => by
    obtain ⟨e1, e2, e3, e4⟩ := enc_parts (h b (by simp)) (L.flatMap encB)
    rw [List.length_cons, List.flatMap_cons, recs, if_neg (by omega), if_neg (by omega), e4, recs_flat L (fun c hc => h c (by simp [hc]))]
    simp [e2, e3]
theorem right_fit {r : saved_Record} (hr : recOK r) (h : rightB r = true) : (0 ≤ r.Last ∧ r.Last ≤ 65535) ∧ r.L.length ≤ 64 ∧ ∀ b ∈ r.L, bkFit b := by
  unfold rightB at h
  rw [Bool.and_eq_true, decide_eq_true_iff] at h
  obtain ⟨⟨l0, l1, l2⟩, hc⟩ := h
  refine ⟨⟨l0, l1⟩, l2, fun b hb => ?_⟩
  obtain ⟨c1, c2, c3, c4, c5, c6⟩ := chn_all hc b hb
  exact ⟨⟨by omega, by omega⟩, ⟨c3, c4⟩, ⟨by omega, by omega⟩, hr.2.2 b hb, c6⟩
theorem body_len {r : saved_Record} (h : r.L.length ≤ 64) : (body r).length ≤ 23 + 64 * 22 := by
  have : ∀ L : List api_Backend, (L.flatMap encB).length ≤ L.length * 22 := by
    intro L
    induction L with
    | nil => simp
    | cons b L ih => have := encB_len b; simp only [List.flatMap_cons, List.length_append, List.length_cons]; omega
  have := this r.L
  unfold body encH
  simp only [List.length_append, be_len, List.length_cons, List.length_nil]
  omega
theorem get_put {r : saved_Record} (hr : recOK r) (h : rightB r = true) : getR (body r ++ sealS (body r)) = (r, 0) := by
  obtain ⟨hl, h64, hfit⟩ := right_fit hr h
  obtain ⟨⟨a0, a1⟩, ⟨b0, b1⟩, -⟩ := hr
  obtain ⟨F, hF⟩ : ∃ F, r.L.flatMap encB = F := ⟨_, rfl⟩
  have eb : body r = [67, 76, 75, 49] ++ (be r.Key.A.toNat 8 ++ (be r.Key.B.toNat 8 ++ (be r.Last.toNat 2 ++ (be r.L.length 1 ++ F)))) := by simp [body, encH, hF]
  obtain ⟨t, ht⟩ : ∃ t, body r = t := ⟨_, rfl⟩
  rw [ht] at eb ⊢
  have htl : t.length = 23 + F.length := by rw [eb]; simp; omega
  have hsl := sealS_len t
  have len : (t ++ sealS t).length - 8 = t.length := by simp [hsl]
  unfold getR
  rw [if_neg (by simp [hsl]; omega), len, List.take_left' rfl, List.drop_left' rfl]
  have pre : ∀ a n, a + n ≤ 23 → ((t ++ sealS t).drop a).take n = (t.drop a).take n := fun a n hh => by
    rw [List.drop_append_of_le_length (by omega), List.take_append_of_le_length (by rw [List.length_drop]; omega)]
  have p0 := pre 0 4 (by omega)
  rw [List.drop_zero, List.drop_zero] at p0
  rw [p0, pre 4 8 (by omega), pre 12 8 (by omega), pre 20 2 (by omega), pre 22 1 (by omega)]
  have d4 : t.drop 4 = be r.Key.A.toNat 8 ++ (be r.Key.B.toNat 8 ++ (be r.Last.toNat 2 ++ (be r.L.length 1 ++ F))) := by rw [eb]; exact List.drop_left' (by simp)
  have d12 : t.drop 12 = be r.Key.B.toNat 8 ++ (be r.Last.toNat 2 ++ (be r.L.length 1 ++ F)) := by
    rw [show (12 : Nat) = 4 + 8 from rfl, ← List.drop_drop, d4]; exact List.drop_left' (by simp)
  have d20 : t.drop 20 = be r.Last.toNat 2 ++ (be r.L.length 1 ++ F) := by
    rw [show (20 : Nat) = 12 + 8 from rfl, ← List.drop_drop, d12]; exact List.drop_left' (by simp)
  have d22 : t.drop 22 = be r.L.length 1 ++ F := by
    rw [show (22 : Nat) = 20 + 2 from rfl, ← List.drop_drop, d20]; exact List.drop_left' (by simp)
  have d23 : t.drop 23 = F := by
    rw [show (23 : Nat) = 22 + 1 from rfl, ← List.drop_drop, d22]; exact List.drop_left' (by simp)
  have t4 : t.take 4 = [67, 76, 75, 49] := by rw [eb]; exact List.take_left' (by simp)
  rw [t4, if_neg (by simp), if_neg (by simp), d4, d12, d20, d22, d23, List.take_left' (by simp), List.take_left' (by simp), List.take_left' (by simp), List.take_left' (by simp), valI a0 (by omega), valI b0 (by omega), valI hl.1 (by omega), val_be_lt (by omega), ← hF, recs_flat r.L hfit]
  unfold finG
  simp only [Bool.and_self, List.nil_append]
  rw [if_neg (by simp), if_pos (show rightB ⟨⟨r.Key.A, r.Key.B⟩, r.Last, r.L⟩ = true from h)]
theorem addr_put (a : List UInt8) (h : (addrG a).2 = true) : adB (addrG a).1 = a ∧ inU (addrG a).1 := by
  unfold addrG at h ⊢
  by_cases h4 : a.length = 4
  · rw [if_pos h4]
    have hv := val_lt a
    rw [h4] at hv
    unfold adB inU
    simp only [cond_false, Int.toNat_natCast]
    exact ⟨be_val' h4, ⟨by omega, by omega⟩, by omega, by omega⟩
  · rw [if_neg h4] at h ⊢
    by_cases h16 : a.length = 16
    · rw [if_pos h16]
      have hv1 := val_lt (a.take 8); have hv2 := val_lt (a.drop 8)
      have l1 : (a.take 8).length = 8 := by rw [List.length_take]; omega
      have l2 : (a.drop 8).length = 8 := by rw [List.length_drop]; omega
      rw [l1] at hv1; rw [l2] at hv2
      unfold adB inU
      simp only [cond_true, Int.toNat_natCast]
      exact ⟨by rw [be_val' l1, be_val' l2, List.take_append_drop], ⟨by omega, by omega⟩, by omega, by omega⟩
    · rw [if_neg h16] at h; cases h
theorem rec_put {s : List UInt8} (h : 6 + alen s ≤ s.length) (ha : (addrG (adrS s)).2 = true) : encB (rec1 s) ++ s.drop (6 + alen s) = s ∧ inU (rec1 s).Addr := by
  obtain ⟨g1, g2⟩ := addr_put _ ha
  refine ⟨?_, g2⟩
  have hal : (adrS s).length = alen s := by unfold adrS; rw [List.length_take, List.length_drop]; omega
  have e1 : encB (rec1 s) = s.take 2 ++ (s.drop 2).take 2 ++ (s.drop 4).take 1 ++ (s.drop 5).take 1 ++ (s.drop 6).take (alen s) := by
    unfold encB rec1
    simp only [Int.toNat_natCast]
    rw [g1, hal, be_val' (by rw [List.length_take]; omega), be_val' (by rw [List.length_take, List.length_drop]; omega), be_val' (by rw [List.length_take, List.length_drop]; omega)]
    have : be (alen s) 1 = (s.drop 5).take 1 := by unfold alen; exact be_val' (by rw [List.length_take, List.length_drop]; omega)
    rw [this]; rfl
  have tk : ∀ a n, s.take a ++ (s.drop a).take n = s.take (a + n) := fun a n => (List.take_add (l := s) (i := a) (j := n)).symm
  rw [e1, tk 2 2, tk 4 1, tk 5 1, tk 6 (alen s), List.take_append_drop]
theorem recs_put : ∀ {n : Nat} {s : List UInt8} {l : List api_Backend} {r : List UInt8}, recs n s = some (l, true, r) → l.flatMap encB ++ r = s ∧ ∀ b ∈ l, inU b.Addr
  | 0, s, l, r, h => by
    simp only [recs, Option.some.injEq, Prod.mk.injEq] at h
    obtain ⟨rfl, -, rfl⟩ := h
    exact ⟨rfl, fun b hb => by cases hb⟩
  | n + 1, s, l, r, h => by
    simp only [recs] at h
    split at h
    · cases h
    split at h
    · cases h
    split at h
    · cases h
    · rename_i l' g' r' e
      simp only [Option.some.injEq, Prod.mk.injEq, Bool.and_eq_true] at h
      obtain ⟨rfl, ⟨ha, rfl⟩, rfl⟩ := h
      obtain ⟨e1, e2⟩ := recs_put e
      obtain ⟨f1, f2⟩ := rec_put (s := s) (by omega) ha
      refine ⟨?_, fun b hb => ?_⟩
      · rw [List.flatMap_cons, List.append_assoc, e1, f1]
      · rcases List.mem_cons.1 hb with rfl | hb
        · exact f2
        · exact e2 b hb
theorem put_get {s : List UInt8} (h : (getR s).2 = 0) : recOK (getR s).1 ∧ rightB (getR s).1 = true ∧ body (getR s).1 ++ sealS (body (getR s).1) = s := by
  unfold getR at h ⊢
  by_cases h1 : s.length < 31
  · rw [if_pos h1] at h; cases h
  rw [if_neg h1] at h ⊢
  by_cases h2 : s.take 4 ≠ [67, 76, 75, 49]
  · rw [if_pos h2] at h; cases h
  rw [if_neg h2] at h ⊢
  by_cases h3 : sealS (s.take (s.length - 8)) ≠ s.drop (s.length - 8)
  · rw [if_pos h3] at h; cases h
  rw [if_neg h3] at h ⊢
  have h2' : s.take 4 = [67, 76, 75, 49] := by simpa using h2
  have h3' : sealS (s.take (s.length - 8)) = s.drop (s.length - 8) := by simpa using h3
  obtain ⟨bd, hbd⟩ : ∃ bd, s.take (s.length - 8) = bd := ⟨_, rfl⟩
  have hbl : bd.length = s.length - 8 := by rw [← hbd, List.length_take]; omega
  have tk : ∀ a n, a + n ≤ 23 → (bd.drop a).take n = (s.drop a).take n := fun a n hh => by rw [← hbd]; exact take_in (by omega)
  rw [hbd] at h h3' ⊢
  unfold finG at h ⊢
  cases hrec : recs (valL ((s.drop 22).take 1)) (bd.drop 23) with
  | none => rw [hrec] at h; cases h
  | some q =>
    obtain ⟨l, g, rest⟩ := q
    rw [hrec] at h
    simp only [Bool.true_and, List.nil_append] at h ⊢
    by_cases h4 : rest ≠ [] ∨ g = false
    · rw [if_pos h4] at h; cases h
    rw [if_neg h4] at h ⊢
    have hrest : rest = [] := by
      by_cases e : rest = []
      · exact e
      · exact absurd (.inl e) h4
    have hg : g = true := by
      cases g
      · exact absurd (.inr rfl) h4
      · rfl
    subst hrest; subst hg
    generalize hR : rightB ⟨⟨((valL ((s.drop 4).take 8) : Nat) : Int), ((valL ((s.drop 12).take 8) : Nat) : Int)⟩, ((valL ((s.drop 20).take 2) : Nat) : Int), l⟩ = R at h ⊢
    cases R with
    | false => rw [if_neg (by decide)] at h; cases h
    | true =>
    rw [if_pos rfl]
    obtain ⟨f1, f2⟩ := recs_put hrec
    have hn := (recs_len hrec).1
    have va : valL ((s.drop 4).take 8) < 2 ^ 64 := val_take_lt _ (by decide)
    have vb : valL ((s.drop 12).take 8) < 2 ^ 64 := val_take_lt _ (by decide)
    refine ⟨⟨⟨by simp only []; omega, by simp only []; omega⟩, ⟨by simp only []; omega, by simp only []; omega⟩, f2⟩, hR, ?_⟩
    have eb : body ⟨⟨((valL ((s.drop 4).take 8) : Nat) : Int), ((valL ((s.drop 12).take 8) : Nat) : Int)⟩, ((valL ((s.drop 20).take 2) : Nat) : Int), l⟩ = bd := by
      unfold body encH
      simp only [Int.toNat_natCast]
      rw [List.append_nil] at f1
      have e22 : be l.length 1 = (bd.drop 22).take 1 := by
        rw [hn, tk 22 1 (by omega)]; exact be_val' (by rw [List.length_take, List.length_drop]; omega)
      rw [f1, e22, ← tk 4 8 (by omega), ← tk 12 8 (by omega), ← tk 20 2 (by omega), be_val' (by rw [List.length_take, List.length_drop]; omega), be_val' (by rw [List.length_take, List.length_drop]; omega), be_val' (by rw [List.length_take, List.length_drop]; omega)]
      have t4 := tk 0 4 (by omega)
      rw [List.drop_zero, List.drop_zero, h2'] at t4
      have tk2 : ∀ a n, bd.take a ++ (bd.drop a).take n = bd.take (a + n) := fun a n => (List.take_add (l := bd) (i := a) (j := n)).symm
      rw [← t4, tk2 4 8, tk2 12 8, tk2 20 2, tk2 22 1, List.take_append_drop]
    rw [eb, h3', ← hbd, List.take_append_drop]
theorem savedBack (r : saved_Record) (s : List UInt8) (hr : recOK r) : law55_SavedBack r s = some true := by
  unfold law55_SavedBack law55_SavedBackF
  rw [awake55, Option.bind_some]
  by_cases h1 : (r.L.length : Int) > 64
  · rw [cond_p h1]
  rw [cond_n h1]
  by_cases h2 : (s.length : Int) > 800
  · rw [cond_p h2]
  rw [cond_n h2, pgetR_eq (by omega), Option.bind_some]
  have tail : ∀ X : Option Bool, X = ((law55_of r).bind fun xo => oreq (decide (xo.L = r.L)) <| (saved_Put (saved_Record.mk xo.Key xo.Last r.L)).bind fun p1 =>
      cond (p1.2 != 0) (cond (p1.1 == []) (some true) (some false)) ((saved_Get p1.1).bind fun xg1 => cond (xg1.2 == 0)
        ((law55_of r).bind fun xo1 => oreq (decide (xo1.L = r.L)) <| (saved_Same xg1.1 (saved_Record.mk xo1.Key xo1.Last r.L)).bind fun s1 => cond s1 (some true) (some false)) (some false))) → X = some true := by
    rintro X rfl
    rw [lof_eq, Option.bind_some, oreq_p rfl, show saved_Put (saved_Record.mk r.Key r.Last r.L) = some (putR r) from pput_eq hr, Option.bind_some]
    unfold putR
    cases hR : rightB r with
    | false => rfl
    | true =>
      rw [if_pos rfl]
      have hl := body_len (r := r) (by omega)
      have := sealS_len (body r)
      simp only [bne_self_eq_false, cond_false]
      rw [pgetR_eq (by rw [List.length_append]; omega), Option.bind_some, get_put hr hR]
      simp only [BEq.rfl, cond_true, Option.bind_some, decide_true]
      rw [oreq.mk rfl, show saved_Same r (saved_Record.mk r.Key r.Last r.L) = some (decide (r = r)) from psame_eq (by omega), Option.bind_some]
      simp
  by_cases h0 : (getR s).2 = 0
  · obtain ⟨k1, k2, k3⟩ := put_get h0
    rw [show ((getR s).2 == 0) = true from by simpa using h0, cond_true, pput_eq k1, Option.bind_some]
    unfold putR
    rw [if_pos k2, k3]
    simp only [bne_self_eq_false, cond_false, BEq.rfl, Bool.not_true]
    exact tail _ rfl
  · rw [show ((getR s).2 == 0) = false from by simpa using h0, cond_false]
    exact tail _ rfl
end Go.Vm.Code
